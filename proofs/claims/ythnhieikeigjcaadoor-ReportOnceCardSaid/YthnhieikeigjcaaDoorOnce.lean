/- The walk of ReportOnce. -/
import Derived.Test.YthnhieikeigjcaaDoorOnceP
import Derived.Test.YthnhieikeigjcaaDoorAw
namespace Go.Proofs.YthnhieikeigjcaaDoor
open Go.RowKit

theorem drop_rev {ks : List Int} {j : Nat} {k : Int} (h : ks[j]? = some k) : (ks.drop j).reverse = (ks.drop (j + 1)).reverse ++ [k] := by
  have hj : j < ks.length := (List.getElem?_eq_some_iff.1 h).1
  rw [List.drop_eq_getElem_cons hj, List.reverse_cons]
  rw [List.getElem?_eq_getElem hj] at h
  rw [Option.some.inj h]
/-- How often a kind has come. -/
def cT (ks : List Int) (k : Int) (i : Nat) : Nat := (ks.take i).countP (fun y => decide (y = k))
theorem cT_step {ks : List Int} {i : Nat} {y : Int} (k : Int) (h : ks[i]? = some y) : cT ks k (i + 1) = cT ks k i + if y = k then 1 else 0 := by
  have e : ks.take (i + 1) = ks.take i ++ [y] := by rw [List.take_add_one, h]; rfl
  unfold cT
  rw [e, List.countP_append, List.countP_singleton]
  by_cases hy : y = k
  · rw [if_pos (by simpa using hy), if_pos hy]
  · rw [if_neg (by simpa using hy), if_neg hy]
theorem cT_le (ks : List Int) (k : Int) (i : Nat) : cT ks k i ≤ ks.length := by
  have h1 : (ks.take i).countP (fun y => decide (y = k)) ≤ (ks.take i).length := List.countP_le_length
  exact Nat.le_trans h1 (List.length_take_le' i ks)
theorem cT_all (ks : List Int) (m : Nat) (h : 1 ≤ m) : cT ks (m : Int) ks.length = cOf ks m := by
  unfold cT cOf; rw [List.take_length, if_neg (by omega)]

/-- A step of which the kind alone is told. -/
def stepC (k : Int) : List Value := [.int .i64 k, .string ⟨#[]⟩, .string ⟨#[]⟩, .string ⟨#[]⟩, .int .i64 0, .int .i64 0, .int .i64 0, .int .i64 0, .int .i64 0, .int .i64 0, .int .i64 0, .string ⟨#[]⟩, .string ⟨#[]⟩, .int .i64 0, .int .i64 0]
theorem stepC_one (k : Int) : ∀ v ∈ stepC k, v.oneCell' = true := List.all_eq_true.1 (by rfl : (stepC k).all (·.oneCell') = true)
theorem wpList_app_N {ops : Array Oper} {rest : List Oper} {o : Oper} {a : Act} {w : World} {Q : Exit → Act → World → Prop} (hgd : o.guard = none) (s x : Operand)
    (ho : o.op = .call { callee := .builtin .append, args := #[s, x], argTypes := #[26, 26] }) (B : Nat) (v : Value) (ls : List Int) (hs : a.eval s = v) (hown : OwnS w B v ls)
    (ad : Option Addr) (ks : List Int) (N cap : Nat) (hN : N = ks.length) (hx : a.eval x = .slice ad N cap) (hst : Steps w ad ks) (hnil : ad = none → cap = 0) (hn : ls.length + ks.length ≤ 1000) (hB : B ≤ w.heap.size) (M : Nat) (hM : M = (ls ++ ks).length)
    (h : ∀ ad' cap' w', OwnS w' B (.slice ad' M cap') (ls ++ ks) → Steps w' ad' (ls ++ ks) → Below B w w' → wpList Tryd.prog ops Q rest (a.put o.dst (.slice ad' M cap')) w') : wpList Tryd.prog ops Q (o :: rest) a w := by
  subst hN hM
  refine wpList_app_steps hgd s x ho B v ls hs hown ad ks cap hx hst hnil hn hB (fun v' w' h1 h2 h3 => ?_)
  obtain ⟨ad', cap', rfl, hst', _⟩ := h1.steps
  exact h ad' cap' w' h1 hst' ((Below.refl B w).grown h2 hB h3)

set_option maxRecDepth 100000 in
set_option maxHeartbeats 8000000 in
theorem once_walk (a : Option Addr) (ks : List Int) (cap : Nat) (k : Int) (w : World) (hs : Steps w a ks) (hm : ks.length ≤ 9223372036854775807) (hz : a = none → cap = 0) (hk1 : -9223372036854775808 ≤ k) (hk : k ≤ 9223372036854775807) (hb : TB w) :
    Calls Tryd.prog 8 #[.slice a ks.length cap, .int .i64 k] w fun e w' => e = .returned (.bool true) ∧ Below w.heap.size w w' := by
  have HT := Lib.hid hb
  have HF := Lib.hid (Fr.refl (fun _ => False) w)
  by_cases hl : ks.length ≤ 300
  · have HS := Lib.hid hs
    have HZ := Lib.hid hz
    have HL := Lib.hid hl
    have hle : decide (300 < (ks.length : Int)) = false := by simp; omega
    obtain ⟨n, hn⟩ : ∃ n, n = ks.length := ⟨_, rfl⟩
    rw [← hn] at hle hl ⊢
    have HN := Lib.hid hn
    clear hb hs hm hz hn
    go_enter Tryd.func8, Tryd.ntmps8
    go_wp2
    go_loopg [5, 8] n (fun gk x5 x8 wr => ∃ (m : Nat) (q : Int), m ≤ n ∧ gk = m ∧ x8 = .int .i64 q ∧ Hid (q = (m : Int) - 1) ∧ Hid (OwnS wr w.heap.size x5 ((ks.drop m).reverse)) ∧ Hid (Below w.heap.size w wr))
    case atStart => exact ⟨n, _, Nat.le_refl _, rfl, rfl, Lib.hid rfl, Lib.hid (by rw [List.drop_of_length_le (by rw [HN.out]; exact Nat.le_refl _)]; exact OwnS.nil _ _), Lib.hid (Below.refl _ _)⟩
    case round =>
      obtain ⟨m, q, hmn, hgk, rfl, HQ, HOW, HBE⟩ := hrel
      have HG := Lib.hid hgk
      clear hgk
      rcases m with _ | j
      · obtain rfl : q = -1 := by have := HQ.out; omega
        go_wp2_with (fail)
        rw [show ks.drop 0 = ks from rfl] at HOW
        have HT5 := Lib.hid (HOW.out.steps)
        clear HG HQ HOW
        go_loopg [9, 10] n (fun gk x9 x10 wl => ∃ i : Nat, i ≤ n ∧ gk = n - i ∧ x9 = .int .i64 (cT ks k i) ∧ x10 = .int .i64 i ∧ wl = wr)
        case atStart => exact ⟨0, by omega, rfl, rfl, rfl, rfl⟩
        case round =>
          obtain ⟨i, hi, hgi, rfl, rfl, rfl⟩ := hrel
          have HGI := Lib.hid hgi
          clear hgi
          by_cases hit : i < n
          · obtain ⟨kk, hkk⟩ : ∃ kk, ks[i]? = some kk := ⟨_, List.getElem?_eq_getElem (by rw [← HN.out]; exact hit)⟩
            obtain ⟨x, cs, rfl, hst⟩ := HS.out i kk hkk
            have hcell := (hst.fr (fr_below HF.out HBE.out (Nat.le_refl _))).cell0
            have HH := Lib.hid (cT_step k hkk)
            have hb1 : cT ks k i ≤ 300 := by have := cT_le ks k i; have := HL.out; omega
            clear hkk hst
            by_cases hkj : kk = k
            · have HH2 := Lib.hid (show cT ks k (i + 1) = cT ks k i + 1 by rw [HH.out, if_pos hkj])
              clear HH
              subst hkj
              go_wp2_with (fail)
              go_roundg (n - (i + 1))
              case measure => have := HGI.out; omega
              case rel => exact ⟨i + 1, by omega, rfl, by rw [HH2.out]; go_num, by go_num, rfl⟩
            · have bkj : (kk == k) = false := by simpa using hkj
              have HH2 := Lib.hid (show cT ks k (i + 1) = cT ks k i by rw [HH.out, if_neg hkj]; rfl)
              clear HH hkj
              go_wp2_with (fail)
              go_roundg (n - (i + 1))
              case measure => have := HGI.out; omega
              case rel => exact ⟨i + 1, by omega, rfl, by rw [HH2.out], by go_num, rfl⟩
          · obtain rfl : i = n := by omega
            clear HGI hit
            obtain ⟨ad5, cap5, rfl, hst5, _⟩ := HT5.out
            clear HT5
            obtain ⟨c, hc⟩ : ∃ c, c = cT ks k i := ⟨_, rfl⟩
            rw [← hc]
            have HC := Lib.hid hc
            clear hc
            have HFR := Lib.hid (fr_below HF.out HBE.out (Nat.le_refl _))
            have HST5 := Lib.hid hst5
            obtain ⟨r5, hr5⟩ : ∃ r, r = ks.reverse.length := ⟨_, rfl⟩
            rw [← hr5]
            have HR5 := Lib.hid hr5
            have tot := fun (ad : Option Addr) (ls : List Int) (N cp : Nat) (wx : World) (hN : N = ls.length) (hx : Steps wx ad ls) (hl : ls.length ≤ 1000) (hb : TB wx) => (show Calls Tryd.prog 16 #[.slice ad N cp, .int .i64 5, .int .i64 5] wx fun e w' => e = .returned (.string (totB (cOf ls) 5 5)) ∧ Fr (fun _ => False) wx w' by
              subst hN; exact total_spec ad ls cp 5 5 wx hx hl (by decide) (by decide) hb)
            obtain ⟨S, hS⟩ : ∃ S, S = totB (cOf ks) 5 5 := ⟨_, rfl⟩
            obtain ⟨U, hU⟩ : ∃ U, U = totB (cOf (ks ++ [k])) 5 5 := ⟨_, rfl⟩
            have H1 := Lib.hid (fun (wx : World) (hx : Steps wx a ks) (hb : TB wx) => (show Calls Tryd.prog 16 #[.slice a i cap, .int .i64 5, .int .i64 5] wx fun e w' => e = .returned (.string S) ∧ Fr (fun _ => False) wx w' by
              rw [hS]; exact tot a ks i cap wx HN.out hx (by have := HL.out; omega) hb))
            have H2 := Lib.hid (fun (ad : Option Addr) (cp : Nat) (wx : World) (hx : Steps wx ad (ks ++ [k])) (hb : TB wx) => (show Calls Tryd.prog 16 #[.slice ad (i + 1) cp, .int .i64 5, .int .i64 5] wx fun e w' => e = .returned (.string U) ∧ Fr (fun _ => False) wx w' by
              rw [hU]; exact tot ad (ks ++ [k]) (i + 1) cp wx (by rw [List.length_append, ← HN.out]; rfl) hx (by have := HL.out; simp; omega) hb))
            have H3 := Lib.hid (fun (wx : World) (hx : Steps wx ad5 ks.reverse) (hb : TB wx) => (show Calls Tryd.prog 16 #[.slice ad5 r5 cap5, .int .i64 5, .int .i64 5] wx fun e w' => e = .returned (.string S) ∧ Fr (fun _ => False) wx w' by
              rw [hS, ← tot_reverse]; exact tot ad5 ks.reverse r5 cap5 wx HR5.out hx (by have := HL.out; simp; omega) hb))
            have H4 := Lib.hid (fun (ad : Option Addr) (cp : Nat) (wx : World) (hx : Steps wx ad (ks ++ [9])) (hb : TB wx) => (show Calls Tryd.prog 16 #[.slice ad (i + 1) cp, .int .i64 5, .int .i64 5] wx fun e w' => e = .returned (.string S) ∧ Fr (fun _ => False) wx w' by
              rw [hS, ← tot_odd ks 9 (by omega)]; exact tot ad (ks ++ [9]) (i + 1) cp wx (by rw [List.length_append, ← HN.out]; rfl) hx (by have := HL.out; simp; omega) hb))
            have zS : S.size ≤ 312 := by rw [hS]; exact tot_size _ (fun j => by have := cOf_le ks j; have := HL.out; omega) 5 5 (by decide) (by decide)
            have zU : U.size ≤ 312 := by rw [hU]; exact tot_size _ (fun j => by have h1 := cOf_le (ks ++ [k]) j; have h2 := HL.out; rw [List.length_append, List.length_singleton] at h1; omega) 5 5 (by decide) (by decide)
            have n0 := Lib.hid (show ([] : List Int).length + ks.length ≤ 1000 by have := HL.out; simp; omega)
            have n1 := Lib.hid (show ks.length + [k].length ≤ 1000 by have := HL.out; simp; omega)
            have n2 := Lib.hid (show ks.length + [(9 : Int)].length ≤ 1000 by have := HL.out; simp; omega)
            have m1 := Lib.hid (show i + 1 = (ks ++ [k]).length by rw [List.length_append, ← HN.out]; rfl)
            have m2 := Lib.hid (show i + 1 = (ks ++ [(9 : Int)]).length by rw [List.length_append, ← HN.out]; rfl)
            have HSL := Lib.hid (HS.out.fr HFR.out)
            clear hr5 hst5 tot HBE HF
            by_cases hin : 1 ≤ k ∧ k ≤ 7
            · obtain ⟨k1', k7'⟩ := hin
              obtain ⟨m, rfl⟩ := Int.eq_ofNat_of_zero_le (show 0 ≤ k by omega)
              have hcm : c = cOf ks m := by rw [HC.out, HN.out]; exact cT_all ks m (by omega)
              obtain ⟨o1, o2, o3⟩ := tot_more ks m (by omega) (by omega) 5 5
              rw [← hS, ← hU, ← hcm] at o1 o2
              rw [← hS, ← hU] at o3
              have une : (U.toList == S.toList) = false := by
                rw [ByteArray.toList_eq, ByteArray.toList_eq]
                have : U.data.toList ≠ S.data.toList := fun e => o3 (ba_ext e)
                simpa using this
              have c0 : (0 : Int) ≤ c := by omega
              clear HC hcm hS hU o3
              rcases Nat.eq_zero_or_pos c with hz | hp
              · have d1 : ((c : Int) == 0) = true := by simp; omega
                have d2 : (S.size : Int) + 6 ≤ (U.size : Int) := by have := o1 hz; omega
                clear o1 o2 hz
                go_wp2_with (first
                  | (at_builtin; refine wpList_app_N rfl (.tmp 46) (.tmp 47) rfl wr.heap.size _ [] rfl (OwnS.nil _ _) a ks i cap HN.out rfl HSL.out HZ.out n0.out (Nat.le_refl _) i (by rw [List.nil_append]; exact HN.out) ?_; intro ad1 cap1 w1 hown1 hst1 hbl1; have HO1 := Lib.hid (show OwnS w1 wr.heap.size (.slice ad1 i cap1) ks from hown1); have HB1 := Lib.hid hbl1; clear hown1 hst1 hbl1)
                  | (at_builtin; refine wpList_app_N rfl (.tmp 48) (.tmp 51) rfl wr.heap.size _ ks rfl (HO1.out.alloc _) (some ⟨w1.heap.size, 0, none⟩) [(m : Int)] 1 1 rfl rfl (one_steps w1 m (stepC m) rfl rfl (stepC_one m)) (fun e => by cases e) n1.out (Nat.le_trans HB1.out.size (by simp)) (i + 1) m1.out ?_; intro ad2 cap2 w2 hown2 hst2 hbl2; have HF2 := Lib.hid (Fr.ofBelow ((HB1.out.alloc HB1.out.size (.cells (stepC m).toArray 41)).trans hbl2) (fun _ => False)); have HFR2 := Lib.hid (HFR.out.trans HF2.out (fun _ _ h => h)); have HST2 := Lib.hid hst2; have HSL2 := Lib.hid (HSL.out.fr HF2.out); have HT52 := Lib.hid (HST5.out.fr HF2.out); clear hown2 hst2 hbl2 HB1 HO1 HF2 HST5)
                  | (at_builtin; refine wpList_app_N rfl (.tmp 53) (.tmp 54) rfl w2.heap.size _ [] rfl (OwnS.nil _ _) a ks i cap HN.out rfl HSL2.out HZ.out n0.out (Nat.le_refl _) i (by rw [List.nil_append]; exact HN.out) ?_; intro ad3 cap3 w3 hown3 hst3 hbl3; have HO3 := Lib.hid (show OwnS w3 w2.heap.size (.slice ad3 i cap3) ks from hown3); have HB3 := Lib.hid hbl3; clear hown3 hst3 hbl3)
                  | (at_builtin; refine wpList_app_N rfl (.tmp 55) (.tmp 57) rfl w2.heap.size _ ks rfl (HO3.out.alloc _) (some ⟨w3.heap.size, 0, none⟩) [9] 1 1 rfl rfl (one_steps w3 9 (stepC 9) rfl rfl (stepC_one 9)) (fun e => by cases e) n2.out (Nat.le_trans HB3.out.size (by simp)) (i + 1) m2.out ?_; intro ad4 cap4 w4 hown4 hst4 hbl4; have HF4 := Lib.hid (Fr.ofBelow ((HB3.out.alloc HB3.out.size (.cells (stepC 9).toArray 41)).trans hbl4) (fun _ => False)); have HFR := Lib.hid (HFR2.out.trans HF4.out (fun _ _ h => h)); have HP1 := Lib.hid (HSL2.out.fr HF4.out); have HP2 := Lib.hid (HST2.out.fr HF4.out); have HP3 := Lib.hid (HT52.out.fr HF4.out); have HP4 := Lib.hid hst4; clear hown4 hst4 hbl4 HB3 HO3 HF4 HST2 HT52 HSL2 HFR2)
                  | (go_at_call 16; ((with_reducible refine (H1.out _ HP1.out (HT.out.fr HFR.out)).mono ?_); rintro e w5 ⟨rfl, hf⟩; have HFR := Lib.hid (HFR.out.trans hf (fun _ _ h => h)); have HP2 := Lib.hid (HP2.out.fr hf); have HP3 := Lib.hid (HP3.out.fr hf); have HP4 := Lib.hid (HP4.out.fr hf); clear hf H1))
                  | (go_at_call 16; ((with_reducible refine (H2.out _ _ _ HP2.out (HT.out.fr HFR.out)).mono ?_); rintro e w6 ⟨rfl, hf⟩; have HFR := Lib.hid (HFR.out.trans hf (fun _ _ h => h)); have HP3 := Lib.hid (HP3.out.fr hf); have HP4 := Lib.hid (HP4.out.fr hf); clear hf H2))
                  | (go_at_call 16; ((with_reducible refine (H3.out _ HP3.out (HT.out.fr HFR.out)).mono ?_); rintro e w7 ⟨rfl, hf⟩; have HFR := Lib.hid (HFR.out.trans hf (fun _ _ h => h)); have HP4 := Lib.hid (HP4.out.fr hf); clear hf H3))
                  | (go_at_call 16; ((with_reducible refine (H4.out _ _ _ HP4.out (HT.out.fr HFR.out)).mono ?_); rintro e w8 ⟨rfl, hf⟩; have HFR := Lib.hid (HFR.out.trans hf (fun _ _ h => h)); clear hf))
                  | (go_at_call 15; ((refine (awake_spec _ (HT.out.fr HFR.out)).mono ?_); rintro e w9 ⟨rfl, hf⟩; have HFR := Lib.hid (HFR.out.trans hf (fun _ _ h => h)); clear hf)))
                go_ret
                exact ⟨rfl, HFR.out.below (Nat.le_refl _) (fun _ _ h => h)⟩
              · have d1 : ((c : Int) == 0) = false := by simp; omega
                have d2 : (S.size : Int) ≤ (U.size : Int) := by have := o2 hp; omega
                have d3 : (U.size : Int) < (S.size : Int) + 6 := by have := o2 hp; omega
                have d4 : decide ((S.size : Int) + 6 ≤ (U.size : Int)) = false := by simp; omega
                clear o1 o2 hp
                go_wp2_with (first
                  | (at_builtin; refine wpList_app_N rfl (.tmp 46) (.tmp 47) rfl wr.heap.size _ [] rfl (OwnS.nil _ _) a ks i cap HN.out rfl HSL.out HZ.out n0.out (Nat.le_refl _) i (by rw [List.nil_append]; exact HN.out) ?_; intro ad1 cap1 w1 hown1 hst1 hbl1; have HO1 := Lib.hid (show OwnS w1 wr.heap.size (.slice ad1 i cap1) ks from hown1); have HB1 := Lib.hid hbl1; clear hown1 hst1 hbl1)
                  | (at_builtin; refine wpList_app_N rfl (.tmp 48) (.tmp 51) rfl wr.heap.size _ ks rfl (HO1.out.alloc _) (some ⟨w1.heap.size, 0, none⟩) [(m : Int)] 1 1 rfl rfl (one_steps w1 m (stepC m) rfl rfl (stepC_one m)) (fun e => by cases e) n1.out (Nat.le_trans HB1.out.size (by simp)) (i + 1) m1.out ?_; intro ad2 cap2 w2 hown2 hst2 hbl2; have HF2 := Lib.hid (Fr.ofBelow ((HB1.out.alloc HB1.out.size (.cells (stepC m).toArray 41)).trans hbl2) (fun _ => False)); have HFR2 := Lib.hid (HFR.out.trans HF2.out (fun _ _ h => h)); have HST2 := Lib.hid hst2; have HSL2 := Lib.hid (HSL.out.fr HF2.out); have HT52 := Lib.hid (HST5.out.fr HF2.out); clear hown2 hst2 hbl2 HB1 HO1 HF2 HST5)
                  | (at_builtin; refine wpList_app_N rfl (.tmp 53) (.tmp 54) rfl w2.heap.size _ [] rfl (OwnS.nil _ _) a ks i cap HN.out rfl HSL2.out HZ.out n0.out (Nat.le_refl _) i (by rw [List.nil_append]; exact HN.out) ?_; intro ad3 cap3 w3 hown3 hst3 hbl3; have HO3 := Lib.hid (show OwnS w3 w2.heap.size (.slice ad3 i cap3) ks from hown3); have HB3 := Lib.hid hbl3; clear hown3 hst3 hbl3)
                  | (at_builtin; refine wpList_app_N rfl (.tmp 55) (.tmp 57) rfl w2.heap.size _ ks rfl (HO3.out.alloc _) (some ⟨w3.heap.size, 0, none⟩) [9] 1 1 rfl rfl (one_steps w3 9 (stepC 9) rfl rfl (stepC_one 9)) (fun e => by cases e) n2.out (Nat.le_trans HB3.out.size (by simp)) (i + 1) m2.out ?_; intro ad4 cap4 w4 hown4 hst4 hbl4; have HF4 := Lib.hid (Fr.ofBelow ((HB3.out.alloc HB3.out.size (.cells (stepC 9).toArray 41)).trans hbl4) (fun _ => False)); have HFR := Lib.hid (HFR2.out.trans HF4.out (fun _ _ h => h)); have HP1 := Lib.hid (HSL2.out.fr HF4.out); have HP2 := Lib.hid (HST2.out.fr HF4.out); have HP3 := Lib.hid (HT52.out.fr HF4.out); have HP4 := Lib.hid hst4; clear hown4 hst4 hbl4 HB3 HO3 HF4 HST2 HT52 HSL2 HFR2)
                  | (go_at_call 16; ((with_reducible refine (H1.out _ HP1.out (HT.out.fr HFR.out)).mono ?_); rintro e w5 ⟨rfl, hf⟩; have HFR := Lib.hid (HFR.out.trans hf (fun _ _ h => h)); have HP2 := Lib.hid (HP2.out.fr hf); have HP3 := Lib.hid (HP3.out.fr hf); have HP4 := Lib.hid (HP4.out.fr hf); clear hf H1))
                  | (go_at_call 16; ((with_reducible refine (H2.out _ _ _ HP2.out (HT.out.fr HFR.out)).mono ?_); rintro e w6 ⟨rfl, hf⟩; have HFR := Lib.hid (HFR.out.trans hf (fun _ _ h => h)); have HP3 := Lib.hid (HP3.out.fr hf); have HP4 := Lib.hid (HP4.out.fr hf); clear hf H2))
                  | (go_at_call 16; ((with_reducible refine (H3.out _ HP3.out (HT.out.fr HFR.out)).mono ?_); rintro e w7 ⟨rfl, hf⟩; have HFR := Lib.hid (HFR.out.trans hf (fun _ _ h => h)); have HP4 := Lib.hid (HP4.out.fr hf); clear hf H3))
                  | (go_at_call 16; ((with_reducible refine (H4.out _ _ _ HP4.out (HT.out.fr HFR.out)).mono ?_); rintro e w8 ⟨rfl, hf⟩; have HFR := Lib.hid (HFR.out.trans hf (fun _ _ h => h)); clear hf))
                  | (go_at_call 15; ((refine (awake_spec _ (HT.out.fr HFR.out)).mono ?_); rintro e w9 ⟨rfl, hf⟩; have HFR := Lib.hid (HFR.out.trans hf (fun _ _ h => h)); clear hf)))
                go_ret
                exact ⟨rfl, HFR.out.below (Nat.le_refl _) (fun _ _ h => h)⟩
            · have hUS : U = S := by rw [hU, hS]; exact tot_odd ks k (by omega) 5 5
              subst hUS
              have hcond : k < 1 ∨ 7 < k := by omega
              clear hin hU hS
              rcases hcond with hcond | hcond
              all_goals
                go_wp2_with (first
                  | (at_builtin; refine wpList_app_N rfl (.tmp 46) (.tmp 47) rfl wr.heap.size _ [] rfl (OwnS.nil _ _) a ks i cap HN.out rfl HSL.out HZ.out n0.out (Nat.le_refl _) i (by rw [List.nil_append]; exact HN.out) ?_; intro ad1 cap1 w1 hown1 hst1 hbl1; have HO1 := Lib.hid (show OwnS w1 wr.heap.size (.slice ad1 i cap1) ks from hown1); have HB1 := Lib.hid hbl1; clear hown1 hst1 hbl1)
                  | (at_builtin; refine wpList_app_N rfl (.tmp 48) (.tmp 51) rfl wr.heap.size _ ks rfl (HO1.out.alloc _) (some ⟨w1.heap.size, 0, none⟩) [k] 1 1 rfl rfl (one_steps w1 k (stepC k) rfl rfl (stepC_one k)) (fun e => by cases e) n1.out (Nat.le_trans HB1.out.size (by simp)) (i + 1) m1.out ?_; intro ad2 cap2 w2 hown2 hst2 hbl2; have HF2 := Lib.hid (Fr.ofBelow ((HB1.out.alloc HB1.out.size (.cells (stepC k).toArray 41)).trans hbl2) (fun _ => False)); have HFR2 := Lib.hid (HFR.out.trans HF2.out (fun _ _ h => h)); have HST2 := Lib.hid hst2; have HSL2 := Lib.hid (HSL.out.fr HF2.out); have HT52 := Lib.hid (HST5.out.fr HF2.out); clear hown2 hst2 hbl2 HB1 HO1 HF2 HST5)
                  | (at_builtin; refine wpList_app_N rfl (.tmp 53) (.tmp 54) rfl w2.heap.size _ [] rfl (OwnS.nil _ _) a ks i cap HN.out rfl HSL2.out HZ.out n0.out (Nat.le_refl _) i (by rw [List.nil_append]; exact HN.out) ?_; intro ad3 cap3 w3 hown3 hst3 hbl3; have HO3 := Lib.hid (show OwnS w3 w2.heap.size (.slice ad3 i cap3) ks from hown3); have HB3 := Lib.hid hbl3; clear hown3 hst3 hbl3)
                  | (at_builtin; refine wpList_app_N rfl (.tmp 55) (.tmp 57) rfl w2.heap.size _ ks rfl (HO3.out.alloc _) (some ⟨w3.heap.size, 0, none⟩) [9] 1 1 rfl rfl (one_steps w3 9 (stepC 9) rfl rfl (stepC_one 9)) (fun e => by cases e) n2.out (Nat.le_trans HB3.out.size (by simp)) (i + 1) m2.out ?_; intro ad4 cap4 w4 hown4 hst4 hbl4; have HF4 := Lib.hid (Fr.ofBelow ((HB3.out.alloc HB3.out.size (.cells (stepC 9).toArray 41)).trans hbl4) (fun _ => False)); have HFR := Lib.hid (HFR2.out.trans HF4.out (fun _ _ h => h)); have HP1 := Lib.hid (HSL2.out.fr HF4.out); have HP2 := Lib.hid (HST2.out.fr HF4.out); have HP3 := Lib.hid (HT52.out.fr HF4.out); have HP4 := Lib.hid hst4; clear hown4 hst4 hbl4 HB3 HO3 HF4 HST2 HT52 HSL2 HFR2)
                  | (go_at_call 16; ((with_reducible refine (H1.out _ HP1.out (HT.out.fr HFR.out)).mono ?_); rintro e w5 ⟨rfl, hf⟩; have HFR := Lib.hid (HFR.out.trans hf (fun _ _ h => h)); have HP2 := Lib.hid (HP2.out.fr hf); have HP3 := Lib.hid (HP3.out.fr hf); have HP4 := Lib.hid (HP4.out.fr hf); clear hf H1))
                  | (go_at_call 16; ((with_reducible refine (H2.out _ _ _ HP2.out (HT.out.fr HFR.out)).mono ?_); rintro e w6 ⟨rfl, hf⟩; have HFR := Lib.hid (HFR.out.trans hf (fun _ _ h => h)); have HP3 := Lib.hid (HP3.out.fr hf); have HP4 := Lib.hid (HP4.out.fr hf); clear hf H2))
                  | (go_at_call 16; ((with_reducible refine (H3.out _ HP3.out (HT.out.fr HFR.out)).mono ?_); rintro e w7 ⟨rfl, hf⟩; have HFR := Lib.hid (HFR.out.trans hf (fun _ _ h => h)); have HP4 := Lib.hid (HP4.out.fr hf); clear hf H3))
                  | (go_at_call 16; ((with_reducible refine (H4.out _ _ _ HP4.out (HT.out.fr HFR.out)).mono ?_); rintro e w8 ⟨rfl, hf⟩; have HFR := Lib.hid (HFR.out.trans hf (fun _ _ h => h)); clear hf))
                  | (go_at_call 15; ((refine (awake_spec _ (HT.out.fr HFR.out)).mono ?_); rintro e w9 ⟨rfl, hf⟩; have HFR := Lib.hid (HFR.out.trans hf (fun _ _ h => h)); clear hf)))
                go_ret
                exact ⟨rfl, HFR.out.below (Nat.le_refl _) (fun _ _ h => h)⟩
      · obtain rfl : q = (j : Int) := by have := HQ.out; omega
        obtain ⟨kk, hkk⟩ : ∃ kk, ks[j]? = some kk := ⟨_, List.getElem?_eq_getElem (by rw [← HN.out]; omega)⟩
        obtain ⟨x, cs, rfl, hst⟩ := HS.out j kk hkk
        have HST := Lib.hid (hst.fr (fr_below HF.out HBE.out (Nat.le_refl _)))
        have HKK := Lib.hid (drop_rev hkk)
        have j0 : (0 : Int) ≤ (j : Int) := by omega
        have j1 : (j : Int) < (n : Int) := by omega
        have hfold := fold_all cs #[.int .i64 0, .string ⟨#[]⟩, .string ⟨#[]⟩, .string ⟨#[]⟩, .int .i64 0, .int .i64 0, .int .i64 0, .int .i64 0, .int .i64 0, .int .i64 0, .int .i64 0, .string ⟨#[]⟩, .string ⟨#[]⟩, .int .i64 0, .int .i64 0] HST.out.2.1
        have HLN := Lib.hid (show ((ks.drop (j + 1)).reverse).length + [kk].length ≤ 1000 by have := HL.out; simp; omega)
        have hlen := HST.out.2.1
        clear hkk hst
        go_wp2_with (first
          | (refine wpList_load_any rfl 41 _ rfl (x.add (j * 15)) rfl cs _ HST.out.2.2.2.1 Tryd.underlying41 rfl (by rw [HST.out.2.1]; exact Tryd.size41) ?_)
          | (at_builtin; refine wpList_app_steps rfl (.tmp 24) (.tmp 29) rfl w.heap.size _ _ rfl (HOW.out.alloc _) (some ⟨wr.heap.size, 0, none⟩) [kk] 1 rfl (one_steps wr kk cs HST.out.2.1 HST.out.2.2.1 HST.out.2.2.2.2) (fun e => by cases e) HLN.out (Nat.le_trans HBE.out.size (by simp)) ?_; intro v' w1 hown1 hg1 hb1; have HO1 := Lib.hid (show OwnS w1 w.heap.size v' ((ks.drop j).reverse) by rw [HKK.out]; exact hown1); have HB1 := Lib.hid ((HBE.out.alloc HBE.out.size (.cells cs.toArray 41)).grown hg1 (by have := HBE.out.size; simp; omega) hb1); clear hown1 hg1 hb1)
          | fail)
        go_roundg j
        case measure => have := HG.out; omega
        case rel => exact ⟨j, (j : Int) - 1, by omega, rfl, by go_num, Lib.hid rfl, HO1, HB1⟩
  · have hle : decide (300 < (ks.length : Int)) = true := by simp; omega
    generalize ks.length = n at hle ⊢
    clear hb hs hm hl hz
    go_enter Tryd.func8, Tryd.ntmps8
    go_wp2_with (first
      | (go_at_call 15; ((refine (awake_spec _ (HT.out.fr HF.out)).mono ?_); rintro e w7 ⟨rfl, hf⟩; have HF := Lib.hid (HF.out.trans hf (fun _ _ h => h)); clear hf)))
    go_ret
    exact ⟨rfl, HF.out.below (Nat.le_refl _) (fun _ _ h => h)⟩
end Go.Proofs.YthnhieikeigjcaaDoor
