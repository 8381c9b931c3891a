/- sha: take. -/
import Derived.Test.YtphjebbjhfnhoaaTi
namespace Go.Proofs.Ytphjebbjhfnhoaa
open Go.RowKit
attribute [local go_sem ↓] z117 z110
theorem rowK_list (kd : IntKind) (f : Nat → Int) (n : Nat) : (rowK kd f n).toList.toArray = rowK kd f n := by simp
theorem rowK_len (kd : IntKind) (f : Nat → Int) (n : Nat) : (rowK kd f n).toList.length = n := by simp [rowK_size]
theorem stA_range_b {w : World} {s : Nat} {h bl : Nat → Int} {hv n : Int} (H : Blk w s 114 (stA h bl hv n)) : w.rangeAt s 8 (rowK .u8 bl 64).toList := by
  intro j v hj
  have hlt : j < 64 := by have := (List.getElem?_eq_some_iff.1 hj).1; simpa [rowK_size] using this
  rw [Array.getElem?_toList, rowK_at _ _ _ _ hlt] at hj
  rw [← Option.some.inj hj]
  exact H.cell (8 + j) (stA_b h bl hv n j hlt)
theorem stA_range_h {w : World} {s : Nat} {h bl : Nat → Int} {hv n : Int} (H : Blk w s 114 (stA h bl hv n)) : w.rangeAt s 0 (rowK .u32 h 8).toList := by
  intro j v hj
  have hlt : j < 8 := by have := (List.getElem?_eq_some_iff.1 hj).1; simpa [rowK_size] using this
  rw [Array.getElem?_toList, rowK_at _ _ _ _ hlt] at hj
  rw [← Option.some.inj hj, Nat.zero_add]
  exact H.cell j (stA_h h bl hv n j hlt)
/-- One round. -/
def xT (kk ww : Int) (v : Nat → Int) : Int := IntKind.u32.wrap (IntKind.u32.wrap (IntKind.u32.wrap (IntKind.u32.wrap (v 7 + bits BinOp.xor IntKind.u32 (bits BinOp.xor IntKind.u32 (rotR (v 4) 6) (rotR (v 4) 11)) (rotR (v 4) 25)) + bits BinOp.xor IntKind.u32 (bits BinOp.and IntKind.u32 (v 4) (v 5)) (bits BinOp.and IntKind.u32 (bits BinOp.xor IntKind.u32 IntKind.u32.max (v 4)) (v 6))) + kk) + ww)
def yT (v : Nat → Int) : Int := IntKind.u32.wrap (bits BinOp.xor IntKind.u32 (bits BinOp.xor IntKind.u32 (rotR (v 0) 2) (rotR (v 0) 13)) (rotR (v 0) 22) + bits BinOp.xor IntKind.u32 (bits BinOp.xor IntKind.u32 (bits BinOp.and IntKind.u32 (v 0) (v 1)) (bits BinOp.and IntKind.u32 (v 0) (v 2))) (bits BinOp.and IntKind.u32 (v 1) (v 2)))
def shf (v : Nat → Int) : Nat → Int := fun i => if i = 0 then v 0 else v (i - 1)
def rnd1 (kk ww : Int) (v : Nat → Int) : Nat → Int := updN (updN (shf v) 0 ((xT kk ww v + yT v) % 4294967296)) 4 ((v 3 + xT kk ww v) % 4294967296)
def rnd (wd h : Nat → Int) : Nat → (Nat → Int)
  | 0 => h
  | t + 1 => rnd1 (kF t) (wd t) (rnd wd h t)
def addF (h V : Nat → Int) : Nat → (Nat → Int)
  | 0 => h
  | i + 1 => updN (addF h V i) i ((addF h V i i + V i) % 4294967296)
/-- A block taken in. -/
def cmp (h bl : Nat → Int) : Nat → Int := addF h (rnd (wrd bl) h 64) 8
theorem stA_set (h bl : Nat → Int) (hv n : Int) (cs : Array Value) (hs : cs.size = 74) (k : Nat) (x : Value) (h' bl' : Nat → Int) (hv' n' : Int) (hsame : ∀ j, j < 74 → j ≠ k → (stA h bl hv n)[j]? = (stA h' bl' hv' n')[j]?) (hk : k < 74) (hx : (stA h' bl' hv' n')[k]? = some x) (hc : cs = stA h bl hv n) :
    cs.setIfInBounds k x = stA h' bl' hv' n' := by
  subst hc
  apply Array.ext_getElem?
  intro j
  by_cases hj : j = k
  · subst hj; rw [hx, Array.getElem?_setIfInBounds_self_of_lt (by rw [hs]; exact hk)]
  · rw [Array.getElem?_setIfInBounds_ne (Ne.symm hj)]
    by_cases hlt : j < 74
    · exact hsame j hlt hj
    · rw [Array.getElem?_eq_none (by rw [hs]; omega), Array.getElem?_eq_none (by rw [stA_size]; omega)]
theorem stA_at (h bl : Nat → Int) (hv n : Int) (j : Nat) (hj : j < 74) : (stA h bl hv n)[j]? = some (if j < 8 then .int .u32 (h j) else if j < 72 then .int .u8 (bl (j - 8)) else if j = 72 then .int .i64 hv else .int .i64 n) := by
  by_cases h1 : j < 8
  · rw [if_pos h1]; exact stA_h _ _ _ _ _ h1
  · rw [if_neg h1]
    by_cases h2 : j < 72
    · rw [if_pos h2]
      have := stA_b h bl hv n (j - 8) (by omega)
      rwa [show 8 + (j - 8) = j by omega] at this
    · rw [if_neg h2]
      by_cases h3 : j = 72
      · rw [if_pos h3]; subst h3; exact stA_v _ _ _ _
      · rw [if_neg h3]
        obtain rfl : j = 73 := by omega
        exact stA_n _ _ _ _
theorem stA_set_h (h bl : Nat → Int) (hv n : Int) (k : Nat) (hk : k < 8) (x : Int) : (stA h bl hv n).setIfInBounds k (.int .u32 x) = stA (updN h k x) bl hv n :=
  stA_set h bl hv n _ (stA_size _ _ _ _) k _ _ _ _ _ (fun j hj hne => by
    rw [stA_at _ _ _ _ _ hj, stA_at _ _ _ _ _ hj]; unfold updN; rw [if_neg hne]) (by omega) (by rw [stA_h _ _ _ _ _ hk]; unfold updN; rw [if_pos rfl]) rfl
theorem stA_set_v (h bl : Nat → Int) (hv n x : Int) : (stA h bl hv n).setIfInBounds 72 (.int .i64 x) = stA h bl x n :=
  stA_set h bl hv n _ (stA_size _ _ _ _) 72 _ _ _ _ _ (fun j hj hne => by
    rw [stA_at _ _ _ _ _ hj, stA_at _ _ _ _ _ hj]; simp only [if_neg hne]) (by omega) (stA_v _ _ _ _) rfl
theorem stA_set_n (h bl : Nat → Int) (hv n x : Int) : (stA h bl hv n).setIfInBounds 73 (.int .i64 x) = stA h bl hv x :=
  stA_set h bl hv n _ (stA_size _ _ _ _) 73 _ _ _ _ _ (fun j hj hne => by
    rw [stA_at _ _ _ _ _ hj, stA_at _ _ _ _ _ hj]
    by_cases h1 : j < 8
    · rw [if_pos h1, if_pos h1]
    · rw [if_neg h1, if_neg h1]
      by_cases h2 : j < 72
      · rw [if_pos h2, if_pos h2]
      · rw [if_neg h2, if_neg h2, if_pos (by omega), if_pos (by omega)]) (by omega) (stA_n _ _ _ _) rfl
theorem index110 (v : Nat → Int) (i : Nat) (hi : i < 8) (w : World) : (Instr.index 110 (.agg (rowK .u32 v 8)) (.int .i64 (i : Int))).run Try.prog w = .ok (.int .u32 (v i)) w := by
  obtain rfl | rfl | rfl | rfl | rfl | rfl | rfl | rfl : i = 0 ∨ i = 1 ∨ i = 2 ∨ i = 3 ∨ i = 4 ∨ i = 5 ∨ i = 6 ∨ i = 7 := by omega
  all_goals kernel_rfl
structure TS (w : World) (bl : Nat → Int) (b2 b3 b4 : Nat) (v : Nat → Int) (wr : World) : Prop where
  w2 : Blk wr b2 117 (rowK .u32 (wrd bl) 64)
  k3 : Blk wr b3 117 (rowK .u32 kF 64)
  v4 : Blk wr b4 110 (rowK .u32 v 8)
  n2 : b2 ≠ b4
  n3 : b3 ≠ b4
  l4 : w.heap.size ≤ b4
  fr : Fr (fun _ => False) w wr
theorem TS.drew {w : World} {bl : Nat → Int} {b2 b3 b4 : Nat} {v : Nat → Int} {wr : World} (H : TS w bl b2 b3 b4 v wr) : TS w bl b2 b3 b4 v wr.drew := ⟨H.w2, H.k3, H.v4, H.n2, H.n3, H.l4, H.fr.drew⟩
theorem TS.put {w : World} {bl : Nat → Int} {b2 b3 b4 : Nat} {v : Nat → Int} {wr : World} (H : TS w bl b2 b3 b4 v wr) (k : Nat) (x : Int) : TS w bl b2 b3 b4 (updN v k x) (wr.setCell ⟨b4, k, none⟩ (.int .u32 x)) :=
  ⟨H.w2.setOther H.n2 _, H.k3.setOther H.n3 _, by have := H.v4.set k (.int .u32 x); rwa [rowK_set] at this, H.n2, H.n3, H.l4, H.fr.setCell (p := ⟨b4, k, none⟩) (fun x => (Nat.lt_irrefl _ (Nat.lt_of_lt_of_le x H.l4)).elim) _⟩
theorem TS.turn {w : World} {bl : Nat → Int} {b2 b3 b4 : Nat} {v : Nat → Int} {wr w' : World} (H : TS w bl b2 b3 b4 v wr) (v' : Nat → Int) (hb : Blk w' b4 110 (rowK .u32 v' 8)) (f : Fr (fun k => k = b4) wr w') : TS w bl b2 b3 b4 v' w' :=
  ⟨H.w2.fr f H.n2, H.k3.fr f H.n3, hb, H.n2, H.n3, H.l4, H.fr.trans f (fun i hi e => by have := H.l4; omega)⟩
theorem shf_row (v : Nat → Int) : (splice (rowK .u32 v 8).toList 1 (rowK .u32 v 7).toList).toArray = rowK .u32 (shf v) 8 := rfl
theorem rowK_one' (kd : IntKind) (f : Nat → Int) (n : Nat) : ∀ x ∈ (rowK kd f n).toList, x.oneCell' = true := fun x hx => by
  have : x ∈ (List.range n).map fun i => Value.int kd (f i) := by simpa [rowK] using hx
  obtain ⟨i, _, rfl⟩ := List.mem_map.1 this; rfl
theorem Try.size57 : (Try.prog.info? 57).map (·.size) = some 1 := by kernel_rfl
set_option maxRecDepth 100000 in
set_option maxHeartbeats 8000000 in
theorem take_spec (s : Nat) (hh bl : Nat → Int) (n : Int) (w : World) (hs : Blk w s 114 (stA hh bl 64 n)) :
    Calls Try.prog 61 #[.pointer (some ⟨s, 0, none⟩)] w fun e w' => e = .returned (.tuple #[]) ∧ Blk w' s 114 (stA (cmp hh bl) bl 0 n) ∧ Fr (fun k => k = s) w w' := by
  have HB := Lib.hid hs
  have HW := Lib.hid (fun wx => words_spec bl wx)
  have HK := Lib.hid (fun wx => factors_spec wx)
  clear hs
  go_enter Try.func61, Try.ntmps61
  go_upto_region 0 with (fail)
  go_cut [0, 2, 3, 4] from 5 (fun x0 x2 x3 x4 wc => x0 = .pointer (some ⟨s, 0, none⟩) ∧ ∃ b2 b3 b4, x2 = .pointer (some ⟨b2, 0, none⟩) ∧ x3 = .pointer (some ⟨b3, 0, none⟩) ∧ x4 = .pointer (some ⟨b4, 0, none⟩) ∧ Hid (TS w bl b2 b3 b4 hh wc))
  case first =>
    rename_i hA hJ
    refine wp_region_by (by kernel_rfl) [[], [0], [1], [2], [3], [4], [], [6], [7], [8], [], [], [], [10, 4, 5, 0, 1, 2, 3, 4, 10, 11, 12], [11, 5, 13, 0, 1, 2, 3, 4, 5, 10, 11, 12, 13], [12, 9, 14, 0, 1, 2, 3, 4, 5, 6, 7, 8, 9, 10, 11, 12, 13, 14]] (by kernel_rfl) (by decide) (InvT s hh bl w) ?_ ?_ ?_
    · exact ⟨fun _ => undef, fun _ => 0, rfl, ⟨fun _ _ q => absurd q Bool.false_ne_true, fun _ _ q => absurd q Bool.false_ne_true, fun _ _ _ _ _ q => absurd q Bool.false_ne_true, fun _ _ q => absurd q Bool.false_ne_true, (Fr.refl _ w).drew⟩⟩
    · intro i hi L a wr hI h0 hd
      obtain ⟨u, b, rfl, hT⟩ := hI
      have hc : i = 0 ∨ i = 1 ∨ i = 2 ∨ i = 3 ∨ i = 4 ∨ i = 5 ∨ i = 6 ∨ i = 7 ∨ i = 8 ∨ i = 9 ∨ i = 10 ∨ i = 11 ∨ i = 12 ∨ i = 13 ∨ i = 14 ∨ i = 15 := by have : i < 16 := hi; omega
      clear hi
      rcases hc with rfl | rfl | rfl | rfl | rfl | rfl | rfl | rfl | rfl | rfl | rfl | rfl | rfl | rfl | rfl | rfl
      · refine wpOp_one rfl ?_
        have HT := Lib.hid hT
        clear hd h0 hT
        unfold actT
        go_wp2_with (fail)
        exact ⟨updU u 12 _, b, rfl, HT.out.plain 0 (by decide) _ rfl⟩
      · refine wpOp_one rfl ?_
        have HT := Lib.hid hT
        have e12 : u 12 = Value.pointer (some ⟨s, 0, none⟩) := hT.fp 0 (by decide) (hd 0 (by decide))
        clear hd h0 hT
        unfold actT
        go_wp2_with (fail)
        exact ⟨updU u 13 _, b, by simp [actT, updU, valT, e12], HT.out.plain 1 (by decide) _ rfl⟩
      · refine wpOp_one rfl ?_
        have HT := Lib.hid hT
        have e13 : u 13 = Value.pointer (some ⟨s, 0, none⟩) := hT.fp 1 (by decide) (hd 1 (by decide))
        clear hd h0 hT
        unfold actT
        go_wp2_with (fail)
        exact ⟨updU u 14 _, b, by simp [actT, updU, valT, e13], HT.out.plain 2 (by decide) _ rfl⟩
      · refine wpOp_one rfl ?_
        have HT := Lib.hid hT
        have e14 : u 14 = Value.pointer (some ⟨s, 8, none⟩) := hT.fp 2 (by decide) (hd 2 (by decide))
        have hr := stA_range_b (HB.out.fr hT.fr (fun q => q))
        clear hd h0 hT
        refine wpList_load_mid rfl 112 (.tmp 14) rfl s 8 e14 _ _ hr Try.underlying112 rfl (by rw [rowK_len]; exact Try.size112) ?_
        rw [rowK_list]
        exact ⟨updU u 15 _, b, rfl, HT.out.plain 3 (by decide) _ rfl⟩
      · refine wpOp_one rfl ?_
        have HT := Lib.hid hT
        have e15 : u 15 = Value.agg (rowK .u8 bl 64) := hT.fp 3 (by decide) (hd 3 (by decide))
        clear hd h0 hT
        unfold actT
        go_wp2_with (go_at_call 64; (refine (HW.out _).mono ?_); rintro e w2 ⟨rfl, hf⟩; have HF := Lib.hid hf; clear hf)
        exact ⟨updU u 16 _, b, by simp [actT, updU, valT, e15], (HT.out.world HF.out).plain 4 (by decide) _ rfl⟩
      · refine wpOp_one rfl ?_
        have HT := Lib.hid hT
        clear hd h0 hT
        unfold actT
        go_wp2_with (go_at_call 65; (refine (HK.out _).mono ?_); rintro e w2 ⟨rfl, hf⟩; have HF := Lib.hid hf; clear hf)
        exact ⟨updU u 17 _, b, rfl, (HT.out.world HF.out).plain 5 (by decide) _ rfl⟩
      · refine wpOp_one rfl ?_
        have HT := Lib.hid hT
        clear hd h0 hT
        unfold actT
        go_wp2_with (fail)
        exact ⟨updU u 18 _, b, rfl, HT.out.plain 6 (by decide) _ rfl⟩
      · refine wpOp_one rfl ?_
        have HT := Lib.hid hT
        have e18 : u 18 = Value.pointer (some ⟨s, 0, none⟩) := hT.fp 6 (by decide) (hd 6 (by decide))
        clear hd h0 hT
        unfold actT
        go_wp2_with (fail)
        exact ⟨updU u 19 _, b, by simp [actT, updU, valT, e18], HT.out.plain 7 (by decide) _ rfl⟩
      · refine wpOp_one rfl ?_
        have HT := Lib.hid hT
        have e19 : u 19 = Value.pointer (some ⟨s, 0, none⟩) := hT.fp 7 (by decide) (hd 7 (by decide))
        clear hd h0 hT
        unfold actT
        go_wp2_with (fail)
        exact ⟨updU u 20 _, b, by simp [actT, updU, valT, e19], HT.out.plain 8 (by decide) _ rfl⟩
      · refine wpOp_one rfl ?_
        have HT := Lib.hid hT
        have e20 : u 20 = Value.pointer (some ⟨s, 0, none⟩) := hT.fp 8 (by decide) (hd 8 (by decide))
        have hr := stA_range_h (HB.out.fr hT.fr (fun q => q))
        clear hd h0 hT
        refine wpList_load_mid rfl 110 (.tmp 20) rfl s 0 e20 _ _ hr Try.underlying110 rfl (by rw [rowK_len]; exact Try.size110) ?_
        rw [rowK_list]
        exact ⟨updU u 21 _, b, rfl, HT.out.plain 9 (by decide) _ rfl⟩
      · refine wpOp_one rfl ?_
        have HT := Lib.hid hT
        have hn : L (13 + 0) = false := by
          cases hq : L (13 + 0) with
          | false => rfl
          | true => exact absurd (hT.fl 0 (by decide) hq) (by rw [show L (10 + 0) = false from h0]; decide)
        clear hd h0 hT
        unfold actT
        go_wp2_with (fail)
        exact ⟨updU u 2 _, _, rfl, HT.out.new 0 (by decide) hn⟩
      · refine wpOp_one rfl ?_
        have HT := Lib.hid hT
        have hn : L (13 + 1) = false := by
          cases hq : L (13 + 1) with
          | false => rfl
          | true => exact absurd (hT.fl 1 (by decide) hq) (by rw [show L (10 + 1) = false from h0]; decide)
        clear hd h0 hT
        unfold actT
        go_wp2_with (fail)
        exact ⟨updU u 3 _, _, rfl, HT.out.new 1 (by decide) hn⟩
      · refine wpOp_one rfl ?_
        have HT := Lib.hid hT
        have hn : L (13 + 2) = false := by
          cases hq : L (13 + 2) with
          | false => rfl
          | true => exact absurd (hT.fl 2 (by decide) hq) (by rw [show L (10 + 2) = false from h0]; decide)
        clear hd h0 hT
        unfold actT
        go_wp2_with (fail)
        exact ⟨updU u 4 _, _, rfl, HT.out.new 2 (by decide) hn⟩
      · refine wpOp_one rfl ?_
        have HT := Lib.hid hT
        have h10 : L (10 + 0) = true := hd 10 (by decide)
        have ev : u (16) = Value.agg (finT hh bl 0) := hT.fp 4 (by decide) (hd 4 (by decide))
        obtain ⟨ea, ha, hb⟩ := hT.fa 0 (by decide) h10
        rw [if_neg (by rw [show L (13 + 0) = false from h0]; decide)] at hb
        clear hd h0 hT
        refine wpList_store_row rfl 117 (.tmp 2) (.tmp 16) rfl (b 0) (finT hh bl 0) ea ev 117 (iniT 0) hb (by first | exact Try.size117 | (rw [show (finT hh bl 0).size = _ from rowK_size _ _ _]; exact Try.size117)) (by rw [show (finT hh bl 0).size = _ from rowK_size _ _ _]; exact rowK_size _ _ _) (rowK_one _ _ _) ?_
        exact ⟨u, b, rfl, HT.out.put 0 (by decide) h10⟩
      · refine wpOp_one rfl ?_
        have HT := Lib.hid hT
        have h10 : L (10 + 1) = true := hd 11 (by decide)
        have ev : u (17) = Value.agg (finT hh bl 1) := hT.fp 5 (by decide) (hd 5 (by decide))
        obtain ⟨ea, ha, hb⟩ := hT.fa 1 (by decide) h10
        rw [if_neg (by rw [show L (13 + 1) = false from h0]; decide)] at hb
        clear hd h0 hT
        refine wpList_store_row rfl 117 (.tmp 3) (.tmp 17) rfl (b 1) (finT hh bl 1) ea ev 117 (iniT 1) hb (by first | exact Try.size117 | (rw [show (finT hh bl 1).size = _ from rowK_size _ _ _]; exact Try.size117)) (by rw [show (finT hh bl 1).size = _ from rowK_size _ _ _]; exact rowK_size _ _ _) (rowK_one _ _ _) ?_
        exact ⟨u, b, rfl, HT.out.put 1 (by decide) h10⟩
      · refine wpOp_one rfl ?_
        have HT := Lib.hid hT
        have h10 : L (10 + 2) = true := hd 12 (by decide)
        have ev : u (21) = Value.agg (finT hh bl 2) := hT.fp 9 (by decide) (hd 9 (by decide))
        obtain ⟨ea, ha, hb⟩ := hT.fa 2 (by decide) h10
        rw [if_neg (by rw [show L (13 + 2) = false from h0]; decide)] at hb
        clear hd h0 hT
        refine wpList_store_row rfl 110 (.tmp 4) (.tmp 21) rfl (b 2) (finT hh bl 2) ea ev 110 (iniT 2) hb (by first | exact Try.size110 | (rw [show (finT hh bl 2).size = _ from rowK_size _ _ _]; exact Try.size110)) (by rw [show (finT hh bl 2).size = _ from rowK_size _ _ _]; exact rowK_size _ _ _) (rowK_one _ _ _) ?_
        exact ⟨u, b, rfl, HT.out.put 2 (by decide) h10⟩
    · intro L a wr hI hall
      obtain ⟨u, b, rfl, hT⟩ := hI
      obtain ⟨e2, l2, q2⟩ := hT.fa 0 (by decide) (hall 10 (by decide))
      obtain ⟨e3, l3, q3⟩ := hT.fa 1 (by decide) (hall 11 (by decide))
      obtain ⟨e4, l4, q4⟩ := hT.fa 2 (by decide) (hall 12 (by decide))
      rw [if_pos (hall (13 + 0) (by decide))] at q2
      rw [if_pos (hall (13 + 1) (by decide))] at q3
      rw [if_pos (hall (13 + 2) (by decide))] at q4
      have d1 := hT.fd 0 2 (by decide) (by decide) (by decide) (hall 10 (by decide)) (hall 12 (by decide))
      have d2 := hT.fd 1 2 (by decide) (by decide) (by decide) (hall 11 (by decide)) (hall 12 (by decide))
      refine hJ _ _ (Met.intro (hA _ _ ?_))
      (repeat apply Exists.intro)
      refine ⟨?rel, rfl⟩
      case rel => exact ⟨rfl, b 0, b 1, b 2, e2, e3, e4, Lib.hid ⟨q2, q3, q4, d1, d2, l4, hT.fr⟩⟩
  case rest =>
    obtain ⟨rfl, b2, b3, b4, rfl, rfl, rfl, HT⟩ := hcut
    have HB2 := HB
    clear HB HW HK
    go_wp2_with (fail)
    go_loopg [22] 64 (fun gk x22 wr => ∃ t : Nat, t ≤ 64 ∧ Hid (gk = 64 - t) ∧ x22 = .int .i64 t ∧ Hid (TS w bl b2 b3 b4 (rnd (wrd bl) hh t) wr))
    case atStart => exact ⟨0, by omega, Lib.hid rfl, rfl, HT⟩
    case round =>
      clear HT
      obtain ⟨t, ht, HG, rfl, HT⟩ := hrel
      generalize hv : rnd (wrd bl) hh t = v at HT
      by_cases htn : t < 64
      · have t1 : (t : Int) < 64 := by omega
        have HTT := Lib.hid htn
        have HV := Lib.hid hv
        clear htn ht hv
        go_wp2_with (fail)
        have HTD := Lib.hid HT.out.drew
        have c0 := HTD.out.v4.cell 0 (rowK_at _ _ 8 _ (by omega))
        have c4 := HTD.out.v4.cell 4 (rowK_at _ _ 8 _ (by omega))
        refine wp_region_still_tail 5 (by kernel_rfl) (by kernel_rfl) ?_
        simp only [List.take_succ_cons, List.take_zero, List.drop_succ_cons, List.drop_zero]
        change wpStill _ _ wr.drew (fun a' => wpList _ _ _ _ a' wr.drew) _ _
        generalize wr.drew = wx at HTD c0 c4 ⊢
        iterate 5 still_step
        refine wpStill_nil ?_
        clear c0 c4 HT
        go_wp2_with (fail)
        have HTE := Lib.hid HTD.out.drew
        have c7 := HTE.out.v4.cell 7 (rowK_at _ _ 8 _ (by omega))
        have c5 := HTE.out.v4.cell 5 (rowK_at _ _ 8 _ (by omega))
        have c6 := HTE.out.v4.cell 6 (rowK_at _ _ 8 _ (by omega))
        have ck := HTE.out.k3.cell t (rowK_at _ _ 64 _ HTT.out)
        have cw := HTE.out.w2.cell t (rowK_at _ _ 64 _ HTT.out)
        refine wp_region_still_tail 30 (by kernel_rfl) (by kernel_rfl) ?_
        simp only [List.take_succ_cons, List.take_zero, List.drop_succ_cons, List.drop_zero]
        change wpStill _ _ wx.drew (fun a' => wpList _ _ _ _ a' wx.drew) _ _
        generalize wx.drew = wy at HTE c7 c5 c6 ck cw ⊢
        have R6 : Hid (∀ x, Calls Try.prog 66 #[.int .u32 x, .int .i64 6] wy fun e w' => e = .returned (.int .u32 (rotR x 6)) ∧ w' = wy) := Lib.hid (fun x => (turn6 x wy).mono fun _ _ ⟨h1, h2⟩ => ⟨h1, h2.symm⟩)
        have R11 : Hid (∀ x, Calls Try.prog 66 #[.int .u32 x, .int .i64 11] wy fun e w' => e = .returned (.int .u32 (rotR x 11)) ∧ w' = wy) := Lib.hid (fun x => (turn11 x wy).mono fun _ _ ⟨h1, h2⟩ => ⟨h1, h2.symm⟩)
        have R25 : Hid (∀ x, Calls Try.prog 66 #[.int .u32 x, .int .i64 25] wy fun e w' => e = .returned (.int .u32 (rotR x 25)) ∧ w' = wy) := Lib.hid (fun x => (turn25 x wy).mono fun _ _ ⟨h1, h2⟩ => ⟨h1, h2.symm⟩)
        iterate 3 still_step
        still_call (R6.out _)
        still_step
        still_call (R11.out _)
        iterate 2 still_step
        still_call (R25.out _)
        iterate 21 still_step
        refine wpStill_nil ?_
        clear c7 c5 c6 ck cw R6 R11 R25 HTD
        go_wp2_with (fail)
        have HTF := Lib.hid HTE.out.drew
        have c1 := HTF.out.v4.cell 1 (rowK_at _ _ 8 _ (by omega))
        have c2 := HTF.out.v4.cell 2 (rowK_at _ _ 8 _ (by omega))
        refine wp_region_still_tail 24 (by kernel_rfl) (by kernel_rfl) ?_
        simp only [List.take_succ_cons, List.take_zero, List.drop_succ_cons, List.drop_zero]
        change wpStill _ _ wy.drew (fun a' => wpList _ _ _ _ a' wy.drew) _ _
        generalize wy.drew = wz at HTF c1 c2 ⊢
        have R2 : Hid (∀ x, Calls Try.prog 66 #[.int .u32 x, .int .i64 2] wz fun e w' => e = .returned (.int .u32 (rotR x 2)) ∧ w' = wz) := Lib.hid (fun x => (turn2 x wz).mono fun _ _ ⟨h1, h2⟩ => ⟨h1, h2.symm⟩)
        have R13 : Hid (∀ x, Calls Try.prog 66 #[.int .u32 x, .int .i64 13] wz fun e w' => e = .returned (.int .u32 (rotR x 13)) ∧ w' = wz) := Lib.hid (fun x => (turn13 x wz).mono fun _ _ ⟨h1, h2⟩ => ⟨h1, h2.symm⟩)
        have R22 : Hid (∀ x, Calls Try.prog 66 #[.int .u32 x, .int .i64 22] wz fun e w' => e = .returned (.int .u32 (rotR x 22)) ∧ w' = wz) := Lib.hid (fun x => (turn22 x wz).mono fun _ _ ⟨h1, h2⟩ => ⟨h1, h2.symm⟩)
        iterate 1 still_step
        still_call (R2.out _)
        still_step
        still_call (R13.out _)
        iterate 2 still_step
        still_call (R22.out _)
        iterate 17 still_step
        refine wpStill_nil ?_
        clear c1 c2 R2 R13 R22 HTE
        obtain ⟨X, hX⟩ : ∃ X, X = xT (kF t) (wrd bl t) v := ⟨_, rfl⟩
        obtain ⟨Y, hY⟩ : ∃ Y, Y = yT v := ⟨_, rfl⟩
        have HX := Lib.hid hX
        have HY := Lib.hid hY
        unfold xT at hX
        unfold yT at hY
        rw [← hX, ← hY]
        clear hX hY
        go_wp2_with (fail)
        have HTG := Lib.hid HTF.out.drew
        refine wp_region_still_tail 2 (by kernel_rfl) (by kernel_rfl) ?_
        simp only [List.take_succ_cons, List.take_zero, List.drop_succ_cons, List.drop_zero]
        change wpStill _ _ wz.drew (fun a' => wpList _ _ _ _ a' wz.drew) _ _
        generalize wz.drew = wq at HTG ⊢
        iterate 2 still_step
        refine wpStill_nil ?_
        refine wpList_step fun K hK => step_copy_blk rfl (.tmp 83) (.tmp 84) 121 121 rfl 57 Try.underlying121 Try.size57 b4 1 7 7 ⟨b4, 0, none⟩ 7 8 rfl rfl (rowK .u32 v 8).toList 110 HTG.out.v4 (rowK .u32 v 7).toList (by simp [rowK_size]) ?_ (by simp [rowK_size]) (rowK_one' _ _ _) ?_
        · intro j x hj
          have hlt : j < 7 := by have := (List.getElem?_eq_some_iff.1 hj).1; simpa [rowK_size] using this
          rw [Array.getElem?_toList, rowK_at _ _ _ _ hlt] at hj
          rw [← Option.some.inj hj]
          have := HTG.out.v4.cell j (rowK_at _ _ 8 j (by omega))
          show wq.cell? (Addr.add ⟨b4, 0, none⟩ j) = _
          rw [Addr.add_mid, Nat.zero_add]; exact this
        intro w' hb' hf'
        rw [shf_row] at hb'
        have HS := Lib.hid (HTG.out.turn _ hb' hf')
        clear hb' hf' HTF HTG
        refine hK _ _ ?_
        clear hK K
        have d4 : w'.cell? ⟨b4, 4, none⟩ = some (.int .u32 (v 3)) := HS.out.v4.cell 4 (rowK_at _ (shf v) 8 4 (by omega))
        have d0 : w'.cell? ⟨b4, 0, none⟩ = some (.int .u32 (v 0)) := HS.out.v4.cell 0 (rowK_at _ (shf v) 8 0 (by omega))
        have f0 := HS.out.v4.free 0
        have f4 := HS.out.v4.free 4
        have HN := Lib.hid ((HS.out.put 0 ((X + Y) % 4294967296)).put 4 ((v 3 + X) % 4294967296))
        have HE := Lib.hid (show rnd (wrd bl) hh t.succ = updN (updN (shf v) 0 ((X + Y) % 4294967296)) 4 ((v 3 + X) % 4294967296) by rw [rnd, HV.out, HX.out, HY.out]; rfl)
        rw [← HE.out] at HN
        clear HS HE HV HX HY
        go_wp2_with (fail)
        go_roundg (64 - (t + 1))
        case measure => have := HG.out; have := HTT.out; omega
        case rel => exact ⟨t + 1, HTT.out, Lib.hid rfl, by go_num, HN⟩
      · obtain rfl : t = 64 := by omega
        have HV := Lib.hid hv
        clear hv ht htn HG
        go_wp2_with (first
            | (refine wpList_load_row rfl 110 _ rfl b4 rfl 110 (rowK .u32 v 8) (0, 0) _ HT.out.v4 Try.underlying110 rfl (by rw [rowK_size]; exact Try.size110) ?_)
            | fail)
        have HS0 := Lib.hid (show Blk wr s 114 (stA (addF hh v 0) bl 64 n) from HB2.out.fr HT.out.fr (fun q => q))
        have HF0 := Lib.hid (show Fr (fun k => k = s) w wr from HT.out.fr.mono (fun _ _ q => q.elim))
        clear HT HB2
        go_loopg [97] 8 (fun gk x97 wr => ∃ i : Nat, i ≤ 8 ∧ Hid (gk = 8 - i) ∧ x97 = .int .i64 i ∧ Hid (Blk wr s 114 (stA (addF hh v i) bl 64 n)) ∧ Hid (Fr (fun k => k = s) w wr))
        case atStart => exact ⟨0, by omega, Lib.hid rfl, rfl, HS0, HF0⟩
        case round =>
          clear HS0 HF0
          obtain ⟨i, hi, HG, rfl, HS, HF⟩ := hrel
          by_cases hin : i < 8
          · have i1 : (i : Int) < 8 := by omega
            have HI := Lib.hid hin
            have hix := index110 v i hin wr
            clear hin hi
            go_wp2_with (fail)
            have HSD := Lib.hid (show Blk wr.drew s 114 (stA (addF hh v i) bl 64 n) from HS.out.drew)
            have HFD := Lib.hid (show Fr (fun k => k = s) w wr.drew from HF.out.drew)
            clear HS HF hix
            have ci := HSD.out.cell i (stA_h _ _ _ _ i HI.out)
            have fi := HSD.out.free i
            refine wp_region_still_tail 11 (by kernel_rfl) (by kernel_rfl) ?_
            simp only [List.take_succ_cons, List.take_zero, List.drop_succ_cons, List.drop_zero]
            change wpStill _ _ wr.drew (fun a' => wpList _ _ _ _ a' wr.drew) _ _
            generalize wr.drew = wx at HSD HFD ci fi ⊢
            iterate 11 still_step
            refine wpStill_nil ?_
            go_wp2_with (fail)
            have HSN := Lib.hid (HSD.out.set i (.int .u32 ((addF hh v i i + v i) % 4294967296)))
            have HSN := Lib.hid (show Blk _ s 114 (stA (addF hh v (i + 1)) bl 64 n) by have := HSN.out; rwa [stA_set_h _ _ _ _ i HI.out] at this)
            have HFN := Lib.hid (HFD.out.setCell (p := ⟨s, i, none⟩) (fun _ => rfl) (.int .u32 ((addF hh v i i + v i) % 4294967296)))
            go_roundg (8 - (i + 1))
            case measure => have := HG.out; have := HI.out; omega
            case rel => exact ⟨i + 1, HI.out, Lib.hid rfl, by go_num, HSN, HFN⟩
          · obtain rfl : i = 8 := by omega
            clear hin hi HG
            have c72 := HS.out.cell 72 (stA_v _ _ _ _)
            have f72 := HS.out.free 72
            have HSN := Lib.hid (HS.out.set 72 (.int .i64 0))
            have HSN := Lib.hid (show Blk _ s 114 (stA (addF hh v 8) bl 0 n) by have := HSN.out; rwa [stA_set_v] at this)
            have HFN := Lib.hid (HF.out.setCell (p := ⟨s, 72, none⟩) (fun _ => rfl) (.int .i64 0))
            have HE := Lib.hid (show addF hh v 8 = cmp hh bl by rw [← HV.out]; rfl)
            have HSN := Lib.hid (show Blk _ s 114 (stA (cmp hh bl) bl 0 n) by rw [← HE.out]; exact HSN.out)
            clear HS HF HV HE
            go_wp2_with (fail)
            go_end0
            exact ⟨rfl, HSN.out, HFN.out⟩
end Go.Proofs.Ytphjebbjhfnhoaa
