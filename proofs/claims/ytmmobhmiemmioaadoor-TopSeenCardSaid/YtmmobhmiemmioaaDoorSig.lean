/- The walk of signs. -/
import Derived.Test.YtmmobhmiemmioaaDoorBs
import Derived.Laws.AppendOwn
namespace Go.Proofs.YtmmobhmiemmioaaDoor
open Go.RowKit
attribute [local go_sem ↓] z62

theorem Tryd.info62 : (Tryd.prog.info? 62).map (fun i => (i.zero, i.size, i.bytes)) = some (some (.agg Z62), 259, 272) := by kernel_rfl
theorem byte_set (c : UInt8) : Z62.setIfInBounds 1 (.int .u8 (c.toNat : Int)) = sgR ⟨0, c, false, noSet⟩ := by
  apply Array.ext'
  rw [Array.toList_setIfInBounds]
  show (Value.int .i64 0 :: .int .u8 0 :: .bool false :: setC noSet).set 1 _ = .int .i64 0 :: .int .u8 (c.toNat : Int) :: .bool false :: setC noSet
  rfl
/-- Signs that the call owns. -/
def OwnG (w : World) (B : Nat) (v : Value) (L : List Sg) : Prop := w.ownsRow B 62 259 v L.length (L.flatMap sgA)
theorem flat_len (L : List Sg) : (L.flatMap sgA).length = L.length * 259 := by
  induction L with
  | nil => rfl
  | cons g t ih => rw [List.flatMap_cons, List.length_append, ih, sgA_len, List.length_cons]; omega
theorem OwnG.nil (w : World) (B : Nat) : OwnG w B (.slice none 0 0) [] := World.ownsRow_nil _ _ _ _
theorem OwnG.alloc {w : World} {B : Nat} {v : Value} {L : List Sg} (h : OwnG w B v L) (o : Obj) : OwnG (w.alloc o) B v L := World.ownsRow.alloc h o
theorem Fr.grownBy {w w' : World} (h : Fr (fun _ => False) w w') : w.grownBy w' none := ⟨h.os, h.tape, h.output, h.size, fun k hk _ => h.block k hk (fun h => h)⟩
theorem OwnG.fr {w w' : World} {B : Nat} {v : Value} {L : List Sg} (h : OwnG w B v L) (hf : Fr (fun _ => False) w w') : OwnG w' B v L := by
  rcases hv : v.ownBlock with _ | k
  · exact World.ownsRow.kept h hf.grownBy (.inl hv)
  · exact World.ownsRow.kept h hf.grownBy (.inr (by rw [hv]; simp))
theorem Below.of_fr {B : Nat} {w w' : World} (h : Fr (fun _ => False) w w') (hB : B ≤ w.heap.size) : Below B w w' := h.below hB (fun _ _ h => h)

/-- append of one sign. -/
theorem wpList_app_sg {ops : Array Oper} {rest : List Oper} {o : Oper} {a : Act} {Q : Exit → Act → World → Prop} (wx : World) (g : Sg) (hgd : o.guard = none) (s x : Operand)
    (ho : o.op = .call { callee := .builtin .append, args := #[s, x], argTypes := #[56, 56] }) (B : Nat) (v : Value) (L : List Sg) (hs : a.eval s = v) (hown : OwnG wx B v L)
    (hx : a.eval x = .slice (some ⟨wx.heap.size, 0, none⟩) 1 1) (hn : L.length ≤ 1000) (hB : B ≤ wx.heap.size) (w : World) (hbe : Below B w wx)
    (h : ∀ v' w', OwnG w' B v' (L ++ [g]) → Below B w w' → wpList Tryd.prog ops Q rest (a.put o.dst v') w') : wpList Tryd.prog ops Q (o :: rest) a (wx.alloc (.cells (sgR g) 62)) := by
  obtain ⟨i0, hi0, hz0, hz1, hz2⟩ := info_parts Tryd.info62
  refine wpList_append_own _ hgd s x 56 ho B 62 i0 (.agg Z62) 259 272 Tryd.underlying56 hi0 hz0 hz1 hz2 (sgA_len zeroSg) (by decide) v L.length (L.flatMap sgA) hs (hown.alloc _) ⟨wx.heap.size, 0, none⟩ 1 1 (sgA g) hx (by rw [sgA_len])
    (fun j u hj => ?_) (sgA_one g) (by unfold maxLen; omega) (by omega) (Nat.le_trans hB (by simp)) (fun v' w' h1 h2 _ => h v' w' ?_ ?_)
  · rw [Addr.add_mid, Nat.zero_add]
    exact (Blk.new wx 62 (sgR g)).cell j (by unfold sgR; simpa using hj)
  · unfold OwnG
    rw [List.length_append, List.flatMap_append]
    simpa using h1
  · exact (hbe.alloc hB _).grown h2 (by simp; omega) (fun j hj => (World.ownsRow.lt hown j hj).1)

/-- What signs answers. -/
def SigPost (w : World) (X : Option (List Sg)) (e : Ending) (w' : World) : Prop :=
  ∃ (v : Value) (ok : Bool), e = .returned (.tuple #[v, .bool ok]) ∧ Below w.heap.size w w' ∧
    (match X with | none => ok = false | some L => ok = true ∧ OwnG w' w.heap.size v L)

theorem signs_long (p : ByteArray) (w : World) (hp : 100 < p.size) (hm : p.size ≤ 9223372036854775807) : Calls Tryd.prog 34 #[.string p] w (SigPost w (sigF p.data.toList)) := by
  have HX := Lib.hid (show sigF p.data.toList = none by unfold sigF; rw [if_pos (by rw [← size_len]; exact hp)])
  have h1 : (100 : Int) < (p.size : Int) := by omega
  go_enter Tryd.func34, Tryd.ntmps34
  go_wp2_with (fail)
  go_ret2
  exact ⟨_, false, rfl, Below.refl _ _, by rw [HX.out]⟩

set_option maxRecDepth 100000 in
set_option maxHeartbeats 4000000 in
theorem signs_short (p : ByteArray) (w : World) (hp : p.size ≤ 100) : Calls Tryd.prog 34 #[.string p] w (SigPost w (sigF p.data.toList)) := by
  have HX := Lib.hid (show sigF p.data.toList = sigS (p.data.toList.length + 1) p.data.toList by unfold sigF; rw [if_neg (by rw [← size_len]; omega)])
  have h1 : (p.size : Int) ≤ 100 := by omega
  have hl := size_len p
  have HL := Lib.hid hl
  have HP := Lib.hid hp
  have k1 : Z62.setIfInBounds 0 (.int .i64 1) = sgR ⟨1, 0, false, noSet⟩ := kind_set 1
  have k2 : Z62.setIfInBounds 0 (.int .i64 2) = sgR ⟨2, 0, false, noSet⟩ := kind_set 2
  have k3 : Z62.setIfInBounds 0 (.int .i64 3) = sgR ⟨3, 0, false, noSet⟩ := kind_set 3
  clear hl
  go_enter Tryd.func34, Tryd.ntmps34
  go_wp2_with (fail)
  go_loopg [4, 5] (p.size + 1) (fun gk x4 x5 wr => ∃ (j : Nat) (q : List UInt8) (L : List Sg) (fu : Nat), j ≤ p.size ∧ Hid (gk = q.length + 1) ∧ x5 = .int .i64 j ∧ Hid (p.data.toList.drop j = q) ∧ Hid (OwnG wr w.heap.size x4 L) ∧ Hid (Below w.heap.size w wr) ∧ Hid (q.length < fu) ∧ Hid (L.length + q.length ≤ 100) ∧ Hid (sigF p.data.toList = (sigS fu q).map (L ++ ·)))
  case atStart =>
    refine ⟨0, p.data.toList, [], p.data.toList.length + 1, Nat.zero_le _, Lib.hid (by rw [HL.out]), rfl, Lib.hid rfl, Lib.hid (OwnG.nil _ _), Lib.hid (Below.refl _ _), Lib.hid (Nat.lt_succ_self _), Lib.hid (by have := HL.out; have := HP.out; simp; omega), Lib.hid ?_⟩
    rw [HX.out]; simp
  case round =>
    obtain ⟨j, q, L, fu, hj, HG, rfl, HQ, HOW, HBE, HFU, HLL, HSF⟩ := hrel
    obtain ⟨fu, rfl⟩ : ∃ m, fu = m + 1 := ⟨fu - 1, by have := HFU.out; omega⟩
    have e2 : (j : Int) ≤ 100 := by omega
    rcases q with _ | ⟨c, t⟩
    · have hl := len_drop HQ.out hj
      have e1 : (p.size : Int) ≤ (j : Int) := by simp at hl; omega
      have HXX := Lib.hid (show sigF p.data.toList = some L by rw [HSF.out]; simp [sigS])
      clear hl
      go_wp2_with (fail)
      go_ret2
      refine ⟨_, true, rfl, HBE.out, ?_⟩
      rw [HXX.out]
      exact ⟨rfl, HOW.out⟩
    · obtain ⟨hjs, hx, ht⟩ := at_cons HQ.out
      have hl := len_drop HQ.out hj
      have e1 : (j : Int) < (p.size : Int) := by omega
      have HLN := Lib.hid (show L.length ≤ 1000 by have := HLL.out; omega)
      have hne : ∀ (k : UInt8), c ≠ k → (((p[j]'hjs).toNat : Int) == (k.toNat : Int)) = false := fun k hk => by
        rw [hx]
        have : c.toNat ≠ k.toNat := fun e => hk (UInt8.toNat_inj.1 e)
        simp; omega
      by_cases h63 : c = 63
      · have b1 : (((p[j]'hjs).toNat : Int) == 42) = false := hne 42 (by rw [h63]; decide)
        have b2 : (((p[j]'hjs).toNat : Int) == 63) = true := by rw [hx, h63]; rfl
        have HN := Lib.hid (show sigF p.data.toList = (sigS fu t).map ((L ++ [⟨3, 0, false, noSet⟩]) ++ ·) by
          rw [HSF.out, h63, sigS_any, map_app])
        have HT := Lib.hid ht
        have HLQ := Lib.hid (show t.length < (c :: t).length by simp)
        have HNX := Lib.hid (show j + 1 ≤ p.size by omega)
        clear hx hl hne h63
        go_wp2_with (first | (refine wpList_bs ⟨3, 0, false, noSet⟩ rfl _ rfl rfl ?_) | (at_builtin; refine wpList_app_sg wr ⟨3, 0, false, noSet⟩ rfl (.tmp 59) (.tmp 61) rfl w.heap.size _ L rfl HOW.out rfl HLN.out HBE.out.size w HBE.out ?_; intro v' w9 ho9 hb9; have HO9 := Lib.hid ho9; have HB9 := Lib.hid hb9; clear ho9 hb9) | fail)
        go_roundg ((t : List UInt8).length + 1)
        case measure => have := HG.out; have := HLQ.out; simp only [List.length_cons] at *; omega
        case rel => exact ⟨j + 1, t, L ++ [⟨3, 0, false, noSet⟩], fu, HNX.out, Lib.hid rfl, by go_num, HT, HO9, HB9, Lib.hid (by have := HFU.out; have := HLQ.out; simp only [List.length_cons] at *; omega), Lib.hid (by have := HLL.out; have := HLQ.out; simp only [List.length_append, List.length_cons, List.length_nil] at *; omega), HN⟩
      by_cases h91 : c = 91
      · have b1 : (((p[j]'hjs).toNat : Int) == 42) = false := hne 42 (by rw [h91]; decide)
        have b2 : (((p[j]'hjs).toNat : Int) == 63) = false := hne 63 h63
        have b3 : (((p[j]'hjs).toNat : Int) == 91) = true := by rw [hx, h91]; rfl
        rcases hcf : clsF t with _ | ⟨neg, S, r⟩
        · have HC := Lib.hid (fun wx => (show Calls Tryd.prog 43 #[.string p, .int .i64 ((j : Int) + 1)] wx _ from class_none p (j + 1) t wx (by omega) HP.out ht hcf))
          have HN := Lib.hid (show sigF p.data.toList = none by rw [HSF.out, h91, sigS_cls, hcf]; rfl)
          clear hx hl hne h63 h91 hcf ht
          go_wp2_with (first
            | (go_at_call 43; (refine (HC.out _).mono ?_); rintro e w2 ⟨A, nn, rfl, hf⟩; have hsz := sgR_size A; have HB2 := Lib.hid (HBE.out.trans (Below.of_fr hf HBE.out.size)); have HNW := Lib.hid (Blk.new w2 62 Z62); clear hf)
            | (refine wpList_store_row rfl 62 _ _ rfl w2.heap.size (sgR A) rfl rfl 62 Z62 HNW.out (size_sg _) (by rw [sgR_size]; rfl) (sgR_one _) ?_; rw [World.setRow_alloc_new])
            | fail)
          go_ret2
          refine ⟨_, false, rfl, HB2.out.alloc HB2.out.size _, ?_⟩
          rw [HN.out]
        · have HC := Lib.hid (fun wx => (show Calls Tryd.prog 43 #[.string p, .int .i64 ((j : Int) + 1)] wx _ from class_some p (j + 1) t r neg S wx (by omega) HP.out ht hcf))
          obtain ⟨hsuf, hlt⟩ := clsF_suf hcf
          have HN := Lib.hid (show sigF p.data.toList = (sigS fu r).map ((L ++ [⟨4, 0, neg, S⟩]) ++ ·) by
            rw [HSF.out, h91, sigS_cls, hcf]; simp only; rw [map_app])
          have HT := Lib.hid (drop_suf ht hsuf)
          have HLQ := Lib.hid (show r.length < (c :: t).length by simp only [List.length_cons]; omega)
          obtain ⟨nx, hnx⟩ : ∃ nx, nx = p.size - r.length := ⟨_, rfl⟩
          rw [← hnx] at HC HT
          have HNX := Lib.hid (show nx ≤ p.size by omega)
          have n1 : (nx : Int) ≤ 100 := by omega
          have n2 : (1 : Int) ≤ (nx : Int) := by simp only [List.length_cons] at hl; omega
          have hsz := sgR_size ⟨4, 0, neg, S⟩
          clear hx hl hne h63 h91 hcf ht hsuf hlt hnx
          go_wp2_with (first
            | (go_at_call 43; (refine (HC.out _).mono ?_); rintro e w2 ⟨rfl, hf⟩; have HB2 := Lib.hid ((HBE.out.trans (Below.of_fr hf HBE.out.size)).alloc (HBE.out.trans (Below.of_fr hf HBE.out.size)).size (.cells (sgR ⟨4, 0, neg, S⟩) 62)); have HO2 := Lib.hid ((HOW.out.fr hf).alloc (.cells (sgR ⟨4, 0, neg, S⟩) 62)); have HNW := Lib.hid (Blk.new w2 62 Z62); have HNV := Lib.hid (Blk.new w2 62 (sgR ⟨4, 0, neg, S⟩)); clear hf)
            | (refine wpList_store_row rfl 62 _ _ rfl w2.heap.size (sgR ⟨4, 0, neg, S⟩) rfl rfl 62 Z62 HNW.out (size_sg _) (by rw [sgR_size]; rfl) (sgR_one _) ?_; rw [World.setRow_alloc_new]; generalize w2.alloc (.cells (sgR ⟨4, 0, neg, S⟩) 62) = w3 at HB2 HO2 HNV ⊢; generalize w2.heap.size = g3 at HNV ⊢)
            | (refine wpList_load_row rfl 62 _ rfl g3 rfl 62 (sgR ⟨4, 0, neg, S⟩) (0, 0) _ HNV.out Tryd.underlying62 rfl (size_sg _) ?_)
            | (refine wpList_bs ⟨4, 0, neg, S⟩ rfl _ rfl rfl ?_) | (at_builtin; refine wpList_app_sg w3 ⟨4, 0, neg, S⟩ rfl (.tmp 75) (.tmp 77) rfl w.heap.size _ L rfl HO2.out rfl HLN.out HB2.out.size w HB2.out ?_; intro v' w9 ho9 hb9; have HO9 := Lib.hid ho9; have HB9 := Lib.hid hb9; clear ho9 hb9) | fail)
          go_roundg ((r : List UInt8).length + 1)
          case measure => have := HG.out; have := HLQ.out; simp only [List.length_cons] at *; omega
          case rel => exact ⟨nx, r, L ++ [⟨4, 0, neg, S⟩], fu, HNX.out, Lib.hid rfl, rfl, HT, HO9, HB9, Lib.hid (by have := HFU.out; have := HLQ.out; simp only [List.length_cons] at *; omega), Lib.hid (by have := HLL.out; have := HLQ.out; simp only [List.length_append, List.length_cons, List.length_nil] at *; omega), HN⟩
      by_cases h92 : c = 92
      · have b1 : (((p[j]'hjs).toNat : Int) == 42) = false := hne 42 (by rw [h92]; decide)
        have b2 : (((p[j]'hjs).toNat : Int) == 63) = false := hne 63 h63
        have b3 : (((p[j]'hjs).toNat : Int) == 91) = false := hne 91 h91
        have b4 : (((p[j]'hjs).toNat : Int) == 92) = true := by rw [hx, h92]; rfl
        rcases t with _ | ⟨d, u⟩
        · have HN := Lib.hid (show sigF p.data.toList = none by rw [HSF.out, h92, sigS_esc]; rfl)
          have e3 : ((j : Int) + 1 == (p.size : Int)) = true := by simp at hl; simp; omega
          clear hx hl hne h63 h91 h92 ht
          go_wp2_with (fail)
          go_ret2
          refine ⟨_, false, rfl, HBE.out, ?_⟩
          rw [HN.out]
        · obtain ⟨hds, hdx, hdt⟩ := at_cons ht
          have e3 : ((j : Int) + 1 == (p.size : Int)) = false := by simp only [List.length_cons] at hl; simp; omega
          have e4 : (j : Int) + 1 < (p.size : Int) := by omega
          have HN := Lib.hid (show sigF p.data.toList = (sigS fu u).map ((L ++ [⟨0, d, false, noSet⟩]) ++ ·) by
            rw [HSF.out, h92, sigS_esc]; simp only; rw [map_app])
          have HT := Lib.hid hdt
          have HLQ := Lib.hid (show u.length < (c :: d :: u).length by simp only [List.length_cons]; omega)
          have HNX := Lib.hid (show j + 1 + 1 ≤ p.size by omega)
          have kb : Z62.setIfInBounds 1 (.int .u8 ((p[j + 1]'hds).toNat : Int)) = sgR ⟨0, d, false, noSet⟩ := by rw [hdx]; exact byte_set d
          clear hx hl hne h63 h91 h92 ht hdx hdt
          go_wp2_with (first | (refine wpList_bs ⟨0, d, false, noSet⟩ rfl _ rfl rfl ?_) | (at_builtin; refine wpList_app_sg wr ⟨0, d, false, noSet⟩ rfl (.tmp 89) (.tmp 94) rfl w.heap.size _ L rfl HOW.out rfl HLN.out HBE.out.size w HBE.out ?_; intro v' w9 ho9 hb9; have HO9 := Lib.hid ho9; have HB9 := Lib.hid hb9; clear ho9 hb9) | fail)
          go_roundg ((u : List UInt8).length + 1)
          case measure => have := HG.out; have := HLQ.out; simp only [List.length_cons] at *; omega
          case rel => exact ⟨j + 1 + 1, u, L ++ [⟨0, d, false, noSet⟩], fu, HNX.out, Lib.hid rfl, by go_num, HT, HO9, HB9, Lib.hid (by have := HFU.out; have := HLQ.out; simp only [List.length_cons] at *; omega), Lib.hid (by have := HLL.out; have := HLQ.out; simp only [List.length_append, List.length_cons, List.length_nil] at *; omega), HN⟩
      by_cases h42 : c = 42
      · have b1 : (((p[j]'hjs).toNat : Int) == 42) = true := by rw [hx, h42]; rfl
        have HTT := Lib.hid ht
        clear hx hl hne h63 h91 h92 ht
        go_wp2_with (fail)
        obtain ⟨wo, rfl⟩ : ∃ wo : World, wo = wr := ⟨_, rfl⟩
        go_loopg [5] t.length (fun gk x5 wl => ∃ (m : Nat) (u : List UInt8), Hid (gk = u.length) ∧ x5 = .int .i64 m ∧ m < p.size ∧ j ≤ m ∧ Hid (p.data.toList.drop (m + 1) = u) ∧ Hid (strip u = strip t) ∧ Hid (m - j + u.length = t.length) ∧ wl = wo)
        case atStart => exact ⟨j, t, Lib.hid rfl, rfl, hjs, Nat.le_refl _, HTT, Lib.hid rfl, Lib.hid (by omega), rfl⟩
        case round =>
          obtain ⟨m, u, HGI, rfl, hmp, hjm, HMT, HST, HMJ, rfl⟩ := hrel
          have hl2 := len_drop HMT.out (by omega)
          have e7 : (m : Int) ≤ 100 := by omega
          have e8 : (m : Int) < (p.size : Int) := by omega
          have HNX := Lib.hid (show m + 1 ≤ p.size by omega)
          have HT := HMT
          have HLQ := Lib.hid (show u.length < (c :: t).length by have := HMJ.out; simp only [List.length_cons]; omega)
          rcases hu : u with _ | ⟨d, u'⟩
          · have e9 : (p.size : Int) ≤ (m : Int) + 1 := by rw [hu] at hl2; simp at hl2; omega
            have hsu : strip u = u := by rw [hu]; rfl
            clear hl2 hu
            by_cases hmj : m = j
            · have HN := Lib.hid (show sigF p.data.toList = (sigS fu u).map ((L ++ [⟨2, 0, false, noSet⟩]) ++ ·) by
                have hut : u = t := by rw [← HMT.out, ← HTT.out, hmj]
                rw [HSF.out, h42, sigS_star, ← HST.out, hsu, hut, if_pos rfl, map_app])
              have e5 : (m : Int) ≤ (j : Int) := by omega
              have e6 : decide (j < m) = false := by simp; omega
              clear hmj h42 hsu
              go_wp2_with (first | (refine wpList_bs ⟨2, 0, false, noSet⟩ rfl _ rfl rfl ?_) | (at_builtin; refine wpList_app_sg wr ⟨2, 0, false, noSet⟩ rfl (.tmp 53) (.tmp 55) rfl w.heap.size _ L rfl HOW.out rfl HLN.out HBE.out.size w HBE.out ?_; intro v' w9 ho9 hb9; have HO9 := Lib.hid ho9; have HB9 := Lib.hid hb9; clear ho9 hb9) | fail)
              go_roundg ((u : List UInt8).length + 1)
              case measure => have := HG.out; have := HLQ.out; simp only [List.length_cons] at *; omega
              case rel => exact ⟨m + 1, u, L ++ [⟨2, 0, false, noSet⟩], fu, HNX.out, Lib.hid rfl, by go_num, HT, HO9, HB9, Lib.hid (by have := HFU.out; have := HLQ.out; simp only [List.length_cons] at *; omega), Lib.hid (by have := HLL.out; have := HLQ.out; simp only [List.length_append, List.length_cons, List.length_nil] at *; omega), HN⟩
            · have HN := Lib.hid (show sigF p.data.toList = (sigS fu u).map ((L ++ [⟨1, 0, false, noSet⟩]) ++ ·) by
                have hut : ¬ u = t := fun e => by have := HMJ.out; rw [e] at this; omega
                rw [HSF.out, h42, sigS_star, ← HST.out, hsu, if_neg hut, map_app])
              have e5 : (j : Int) < (m : Int) := by omega
              have e6 : decide (j < m) = true := by simp; omega
              clear hmj h42 hsu
              go_wp2_with (first | (refine wpList_bs ⟨1, 0, false, noSet⟩ rfl _ rfl rfl ?_) | (at_builtin; refine wpList_app_sg wr ⟨1, 0, false, noSet⟩ rfl (.tmp 49) (.tmp 51) rfl w.heap.size _ L rfl HOW.out rfl HLN.out HBE.out.size w HBE.out ?_; intro v' w9 ho9 hb9; have HO9 := Lib.hid ho9; have HB9 := Lib.hid hb9; clear ho9 hb9) | fail)
              go_roundg ((u : List UInt8).length + 1)
              case measure => have := HG.out; have := HLQ.out; simp only [List.length_cons] at *; omega
              case rel => exact ⟨m + 1, u, L ++ [⟨1, 0, false, noSet⟩], fu, HNX.out, Lib.hid rfl, by go_num, HT, HO9, HB9, Lib.hid (by have := HFU.out; have := HLQ.out; simp only [List.length_cons] at *; omega), Lib.hid (by have := HLL.out; have := HLQ.out; simp only [List.length_append, List.length_cons, List.length_nil] at *; omega), HN⟩
          · obtain ⟨hds, hdx, hdt⟩ := at_cons (HMT.out.trans hu)
            have e9 : (m : Int) + 1 < (p.size : Int) := by omega
            by_cases hd : d = 42
            · have b9 : (((p[m + 1]'hds).toNat : Int) == 42) = true := by rw [hdx, hd]; rfl
              have HS2 := Lib.hid (show strip u' = strip t by rw [← HST.out, hu, hd]; rfl)
              have HJ2 := Lib.hid (show m + 1 - j + u'.length = t.length by have := HMJ.out; rw [hu, List.length_cons] at this; omega)
              have HG2 := Lib.hid (show u'.length < _ from (by rw [HGI.out, hu, List.length_cons]; exact Nat.lt_succ_self _ : u'.length < gk))
              have HD2 := Lib.hid hdt
              have HM2 := Lib.hid (show m + 1 < p.size from hds)
              have HJM := Lib.hid (show j ≤ m + 1 by omega)
              clear hdx hdt hd hu hl2
              go_wp2_with (fail)
              go_roundg u'.length
              case measure => exact HG2.out
              case rel => exact ⟨m + 1, u', Lib.hid rfl, by go_num, HM2.out, HJM.out, HD2, HS2, HJ2, rfl⟩
            · have b9 : (((p[m + 1]'hds).toNat : Int) == 42) = false := by
                rw [hdx]
                have : d.toNat ≠ 42 := fun e => hd (UInt8.toNat_inj.1 (by rw [e]; rfl))
                simp; omega
              have hsu : strip u = u := by rw [hu]; unfold strip; rw [if_neg hd]
              clear hl2 hdx hdt hd hu
              by_cases hmj : m = j
              · have HN := Lib.hid (show sigF p.data.toList = (sigS fu u).map ((L ++ [⟨2, 0, false, noSet⟩]) ++ ·) by
                  have hut : u = t := by rw [← HMT.out, ← HTT.out, hmj]
                  rw [HSF.out, h42, sigS_star, ← HST.out, hsu, hut, if_pos rfl, map_app])
                have e5 : (m : Int) ≤ (j : Int) := by omega
                have e6 : decide (j < m) = false := by simp; omega
                clear hmj h42 hsu
                go_wp2_with (first | (refine wpList_bs ⟨2, 0, false, noSet⟩ rfl _ rfl rfl ?_) | (at_builtin; refine wpList_app_sg wr ⟨2, 0, false, noSet⟩ rfl (.tmp 53) (.tmp 55) rfl w.heap.size _ L rfl HOW.out rfl HLN.out HBE.out.size w HBE.out ?_; intro v' w9 ho9 hb9; have HO9 := Lib.hid ho9; have HB9 := Lib.hid hb9; clear ho9 hb9) | fail)
                go_roundg ((u : List UInt8).length + 1)
                case measure => have := HG.out; have := HLQ.out; simp only [List.length_cons] at *; omega
                case rel => exact ⟨m + 1, u, L ++ [⟨2, 0, false, noSet⟩], fu, HNX.out, Lib.hid rfl, by go_num, HT, HO9, HB9, Lib.hid (by have := HFU.out; have := HLQ.out; simp only [List.length_cons] at *; omega), Lib.hid (by have := HLL.out; have := HLQ.out; simp only [List.length_append, List.length_cons, List.length_nil] at *; omega), HN⟩
              · have HN := Lib.hid (show sigF p.data.toList = (sigS fu u).map ((L ++ [⟨1, 0, false, noSet⟩]) ++ ·) by
                  have hut : ¬ u = t := fun e => by have := HMJ.out; rw [e] at this; omega
                  rw [HSF.out, h42, sigS_star, ← HST.out, hsu, if_neg hut, map_app])
                have e5 : (j : Int) < (m : Int) := by omega
                have e6 : decide (j < m) = true := by simp; omega
                clear hmj h42 hsu
                go_wp2_with (first | (refine wpList_bs ⟨1, 0, false, noSet⟩ rfl _ rfl rfl ?_) | (at_builtin; refine wpList_app_sg wr ⟨1, 0, false, noSet⟩ rfl (.tmp 49) (.tmp 51) rfl w.heap.size _ L rfl HOW.out rfl HLN.out HBE.out.size w HBE.out ?_; intro v' w9 ho9 hb9; have HO9 := Lib.hid ho9; have HB9 := Lib.hid hb9; clear ho9 hb9) | fail)
                go_roundg ((u : List UInt8).length + 1)
                case measure => have := HG.out; have := HLQ.out; simp only [List.length_cons] at *; omega
                case rel => exact ⟨m + 1, u, L ++ [⟨1, 0, false, noSet⟩], fu, HNX.out, Lib.hid rfl, by go_num, HT, HO9, HB9, Lib.hid (by have := HFU.out; have := HLQ.out; simp only [List.length_cons] at *; omega), Lib.hid (by have := HLL.out; have := HLQ.out; simp only [List.length_append, List.length_cons, List.length_nil] at *; omega), HN⟩
      · have b1 : (((p[j]'hjs).toNat : Int) == 42) = false := hne 42 h42
        have b2 : (((p[j]'hjs).toNat : Int) == 63) = false := hne 63 h63
        have b3 : (((p[j]'hjs).toNat : Int) == 91) = false := hne 91 h91
        have b4 : (((p[j]'hjs).toNat : Int) == 92) = false := hne 92 h92
        have HN := Lib.hid (show sigF p.data.toList = (sigS fu t).map ((L ++ [⟨0, c, false, noSet⟩]) ++ ·) by
          rw [HSF.out, sigS_byte _ _ _ h42 h63 h91 h92, map_app])
        have HT := Lib.hid ht
        have HLQ := Lib.hid (show t.length < (c :: t).length by simp)
        have HNX := Lib.hid (show j + 1 ≤ p.size by omega)
        have kb : Z62.setIfInBounds 1 (.int .u8 ((p[j]'hjs).toNat : Int)) = sgR ⟨0, c, false, noSet⟩ := by rw [hx]; exact byte_set c
        clear hx hl hne h63 h91 h92 h42 ht
        go_wp2_with (first | (refine wpList_bs ⟨0, c, false, noSet⟩ rfl _ rfl rfl ?_) | (at_builtin; refine wpList_app_sg wr ⟨0, c, false, noSet⟩ rfl (.tmp 22) (.tmp 27) rfl w.heap.size _ L rfl HOW.out rfl HLN.out HBE.out.size w HBE.out ?_; intro v' w9 ho9 hb9; have HO9 := Lib.hid ho9; have HB9 := Lib.hid hb9; clear ho9 hb9) | fail)
        go_roundg ((t : List UInt8).length + 1)
        case measure => have := HG.out; have := HLQ.out; simp only [List.length_cons] at *; omega
        case rel => exact ⟨j + 1, t, L ++ [⟨0, c, false, noSet⟩], fu, HNX.out, Lib.hid rfl, by go_num, HT, HO9, HB9, Lib.hid (by have := HFU.out; have := HLQ.out; simp only [List.length_cons] at *; omega), Lib.hid (by have := HLL.out; have := HLQ.out; simp only [List.length_append, List.length_cons, List.length_nil] at *; omega), HN⟩
end Go.Proofs.YtmmobhmiemmioaaDoor
