/- Rules: Lines of a text that Text wrote. -/
import Derived.Test.YtmmobhmiemmioaaDoorLnP
namespace Go.Proofs.YtmmobhmiemmioaaDoor
open Go.RowKit

theorem Tryd.info36 : (Tryd.prog.info? 36).map (fun i => (i.zero, i.size, i.bytes)) = some (some (.agg #[.int .i64 0, .string ⟨#[]⟩, .bool false, .bool false]), 4, 32) := by kernel_rfl
/-- Rules that the call owns. -/
def OwnR (w : World) (B : Nat) (v : Value) (L : List R) : Prop := w.ownsRow B 36 4 v L.length (L.flatMap R.cs)
theorem OwnR.nil (w : World) (B : Nat) : OwnR w B (.slice none 0 0) [] := World.ownsRow_nil _ _ _ _
theorem OwnR.alloc {w : World} {B : Nat} {v : Value} {L : List R} (h : OwnR w B v L) (o : Obj) : OwnR (w.alloc o) B v L := World.ownsRow.alloc h o
theorem OwnR.fr {w w' : World} {B : Nat} {v : Value} {L : List R} (h : OwnR w B v L) (hf : Fr (fun _ => False) w w') : OwnR w' B v L := by
  rcases hv : v.ownBlock with _ | k
  · exact World.ownsRow.kept h hf.grownBy (.inl hv)
  · exact World.ownsRow.kept h hf.grownBy (.inr (by rw [hv]; simp))
theorem flatR_at : ∀ (L : List R) (k : Nat) (r : R), L[k]? = some r → ∀ j v, r.cs[j]? = some v → (L.flatMap R.cs)[k * 4 + j]? = some v := by
  intro L
  induction L with
  | nil => intro k r h; simp at h
  | cons x t ih =>
    intro k r h j v hj
    have hj2 : j < 4 := (List.getElem?_eq_some_iff.1 hj).1
    have hx4 : x.cs.length = 4 := rfl
    rw [List.flatMap_cons]
    rcases k with _ | k
    · have hx : x = r := by simpa using h
      subst hx
      rw [Nat.zero_mul, Nat.zero_add, List.getElem?_append_left (by rw [hx4]; exact hj2)]; exact hj
    · rw [List.getElem?_append_right (by rw [hx4]; omega), hx4, show (k + 1) * 4 + j - 4 = k * 4 + j by omega]
      exact ih k r (by simpa using h) j v hj
theorem OwnR.row {w : World} {B : Nat} {v : Value} {L : List R} (h : OwnR w B v L) : ∃ ad cap, v = .slice ad L.length cap ∧ RRow w ad L := by
  rcases h.2 with ⟨rfl, h0⟩ | ⟨g, cap, cur, rfl, _, hb, hn, _, hc, ht⟩
  · exact ⟨none, 0, by rw [h0], fun k s hk => (by rw [List.getElem?_eq_none (by omega)] at hk; cases hk)⟩
  · refine ⟨some ⟨g, 0, none⟩, cap, rfl, fun k r hk => ⟨⟨g, 0, none⟩, rfl, ?_⟩⟩
    have hkl : k < L.length := (List.getElem?_eq_some_iff.1 hk).1
    refine ⟨by rw [add_blk]; exact lt_of_block hb, fun j v hj => ?_⟩
    have hj2 : j < 4 := (List.getElem?_eq_some_iff.1 hj).1
    rw [Addr.add_mid, Addr.add_mid, Nat.zero_add]
    have h1 := flatR_at L k r hk j v hj
    rw [← ht, List.getElem?_take_of_lt (by omega), Array.getElem?_toList] at h1
    exact Blk.cell hb _ h1
/-- append of one rule. -/
theorem wpList_app_r {ops : Array Oper} {rest : List Oper} {o : Oper} {a : Act} {Q : Exit → Act → World → Prop} (wx : World) (r : R) (hgd : o.guard = none) (s x : Operand)
    (ho : o.op = .call { callee := .builtin .append, args := #[s, x], argTypes := #[22, 22] }) (B : Nat) (v : Value) (L : List R) (hs : a.eval s = v) (hown : OwnR wx B v L)
    (g : Nat) (hg : g = wx.heap.size) (hx : a.eval x = .slice (some ⟨g, 0, none⟩) 1 1) (hn : L.length ≤ 1000) (hB : B ≤ wx.heap.size) (w : World) (hbe : Below B w wx)
    (h : ∀ v' w', OwnR w' B v' (L ++ [r]) → Below B w w' → wpList Tryd.prog ops Q rest (a.put o.dst v') w') : wpList Tryd.prog ops Q (o :: rest) a (wx.alloc (.cells r.cs.toArray 36)) := by
  subst hg
  obtain ⟨i0, hi0, hz0, hz1, hz2⟩ := info_parts Tryd.info36
  refine wpList_append_own _ hgd s x 22 ho B 36 i0 _ 4 32 Tryd.underlying22 hi0 hz0 hz1 hz2 rfl (by decide) v L.length (L.flatMap R.cs) hs (World.ownsRow.alloc hown _) ⟨wx.heap.size, 0, none⟩ 1 1 r.cs hx rfl
    (fun j u hj => ?_) (cs_one r) (by unfold maxLen; omega) (by omega) (Nat.le_trans hB (by simp)) (fun v' w' h1 h2 _ => h v' w' ?_ ?_)
  · rw [Addr.add_mid, Nat.zero_add]
    exact (Blk.new wx 36 r.cs.toArray).cell j (by simpa using hj)
  · unfold OwnR
    rw [List.length_append, List.flatMap_append]
    simpa using h1
  · exact (hbe.alloc hB _).grown h2 (by simp; omega) (fun j hj => (World.ownsRow.lt hown j hj).1)

set_option maxHeartbeats 4000000 in
theorem lin_spec (L : List R) (w : World) (m : Int) (h0 : chkL L = 0) (hm : w.cell? ⟨0, 0, none⟩ = some (.int .i64 m)) :
    Calls Tryd.prog 12 #[.string (mkB (txL L))] w fun e w' => ∃ ad cap, e = .returned (.tuple #[.slice ad L.length cap, .int .i64 0, .int .i64 0]) ∧ RRow w' ad L ∧ Fr (fun _ => False) w w' := by
  obtain ⟨hL, hall⟩ := chkL_zero h0
  have hlen := txL_len hall
  obtain ⟨hs1, hs2⟩ := split_tx L hall
  have HSP : Hid (Calls Tryd.prog 21 #[.string (mkB (txL L)), .string ⟨#[10]⟩] w fun e w' => e = .returned (.slice (some ⟨w.heap.size, 0, none⟩) (L.length + 1) (L.length + 1)) ∧ Fr (fun _ => False) w w' ∧ w.heap.size < w'.heap.size ∧ (∀ i x, (LL L)[i]? = some x → w'.cell? ⟨w.heap.size, i, none⟩ = some (.string x))) := Lib.hid (by
    have := Tryd.strings_Split (mkB (txL L)) ⟨#[10]⟩ m w (by rw [mkB_size]; omega) hm (by decide)
    rw [hs1, hs2] at this
    refine this.mono ?_
    rintro e w' ⟨rfl, rfl⟩
    refine ⟨rfl, (Fr.refl _ _).alloc _, by simp, fun i x hx => ?_⟩
    refine (Blk.new w 9 _).cell i ?_
    rw [List.getElem?_toArray, List.getElem?_map, hx]; rfl)
  obtain ⟨n, hn⟩ : ∃ n, n = L.length := ⟨_, rfl⟩
  rw [← hn] at HSP hL ⊢
  have HN := Lib.hid hn
  have HALL := Lib.hid hall
  have e64 : (n : Int) ≤ 64 := by omega
  have HLL := Lib.hid (show (∀ i r, L[i]? = some r → (LL L)[i]? = some (mkB (prL r))) ∧ (LL L)[n]? = some ⟨#[]⟩ from by
    refine ⟨fun i r hi => ?_, ?_⟩
    · unfold LL
      rw [List.getElem?_append_left (by rw [List.length_map]; exact (List.getElem?_eq_some_iff.1 hi).1), List.getElem?_map, hi]; rfl
    · unfold LL
      rw [List.getElem?_append_right (by rw [List.length_map, hn]; exact Nat.le_refl _), List.length_map, hn, Nat.sub_self]; rfl)
  clear hn hall hlen hs1 hs2 h0 hm
  generalize mkB (txL L) = tx at HSP ⊢
  generalize LL L = ll at HSP HLL
  have HW : Hid (∀ wx, Fr (fun _ => False) w wx → Fr (fun _ => False) w wx) := Lib.hid (fun _ h => h)
  obtain ⟨b, hb⟩ : ∃ b, b = w.heap.size := ⟨_, rfl⟩
  rw [← hb] at HSP
  clear hb
  go_enter Tryd.func12, Tryd.ntmps12
  go_wp2_with (first | (go_at_call 21; (refine HSP.out.mono ?_); rintro e w1 ⟨rfl, hf, hlt, hc⟩; have HF1 := Lib.hid hf; have HLT := Lib.hid hlt; have HC := Lib.hid hc; clear hf hlt hc HSP) | fail)
  go_loopg [5, 13] (n + 1) (fun gk x5 x13 wr => ∃ i : Nat, i ≤ n + 1 ∧ Hid (gk = n + 1 - i) ∧ Hid (OwnR wr w1.heap.size x5 (L.take i)) ∧ x13 = .int .i64 i ∧ Hid (Below w1.heap.size w1 wr))
  case atStart => exact ⟨0, Nat.zero_le _, Lib.hid rfl, Lib.hid (OwnR.nil _ _), rfl, Lib.hid (Below.refl _ _)⟩
  case round =>
    obtain ⟨i, hi, HG, HOW, rfl, HBE⟩ := hrel
    have i2 : (i : Int) ≤ 65 := by omega
    have HFR := Lib.hid (Fr.ofBelow HBE.out (fun _ => False))
    obtain ⟨ad, cap, hv, hrow⟩ := HOW.out.row
    have HROW := Lib.hid hrow
    clear hrow
    by_cases hin : i < n
    · have i3 : (i : Int) < (n : Int) + 1 := by omega
      have i5 : (i : Int) < 64 := by omega
      have i6 : ((i : Int) == 64) = false := by simp; omega
      have i7 : ¬ (i : Int) = 64 := by omega
      have htl : (L.take i).length = i := by rw [List.length_take, ← HN.out]; omega
      rw [htl] at hv
      obtain ⟨r, hx⟩ : ∃ r, L[i]? = some r := ⟨_, List.getElem?_eq_getElem (by rw [← HN.out]; exact hin)⟩
      have hmem : r ∈ L := List.mem_iff_getElem?.2 ⟨i, hx⟩
      have hr0 := HALL.out r hmem
      have hcell := HC.out i _ (HLL.out.1 i r hx)
      have hcell2 : wr.cell? ⟨b, i, none⟩ = some (.string (mkB (prL r))) := by
        rw [HFR.out.cell (a := ⟨b, i, none⟩) HLT.out (fun h => h)]; exact hcell
      have HPS := Lib.hid (fun wx => prs_spec r wx hr0)
      have HTK := Lib.hid (show L.take i ++ [r] = L.take (i + 1) by rw [List.take_add_one, hx]; rfl)
      have HTL := Lib.hid (show (L.take i).length ≤ 1000 by rw [htl]; omega)
      have hl := prL_len hr0
      have hs2 : 2 ≤ (prL r).length := by unfold prL; simp
      obtain ⟨ln, hln⟩ : ∃ ln, ln = mkB (prL r) := ⟨_, rfl⟩
      have hsz : ln.size = (prL r).length := by rw [hln]; rfl
      have q0 : 0 < ln.size := by omega
      have k0 : ln[0]'q0 = (sgnR r.act).toNat.toUInt8 := get_of (by rw [hln, mkB_data]; rfl) q0
      have q1 : (((ln[0]'q0).toNat : Int) == 35) = false := by
        rw [k0]; rcases chkS_act hr0 with e | e | e | e <;> rw [e] <;> rfl
      have q2 : ¬ ((ln[0]'q0).toNat : Int) = 35 := by simpa using q1
      have q3 : (ln.toList == []) = false := tl_ne q0
      have q4 : ¬ ln.toList = [] := by simpa using q3
      have q5 : (0 : Int) < (ln.size : Int) := by omega
      rw [← hln] at hcell2 HPS
      have HIN := Lib.hid hin
      subst hv
      clear hx hmem hr0 hcell hl hs2 hln hsz k0 htl hin hi
      rcases r with ⟨ra, rp, rd, rc⟩
      go_wp2_with (first
        | (go_at_call 22; (refine (HPS.out _).mono ?_); rintro e w2 ⟨rfl, hf⟩; have HF2 := Lib.hid hf; have HOW2 := Lib.hid ((HOW.out.fr hf).alloc (.cells #[.int .i64 ra, .string rp, .bool rd, .bool rc] 36)); have HB2 := Lib.hid ((HBE.out.trans (Below.of_fr hf HBE.out.size)).alloc (Nat.le_trans HBE.out.size hf.size) (.cells #[.int .i64 ra, .string rp, .bool rd, .bool rc] 36)); clear hf; simp only [R.cs])
        | (at_builtin; refine wpList_app_r (w2.alloc (.cells #[.int .i64 ra, .string rp, .bool rd, .bool rc] 36)) ⟨ra, rp, rd, rc⟩ rfl (.tmp 42) (.tmp 44) rfl w1.heap.size _ _ rfl HOW2.out (w2.heap.size + 1) (by simp) rfl HTL.out HB2.out.size w1 HB2.out ?_; intro v' w9 ho9 hb9; have HO9 := Lib.hid ho9; have HB9 := Lib.hid hb9; clear ho9 hb9)
        | fail)
      go_roundg (n + 1 - (i + 1))
      case measure => have := HG.out; have := HIN.out; omega
      case rel => exact ⟨i + 1, by have := HIN.out; omega, Lib.hid rfl, Lib.hid (by rw [← HTK.out]; exact HO9.out), by go_num, HB9⟩
    · by_cases hin2 : i = n
      · subst hin2
        have i3 : (i : Int) < (i : Int) + 1 := by omega
        have hcell := HC.out i _ HLL.out.2
        have hcell2 : wr.cell? ⟨b, i, none⟩ = some (.string ⟨#[]⟩) := by
          rw [HFR.out.cell (a := ⟨b, i, none⟩) HLT.out (fun h => h)]; exact hcell
        have HTK := Lib.hid (show L.take i = L.take (i + 1) by rw [HN.out, List.take_length, List.take_of_length_le (by omega)])
        clear hcell hin hi
        go_wp2_with (fail)
        go_roundg (i + 1 - (i + 1))
        case measure => have := HG.out; omega
        case rel => exact ⟨i + 1, Nat.le_refl _, Lib.hid rfl, Lib.hid (by rw [← HTK.out]; exact HOW.out), by go_num, HBE⟩
      · obtain rfl : i = n + 1 := by omega
        have htl : L.take (n + 1) = L := List.take_of_length_le (by rw [← HN.out]; omega)
        rw [htl, ← HN.out] at hv
        rw [htl] at HROW
        clear hin hin2 hi
        subst hv
        go_wp2_with (fail)
        refine bodyPost_ret (v := .tuple #[.slice ad n cap, .int .i64 0, .int .i64 0]) ?_ rfl ⟨ad, cap, rfl, HROW.out, HF1.out.trans HFR.out (fun _ _ h => h)⟩
        simp [results, Tryd.results12, go_sem]
end Go.Proofs.YtmmobhmiemmioaaDoor
