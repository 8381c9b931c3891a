/- Rows of bools; the walk of empty. -/
import Derived.Test.YtmmobhmiemmioaaDoorTk
import Derived.Laws.MakeOwn
namespace Go.Proofs.YtmmobhmiemmioaaDoor
open Go.RowKit

/-- A row of bools. -/
def boolA (A : Nat → Bool) (m : Nat) : Array Value := ((List.range m).map fun i => Value.bool (A i)).toArray
theorem boolA_at (A : Nat → Bool) (m i : Nat) (h : i < m) : (boolA A m)[i]? = some (.bool (A i)) := by
  unfold boolA; rw [List.getElem?_toArray, List.getElem?_map, List.getElem?_range h]; rfl
theorem boolA_size (A : Nat → Bool) (m : Nat) : (boolA A m).size = m := by simp [boolA]
theorem boolA_set (A : Nat → Bool) (m k : Nat) : (boolA A m).setIfInBounds k (.bool true) = boolA (addS A k) m := by
  apply Array.ext
  · rw [Array.size_setIfInBounds, boolA_size, boolA_size]
  · intro i h1 h2
    rw [boolA_size] at h2
    have e : ((boolA A m).setIfInBounds k (.bool true))[i]? = (boolA (addS A k) m)[i]? := by
      rw [boolA_at _ m i h2]
      unfold addS
      by_cases hk : k = i
      · subst hk
        rw [Array.getElem?_setIfInBounds_self_of_lt (by rw [boolA_size]; exact h2), if_pos rfl]
      · rw [Array.getElem?_setIfInBounds_ne hk, boolA_at A m i h2, if_neg (Ne.symm hk)]
    rw [Array.getElem?_eq_getElem h1, Array.getElem?_eq_getElem (by rw [boolA_size]; exact h2)] at e
    exact Option.some.inj e
theorem Tryd.info4 : (Tryd.prog.info? 4).map (fun i => (i.zero, i.size, i.bytes)) = some (some (.bool false), 1, 1) := by kernel_rfl
theorem made_bool (m : Nat) : madeCells (Value.bool false).cells (m * 1) = boolA noSet m := by
  unfold madeCells boolA
  rw [Nat.mul_one]
  apply Array.ext
  · simp
  · intro i h1 h2
    simp [noSet, Value.cells, Nat.mod_one]
/-- make([]bool, n), n a variable. -/
theorem wpList_mkb {ops : Array Oper} {rest : List Oper} {o : Oper} {a : Act} {w : World} {Q : Exit → Act → World → Prop} (hg : o.guard = none) (l c : Operand) (hop : o.op = .makeSlice 65 l c) (n : Nat) (hn : n ≤ 1000)
    (hl : a.eval l = .int .i64 (n : Int)) (hc : a.eval c = .int .i64 (n : Int))
    (h : wpList Tryd.prog ops Q rest (a.put o.dst (.slice (some ⟨w.heap.size, 0, none⟩) n n)) (w.alloc (.cells (boolA noSet n) 4))) : wpList Tryd.prog ops Q (o :: rest) a w := by
  obtain ⟨i0, hi0, hz0, hz1, hz2⟩ := info_parts Tryd.info4
  refine wpList_plain hg fun _ hK => ?_
  have hr := run_makeSlice (P := Tryd.prog) (w := w) 65 4 i0 (.bool false) Tryd.underlying65 hi0 hz0 .i64 .i64 (n : Int) (n : Int) (by omega) (Int.le_refl _) (by rw [hz1]; omega) (by rw [hz2]; omega) (by omega)
  rw [Int.toNat_natCast, hz1, made_bool] at hr
  unfold Oper.wp
  simp [execOp, hop, hl, hc, hr, Result.andThen]
  exact hK _ _ h

/-- Signs lie in a row, at its head. -/
def SgRow (w : World) (ad : Option Addr) (L : List Sg) : Prop := ∀ k s, L[k]? = some s → ∃ g, ad = some ⟨g, 0, none⟩ ∧ g < w.heap.size ∧ SgAt w g (k * 259) s
theorem SgAt.fr {S : Nat → Prop} {w w' : World} {b o : Nat} {g : Sg} (h : SgAt w b o g) (f : Fr S w w') (hb : b < w.heap.size) (hS : ¬ S b) : SgAt w' b o g :=
  ⟨by rw [f.cell (a := ⟨b, o, none⟩) hb hS]; exact h.kd, by rw [f.cell (a := ⟨b, o + 1, none⟩) hb hS]; exact h.ch, by rw [f.cell (a := ⟨b, o + 2, none⟩) hb hS]; exact h.ng,
   fun i hi => by rw [f.cell (a := ⟨b, o + 3 + i, none⟩) hb hS]; exact h.st i hi⟩
theorem OwnG.row {w : World} {B : Nat} {v : Value} {L : List Sg} (h : OwnG w B v L) : ∃ ad cap, v = .slice ad L.length cap ∧ SgRow w ad L ∧ ∀ g, ad = some ⟨g, 0, none⟩ → g < w.heap.size := by
  rcases h.2 with ⟨rfl, h0⟩ | ⟨g, cap, cur, rfl, _, hb, hn, _, hc, ht⟩
  · exact ⟨none, 0, by rw [h0], fun k s hk => (by rw [List.getElem?_eq_none (by omega)] at hk; cases hk), fun g hg => by cases hg⟩
  · refine ⟨some ⟨g, 0, none⟩, cap, rfl, fun k s hk => ⟨g, rfl, lt_of_block hb, ?_⟩, fun g' hg' => by cases hg'; exact lt_of_block hb⟩
    have hkl : k < L.length := (List.getElem?_eq_some_iff.1 hk).1
    have key : ∀ (L : List Sg) (k : Nat) (s : Sg), L[k]? = some s → ∀ j v, (sgA s)[j]? = some v → (L.flatMap sgA)[k * 259 + j]? = some v := by
      intro L
      induction L with
      | nil => intro k s h; simp at h
      | cons x t ih =>
        intro k s h j v hj
        have hj2 : j < 259 := by rw [← sgA_len s]; exact (List.getElem?_eq_some_iff.1 hj).1
        rw [List.flatMap_cons]
        rcases k with _ | k
        · have hx : x = s := by simpa using h
          subst hx
          rw [Nat.zero_mul, Nat.zero_add, List.getElem?_append_left (by rw [sgA_len]; exact hj2)]; exact hj
        · rw [List.getElem?_append_right (by rw [sgA_len]; omega), sgA_len, show (k + 1) * 259 + j - 259 = k * 259 + j by omega]
          exact ih k s (by simpa using h) j v hj
    have hat : ∀ j v, (sgA s)[j]? = some v → w.cell? ⟨g, k * 259 + j, none⟩ = some v := by
      intro j v hj
      have hj2 : j < 259 := by rw [← sgA_len s]; exact (List.getElem?_eq_some_iff.1 hj).1
      have h1 := key L k s hk j v hj
      rw [← ht, List.getElem?_take_of_lt (by omega), Array.getElem?_toList] at h1
      exact Blk.cell hb _ h1
    exact ⟨by have := hat 0 _ (sgA_0 s); rwa [Nat.add_zero] at this, hat 1 _ (sgA_1 s), hat 2 _ (sgA_2 s), fun i hi => by rw [Nat.add_assoc]; exact hat (3 + i) _ (sgA_3 s i hi)⟩

set_option maxRecDepth 100000 in
set_option maxHeartbeats 4000000 in
theorem empty_spec (ad : Option Addr) (L : List Sg) (cap b : Nat) (A : Nat → Bool) (w : World) (hL : L.length ≤ 100) (hr : SgRow w ad L) (hne : ∀ g, ad = some ⟨g, 0, none⟩ → g ≠ b) (hb : Blk w b 4 (boolA A (L.length + 1))) :
    Calls Tryd.prog 45 #[.slice ad L.length cap, .slice (some ⟨b, 0, none⟩) (L.length + 1) (L.length + 1)] w fun e w' => e = .returned (.tuple #[]) ∧ Blk w' b 4 (boolA (emS L A L.length) (L.length + 1)) ∧ Fr (fun k => k = b) w w' := by
  have HR := Lib.hid hr
  have HNE := Lib.hid hne
  have HB := Lib.hid hb
  obtain ⟨n, hn⟩ : ∃ n, n = L.length := ⟨_, rfl⟩
  rw [← hn] at HB hL ⊢
  have HN := Lib.hid hn
  have hL2 : (n : Int) ≤ 100 := by omega
  clear hr hne hb hn
  go_enter Tryd.func45, Tryd.ntmps45
  go_wp2_with (fail)
  go_loopg [7] n (fun gk x7 wr => ∃ k : Nat, k ≤ n ∧ Hid (gk = n - k) ∧ x7 = .int .i64 k ∧ Hid (Blk wr b 4 (boolA (emS L A k) (n + 1))) ∧ Hid (Fr (fun i => i = b) w wr))
  case atStart => exact ⟨0, Nat.zero_le _, Lib.hid rfl, rfl, HB, Lib.hid (Fr.refl _ _)⟩
  case round =>
    obtain ⟨k, hk, HG, rfl, HBK, HF⟩ := hrel
    have k2 : (k : Int) ≤ 100 := by omega
    by_cases hkn : k < n
    · have e1 : (k : Int) < (n : Int) := by omega
      obtain ⟨s, hs⟩ : ∃ s, L[k]? = some s := ⟨_, List.getElem?_eq_getElem (by rw [← HN.out]; exact hkn)⟩
      obtain ⟨g, rfl, hgl, hsg⟩ := HR.out k s hs
      have hkd := (hsg.fr HF.out hgl (HNE.out g rfl)).kd
      have hcell := HBK.out.cell k (boolA_at _ _ k (by omega))
      have hcell1 := HBK.out.cell (k + 1) (boolA_at _ _ (k + 1) (by omega))
      have hfree1 := HBK.out.free (k + 1)
      have hsd : L.getD k zeroSg = s := by rw [List.getD_eq_getElem?_getD, hs]; rfl
      have HK2 := Lib.hid (show k + 1 ≤ n from hkn)
      rcases ht : emS L A k k with _ | _
      · have HE := Lib.hid (show emS L A (k + 1) = emS L A k by rw [emS, ht]; rfl)
        rw [ht] at hcell
        clear ht hsd hs hsg hkd hcell1 hfree1
        go_wp2_with (fail)
        go_roundg (n - (k + 1))
        case measure => have := HG.out; have := HK2.out; omega
        case rel => exact ⟨k + 1, HK2.out, Lib.hid rfl, by go_num, by rw [HE.out]; exact HBK, HF⟩
      · rw [ht] at hcell
        obtain ⟨K, hK⟩ : ∃ K, K = s.kind := ⟨_, rfl⟩
        rw [← hK] at hkd
        by_cases h1 : K = 1
        · have d1 : ((K : Int) == 1) = true := by rw [h1]; rfl
          have HE := Lib.hid (show emS L A (k + 1) = addS (emS L A k) (k + 1) by
            rw [emS, ht, hsd, show star s = true by unfold star; rw [← hK, h1]; rfl]; rfl)
          clear ht hsd hs hsg hK h1
          go_wp2_with (fail)
          go_roundg (n - (k + 1))
          case measure => have := HG.out; have := HK2.out; omega
          case rel => exact ⟨k + 1, HK2.out, Lib.hid rfl, by go_num, Lib.hid (by rw [HE.out, ← boolA_set]; exact HBK.out.set _ _), Lib.hid (HF.out.setCell (p := ⟨b, k + 1, none⟩) (fun _ => rfl) _)⟩
        · have d1 : ((K : Int) == 1) = false := by simp; omega
          by_cases h2 : K = 2
          · have d2 : ((K : Int) == 2) = true := by rw [h2]; rfl
            have HE := Lib.hid (show emS L A (k + 1) = addS (emS L A k) (k + 1) by
              rw [emS, ht, hsd, show star s = true by unfold star; rw [← hK, h2]; rfl]; rfl)
            clear ht hsd hs hsg hK h1 h2
            go_wp2_with (fail)
            go_roundg (n - (k + 1))
            case measure => have := HG.out; have := HK2.out; omega
            case rel => exact ⟨k + 1, HK2.out, Lib.hid rfl, by go_num, Lib.hid (by rw [HE.out, ← boolA_set]; exact HBK.out.set _ _), Lib.hid (HF.out.setCell (p := ⟨b, k + 1, none⟩) (fun _ => rfl) _)⟩
          · have d2 : ((K : Int) == 2) = false := by simp; omega
            have HE := Lib.hid (show emS L A (k + 1) = emS L A k by
              rw [emS, ht, hsd, show star s = false by unfold star; rw [← hK]; simp [h1, h2]]; rfl)
            clear ht hsd hs hsg hK h1 h2 hcell1 hfree1
            go_wp2_with (fail)
            go_roundg (n - (k + 1))
            case measure => have := HG.out; have := HK2.out; omega
            case rel => exact ⟨k + 1, HK2.out, Lib.hid rfl, by go_num, by rw [HE.out]; exact HBK, HF⟩
    · obtain rfl : k = n := by omega
      have hbk := HBK.out
      go_wp2_with (fail)
      go_end0
      exact ⟨rfl, hbk, HF.out⟩
end Go.Proofs.YtmmobhmiemmioaaDoor
