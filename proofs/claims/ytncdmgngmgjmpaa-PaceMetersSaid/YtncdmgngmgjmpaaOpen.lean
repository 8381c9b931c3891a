/- Arguments opened: arrays of whole numbers by value, slices of deeds; a number's bounds. No program. -/
import Derived.Test.YtncdmgngmgjmpaaFr
import Derived.ProofKit
import Derived.OpenShut
import Derived.Deep.SlicePairs
namespace Go.Proofs.Ytncdmgngmgjmpaa
open Go.ChangeShapes Go.WideShapes Go.ChangeAt Go.RowKit Go.Deep

theorem bd_u32 {n : Int} (h : (Lit.int .u32 n).wf = true) : 0 ≤ n ∧ n ≤ 4294967295 := by
  simp only [Lit.wf, Bool.and_eq_true, decide_eq_true_eq] at h; exact h
theorem bd_u16 {n : Int} (h : (Lit.int .u16 n).wf = true) : 0 ≤ n ∧ n ≤ 65535 := by
  simp only [Lit.wf, Bool.and_eq_true, decide_eq_true_eq] at h; exact h
theorem bd_u8 {n : Int} (h : (Lit.int .u8 n).wf = true) : 0 ≤ n ∧ n ≤ 255 := by
  simp only [Lit.wf, Bool.and_eq_true, decide_eq_true_eq] at h; exact h
theorem bd_i64 {n : Int} (h : (Lit.int .i64 n).wf = true) : -9223372036854775808 ≤ n ∧ n ≤ 9223372036854775807 := by
  simp only [Lit.wf, Bool.and_eq_true, decide_eq_true_eq] at h; exact h

section
variable {H : Type} {enc : TypeId × Value → H} {P : Program} {w : World} {base : Nat} {spare : Nat → Bool} {held : Bool} {r : Reach} {b0 : Nat} {t e : TypeId} {v : Value} {d : DataW H} {p : List MemPlace}

theorem okWide_arr {n : Nat} (ht : P.underlying t = some (.array n e)) (h : Value.okWide P w r b0 t v) : ∃ cs, v = .agg cs ∧ cs.size = P.cellsOf t := by
  simp only [Value.okWide, ht] at h
  obtain ⟨cs, h1, h2, _⟩ := h
  exact ⟨cs, h1, h2⟩

theorem open_arr2 {k : IntKind} (ht : P.underlying t = some (.array 2 e)) (he : P.underlying e = some (.int k)) (ct : P.cellsOf t = 2) (ce : P.cellsOf e = 1)
    (hv : Value.okWide P w r b0 t v) (h : DataW.Trod enc P w base spare held t v d p) :
    ∃ n0 n1 : Int, v = .agg #[.int k n0, .int k n1] ∧ (Lit.int k n0).wf = true ∧ (Lit.int k n1).wf = true := by
  obtain ⟨cs, rfl, hsz⟩ := okWide_arr ht hv
  rw [ct] at hsz
  obtain ⟨fuel, hf⟩ := h
  obtain ⟨xs, m, _, _, _, hxl, hx⟩ := DataW.trod_array ht hf
  rw [ce] at hx
  match xs, hxl, cs, hsz with
  | [y0, y1], _, ⟨[c0, c1]⟩, _ =>
    have g0 := hx 0 (by omega)
    have g1 := hx 1 (by omega)
    simp [Value.cells] at g0 g1
    obtain ⟨n0, e0, _, w0⟩ := DataW.trod_int he g0
    obtain ⟨n1, e1, _, w1⟩ := DataW.trod_int he g1
    simp at e0 e1
    subst e0 e1
    exact ⟨n0, n1, rfl, w0, w1⟩

theorem open_arr3 {k : IntKind} (ht : P.underlying t = some (.array 3 e)) (he : P.underlying e = some (.int k)) (ct : P.cellsOf t = 3) (ce : P.cellsOf e = 1)
    (hv : Value.okWide P w r b0 t v) (h : DataW.Trod enc P w base spare held t v d p) :
    ∃ n0 n1 n2 : Int, v = .agg #[.int k n0, .int k n1, .int k n2] ∧ (Lit.int k n0).wf = true ∧ (Lit.int k n1).wf = true ∧ (Lit.int k n2).wf = true := by
  obtain ⟨cs, rfl, hsz⟩ := okWide_arr ht hv
  rw [ct] at hsz
  obtain ⟨fuel, hf⟩ := h
  obtain ⟨xs, m, _, _, _, hxl, hx⟩ := DataW.trod_array ht hf
  rw [ce] at hx
  match xs, hxl, cs, hsz with
  | [y0, y1, y2], _, ⟨[c0, c1, c2]⟩, _ =>
    have g0 := hx 0 (by omega)
    have g1 := hx 1 (by omega)
    have g2 := hx 2 (by omega)
    simp [Value.cells] at g0 g1 g2
    obtain ⟨n0, e0, _, w0⟩ := DataW.trod_int he g0
    obtain ⟨n1, e1, _, w1⟩ := DataW.trod_int he g1
    obtain ⟨n2, e2, _, w2⟩ := DataW.trod_int he g2
    simp at e0 e1 e2
    subst e0 e1 e2
    exact ⟨n0, n1, n2, rfl, w0, w1, w2⟩

/-- A slice of pairs of ints that came in: n elements, (K i, N i). -/
def Pairs (w : World) (a : Option Addr) (n : Nat) (K N : Nat → Int) : Prop :=
  n ≤ 9223372036854775807 ∧ ∀ i, i < n → ∃ b off, a = some ⟨b, off, none⟩ ∧ b < w.heap.size ∧
    w.cell? ⟨b, off + i * 2, none⟩ = some (.int .i64 (K i)) ∧ w.cell? ⟨b, off + i * 2 + 1, none⟩ = some (.int .i64 (N i)) ∧
    -9223372036854775808 ≤ K i ∧ K i ≤ 9223372036854775807 ∧ -9223372036854775808 ≤ N i ∧ N i ≤ 9223372036854775807

theorem open_pairs {f0 f1 : Field} (ht : P.underlying t = some (.slice e)) (he : P.underlying e = some (.struct #[f0, f1]))
    (ce : P.cellsOf e = 2) (o0 : f0.offset = 0) (o1 : f1.offset = 1) (c0 : P.cellsOf f0.type = 1) (c1 : P.cellsOf f1.type = 1)
    (u0 : P.underlying f0.type = some (.int .i64)) (u1 : P.underlying f1.type = some (.int .i64))
    (hv : Value.okWide P w r b0 t v) (h : DataW.Trod enc P w base spare held t v d p) :
    ∃ a n cap K N, v = .slice a n cap ∧ Pairs w a n K N := by
  obtain ⟨a, n, cap, rfl⟩ := okWide_slice ht hv
  obtain ⟨fuel, hf⟩ := h
  rcases open_slice_pairs ht he ce o0 o1 c0 c1 hf with ⟨hcs, _⟩ | ⟨x, l, c, m, q, V0, V1, D0, D1, P0, P1, hcs, _, hl, hm, hmm, _, hx⟩
  · simp [Value.cells] at hcs
    obtain ⟨rfl, rfl, rfl⟩ := hcs
    exact ⟨none, 0, 0, fun _ => 0, fun _ => 0, rfl, by omega, fun i hi => by omega⟩
  · simp [Value.cells] at hcs
    obtain ⟨rfl, rfl, rfl⟩ := hcs
    have hlm : n ≤ m := by rw [hmm]; split <;> omega
    have key : ∀ i, i < n → ∃ k l : Int, V0 i = .int .i64 k ∧ V1 i = .int .i64 l ∧ -9223372036854775808 ≤ k ∧ k ≤ 9223372036854775807 ∧ -9223372036854775808 ≤ l ∧ l ≤ 9223372036854775807 := by
      intro i hi
      obtain ⟨_, _, g0, g1⟩ := hx i (by omega)
      obtain ⟨k, e0, _, w0⟩ := DataW.trod_int u0 g0
      obtain ⟨l, e1, _, w1⟩ := DataW.trod_int u1 g1
      simp at e0 e1
      exact ⟨k, l, e0, e1, (bd_i64 w0).1, (bd_i64 w0).2, (bd_i64 w1).1, (bd_i64 w1).2⟩
    refine ⟨some x, n, cap, fun i => intOf (V0 i), fun i => intOf (V1 i), rfl, by unfold maxLen at hm; omega, ?_⟩
    intro i hi
    obtain ⟨hc0, hc1, _, _⟩ := hx i (by omega)
    obtain ⟨k, l, e0, e1, bb⟩ := key i hi
    obtain ⟨h00, _, _, _⟩ := hx 0 (by omega)
    obtain ⟨b, off, spot⟩ := x
    have hspot : spot = none := by
      have := World.cell?_spot h00
      simpa [Addr.add] using this
    subst hspot
    have hadd : ∀ j, (⟨b, off, none⟩ : Addr).add j = ⟨b, off + j, none⟩ := by
      intro j; unfold Addr.add; split
      · next h0 => subst h0; rfl
      · rfl
    rw [hadd] at hc0 hc1 h00
    rw [e0] at hc0
    rw [e1] at hc1
    have f0 : intOf (V0 i) = k := by rw [e0]; rfl
    have f1 : intOf (V1 i) = l := by rw [e1]; rfl
    refine ⟨b, off, rfl, ?_, ?_, ?_, ?_⟩
    · unfold World.cell? at h00
      split at h00
      · next hb => exact lt_of_block hb
      · simp at h00
    · show _ = some (Value.int .i64 (intOf (V0 i)))
      rw [f0]; exact hc0
    · show _ = some (Value.int .i64 (intOf (V1 i)))
      rw [f1]; exact hc1
    · show _ ≤ intOf (V0 i) ∧ intOf (V0 i) ≤ _ ∧ _ ≤ intOf (V1 i) ∧ intOf (V1 i) ≤ _
      rw [f0, f1]; exact bb

end
end Go.Proofs.Ytncdmgngmgjmpaa
