/- An argument opened: a list of words. No program. -/
import Derived.Test.YtlfaeabbfejjcaaDoorFr
import Derived.ProofKit
import Derived.OpenShut
import Derived.Deep.Strs
namespace Go.Proofs.YtlfaeabbfejjcaaDoor
open Go.ChangeShapes Go.WideShapes Go.ChangeAt Go.RowKit Go.Deep

/-- A slice of words that came in. -/
def Strs (w : World) (a : Option Addr) (L : List ByteArray) : Prop :=
  L.length ≤ 9223372036854775807 ∧ ∀ j s, L[j]? = some s → ∃ x, a = some x ∧ x.block < w.heap.size ∧ w.cell? (x.add j) = some (.string s)

section
variable {H : Type} {enc : TypeId × Value → H} {P : Program} {w : World} {base : Nat} {spare : Nat → Bool} {held : Bool} {r : Reach} {b0 : Nat} {t e : TypeId} {v : Value} {d : DataW H} {p : List MemPlace}

theorem addr_add_block (a : Addr) (k : Nat) : (a.add k).block = a.block := by unfold Addr.add; split <;> rfl

theorem open_L (ht : P.underlying t = some (.slice e)) (he : P.underlying e = some .string) (ce : P.cellsOf e = 1)
    (hv : Value.okWide P w r b0 t v) (h : DataW.Trod enc P w base spare held t v d p) :
    ∃ a L cap, v = .slice a (List.length L) cap ∧ Strs w a L := by
  obtain ⟨a, n, cap, rfl⟩ := okWide_slice ht hv
  obtain ⟨fuel, hf⟩ := h
  rcases open_strs ht he ce hf with ⟨hcs, _⟩ | ⟨x, l, c, m, Sx, hcs, _, hl, hm, hmm, _, hx⟩
  · simp [Value.cells] at hcs
    obtain ⟨rfl, rfl, rfl⟩ := hcs
    exact ⟨none, [], 0, rfl, by simp, by intro j s hj; simp at hj⟩
  · simp [Value.cells] at hcs
    obtain ⟨rfl, rfl, rfl⟩ := hcs
    unfold maxLen at hm
    refine ⟨some x, (List.range n).map Sx, cap, by simp, by simp; omega, ?_⟩
    intro j s hj
    rw [List.getElem?_map] at hj
    have hjn : j < n := by
      rcases Nat.lt_or_ge j n with h | h
      · exact h
      · rw [List.getElem?_eq_none (by simpa using h)] at hj; cases hj
    rw [List.getElem?_range hjn] at hj
    injection hj with hj
    subst hj
    have hjm : j < m := by rw [hmm]; split <;> omega
    have hc := (hx j hjm).1
    exact ⟨x, rfl, by have := World.block_lt_of_cell? _ _ hc; rwa [addr_add_block] at this, hc⟩
end
end Go.Proofs.YtlfaeabbfejjcaaDoor
