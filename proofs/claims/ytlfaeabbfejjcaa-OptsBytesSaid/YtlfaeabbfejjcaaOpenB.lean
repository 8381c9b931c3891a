/- An argument opened: bytes. No program. -/
import Derived.Test.YtlfaeabbfejjcaaOpen
import Derived.Test.YtlfaeabbfejjcaaGetW
import Derived.SizedLaws
namespace Go.Proofs.Ytlfaeabbfejjcaa
open Go.ChangeShapes Go.WideShapes Go.ChangeAt Go.RowKit Go.Deep

section
variable {H : Type} {enc : TypeId × Value → H} {P : Program} {w : World} {base : Nat} {spare : Nat → Bool} {held : Bool} {r : Reach} {b0 : Nat} {t e : TypeId} {v : Value} {d : DataW H} {p : List MemPlace}

theorem open_B (ht : P.underlying t = some (.slice e)) (he : P.underlying e = some (.int .u8)) (ce : P.cellsOf e = 1) (cb : P.bytesOf e = 1)
    (hv : Value.okWide P w r b0 t v) (h : DataW.Trod enc P w base spare held t v d p) (hsz : ∀ es ss, d = .slice es ss → (es.length + ss.length) * P.bytesOf e ≤ reachBytes) :
    ∃ a l cap, v = .slice a (List.length l) cap ∧ Byts w a l := by
  obtain ⟨a, n, cap, rfl⟩ := okWide_slice ht hv
  obtain ⟨fuel, hf⟩ := h
  rcases open_ints ht he ce hf with ⟨hcs, _⟩ | ⟨x, l, c, zs, hcs, _, hl, hm, hzl, hd, hx, hwf⟩
  · simp [Value.cells] at hcs
    obtain ⟨rfl, rfl, rfl⟩ := hcs
    exact ⟨none, [], 0, rfl, by simp, by intro j hj; simp at hj⟩
  · simp [Value.cells] at hcs
    obtain ⟨rfl, rfl, rfl⟩ := hcs
    injection hd with hd1 hd2
    have hlz : n ≤ zs.length := by rw [hzl]; split <;> omega
    have hb := hsz _ _ hd1
    rw [cb] at hb
    have hb2 : zs.length ≤ reachBytes := by
      have e1 : (lits (H := H) .u8 (zs.take n)).length = (zs.take n).length := by simp [lits]
      have e2 : (lits (H := H) .u8 (zs.drop n)).length = (zs.drop n).length := by simp [lits]
      rw [e1, e2, List.length_take, List.length_drop] at hb
      omega
    have hrb := reachBytes_lt
    refine ⟨some x, (zs.take n).map (fun z => UInt8.ofNat z.toNat), cap, by simp [Nat.min_eq_left hlz], by simp; omega, ?_⟩
    intro j hj
    have hjn : j < n := by simp at hj; omega
    have hjz : j < zs.length := by omega
    have hc := hx j hjz
    have hz : 0 ≤ zs.getD j 0 ∧ zs.getD j 0 ≤ 255 := by
      have hmem : zs.getD j 0 ∈ zs := by rw [List.getD_eq_getElem?_getD, List.getElem?_eq_getElem hjz]; exact List.getElem_mem hjz
      have := hwf _ hmem
      simp only [Lit.wf, Bool.and_eq_true, decide_eq_true_eq] at this
      exact this
    refine ⟨x, rfl, by have := World.block_lt_of_cell? _ _ hc; rwa [addr_add_block] at this, ?_⟩
    rw [hc]
    congr 2
    have e3 : ((zs.take n).map (fun z => UInt8.ofNat z.toNat)).getD j 0 = UInt8.ofNat (zs.getD j 0).toNat := by
      rw [List.getD_eq_getElem?_getD, List.getElem?_map, List.getElem?_take_of_lt hjn, List.getD_eq_getElem?_getD, List.getElem?_eq_getElem hjz]; rfl
    rw [e3, UInt8.toNat_ofNat']
    omega
end
end Go.Proofs.Ytlfaeabbfejjcaa
