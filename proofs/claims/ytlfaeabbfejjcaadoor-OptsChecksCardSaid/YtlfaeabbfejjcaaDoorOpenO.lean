/- An argument opened: options by value. -/
import Derived.Test.YtlfaeabbfejjcaaDoorOpen
import Derived.Test.YtlfaeabbfejjcaaDoorEq
import Derived.Test.YtlfaeabbfejjcaaDoorFlagP
namespace Go.Proofs.YtlfaeabbfejjcaaDoor
open Go.ChangeShapes Go.WideShapes Go.ChangeAt Go.RowKit Go.Deep

/-- A cell as a number. -/
def asN : Value → Int
  | .int _ n => n
  | .bool b => if b = true then 1 else 0
  | _ => 0

theorem ocells_asN (cs : Array Value) (hs : cs.size = 21) (h : ∀ i, i < 21 → ∃ v, cs[i]? = some v ∧ (if ftyp i = 3 then ∃ n, v = .int .i64 n else ∃ b, v = .bool b)) :
    ocells (fun i => asN (cs.getD i undef)) = cs ∧ norm1 (fun i => asN (cs.getD i undef)) := by
  have hg : ∀ i v, cs[i]? = some v → cs.getD i undef = v := fun i v hv => by simp [hv]
  have hi : ∀ i, i < 21 → ftyp i = 3 → cs[i]? = some (.int .i64 (asN (cs.getD i undef))) := fun i hi h3 => by
    obtain ⟨v, hv, hk⟩ := h i hi
    rw [if_pos h3] at hk
    obtain ⟨n, rfl⟩ := hk
    rw [hg i _ hv, hv]; rfl
  have hb : ∀ i, i < 21 → ¬ ftyp i = 3 → cs[i]? = some (.bool (asN (cs.getD i undef) == 1)) ∧ asN (cs.getD i undef) = (if asN (cs.getD i undef) = 1 then 1 else 0) := fun i hi h3 => by
    obtain ⟨v, hv, hk⟩ := h i hi
    rw [if_neg h3] at hk
    obtain ⟨b, rfl⟩ := hk
    rw [hg i _ hv, hv]
    cases b <;> exact ⟨rfl, rfl⟩
  constructor
  · apply Array.ext'
    apply List.ext_getElem?
    intro i
    rw [Array.getElem?_toList, Array.getElem?_toList]
    by_cases hlt : i < 21
    · have hc : ∀ j, j < 21 → (ocells fun i => asN (cs.getD i undef))[j]? = cs[j]? := by
        refine by21 ?_ ?_ ?_ ?_ ?_ ?_ ?_ ?_ ?_ ?_ ?_ ?_ ?_ ?_ ?_ ?_ ?_ ?_ ?_ ?_ ?_
        · exact (hi 0 (by decide) (by decide)).symm
        · exact (hi 1 (by decide) (by decide)).symm
        · exact (hb 2 (by decide) (by decide)).1.symm
        · exact (hb 3 (by decide) (by decide)).1.symm
        · exact (hb 4 (by decide) (by decide)).1.symm
        · exact (hb 5 (by decide) (by decide)).1.symm
        · exact (hb 6 (by decide) (by decide)).1.symm
        · exact (hb 7 (by decide) (by decide)).1.symm
        · exact (hb 8 (by decide) (by decide)).1.symm
        · exact (hb 9 (by decide) (by decide)).1.symm
        · exact (hb 10 (by decide) (by decide)).1.symm
        · exact (hb 11 (by decide) (by decide)).1.symm
        · exact (hb 12 (by decide) (by decide)).1.symm
        · exact (hb 13 (by decide) (by decide)).1.symm
        · exact (hb 14 (by decide) (by decide)).1.symm
        · exact (hb 15 (by decide) (by decide)).1.symm
        · exact (hb 16 (by decide) (by decide)).1.symm
        · exact (hb 17 (by decide) (by decide)).1.symm
        · exact (hi 18 (by decide) (by decide)).symm
        · exact (hi 19 (by decide) (by decide)).symm
        · exact (hi 20 (by decide) (by decide)).symm
      exact hc i hlt
    · rw [Array.getElem?_eq_none (show (ocells fun i => asN (cs.getD i undef)).size ≤ i from Nat.le_of_not_lt hlt), Array.getElem?_eq_none (by omega)]
  · intro i h2 h17
    have h3 : ¬ ftyp i = 3 := by
      have : ∀ i, i < 21 → 2 ≤ i → i ≤ 17 → ¬ ftyp i = 3 := by decide
      exact this i (by omega) h2 h17
    have := (hb i (by omega) h3).2
    unfold fbit
    show asN _ = _
    rw [this]
    split <;> rfl

section
variable {H : Type} {enc : TypeId × Value → H} {w : World} {base : Nat} {spare : Nat → Bool} {held : Bool} {r : Reach} {b0 : Nat} {v : Value} {d : DataW H} {p : List MemPlace}

theorem struct25 : Tryd.prog.underlying 23 = some (.struct (Tryd.prog.fieldsOf 23)) := by kernel_rfl
theorem cells25 : Tryd.prog.cellsOf 23 = 21 := by kernel_rfl

theorem open_O (hv : Value.okWide Tryd.prog w r b0 23 v) (h : DataW.Trod enc Tryd.prog w base spare held 23 v d p) : ∃ f, v = .agg (ocells f) ∧ norm1 f := by
  simp only [Value.okWide, struct25] at hv
  obtain ⟨cs, rfl, hsz, _⟩ := hv
  rw [cells25] at hsz
  obtain ⟨fuel, hf⟩ := h
  obtain ⟨xs, m, _, _, _, hxl, hx⟩ := DataW.trod_struct struct25 hf
  have hfl : (Tryd.prog.fieldsOf 23).size = 21 := by have := fields25; simpa using this
  have hc : ∀ i, i < 21 → ∃ u, cs[i]? = some u ∧ (if ftyp i = 3 then ∃ n, u = .int .i64 n else ∃ b, u = .bool b) := by
    intro i hi
    obtain ⟨fld, hfld⟩ : ∃ fld, (Tryd.prog.fieldsOf 23)[i]? = some fld := ⟨_, Array.getElem?_eq_getElem (by omega)⟩
    have hat := fields25_at i hi
    rw [Array.getElem?_toList, hfld] at hat
    have hat2 := Option.some.inj hat
    injection hat2 with e1 e2
    injection e2 with e2 e3
    have hd := hx i fld hfld
    rw [e1, e2] at hd
    have hxi : i < xs.length := by rw [hxl, hfl]; exact hi
    have hu : cs[i]? = some cs[i] := Array.getElem?_eq_getElem (by omega)
    have hl1 : ((Value.agg cs).cells.toList.drop i).take 1 = [cs[i]] := by
      simp only [Value.cells]
      rw [List.drop_eq_getElem_cons (by simpa using (show i < cs.size by omega))]
      simp
    refine ⟨cs[i], hu, ?_⟩
    rw [List.getElem?_eq_getElem hxi] at hd
    by_cases h3 : ftyp i = 3
    · rw [if_pos h3]
      rw [h3, show Tryd.prog.cellsOf 3 = 1 by kernel_rfl, hl1] at hd
      obtain ⟨n, en, _⟩ := DataW.trod_int Tryd.underlying3 hd
      exact ⟨n, by simpa using en⟩
    · rw [if_neg h3]
      have h4 : ftyp i = 4 := by unfold ftyp at h3 ⊢; split <;> simp_all
      rw [h4, show Tryd.prog.cellsOf 4 = 1 by kernel_rfl, hl1] at hd
      obtain ⟨b, en, _⟩ := DataW.trod_bool Tryd.underlying4 hd
      exact ⟨b, by simpa using en⟩
  obtain ⟨h1, h2⟩ := ocells_asN cs hsz hc
  exact ⟨_, by rw [h1], h2⟩
end
end Go.Proofs.YtlfaeabbfejjcaaDoor
