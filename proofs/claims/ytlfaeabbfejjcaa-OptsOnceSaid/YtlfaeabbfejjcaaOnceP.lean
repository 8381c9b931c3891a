/- Plain law of Parse: a word more, of field 17; the same once more. No program. -/
import Derived.Test.YtlfaeabbfejjcaaOrdP
namespace Go.Proofs.Ytlfaeabbfejjcaa

/-- The fields that were said, and these too. -/
def sp : List (Nat × Int) → (Nat → Bool) → (Nat → Bool)
  | [], s => s
  | p :: t, s => sp t (updB s p.1)

theorem sp_eq (ps : List (Nat × Int)) : ∀ (s : Nat → Bool) (i : Nat), sp ps s i = (s i || decide (i ∈ ps.map Prod.fst)) := by
  induction ps with
  | nil => intro s i; simp [sp]
  | cons p t ih =>
    intro s i
    rw [sp, ih]
    by_cases h : i = p.1
    · simp [updB, h]
    · by_cases h2 : i ∈ t.map Prod.fst <;> simp [updB, h, h2]

theorem parse_app (L M : List ByteArray) : ∀ (ps : List (Nat × Int)) (k : Nat) (f : Nat → Int) (s : Nat → Bool), Good L s ps →
    parseL (L ++ M) k f s = parseL M (k + L.length) (ap ps f) (sp ps s) := by
  induction L with
  | nil =>
    intro ps k f s h
    have : ps = [] := by have := h.1; simpa using this.symm
    subst this
    rfl
  | cons w t ih =>
    intro ps k f s h
    cases ps with
    | nil => exact absurd h.1 (by simp)
    | cons p ps =>
      obtain ⟨i, n⟩ := p
      obtain ⟨h1, h2, h3⟩ := good_cons.1 h
      rw [List.cons_append, parseL, show findF w.data.toList 21 = some (i, n) from h1]
      simp only [h2, Bool.false_eq_true, if_false]
      rw [ih ps (k + 1) _ _ h3, List.length_cons, show k + 1 + t.length = k + (t.length + 1) by omega]
      rfl

theorem parse_bad_app (L M : List ByteArray) : ∀ (k : Nat) (f : Nat → Int) (s : Nat → Bool), (¬ ∃ ps, Good L s ps) → (parseL (L ++ M) k f s).2.2 ≠ 0 := by
  induction L with
  | nil => intro k f s h; exact absurd ⟨[], rfl, by simp, by simp⟩ h
  | cons w t ih =>
    intro k f s h
    rw [List.cons_append, parseL]
    rcases hf : findF w.data.toList 21 with _ | ⟨i, n⟩
    · exact (by decide : (5 : Int) ≠ 0)
    · cases hs : s i
      · simp only [hs, Bool.false_eq_true, if_false]
        exact ih _ _ _ (fun ⟨ps, hg⟩ => h ⟨(i, n) :: ps, good_cons.2 ⟨hf, hs, hg⟩⟩)
      · simp [hs]

theorem okS_upd (f : Nat → Int) (x : Int) : okS (upd f 17 x) = okS f := rfl

theorem once_pure (L : List ByteArray) (w d : ByteArray) (x y : Int) (hw : fw w = some (17, x)) (hd : fw d = some (17, y)) :
    ((parseS L).2.2 ≠ 0 ∧ (parseS (L ++ [w])).2.2 ≠ 0) ∨ (∃ g, parseS L = (g, L.length, 0) ∧ parseS (L ++ [w]) = (zf, L.length, 11)) ∨
    (∃ g, parseS L = (g, L.length, 0) ∧ parseS (L ++ [w]) = (upd g 17 x, L.length + 1, 0) ∧ parseS (L ++ [w] ++ [d]) = (zf, L.length + 1, 11)) := by
  by_cases hg : ∃ ps, Good L (fun _ => false) ps
  · obtain ⟨ps, hg⟩ := hg
    have e0 : parseS L = if okS (ap ps dflt) = true then (ap ps dflt, L.length, 0) else (zf, L.length, 2) := by
      have := parse_good L ps 0 dflt _ hg
      rw [Nat.zero_add] at this
      exact this
    have e1 : parseS (L ++ [w]) = if sp ps (fun _ => false) 17 = true then (zf, L.length, 11) else parseL [] (L.length + 1) (upd (ap ps dflt) 17 x) (updB (sp ps fun _ => false) 17) := by
      have := parse_app L [w] ps 0 dflt _ hg
      rw [Nat.zero_add, parseL, show findF w.data.toList 21 = some (17, x) from hw] at this
      exact this
    have e2 : sp ps (fun _ => false) 17 ≠ true → parseS (L ++ [w] ++ [d]) = (zf, L.length + 1, 11) := by
      intro hn
      have := parse_app L ([w] ++ [d]) ps 0 dflt _ hg
      rw [Nat.zero_add, ← List.append_assoc, List.cons_append, List.nil_append, parseL, show findF w.data.toList 21 = some (17, x) from hw] at this
      simp only [hn] at this
      rw [parseL, show findF d.data.toList 21 = some (17, y) from hd] at this
      unfold parseS
      rw [List.append_assoc]
      simpa [updB] using this
    cases hok : okS (ap ps dflt)
    · left
      rw [hok] at e0
      refine ⟨by rw [e0]; exact (by decide : (2 : Int) ≠ 0), ?_⟩
      rw [e1]
      by_cases hs : sp ps (fun _ => false) 17 = true
      · rw [if_pos hs]; exact (by decide : (11 : Int) ≠ 0)
      · rw [if_neg hs, parseL, okS_upd, hok]; exact (by decide : (2 : Int) ≠ 0)
    · right
      rw [hok] at e0
      by_cases hs : sp ps (fun _ => false) 17 = true
      · left; exact ⟨_, e0, by rw [e1, if_pos hs]⟩
      · right; exact ⟨_, e0, by rw [e1, if_neg hs, parseL, okS_upd, hok]; rfl, e2 hs⟩
  · left
    refine ⟨?_, parse_bad_app L [w] 0 dflt _ hg⟩
    have := parse_bad_app L [] 0 dflt _ hg
    rwa [List.append_nil] at this
end Go.Proofs.Ytlfaeabbfejjcaa
