/- Plain laws of Parse: words turned round mean the same; a word more. No program. -/
import Derived.Test.YtlfaeabbfejjcaaDoorPSpec
namespace Go.Proofs.YtlfaeabbfejjcaaDoor

def fw (w : ByteArray) : Option (Nat × Int) := findF w.data.toList 21

/-- Options with all these numbers set. -/
def ap : List (Nat × Int) → (Nat → Int) → (Nat → Int)
  | [], f => f
  | p :: t, f => ap t (upd f p.1 p.2)

/-- The words say these fields, each once, none said before. -/
def Good (L : List ByteArray) (s : Nat → Bool) (ps : List (Nat × Int)) : Prop :=
  L.map fw = ps.map some ∧ (ps.map Prod.fst).Nodup ∧ ∀ p ∈ ps, s p.1 = false

theorem good_cons {w : ByteArray} {t : List ByteArray} {s : Nat → Bool} {i : Nat} {n : Int} {ps : List (Nat × Int)} :
    Good (w :: t) s ((i, n) :: ps) ↔ fw w = some (i, n) ∧ s i = false ∧ Good t (updB s i) ps := by
  unfold Good
  simp only [List.map_cons, List.cons.injEq, List.nodup_cons, List.mem_cons, forall_eq_or_imp]
  constructor
  · rintro ⟨⟨h1, h2⟩, ⟨h3, h4⟩, h5, h6⟩
    refine ⟨h1, h5, h2, h4, fun p hp => ?_⟩
    have hne : p.1 ≠ i := fun e => h3 (e ▸ List.mem_map_of_mem hp)
    simp [updB, hne, h6 p hp]
  · rintro ⟨h1, h5, h2, h4, h6⟩
    refine ⟨⟨h1, h2⟩, ⟨fun hm => ?_, h4⟩, h5, fun p hp => ?_⟩
    · obtain ⟨p, hp, he⟩ := List.mem_map.1 hm
      have := h6 p hp
      simp [updB, he] at this
    · have := h6 p hp
      unfold updB at this
      split at this
      · cases this
      · exact this

theorem parse_good (L : List ByteArray) : ∀ (ps : List (Nat × Int)) (k : Nat) (f : Nat → Int) (s : Nat → Bool), Good L s ps →
    parseL L k f s = if okS (ap ps f) = true then (ap ps f, k + L.length, 0) else (zf, k + L.length, 2) := by
  induction L with
  | nil =>
    intro ps k f s h
    have : ps = [] := by have := h.1; simpa using this.symm
    subst this
    rfl
  | cons w t ih =>
    intro ps k f s h
    cases ps with
    | nil => exact absurd h.1 (by simp)
    | cons p ps =>
      obtain ⟨i, n⟩ := p
      obtain ⟨h1, h2, h3⟩ := good_cons.1 h
      rw [parseL, show findF w.data.toList 21 = some (i, n) from h1]
      simp only [h2, Bool.false_eq_true, if_false]
      rw [ih ps (k + 1) _ _ h3, List.length_cons, show k + 1 + t.length = k + (t.length + 1) by omega]
      rfl

theorem parse_bad (L : List ByteArray) : ∀ (k : Nat) (f : Nat → Int) (s : Nat → Bool), (¬ ∃ ps, Good L s ps) → (parseL L k f s).1 = zf ∧ (parseL L k f s).2.2 ≠ 0 := by
  induction L with
  | nil => intro k f s h; exact absurd ⟨[], rfl, by simp, by simp⟩ h
  | cons w t ih =>
    intro k f s h
    rw [parseL]
    rcases hf : findF w.data.toList 21 with _ | ⟨i, n⟩
    · exact ⟨rfl, fun h => absurd h (by decide : (5 : Int) ≠ 0)⟩
    · cases hs : s i
      · simp only [hs, Bool.false_eq_true, if_false]
        exact ih _ _ _ (fun ⟨ps, hg⟩ => h ⟨(i, n) :: ps, good_cons.2 ⟨hf, hs, hg⟩⟩)
      · simp [hs]

theorem ap_not {i : Nat} : ∀ (ps : List (Nat × Int)) (f : Nat → Int), i ∉ ps.map Prod.fst → ap ps f i = f i := by
  intro ps
  induction ps with
  | nil => intro f _; rfl
  | cons p t ih =>
    intro f h
    simp only [List.map_cons, List.mem_cons, not_or] at h
    rw [ap, ih _ h.2]
    simp [upd, h.1]

theorem ap_mem {i : Nat} {n : Int} : ∀ (ps : List (Nat × Int)) (f : Nat → Int), (ps.map Prod.fst).Nodup → (i, n) ∈ ps → ap ps f i = n := by
  intro ps
  induction ps with
  | nil => intro f _ h; cases h
  | cons p t ih =>
    intro f h hm
    simp only [List.map_cons, List.nodup_cons] at h
    rw [ap]
    rcases List.mem_cons.1 hm with rfl | hm
    · rw [ap_not _ _ h.1]; simp [upd]
    · exact ih _ h.2 hm

theorem nodup_rev {l : List Nat} (h : l.Nodup) : l.reverse.Nodup := by
  unfold List.Nodup at *
  rw [List.pairwise_reverse]
  exact h.imp (fun h => Ne.symm h)

theorem ap_rev (ps : List (Nat × Int)) (f : Nat → Int) (h : (ps.map Prod.fst).Nodup) : ap ps.reverse f = ap ps f := by
  funext i
  by_cases hi : i ∈ ps.map Prod.fst
  · obtain ⟨⟨j, n⟩, hp, rfl⟩ := List.mem_map.1 hi
    rw [ap_mem ps f h hp, ap_mem ps.reverse f (by rw [List.map_reverse]; exact nodup_rev h) (List.mem_reverse.2 hp)]
  · rw [ap_not ps f hi, ap_not ps.reverse f (by rw [List.map_reverse, List.mem_reverse]; exact hi)]

theorem good_rev {L : List ByteArray} {s : Nat → Bool} {ps : List (Nat × Int)} (h : Good L s ps) : Good L.reverse s ps.reverse :=
  ⟨by rw [List.map_reverse, h.1, List.map_reverse], by rw [List.map_reverse]; exact nodup_rev h.2.1, fun p hp => h.2.2 p (List.mem_reverse.1 hp)⟩

theorem order_pure (L : List ByteArray) : (((parseS L).2.2 == 0) == ((parseS L.reverse).2.2 == 0)) = true ∧ (parseS L).1 = (parseS L.reverse).1 := by
  unfold parseS
  by_cases hg : ∃ ps, Good L (fun _ => false) ps
  · obtain ⟨ps, hg⟩ := hg
    rw [parse_good L ps 0 dflt _ hg, parse_good L.reverse ps.reverse 0 dflt _ (good_rev hg), ap_rev ps dflt hg.2.1]
    by_cases hk : okS (ap ps dflt) = true
    · rw [if_pos hk, if_pos hk]; exact ⟨rfl, rfl⟩
    · rw [if_neg hk, if_neg hk]; exact ⟨rfl, rfl⟩
  · have hg2 : ¬ ∃ ps, Good L.reverse (fun _ => false) ps := fun ⟨ps, h⟩ => hg ⟨ps.reverse, by have := good_rev h; rwa [List.reverse_reverse] at this⟩
    obtain ⟨a1, a2⟩ := parse_bad L 0 dflt _ hg
    obtain ⟨b1, b2⟩ := parse_bad L.reverse 0 dflt _ hg2
    refine ⟨?_, by rw [a1, b1]⟩
    rw [show ((parseL L 0 dflt fun _ => false).2.2 == 0) = false by simpa using a2, show ((parseL L.reverse 0 dflt fun _ => false).2.2 == 0) = false by simpa using b2]
    rfl
end Go.Proofs.YtlfaeabbfejjcaaDoor
