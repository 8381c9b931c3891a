/- the law's own example, in plain words: of 'x' and sixteen 'b' over sixteen 'a' and sixteen 'b' one byte is told and the second block is copied. -/
import Derived.Test.YtphjebbjhfnhoaaPl
import Derived.Test.YtphjebbjhfnhoaaAy
namespace Go.Proofs.Ytphjebbjhfnhoaa
open Go.RowKit
def aO : List UInt8 := [97, 97, 97, 97, 97, 97, 97, 97, 97, 97, 97, 97, 97, 97, 97, 97, 98, 98, 98, 98, 98, 98, 98, 98, 98, 98, 98, 98, 98, 98, 98, 98]
def aT : List UInt8 := [120, 98, 98, 98, 98, 98, 98, 98, 98, 98, 98, 98, 98, 98, 98, 98, 98]
def aS (n : Nat) : List UInt8 := List.replicate n 98
theorem aW0 : ¬ weak (blk aO 16 0) = weak (120 :: aS 15) := by decide +kernel
theorem aW1 : ¬ weak (blk aO 16 1) = weak (120 :: aS 15) := by decide +kernel
theorem aW2 : ¬ weak (blk aO 16 0) = weak (aS 16) := by decide +kernel
theorem aC : cnt aO.length 16 = 2 := by decide
theorem aFeed {st : Nat} {xs : List UInt8} {s : Pst} (h : FeedP aO 16 st p00 xs s) (hx : xs = aT.take xs.length) :
    (xs.length ≤ 15 → s = ⟨xs, 0, [], []⟩) ∧ (xs.length = 16 → s = ⟨aS 15, 0, [120], []⟩) ∧ (xs.length = 17 → s = ⟨[], 2, [], [(0, 0, [120]), (16, 16, [])]⟩) := by
  have prev : ∀ (xs : List UInt8) (c : UInt8), xs ++ [c] = aT.take (xs ++ [c]).length → xs = aT.take xs.length ∧ aT[xs.length]? = some c := by
    intro xs c e
    rw [List.length_append, List.length_singleton] at e
    have h1 := congrArg (List.take xs.length) e
    rw [List.take_left, List.take_take, Nat.min_eq_left (Nat.le_succ _)] at h1
    refine ⟨h1, ?_⟩
    have h2 : (aT.take (xs.length + 1))[xs.length]? = some c := by rw [← e]; simp
    rw [List.getElem?_take_of_lt (Nat.lt_succ_self _)] at h2
    exact h2
  have at15 : ∀ (xs : List UInt8) (c : UInt8), xs = aT.take xs.length → aT[xs.length]? = some c → xs.length = 15 → xs ++ [c] = 120 :: aS 15 := by
    intro xs c e1 e2 e3
    rw [e3] at e1 e2
    have : c = 98 := by have : aT[15]? = some 98 := rfl; rw [this] at e2; cases e2; rfl
    rw [e1, this]; rfl
  induction h with
  | nil => exact ⟨fun _ => rfl, fun e => by simp at e, fun e => by simp at e⟩
  | more xs s c hp hne ih =>
    obtain ⟨e1, e2⟩ := prev xs c hx
    obtain ⟨i1, i2, i3⟩ := ih e1
    rw [List.length_append, List.length_singleton]
    refine ⟨fun h => ?_, fun h => ?_, fun h => ?_⟩
    · have := i1 (by omega); subst this; rfl
    · have := i1 (by omega); subst this
      exact absurd h hne
    · have := i2 (by omega); subst this
      exact absurd rfl hne
  | took xs s c i hp hB hf ih =>
    obtain ⟨e1, e2⟩ := prev xs c hx
    obtain ⟨i1, i2, i3⟩ := ih e1
    rw [List.length_append, List.length_singleton]
    have hi : i < 2 := by have := hf.1; rw [aC] at this; exact this
    refine ⟨fun h => ?_, fun h => ?_, fun h => ?_⟩
    · have := i1 (by omega); subst this
      have h9 : xs.length + 1 = 16 := hB
      omega
    · have := i1 (by omega); subst this
      have hw := hf.2.1.2.1
      rw [show (⟨xs, 0, [], []⟩ : Pst).L ++ [c] = 120 :: aS 15 from at15 xs c e1 e2 (by omega)] at hw
      have hc : i = 0 ∨ i = 1 := by omega
      rcases hc with rfl | rfl
      · exact absurd hw aW0
      · exact absurd hw aW1
    · have := i2 (by omega); subst this
      have hcc : c = 98 := by
        have h3 : xs.length = 16 := by omega
        rw [h3] at e2
        have : aT[16]? = some 98 := rfl
        rw [this] at e2; cases e2; rfl
      subst hcc
      have hw := hf.2.1.2.1
      rw [show (⟨aS 15, 0, [120], []⟩ : Pst).L ++ [98] = aS 16 from rfl] at hw
      have hc : i = 0 ∨ i = 1 := by omega
      rcases hc with rfl | rfl
      · exact absurd hw aW2
      · rfl
  | slid xs s c h t hp hB hnf e ih =>
    obtain ⟨e1, e2⟩ := prev xs c hx
    obtain ⟨i1, i2, i3⟩ := ih e1
    rw [List.length_append, List.length_singleton]
    refine ⟨fun h => ?_, fun h => ?_, fun h => ?_⟩
    · have := i1 (by omega); subst this
      have h9 : xs.length + 1 = 16 := hB
      omega
    · have := i1 (by omega); subst this
      have h3 := at15 xs c e1 e2 (by omega)
      rw [show (⟨xs, 0, [], []⟩ : Pst).L ++ [c] = 120 :: aS 15 from h3] at e
      cases e
      rfl
    · have := i2 (by omega); subst this
      have hcc : c = 98 := by
        have h3 : xs.length = 16 := by omega
        rw [h3] at e2
        have : aT[16]? = some 98 := rfl
        rw [this] at e2; cases e2; rfl
      subst hcc
      exact (not_noFit (j := 1) hnf rfl (by decide)).elim
theorem DoneP.idle {l : List UInt8} {B st n : Nat} {s0 s : Pst} (h : DoneP l B st n s0 s) (h0 : s0.L = []) : s = s0 := by
  induction h with
  | nil => rfl
  | took s i _ hne _ _ ih => subst ih; exact absurd h0 hne
  | slid s c t _ _ e ih => subst ih; rw [h0] at e; cases e
theorem aRun {st : Nat} {P1 P2 : Pst} (h : RunP aO 16 st aT P1 P2) : outP P1 P2 = [(0, 0, [120]), (16, 16, [])] := by
  have h1 := (aFeed h.fd (by rw [List.take_length])).2.2 rfl
  subst h1
  have h2 := h.dn.idle rfl
  subst h2
  rfl
theorem NormR.inv {xs l O : List (Nat × Nat × List UInt8)} {o : Nat × Nat × List UInt8} (h : NormR xs O) (e : xs = l ++ [o]) : ∃ O1, NormR l O1 ∧ AddR O1 o O := by
  cases h with
  | nil => simp at e
  | snoc l' O1 _ o' h1 h2 =>
    obtain ⟨rfl, e2⟩ := List.append_inj' e rfl
    cases e2
    exact ⟨_, h1, h2⟩
theorem NormR.none {xs O : List (Nat × Nat × List UInt8)} (h : NormR xs O) (e : xs = []) : O = [] := by
  cases h with
  | nil => rfl
  | snoc l' O1 _ o' h1 h2 => simp at e
theorem aNorm {O : List (Nat × Nat × List UInt8)} (h : NormR [(0, 0, [120]), (16, 16, [])] O) : O = [(0, 0, [120]), (16, 16, [])] := by
  obtain ⟨O1, h1, h2⟩ := h.inv (l := [(0, 0, [120])]) rfl
  obtain ⟨O0, h3, h4⟩ := h1.inv (l := []) rfl
  have h5 := h3.none rfl
  subst h5
  have h6 : O1 = [(0, 0, [120])] := by
    cases h4 with
    | zero e => exact absurd e (by decide)
    | join I p e => simp at e
    | run I p e => simp at e
    | told => rfl
    | copy e => cases e
  subst h6
  cases h2 with
  | zero e => exact absurd e (by decide)
  | join I p e _ q => exact absurd rfl q
  | run I p e q =>
    obtain ⟨_, e2⟩ := List.append_inj' (s₁ := []) e rfl
    cases e2
    cases q
  | told q => exact absurd rfl q
  | copy => rfl
end Go.Proofs.Ytphjebbjhfnhoaa
