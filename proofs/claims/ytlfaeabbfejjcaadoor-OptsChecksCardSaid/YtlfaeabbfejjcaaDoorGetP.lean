/- Plain laws of a number among bytes: groups of seven bits. No program. -/
import Derived.Test.YtlfaeabbfejjcaaDoorFr
import Derived.Lib.Hide
namespace Go.Proofs.YtlfaeabbfejjcaaDoor

/-- The value of groups of seven bits, the least ahead. -/
def gval : List UInt8 → Nat
  | [] => 0
  | c :: t => c.toNat % 128 + 128 * gval t
/-- How many of the first k bytes are no last ones. -/
def leadN : Nat → List UInt8 → Nat
  | 0, _ => 0
  | _, [] => 0
  | k + 1, c :: t => if 127 < c.toNat then leadN k t + 1 else 0

def maxNum : Nat := 4611686018427387903

/-- A number at the front of l, which lies at place p: the number, the place behind, and what is wrong. -/
def getS (l : List UInt8) (p : Nat) : Int × Int × Int :=
  if leadN 9 l = 9 then (0, 0, 5) else if leadN 9 l = l.length then (0, 0, 4)
  else if l.getD (leadN 9 l) 0 = 0 ∧ 0 < leadN 9 l then (0, 0, 5)
  else if maxNum < gval (l.take (leadN 9 l + 1)) then (0, 0, 7) else ((gval (l.take (leadN 9 l + 1)) : Int), ((p + leadN 9 l + 1 : Nat) : Int), 0)

/-- The same at any place. -/
def getA (l : List UInt8) (p : Int) : Int × Int × Int := if p < 0 ∨ (l.length : Int) < p then (0, 0, 3) else getS (l.drop p.toNat) p.toNat

theorem gval_app (c : UInt8) : ∀ l : List UInt8, gval (l ++ [c]) = gval l + 128 ^ l.length * (c.toNat % 128) := by
  intro l
  induction l with
  | nil => simp [gval]
  | cons d t ih => rw [List.cons_append, gval, ih, gval, List.length_cons, Nat.pow_succ, Nat.mul_add, Nat.add_assoc]; congr 2; rw [Nat.mul_comm (128 ^ t.length) 128, Nat.mul_assoc]

theorem gval_lt : ∀ l : List UInt8, gval l < 128 ^ l.length := by
  intro l
  induction l with
  | nil => simp [gval]
  | cons d t ih =>
    rw [gval, List.length_cons, Nat.pow_succ]
    have := Nat.mod_lt d.toNat (show 0 < 128 by decide)
    omega

theorem leadN_le : ∀ (k : Nat) (l : List UInt8), leadN k l ≤ k ∧ leadN k l ≤ l.length := by
  intro k
  induction k with
  | zero => intro l; exact ⟨Nat.le_refl _, Nat.zero_le _⟩
  | succ k ih =>
    intro l
    cases l with
    | nil => exact ⟨Nat.zero_le _, Nat.zero_le _⟩
    | cons c t =>
      rw [leadN]
      have := ih t
      split
      · simp only [List.length_cons]; omega
      · exact ⟨Nat.zero_le _, Nat.zero_le _⟩

/-- m bytes that are no last ones, and then a last one, the end, or k of them. -/
theorem leadN_eq : ∀ (k m : Nat) (l : List UInt8), m ≤ k → m ≤ l.length → (∀ j, j < m → 127 < (l.getD j 0).toNat) → (m = k ∨ m = l.length ∨ (l.getD m 0).toNat ≤ 127) → leadN k l = m := by
  intro k
  induction k with
  | zero => intro m l h1 _ _ _; rw [leadN]; omega
  | succ k ih =>
    intro m l h1 h2 h3 h4
    cases l with
    | nil => simp at h2; rw [h2]; rfl
    | cons c t =>
      rw [leadN]
      cases m with
      | zero =>
        rw [if_neg]
        simp at h4; omega
      | succ m =>
        have h0 := h3 0 (by omega)
        simp at h0
        rw [if_pos h0, ih m t (by omega) (by simpa using h2) (fun j hj => by have := h3 (j + 1) (by omega); simpa using this) (by
          rcases h4 with h | h | h
          · left; omega
          · right; left; simpa using h
          · right; right; simpa using h)]

section
variable {l : List UInt8} {m p : Nat}
theorem getS_nine (h1 : 9 ≤ l.length) (h : ∀ j, j < 9 → 127 < (l.getD j 0).toNat) : getS l p = (0, 0, 5) := by
  rw [getS, if_pos (leadN_eq 9 9 l (Nat.le_refl _) h1 h (.inl rfl))]
theorem getS_end (h0 : l.length < 9) (h : ∀ j, j < l.length → 127 < (l.getD j 0).toNat) : getS l p = (0, 0, 4) := by
  have e := leadN_eq 9 l.length l (by omega) (Nat.le_refl _) h (.inr (.inl rfl))
  rw [getS, e, if_neg (by omega), if_pos rfl]
theorem getS_zero (h0 : m < 9) (h1 : m < l.length) (h : ∀ j, j < m → 127 < (l.getD j 0).toNat) (hz : (l.getD m 0).toNat = 0) (hm : 0 < m) : getS l p = (0, 0, 5) := by
  have e := leadN_eq 9 m l (by omega) (by omega) h (.inr (.inr (by omega)))
  rw [getS, e, if_neg (by omega), if_neg (by omega), if_pos ⟨UInt8.toNat_inj.mp hz, hm⟩]
theorem getS_num (h0 : m < 9) (h1 : m < l.length) (h : ∀ j, j < m → 127 < (l.getD j 0).toNat) (hc : (l.getD m 0).toNat ≤ 127) (hz : ¬ ((l.getD m 0).toNat = 0 ∧ 0 < m)) :
    getS l p = if maxNum < gval (l.take (m + 1)) then (0, 0, 7) else ((gval (l.take (m + 1)) : Int), ((p + m + 1 : Nat) : Int), 0) := by
  have e := leadN_eq 9 m l (by omega) (by omega) h (.inr (.inr hc))
  rw [getS, e, if_neg (by omega), if_neg (by omega), if_neg (fun ⟨h2, h3⟩ => hz ⟨by rw [h2]; rfl, h3⟩)]
end

theorem take_get {l : List UInt8} {k : Nat} (h : k < l.length) : l.take (k + 1) = l.take k ++ [l.getD k 0] := by
  rw [List.take_add_one, List.getElem?_eq_getElem h, List.getD_eq_getElem?_getD, List.getElem?_eq_getElem h]; rfl

theorem gval_step {l : List UInt8} {k : Nat} (h : k < l.length) : gval (l.take (k + 1)) = gval (l.take k) + 128 ^ k * ((l.getD k 0).toNat % 128) := by
  rw [take_get h, gval_app, List.length_take, Nat.min_eq_left (by omega)]

theorem gval_front {l : List UInt8} {k : Nat} (h : k < l.length) : gval (l.drop k) = (l.getD k 0).toNat % 128 + 128 * gval (l.drop (k + 1)) := by
  rw [List.drop_eq_getElem_cons h, gval, List.getD_eq_getElem?_getD, List.getElem?_eq_getElem h]; rfl

theorem getD_drop {l : List UInt8} {k j : Nat} : (l.drop k).getD j 0 = l.getD (k + j) 0 := by
  rw [List.getD_eq_getElem?_getD, List.getElem?_drop, ← List.getD_eq_getElem?_getD]

end Go.Proofs.YtlfaeabbfejjcaaDoor
