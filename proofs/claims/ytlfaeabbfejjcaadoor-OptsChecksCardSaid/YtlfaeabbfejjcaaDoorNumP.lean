/- Plain laws: the reference's reading of a number and of a word is the program's. No program. -/
import Derived.Test.YtlfaeabbfejjcaaDoorPSpec
import Derived.Lib.ItoaNum
namespace Go.Proofs.YtlfaeabbfejjcaaDoor
open Go.Lib

/-- What the reference's number answers. -/
def numS (l : List UInt8) : Int :=
  if l.length < 1 ∨ 10 < l.length then -1 else match digL l 0 with
    | none => -1
    | some n => if decDigits n.toNat = l then n else -1

theorem digL_app (c : UInt8) : ∀ (l : List UInt8) (n : Int), digL (l ++ [c]) n = (digL l n).bind fun m => if c.toNat < 48 ∨ 57 < c.toNat then none else some (10 * m + ((c.toNat : Int) - 48)) := by
  intro l
  induction l with
  | nil => intro n; simp only [List.nil_append, digL, Option.bind_some]
  | cons d t ih =>
    intro n
    rw [List.cons_append, digL, digL]
    by_cases h : d.toNat < 48 ∨ 57 < d.toNat
    · rw [if_pos h, if_pos h]; rfl
    · rw [if_neg h, if_neg h, ih]

theorem digL_nonneg : ∀ (l : List UInt8) (n m : Int), 0 ≤ n → digL l n = some m → 0 ≤ m := by
  intro l
  induction l with
  | nil => intro n m h e; rw [digL] at e; injection e with e; omega
  | cons d t ih =>
    intro n m h e
    rw [digL] at e
    by_cases hd : d.toNat < 48 ∨ 57 < d.toNat
    · rw [if_pos hd] at e; cases e
    · rw [if_neg hd] at e
      exact ih _ _ (by omega) e

theorem head_app {l m : List UInt8} (h : l ≠ []) : (l ++ m).head? = l.head? := by
  cases l with
  | nil => exact absurd rfl h
  | cons a t => rfl

theorem dec_head (u : Nat) : (decDigits u).head? = some 48 → u = 0 := by
  induction u using Nat.strongRecOn with
  | _ u ih =>
    intro h
    by_cases hu : u < 10
    · rw [decDigits_one hu] at h
      simp only [List.head?_cons, Option.some.injEq] at h
      have := congrArg UInt8.toNat h
      simp only [UInt8.toNat_ofNat', UInt8.reduceToNat] at this
      omega
    · rw [decDigits, dif_neg hu] at h
      have hne : decDigits (u / 10) ≠ [] := by
        intro e; have := decDigits_length (u / 10); rw [e] at this; have := nDigits_pos (u / 10); simp at *; omega
      rw [head_app hne] at h
      have := ih (u / 10) (by omega) h
      omega

theorem dec_len_two {u : Nat} (h : 1 < (decDigits u).length) : ¬ u < 10 := by
  intro hu
  rw [decDigits_one hu] at h
  simp at h

theorem dec_digit (c : UInt8) (h : ¬ (c.toNat < 48 ∨ 57 < c.toNat)) : UInt8.ofNat (48 + (c.toNat - 48)) = c := by
  rw [show 48 + (c.toNat - 48) = c.toNat by omega]; simp

/-- Digits without a nought ahead are the numeral of their number. -/
theorem dec_of_rev (r : List UInt8) : ∀ n, r.reverse ≠ [] → (1 < r.reverse.length → r.reverse.head? ≠ some 48) → digL r.reverse 0 = some n → decDigits n.toNat = r.reverse := by
  induction r with
  | nil => intro n h; exact absurd rfl h
  | cons c r ih =>
    intro n _ hh hd
    rw [List.reverse_cons] at hh hd ⊢
    generalize r.reverse = l at ih hh hd
    rw [digL_app] at hd
    rcases hl : digL l 0 with _ | m
    · rw [hl] at hd; cases hd
    · rw [hl, Option.bind_some] at hd
      by_cases hc : c.toNat < 48 ∨ 57 < c.toNat
      · rw [if_pos hc] at hd; cases hd
      · rw [if_neg hc] at hd
        injection hd with hd
        have m0 := digL_nonneg l 0 m (by decide) hl
        by_cases hnil : l = []
        · subst hnil
          rw [digL] at hl
          injection hl with hl
          subst hl
          have e : n.toNat = c.toNat - 48 := by omega
          rw [e, decDigits_one (by omega), dec_digit c hc]; rfl
        · have hlen : 0 < l.length := List.length_pos_iff.2 hnil
          have hh2 : l.head? ≠ some 48 := by
            have := hh (by simp; omega)
            rwa [head_app hnil] at this
          have e := ih m hnil (fun _ => hh2) hl
          have hm : m.toNat ≠ 0 := by
            intro h0
            rw [h0] at e
            rw [← e] at hh2
            exact hh2 (by rw [decDigits_one (by decide)]; rfl)
          have e1 : n.toNat / 10 = m.toNat := by omega
          have e2 : n.toNat % 10 = c.toNat - 48 := by omega
          rw [decDigits, dif_neg (by omega), e1, e2, e, dec_digit c hc]
theorem dec_of_digL (l : List UInt8) (n : Int) (h : l ≠ []) (hh : 1 < l.length → l.head? ≠ some 48) (hd : digL l 0 = some n) : decDigits n.toNat = l := by
  have := dec_of_rev l.reverse n
  rw [List.reverse_reverse] at this
  exact this h hh hd

theorem digS_numS (l : List UInt8) : (digS l).2 = true ∧ numS l = (digS l).1 ∧ 0 ≤ (digS l).1 ∨ digS l = (0, false) ∧ numS l = -1 := by
  by_cases h : l.length = 0 ∨ 10 < l.length ∨ (1 < l.length ∧ l.head? = some 48)
  · right
    refine ⟨digS_bad h, ?_⟩
    unfold numS
    by_cases h1 : l.length < 1 ∨ 10 < l.length
    · rw [if_pos h1]
    · rw [if_neg h1]
      obtain ⟨h2, h3⟩ : 1 < l.length ∧ l.head? = some 48 := by
        rcases h with h | h | h
        · omega
        · omega
        · exact h
      rcases hd : digL l 0 with _ | n
      · rfl
      · simp only
        rw [if_neg]
        intro e
        rw [← e] at h3 h2
        have := dec_head _ h3
        have := dec_len_two h2
        omega
  · rcases hd : digL l 0 with _ | n
    · right
      refine ⟨digS_none hd, ?_⟩
      unfold numS
      rw [hd]
      split <;> rfl
    · left
      rw [digS_some h hd]
      have hn := digL_nonneg l 0 n (by decide) hd
      refine ⟨rfl, ?_, hn⟩
      unfold numS
      rw [if_neg (by omega), hd]
      simp only
      rw [if_pos (dec_of_digL l n (by intro e; subst e; exact h (.inl rfl)) (fun h1 h2 => h (.inr (.inr ⟨h1, h2⟩))) hd)]

/-- The front of field i's words with a number. -/
def pf (i : Nat) : List UInt8 := [45, 45] ++ (nm i).data.toList ++ [61]

/-- What the reference's word answers, from field 21 - k on. -/
def wordL (w : List UInt8) : Nat → Int × Int
  | 0 => (-1, 0)
  | k + 1 =>
    if 2 ≤ 20 - k ∧ 20 - k ≤ 17 then
      (if w = [45, 45] ++ (nm (20 - k)).data.toList then (((20 - k : Nat) : Int), 1) else if w = [45, 45, 110, 111, 45] ++ (nm (20 - k)).data.toList then (((20 - k : Nat) : Int), 0) else wordL w k)
    else if hasPrefix w (pf (20 - k)) = true then
      (if 0 < 20 - k then (if numS (trimPrefix w (pf (20 - k))) < 0 then (-1, 0) else (((20 - k : Nat) : Int), numS (trimPrefix w (pf (20 - k)))))
       else if (whenS (trimPrefix w (pf (20 - k)))).2 = true then (0, (whenS (trimPrefix w (pf (20 - k)))).1) else (-1, 0))
    else wordL w k

def wOut : Option (Nat × Int) → Int × Int
  | none => (-1, 0)
  | some (i, n) => ((i : Int), n)

theorem findF_none (w : List UInt8) : ∀ k, k ≤ 21 → (∀ j, 21 - k ≤ j → j < 21 → (fS j w).2 = false) → findF w k = none := by
  intro k
  induction k with
  | zero => intro _ _; rfl
  | succ k ih =>
    intro hk h
    rw [findF, h (20 - k) (by omega) (by omega)]
    simp only [Bool.false_eq_true, if_false]
    exact ih (by omega) (fun j h1 h2 => h j (by omega) h2)

theorem pre_split {w p : List UInt8} (h : hasPrefix w p = true) : ∃ t, w = p ++ t := by
  obtain ⟨t, ht⟩ := List.isPrefixOf_iff_prefix.1 h
  exact ⟨t, ht.symm⟩

theorem kd_num : ∀ i, i < 21 → (¬ (2 ≤ i ∧ i ≤ 17) → kd i ≠ 0 ∧ (0 < i → kd i = 1) ∧ (i = 0 → kd i ≠ 1)) ∧ ((2 ≤ i ∧ i ≤ 17) → kd i = 0) := by decide

theorem fS_sw {i : Nat} (hi : i < 21) (h : 2 ≤ i ∧ i ≤ 17) (w : List UInt8) : fS i w = if w = [45, 45] ++ (nm i).data.toList then (1, true) else if w = [45, 45, 110, 111, 45] ++ (nm i).data.toList then (0, true) else (0, false) := by
  rw [fS, sayS, if_neg (by rw [(kd_num i hi).2 h]; simp)]
theorem fS_val {i : Nat} (hi : i < 21) (h : ¬ (2 ≤ i ∧ i ≤ 17)) (w : List UInt8) : fS i w = if hasPrefix w (pf i) = true then (if kd i = 1 then digS (trimPrefix w (pf i)) else whenS (trimPrefix w (pf i))) else (0, false) := by
  rw [fS, sayS, if_pos ((kd_num i hi).1 h).1, valS]; rfl

def apart2 (i j : Nat) : Bool := (List.range 40).any fun k => match (pf i)[k]?, (pf j)[k]? with
  | some a, some b => a != b
  | _, _ => false
def apartS (i j : Nat) : Bool := ((List.range 40).any fun k => match (pf i)[k]?, ([45, 45] ++ (nm j).data.toList)[k]? with
  | some a, some b => a != b
  | some _, none => true
  | none, _ => false)
def apartN (i j : Nat) : Bool := ((List.range 40).any fun k => match (pf i)[k]?, ([45, 45, 110, 111, 45] ++ (nm j).data.toList)[k]? with
  | some a, some b => a != b
  | some _, none => true
  | none, _ => false)

theorem apart2_ok {i j : Nat} (h : apart2 i j = true) (t : List UInt8) : hasPrefix (pf i ++ t) (pf j) = false := by
  obtain ⟨k, _, hk⟩ := List.any_eq_true.1 h
  rcases e1 : (pf i)[k]? with _ | a
  · simp [e1] at hk
  · rcases e2 : (pf j)[k]? with _ | b
    · simp [e1, e2] at hk
    · simp only [e1, e2, bne_iff_ne] at hk
      cases hp : hasPrefix (pf i ++ t) (pf j)
      · rfl
      · obtain ⟨u, hu⟩ := pre_split hp
        have h1 : (pf i ++ t)[k]? = some a := by rw [List.getElem?_append_left (List.getElem?_eq_some_iff.1 e1).1]; exact e1
        rw [hu, List.getElem?_append_left (List.getElem?_eq_some_iff.1 e2).1, e2] at h1
        exact absurd (Option.some.inj h1).symm hk

theorem apart_ne {p q : List UInt8} (h : ((List.range 40).any fun k => match p[k]?, q[k]? with
  | some a, some b => a != b
  | some _, none => true
  | none, _ => false) = true) (t : List UInt8) : p ++ t ≠ q := by
  intro e
  obtain ⟨k, _, hk⟩ := List.any_eq_true.1 h
  rcases e1 : p[k]? with _ | a
  · simp [e1] at hk
  · have h1 : (p ++ t)[k]? = some a := by rw [List.getElem?_append_left (List.getElem?_eq_some_iff.1 e1).1]; exact e1
    rw [e] at h1
    simp [e1, h1] at hk

def apartB : Bool := (List.range 21).all fun i => (decide (2 ≤ i) && decide (i ≤ 17)) || (List.range 21).all fun j => !decide (i < j) || (if 2 ≤ j ∧ j ≤ 17 then apartS i j && apartN i j else apart2 i j)
theorem apartB_true : apartB = true := by decide +kernel
theorem apart_tab (i : Nat) (hi : i < 21) (h : ¬ (2 ≤ i ∧ i ≤ 17)) (j : Nat) (hj : j < 21) (hij : i < j) : ((2 ≤ j ∧ j ≤ 17) → apartS i j = true ∧ apartN i j = true) ∧ (¬ (2 ≤ j ∧ j ≤ 17) → apart2 i j = true) := by
  have h1 := List.all_eq_true.1 apartB_true i (List.mem_range.2 hi)
  rw [Bool.or_eq_true] at h1
  rcases h1 with h1 | h1
  · simp at h1; exact absurd h1 h
  · have h2 := List.all_eq_true.1 h1 j (List.mem_range.2 hj)
    rw [show decide (i < j) = true by simpa using hij] at h2
    simp only [Bool.not_true, Bool.false_or] at h2
    constructor
    · intro hk; rw [if_pos hk] at h2; simpa using h2
    · intro hk; rw [if_neg hk] at h2; exact h2

theorem none_behind {i : Nat} (hi : i < 21) (h : ¬ (2 ≤ i ∧ i ≤ 17)) {w : List UInt8} (hp : hasPrefix w (pf i) = true) : ∀ j, i < j → j < 21 → (fS j w).2 = false := by
  intro j h1 h2
  obtain ⟨t, rfl⟩ := pre_split hp
  obtain ⟨a, b⟩ := apart_tab i hi h j h2 h1
  by_cases hj : 2 ≤ j ∧ j ≤ 17
  · rw [fS_sw h2 hj, if_neg (apart_ne (a hj).1 t), if_neg (apart_ne (a hj).2 t)]
  · rw [fS_val h2 hj, apart2_ok (b hj) t]; rfl

theorem word_find (w : List UInt8) : ∀ k, k ≤ 21 → wordL w k = wOut (findF w k) := by
  intro k
  induction k with
  | zero => intro _; rfl
  | succ k ih =>
    intro hk
    have ih' := ih (by omega)
    rw [wordL, findF]
    by_cases h : 2 ≤ 20 - k ∧ 20 - k ≤ 17
    · rw [if_pos h, fS_sw (by omega) h]
      by_cases h1 : w = [45, 45] ++ (nm (20 - k)).data.toList
      · rw [if_pos h1, if_pos h1]; rfl
      · rw [if_neg h1, if_neg h1]
        by_cases h2 : w = [45, 45, 110, 111, 45] ++ (nm (20 - k)).data.toList
        · rw [if_pos h2, if_pos h2]; rfl
        · rw [if_neg h2, if_neg h2]; exact ih'
    · rw [if_neg h, fS_val (by omega) h]
      by_cases hp : hasPrefix w (pf (20 - k)) = true
      · have hn : findF w k = none := findF_none w k (by omega) (fun j h1 h2 => none_behind (by omega) h hp j (by omega) h2)
        rw [if_pos hp, if_pos hp, hn]
        by_cases h0 : 0 < 20 - k
        · rw [if_pos h0, if_pos (((kd_num (20 - k) (by omega)).1 h).2.1 h0)]
          rcases digS_numS (trimPrefix w (pf (20 - k))) with ⟨a, b, c⟩ | ⟨a, b⟩
          · rw [if_pos a, if_neg (show ¬ numS (trimPrefix w (pf (20 - k))) < 0 by omega), ← b]; rfl
          · rw [if_pos (show numS (trimPrefix w (pf (20 - k))) < 0 by omega), a]; rfl
        · rw [if_neg h0, if_neg (((kd_num (20 - k) (by omega)).1 h).2.2 (by omega))]
          have e0 : 20 - k = 0 := by omega
          rw [e0]
          by_cases hw : (whenS (trimPrefix w (pf 0))).2 = true
          · rw [if_pos hw, if_pos hw]; rfl
          · rw [if_neg hw, if_neg hw]; rfl
      · rw [if_neg hp, if_neg hp]; exact ih'
end Go.Proofs.YtlfaeabbfejjcaaDoor
