/- A path's parts. -/
import Derived.Test.YtmmobhmiemmioaaDoorMem
import Derived.Laws.RangeAny
import Derived.Laws.RangeString
import Derived.Lib.OthersKept
namespace Go.Proofs.YtmmobhmiemmioaaDoor
open Go.RowKit

/-- The texts between slashes. -/
def partsS : List UInt8 → List (List UInt8)
  | [] => [[]]
  | c :: t => if c = 47 then [] :: partsS t else match partsS t with
    | [] => [[c]]
    | h :: r => (c :: h) :: r
def splS (l : List UInt8) : List (List UInt8) := if l = [] then [] else partsS l
/-- A text ahead of the first part. -/
def glue (u : List UInt8) : List (List UInt8) → List (List UInt8)
  | [] => [u]
  | h :: r => (u ++ h) :: r
theorem parts_ne (l : List UInt8) : ∃ h r, partsS l = h :: r := by
  cases l with
  | nil => exact ⟨_, _, rfl⟩
  | cons c t =>
    unfold partsS
    split
    · exact ⟨_, _, rfl⟩
    · split <;> exact ⟨_, _, rfl⟩
theorem parts_slash (t : List UInt8) : partsS (47 :: t) = [] :: partsS t := by
  show (if (47 : UInt8) = 47 then _ else _) = _
  rw [if_pos rfl]
theorem parts_byte {c : UInt8} (t : List UInt8) (h : c ≠ 47) : partsS (c :: t) = glue [c] (partsS t) := by
  show (if c = 47 then _ else _) = _
  rw [if_neg h]
  obtain ⟨x, r, e⟩ := parts_ne t
  rw [e]; rfl
theorem glue_glue (u v : List UInt8) (q : List (List UInt8)) : glue u (glue v q) = glue (u ++ v) q := by
  cases q with
  | nil => rfl
  | cons h r => simp [glue]
theorem glue_nil (l : List UInt8) : glue [] (partsS l) = partsS l := by
  obtain ⟨x, r, e⟩ := parts_ne l
  rw [e]; rfl
theorem parts_app (u t : List UInt8) (h : ∀ c ∈ u, c ≠ 47) : partsS (u ++ t) = glue u (partsS t) := by
  induction u with
  | nil => rw [List.nil_append, glue_nil]
  | cons c u ih =>
    rw [List.cons_append, parts_byte _ (h c (by simp)), ih (fun x hx => h x (by simp [hx])), glue_glue]; rfl

/-- A rune that is no slash: its bytes are none either. -/
theorem decode_skip (s : ByteArray) (pos : Nat) (h : pos < s.size) (h47 : (s[pos]'h) ≠ 47) :
    (Utf8.decode s pos).1 ≠ 47 ∧ 1 ≤ (Utf8.decode s pos).2 ∧ pos + (Utf8.decode s pos).2 ≤ s.size ∧ ∀ c ∈ (s.data.toList.drop pos).take (Utf8.decode s pos).2, c ≠ 47 := by
  have hg : ∀ i (hi : i < s.size), s.get! i = s[i]'hi := fun i hi => by
    show s.data[i]! = s.data[i]
    rw [getElem!_pos s.data i hi]
  by_cases ha : (s[pos]'h).toNat < 128
  · rw [decode_ascii s pos h ha]
    refine ⟨fun e => h47 (UInt8.toNat_inj.1 e), Nat.le_refl _, by omega, fun c hc => ?_⟩
    have hp : pos < s.data.toList.length := by simpa using h
    rw [List.drop_eq_getElem_cons hp, List.take_succ_cons, List.take_zero, List.mem_singleton] at hc
    rw [hc]; exact h47
  · obtain ⟨h1, h2⟩ := decode_high s pos h (by omega)
    refine ⟨by omega, h2, ?_⟩
    have key : ∀ k, k < (Utf8.decode s pos).2 → pos + k < s.size ∧ 128 ≤ (s.get! (pos + k)).toNat := by
      have h0 : 128 ≤ (s.get! (pos + 0)).toNat := by rw [Nat.add_zero, hg pos h]; omega
      have hc : ∀ k, (decide (pos + k < s.size) && (s.get! (pos + k)).toNat / 64 == 2) = true → pos + k < s.size ∧ 128 ≤ (s.get! (pos + k)).toNat := fun k hk => by
        simp only [Bool.and_eq_true, decide_eq_true_eq, beq_iff_eq] at hk
        exact ⟨hk.1, by omega⟩
      have one : ∀ k, k < 1 → pos + k < s.size ∧ 128 ≤ (s.get! (pos + k)).toNat := fun k hk => by
        obtain rfl : k = 0 := by omega
        exact ⟨h, h0⟩
      intro k hk
      unfold Utf8.decode at hk
      simp only at hk
      split at hk
      · exact one k hk
      split at hk
      · rename_i hb
        simp only [Bool.and_eq_true] at hb
        split at hk
        · rcases (show k = 0 ∨ k = 1 by omega) with rfl | rfl
          · exact ⟨h, h0⟩
          · exact hc 1 (by simpa using hb.2)
        · exact one k hk
      split at hk
      · rename_i hb
        simp only [Bool.and_eq_true] at hb
        split at hk
        · rcases (show k = 0 ∨ k = 1 ∨ k = 2 by omega) with rfl | rfl | rfl
          · exact ⟨h, h0⟩
          · exact hc 1 (by simpa using hb.1.2)
          · exact hc 2 (by simpa using hb.2)
        · exact one k hk
      split at hk
      · rename_i hb
        simp only [Bool.and_eq_true] at hb
        split at hk
        · rcases (show k = 0 ∨ k = 1 ∨ k = 2 ∨ k = 3 by omega) with rfl | rfl | rfl | rfl
          · exact ⟨h, h0⟩
          · exact hc 1 (by simpa using hb.1.1.2)
          · exact hc 2 (by simpa using hb.1.2)
          · exact hc 3 (by simpa using hb.2)
        · exact one k hk
      · exact one k hk
    refine ⟨by have := (key ((Utf8.decode s pos).2 - 1) (by omega)).1; omega, fun c hc e => ?_⟩
    obtain ⟨k, hk⟩ := List.mem_iff_getElem?.1 hc
    have hkw : k < (Utf8.decode s pos).2 := by
      have := (List.getElem?_eq_some_iff.1 hk).1
      rw [List.length_take] at this; omega
    obtain ⟨k1, k2⟩ := key k hkw
    rw [List.getElem?_take_of_lt hkw, List.getElem?_drop] at hk
    rw [hg _ k1, get_of hk k1, e] at k2
    exact absurd k2 (by decide)
end Go.Proofs.YtmmobhmiemmioaaDoor
