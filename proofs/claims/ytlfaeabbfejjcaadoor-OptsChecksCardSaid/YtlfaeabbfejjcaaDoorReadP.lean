/- Plain law of options among bytes: what Read computes. No program. -/
import Derived.Test.YtlfaeabbfejjcaaDoorGetP
import Derived.Test.YtlfaeabbfejjcaaDoorPSpec
namespace Go.Proofs.YtlfaeabbfejjcaaDoor

/-- m more numbers, from place p on: what is wrong, the place behind, the numbers. -/
def rd (l : List UInt8) : Nat → Int → (Nat → Int) → Int × Int × (Nat → Int)
  | 0, p, v => (0, p, v)
  | m + 1, p, v => if (getA l p).2.2 = 0 then rd l m (getA l p).2.1 (upd v (5 - m) (getA l p).1) else ((getA l p).2.2, 0, v)

/-- The numbers as fields: the flags unset; set below k; all. -/
def oF (v : Nat → Int) : Nat → Int := fun i => if i = 0 then v 0 else if i = 1 then v 1 else if i = 18 then v 3 else if i = 19 then v 4 else if i = 20 then v 5 else 0
def gF2 (v : Nat → Int) (k : Nat) : Nat → Int := fun i => if 2 ≤ i ∧ i ≤ 17 ∧ i < k then v 2 / 2 ^ (i - 2) % 2 else oF v i
def rF (v : Nat → Int) : Nat → Int := gF2 v 21

/-- What Read answers. -/
def readS (l : List UInt8) (p : Int) : (Nat → Int) × Int × Int :=
  if (rd l 6 p zf).1 = 0 then (if 65536 ≤ (rd l 6 p zf).2.2 2 then (zf, 0, 5) else if okS (rF (rd l 6 p zf).2.2) = true then (rF (rd l 6 p zf).2.2, (rd l 6 p zf).2.1, 0) else (zf, 0, 2)) else (zf, 0, (rd l 6 p zf).1)

theorem rd_err {l : List UInt8} {m : Nat} {p : Int} {v : Nat → Int} {n nx e : Int} (h : getA l p = (n, nx, e)) (he : ¬ e = 0) : rd l (m + 1) p v = (e, 0, v) := by
  rw [rd, h, if_neg he]
theorem rd_ok {l : List UInt8} {m : Nat} {p : Int} {v : Nat → Int} {n nx : Int} (h : getA l p = (n, nx, 0)) : rd l (m + 1) p v = rd l m nx (upd v (5 - m) n) := by
  rw [rd, h, if_pos rfl]

theorem readS_err {l : List UInt8} {p q : Int} {v : Nat → Int} {e : Int} (h : rd l 6 p zf = (e, q, v)) (he : ¬ e = 0) : readS l p = (zf, 0, e) := by
  rw [readS, h, if_neg he]
theorem readS_form {l : List UInt8} {p q : Int} {v : Nat → Int} (h : rd l 6 p zf = (0, q, v)) (hb : 65536 ≤ v 2) : readS l p = (zf, 0, 5) := by
  rw [readS, h, if_pos rfl, if_pos hb]
theorem readS_arg {l : List UInt8} {p q : Int} {v : Nat → Int} (h : rd l 6 p zf = (0, q, v)) (hb : ¬ 65536 ≤ v 2) (ho : okS (rF v) = false) : readS l p = (zf, 0, 2) := by
  rw [readS, h, if_pos rfl, if_neg hb, if_neg (by rw [ho]; simp)]
theorem readS_ok {l : List UInt8} {p q : Int} {v : Nat → Int} (h : rd l 6 p zf = (0, q, v)) (hb : ¬ 65536 ≤ v 2) (ho : okS (rF v) = true) : readS l p = (rF v, q, 0) := by
  rw [readS, h, if_pos rfl, if_neg hb, if_pos ho]

theorem getA_bd (l : List UInt8) (p : Int) : 0 ≤ (getA l p).1 ∧ (getA l p).1 ≤ 4611686018427387903 := by
  unfold getA
  split
  · exact ⟨by decide, by decide⟩
  · unfold getS
    split
    · exact ⟨by decide, by decide⟩
    · split
      · exact ⟨by decide, by decide⟩
      · split
        · exact ⟨by decide, by decide⟩
        · split
          · exact ⟨by decide, by decide⟩
          · rename_i h
            unfold maxNum at h
            simp only
            omega

/-- All numbers are within bounds. -/
def vbd (v : Nat → Int) : Prop := ∀ i, 0 ≤ v i ∧ v i ≤ 4611686018427387903
theorem vbd_zf : vbd zf := fun _ => ⟨(by decide : (0 : Int) ≤ 0), (by decide : (0 : Int) ≤ 4611686018427387903)⟩
theorem vbd_upd {v : Nat → Int} (h : vbd v) (k : Nat) {n : Int} (h0 : 0 ≤ n) (h1 : n ≤ 4611686018427387903) : vbd (upd v k n) := by
  intro i
  unfold upd
  split
  · exact ⟨h0, h1⟩
  · exact h i

theorem ocells_ext {f g : Nat → Int} (h : ∀ i, i < 21 → f i = g i) : ocells f = ocells g := by
  have e := fun i (hi : i < 21) => h i hi
  simp only [ocells, e 0 (by decide), e 1 (by decide), e 2 (by decide), e 3 (by decide), e 4 (by decide), e 5 (by decide), e 6 (by decide), e 7 (by decide), e 8 (by decide), e 9 (by decide), e 10 (by decide), e 11 (by decide), e 12 (by decide), e 13 (by decide), e 14 (by decide), e 15 (by decide), e 16 (by decide), e 17 (by decide), e 18 (by decide), e 19 (by decide), e 20 (by decide)]
theorem gF2_start (v : Nat → Int) : gF2 v 0 = oF v := by funext i; unfold gF2; rw [if_neg (by omega)]
theorem gF2_step (v : Nat → Int) (k : Nat) (h : 2 ≤ k ∧ k ≤ 17) : upd (gF2 v k) k (v 2 / 2 ^ (k - 2) % 2) = gF2 v (k + 1) := by
  funext i
  unfold upd gF2
  by_cases hi : i = k
  · rw [if_pos hi, if_pos (by omega), hi]
  · rw [if_neg hi]
    by_cases h2 : 2 ≤ i ∧ i ≤ 17 ∧ i < k
    · rw [if_pos h2, if_pos (by omega)]
    · rw [if_neg h2, if_neg (by omega)]
theorem gF2_skip (v : Nat → Int) (k : Nat) (h : ¬ (2 ≤ k ∧ k ≤ 17)) : gF2 v k = gF2 v (k + 1) := by
  funext i
  unfold gF2
  by_cases h2 : 2 ≤ i ∧ i ≤ 17 ∧ i < k
  · rw [if_pos h2, if_pos (by omega)]
  · rw [if_neg h2, if_neg (by omega)]
theorem oF_upd (v : Nat → Int) (n : Int) : oF (upd v 0 n) = upd (oF v) 0 n ∧ oF (upd v 1 n) = upd (oF v) 1 n ∧ oF (upd v 2 n) = oF v ∧ oF (upd v 3 n) = upd (oF v) 18 n ∧ oF (upd v 4 n) = upd (oF v) 19 n ∧ oF (upd v 5 n) = upd (oF v) 20 n := by
  refine ⟨?_, ?_, ?_, ?_, ?_, ?_⟩
  all_goals
    funext i
    have hi : i = 0 ∨ i = 1 ∨ i = 18 ∨ i = 19 ∨ i = 20 ∨ (i ≠ 0 ∧ i ≠ 1 ∧ i ≠ 18 ∧ i ≠ 19 ∧ i ≠ 20) := by omega
    rcases hi with rfl | rfl | rfl | rfl | rfl | ⟨a, b, c, d, e⟩
    all_goals simp [oF, upd, *]
/-- The flags' weight before field k. -/
def bw (k : Nat) : Nat := if k ≤ 2 then 1 else if k ≤ 18 then 2 ^ (k - 2) else 65536
theorem bw_step (k : Nat) (h : 2 ≤ k ∧ k ≤ 17) : bw (k + 1) = bw k * 2 ∧ bw k = 2 ^ (k - 2) := by
  have e : bw k = 2 ^ (k - 2) := by
    unfold bw
    by_cases h2 : k ≤ 2
    · rw [if_pos h2, show k - 2 = 0 by omega]
    · rw [if_neg h2, if_pos (by omega)]
  refine ⟨?_, e⟩
  rw [e]
  unfold bw
  rw [if_neg (by omega), if_pos (by omega), show k + 1 - 2 = (k - 2) + 1 by omega, Nat.pow_succ]
theorem bw_skip (k : Nat) (h : ¬ (2 ≤ k ∧ k ≤ 17)) : bw (k + 1) = bw k := by
  unfold bw
  by_cases h2 : k ≤ 1
  · rw [if_pos (by omega), if_pos (by omega)]
  · rw [if_neg (by omega), if_neg (by omega), if_neg (by omega)]
    by_cases h3 : k = 18
    · subst h3; rfl
    · rw [if_neg (by omega)]
theorem bw_bd (k : Nat) : 1 ≤ bw k ∧ bw k ≤ 65536 := by
  unfold bw
  split
  · omega
  · split
    · have : 2 ^ (k - 2) ≤ 2 ^ 16 := Nat.pow_le_pow_right (by decide) (by omega)
      have := Nat.one_le_pow (k - 2) 2 (by decide)
      omega
    · omega
end Go.Proofs.YtlfaeabbfejjcaaDoor
