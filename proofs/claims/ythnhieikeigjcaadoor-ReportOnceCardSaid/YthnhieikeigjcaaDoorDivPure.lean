/- The school method of division by two half words: plain arithmetic. -/
namespace Go.Proofs.YthnhieikeigjcaaDoor
/-- One step of the school method: dividend N = u*B + d, divisor y = y1*B + y0. -/
theorem div_step_ge (u d y1 y0 : Nat) (hd : d < 4294967296) (hy0 : y0 < 4294967296) (hy1 : 2147483648 ≤ y1) :
    (u * 4294967296 + d) / (y1 * 4294967296 + y0) ≤ u / y1 := by
  have hp : 0 < y1 := by omega
  have h1 : u < (u / y1 + 1) * y1 := by
    have := Nat.lt_mul_div_succ u hp
    rw [Nat.mul_comm] at this; exact this
  have hlt : u * 4294967296 + d < (u / y1 + 1) * (y1 * 4294967296 + y0) := by
    have h2 : u + 1 ≤ (u / y1 + 1) * y1 := h1
    have h3 : (u + 1) * 4294967296 ≤ (u / y1 + 1) * y1 * 4294967296 := Nat.mul_le_mul_right _ h2
    have h4 : (u / y1 + 1) * (y1 * 4294967296 + y0) = (u / y1 + 1) * y1 * 4294967296 + (u / y1 + 1) * y0 := by
      rw [Nat.mul_add, Nat.mul_assoc]
    omega
  have := (Nat.div_lt_iff_lt_mul (k := y1 * 4294967296 + y0) (x := u * 4294967296 + d) (y := u / y1 + 1) (by omega)).2 hlt
  omega

/-- the first guess is at most B + 1 -/
theorem div_guess_le (u y1 y0 : Nat) (hy0 : y0 < 4294967296) (hy1 : 2147483648 ≤ y1) (hu : u < y1 * 4294967296 + y0) :
    u / y1 ≤ 4294967297 := by
  have hp : 0 < y1 := by omega
  apply Nat.le_of_lt_succ
  rw [Nat.div_lt_iff_lt_mul hp]
  omega

/-- the loop's test: q too great iff q*y0 > r*B + d, r = u - q*y1. -/
theorem div_test (u d y1 y0 q r : Nat) (hr : u = q * y1 + r) (hy : 0 < y1) :
    (r * 4294967296 + d < q * y0 ↔ (u * 4294967296 + d) / (y1 * 4294967296 + y0) < q) := by
  rw [Nat.div_lt_iff_lt_mul (by omega)]
  have : q * (y1 * 4294967296 + y0) = q * y1 * 4294967296 + q * y0 := by rw [Nat.mul_add, Nat.mul_assoc]
  rw [this]
  subst hr
  omega

/-- Q is below B -/
theorem div_q_lt (u d y : Nat) (hd : d < 4294967296) (hu : u < y) : (u * 4294967296 + d) / y < 4294967296 := by
  rw [Nat.div_lt_iff_lt_mul (by omega)]
  have : (u + 1) * 4294967296 ≤ y * 4294967296 := Nat.mul_le_mul_right _ hu
  omega

/-- the two digits make the quotient -/
theorem div_two (u a b y : Nat) (hy : 0 < y) :
    (u * 4294967296 * 4294967296 + a * 4294967296 + b) / y =
      (u * 4294967296 + a) / y * 4294967296 + ((u * 4294967296 + a) % y * 4294967296 + b) / y ∧
    (u * 4294967296 * 4294967296 + a * 4294967296 + b) % y = ((u * 4294967296 + a) % y * 4294967296 + b) % y := by
  have h := Nat.div_add_mod (u * 4294967296 + a) y
  obtain ⟨Q, hQ⟩ : ∃ Q, (u * 4294967296 + a) / y = Q := ⟨_, rfl⟩
  obtain ⟨R, hR⟩ : ∃ R, (u * 4294967296 + a) % y = R := ⟨_, rfl⟩
  rw [hQ, hR] at h
  rw [hQ, hR]
  have e : u * 4294967296 * 4294967296 + a * 4294967296 + b = (R * 4294967296 + b) + y * (Q * 4294967296) := by
    have h2 : y * (Q * 4294967296) = y * Q * 4294967296 := by rw [Nat.mul_assoc]
    rw [h2]
    omega
  rw [e]
  refine ⟨?_, ?_⟩
  · rw [Nat.add_mul_div_left _ _ hy]; omega
  · rw [Nat.add_mul_mod_self_left]

theorem div_shift (n y s : Nat) (hs : 0 < s) : (n * s) / (y * s) = n / y ∧ (n * s) % (y * s) = (n % y) * s := by
  exact ⟨Nat.mul_div_mul_right _ _ hs, Nat.mul_mod_mul_right _ _ _⟩
theorem div_over (u d y1 y0 q r : Nat) (hr : u = q * y1 + r) (hq : q ≤ 4294967296) (h : 4294967296 ≤ r) (hy0 : y0 < 4294967296) (hy : 0 < y1) :
    q ≤ (u * 4294967296 + d) / (y1 * 4294967296 + y0) := by
  rw [Nat.le_div_iff_mul_le (by omega)]
  have e : q * (y1 * 4294967296 + y0) = q * y1 * 4294967296 + q * y0 := by rw [Nat.mul_add, Nat.mul_assoc]
  have h1 : q * y0 ≤ 4294967296 * y0 := Nat.mul_le_mul_right _ hq
  rw [e, hr]
  omega

end Go.Proofs.YthnhieikeigjcaaDoor
