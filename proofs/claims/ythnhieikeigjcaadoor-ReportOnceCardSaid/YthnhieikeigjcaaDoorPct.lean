/- The walks of Percent, the program's and the reference's. -/
import Derived.Test.YthnhieikeigjcaaDoorDg
import Derived.Test.YthnhieikeigjcaaDoorDiv
namespace Go.Proofs.YthnhieikeigjcaaDoor
open Go.RowKit

/-- How much of a whole it is. -/
def pctN (n k : Nat) : Nat := if k ≤ n then 100 else 100 * n / k
def pctB (n k : Nat) : ByteArray := digB (pctN n k) ++ ⟨#[37]⟩
theorem pctN_le (n k : Nat) : pctN n k ≤ 100 := by
  unfold pctN
  split
  · exact Nat.le_refl _
  · exact Nat.le_of_lt (Nat.div_lt_of_lt_mul (by omega))
theorem dig100 : digB 100 = ⟨#[49, 48, 48]⟩ := by decide +kernel
theorem pct_all {n k : Nat} (h : k ≤ n) : pctB n k = ⟨#[49, 48, 48, 37]⟩ := by
  unfold pctB pctN
  rw [if_pos h, dig100]; rfl
theorem pct_part {n k : Nat} (h : n < k) : pctB n k = digB (100 * n / k) ++ ⟨#[37]⟩ := by
  unfold pctB pctN
  rw [if_neg (by omega)]

theorem small_spec (n : Nat) (h : n < 100) (w : World) : Calls Tryd.prog 36 #[.int .i64 n] w fun e w' => e = .returned (.string (digB n)) ∧ w = w' :=
  (Tryd.internal_strconv_small n h w).mono fun _ _ ⟨h1, h2⟩ => ⟨h1, h2.symm⟩
theorem fu_inner (n : Nat) (h : n < 100) (w : World) : Calls Tryd.prog 32 #[.int .u64 n, .int .i64 10] w fun e w' => e = .returned (.string (digB n)) ∧ w = w' := by
  have h0 : (0 : Int) ≤ n := by omega
  have h1 : decide ((n : Int) < 100) = true := by simp; omega
  have e1 : IntKind.i64.wrap (n : Int) = n := IntWalk.i64_in _ (by omega)
  have HS := Lib.hid (small_spec n h)
  go_enter Tryd.func32, Tryd.ntmps32
  go_wp2_with (go_at_call 36; refine (HS.out _).mono ?_; rintro e w' ⟨rfl, rfl⟩)
  go_ret
  exact ⟨rfl, rfl⟩
theorem fu_spec (n : Nat) (h : n < 100) (w : World) : Calls Tryd.prog 24 #[.int .u64 n, .int .i64 10] w fun e w' => e = .returned (.string (digB n)) ∧ w = w' := by
  have HS := Lib.hid (fu_inner n h)
  go_enter Tryd.func24, Tryd.ntmps24
  go_wp2_with (go_at_call 32; refine (HS.out _).mono ?_; rintro e w' ⟨rfl, rfl⟩)
  go_ret
  exact ⟨rfl, rfl⟩
theorem pct_all_spec (n k : Int) (a b : Nat) (ha : max n 0 = (a : Int)) (hb : max k 0 = (b : Int)) (h : b ≤ a) (w : World) :
    Calls Tryd.prog 11 #[.int .i64 n, .int .i64 k] w fun e w' => e = .returned (.string (pctB a b)) ∧ Fr (fun _ => False) w w' := by
  have h1 : decide (b ≤ a) = true := by simp; omega
  have HE := Lib.hid (pct_all h)
  clear h
  go_enter Tryd.func11, Tryd.ntmps11
  go_wp2_with (fail)
  have he := HE.out
  go_ret
  exact ⟨by rw [he]; rfl, Fr.refl _ _⟩
theorem rpct_all_spec (n k : Int) (a b : Nat) (ha : max n 0 = (a : Int)) (hb : max k 0 = (b : Int)) (h : b ≤ a) (w : World) :
    Calls Tryd.prog 12 #[.int .i64 n, .int .i64 k] w fun e w' => e = .returned (.string (pctB a b)) ∧ Fr (fun _ => False) w w' := by
  have h1 : decide (b ≤ a) = true := by simp; omega
  have HE := Lib.hid (pct_all h)
  clear h
  go_enter Tryd.func12, Tryd.ntmps12
  go_wp2_with (fail)
  have he := HE.out
  go_ret
  exact ⟨by rw [he]; rfl, Fr.refl _ _⟩

theorem mul_set (a b : Nat) (h : a < b) (hb : b ≤ 9223372036854775807) : ∃ H L : Nat, (∀ w, Calls Tryd.prog 22 #[.int .u64 a, .int .u64 100] w fun e w' => e = .returned (.tuple #[.int .u64 H, .int .u64 L]) ∧ w = w') ∧
    (∀ w, Calls Tryd.prog 23 #[.int .u64 H, .int .u64 L, .int .u64 b] w fun e w' => e = .returned (.tuple #[.int .u64 ((100 * a / b : Nat) : Int), .int .u64 ((100 * a % b : Nat) : Int)]) ∧ Dr w w') := by
  refine ⟨a * 100 / 18446744073709551616, a * 100 % 18446744073709551616, fun w => ?_, fun w => ?_⟩
  · exact (Tryd.bits_Mul64 a 100 (by omega) (by omega) w).mono fun e w' ⟨h1, h2⟩ => ⟨h1, h2.symm⟩
  · refine (div64_any _ _ b w (by omega) (by omega) (by omega) (by omega) (by omega)).mono fun e w' ⟨h1, h2⟩ => ⟨?_, h2⟩
    rw [h1]
    have e1 : (((a * 100 / 18446744073709551616 : Nat) : Int) * 18446744073709551616 + ((a * 100 % 18446744073709551616 : Nat) : Int)) = ((100 * a : Nat) : Int) := by omega
    rw [e1]
    exact ret2_uu (Int.natCast_ediv _ _).symm (Int.natCast_emod _ _).symm

set_option maxHeartbeats 2000000 in
theorem pct_part_spec (n k : Int) (a b : Nat) (ha : max n 0 = (a : Int)) (hb : max k 0 = (b : Int)) (h : a < b) (hbb : b ≤ 9223372036854775807) (w : World) :
    Calls Tryd.prog 11 #[.int .i64 n, .int .i64 k] w fun e w' => e = .returned (.string (pctB a b)) ∧ Fr (fun _ => False) w w' := by
  have h1 : decide (b ≤ a) = false := by simp; omega
  obtain ⟨H, L, HM, HD⟩ := mul_set a b h hbb
  have hp : 100 * a / b < 100 := Nat.div_lt_of_lt_mul (by omega)
  have HE := Lib.hid (pct_part h)
  obtain ⟨q, hq⟩ : ∃ q, q = 100 * a / b := ⟨_, rfl⟩
  obtain ⟨r, hr⟩ : ∃ r, r = 100 * a % b := ⟨_, rfl⟩
  rw [← hq] at HE hp
  rw [← hq, ← hr] at HD
  have hM := Lib.hid HM
  have hD := Lib.hid HD
  have hF := Lib.hid (fu_spec q hp)
  have z := digB_size q (by omega)
  have e1 : IntKind.u64.wrap (a : Int) = a := by rw [IntKind.wrap_u64]; omega
  have e2 : IntKind.u64.wrap (b : Int) = b := by rw [IntKind.wrap_u64]; omega
  clear h hq hr HM HD hp
  go_enter Tryd.func11, Tryd.ntmps11
  go_wp2_with (first
    | (go_at_call 22; refine (hM.out _).mono ?_; rintro e w1 ⟨rfl, rfl⟩)
    | (go_at_call 23; refine (hD.out _).mono ?_; rintro e w2 ⟨rfl, hdr⟩; have HDR := Lib.hid (hdr.fr (fun _ => False)); clear hdr)
    | (go_at_call 24; refine (hF.out _).mono ?_; rintro e w3 ⟨rfl, rfl⟩))
  have he := HE.out
  go_ret
  exact ⟨by rw [he]; rfl, HDR.out⟩

theorem step_eq1 {q b r k a : Nat} (h : Hid (q * b + r = (k - 1) * a)) (h1 : 1 ≤ k) (hr : b - a ≤ r) (hab : a < b) : Hid ((q + 1) * b + (r - (b - a)) = (k + 1 - 1) * a) := by
  refine Lib.hid ?_
  have := h.out
  obtain ⟨j, rfl⟩ : ∃ j, k = j + 1 := ⟨k - 1, by omega⟩
  rw [Nat.succ_mul]
  simp only [Nat.add_sub_cancel] at this ⊢
  rw [Nat.succ_mul]
  omega
theorem step_eq2 {q b r k a : Nat} (h : Hid (q * b + r = (k - 1) * a)) (h1 : 1 ≤ k) : Hid (q * b + (r + a) = (k + 1 - 1) * a) := by
  refine Lib.hid ?_
  have := h.out
  obtain ⟨j, rfl⟩ : ∃ j, k = j + 1 := ⟨k - 1, by omega⟩
  simp only [Nat.add_sub_cancel] at this ⊢
  rw [Nat.succ_mul]
  omega

set_option maxHeartbeats 2000000 in
theorem rpct_part_spec (n k : Int) (a b : Nat) (ha : max n 0 = (a : Int)) (hb : max k 0 = (b : Int)) (h : a < b) (hbb : b ≤ 9223372036854775807) (w : World) :
    Calls Tryd.prog 12 #[.int .i64 n, .int .i64 k] w fun e w' => e = .returned (.string (pctB a b)) ∧ Fr (fun _ => False) w w' := by
  have h1 : decide (b ≤ a) = false := by simp; omega
  have HE := Lib.hid (pct_part h)
  have i1 : (b : Int) ≤ 9223372036854775807 := by omega
  have i2 : (a : Int) < b := by omega
  go_enter Tryd.func12, Tryd.ntmps12
  go_wp2_with (fail)
  clear ha hb h1
  go_loop [5, 6, 7] (fun x5 x6 x7 => ∃ q r k : Nat, x5 = .int .i64 q ∧ x6 = .int .i64 r ∧ x7 = .int .i64 k ∧ 1 ≤ k ∧ k ≤ 101 ∧ q + 1 ≤ k ∧ r < b ∧ Hid (q * b + r = (k - 1) * a)) (fun _ _ x7 => 101 - (intOf x7).toNat)
  case atStart => exact ⟨0, 0, 1, rfl, rfl, rfl, by omega, by omega, by omega, by omega, Lib.hid (by simp)⟩
  case round =>
    obtain ⟨q, r, k, rfl, rfl, rfl, k1, k2, k3, k4, HQ⟩ := hrel
    by_cases hk : k = 101
    · subst hk
      have hq := HQ.out
      have hqq : 100 * a / b = q := by
        have e : 100 * a = r + b * q := by rw [Nat.mul_comm b]; omega
        rw [e, Nat.add_mul_div_left _ _ (by omega), Nat.div_eq_of_lt k4, Nat.zero_add]
      have HQQ := Lib.hid hqq
      have HD := Lib.hid (digits_pos q (by omega))
      have z := digB_size q (by omega)
      clear hq hqq
      go_wp2_with (go_at_call 21; refine (HD.out _).mono ?_; rintro e w1 ⟨rfl, hf⟩)
      have he := HE.out
      rw [HQQ.out] at he
      go_ret
      exact ⟨by rw [he]; rfl, hf⟩
    · have j1 : (k : Int) ≤ 100 := by omega
      by_cases hr : b - a ≤ r
      · have t1 : ((b : Int) - a ≤ r) := by omega
        have HN := step_eq1 HQ k1 hr h
        clear hr
        go_wp2_with (fail)
        go_round
        case rel => exact ⟨q + 1, r - (b - a), k + 1, by go_num, int_i (by omega), by go_num, by omega, by omega, by omega, by omega, HN⟩
        case measure => simp [intOf]; omega
      · have t1 : ((r : Int) < b - a) := by omega
        have HN := step_eq2 HQ k1
        clear hr
        go_wp2_with (fail)
        go_round
        case rel => exact ⟨q, r + a, k + 1, rfl, by go_num, by go_num, by omega, by omega, by omega, by omega, HN⟩
        case measure => simp [intOf]; omega

/-- Percent: the program's. -/
theorem percent_spec (n k : Int) (hk : k ≤ 9223372036854775807) (w : World) :
    Calls Tryd.prog 11 #[.int .i64 n, .int .i64 k] w fun e w' => e = .returned (.string (pctB n.toNat k.toNat)) ∧ Fr (fun _ => False) w w' := by
  by_cases h : k.toNat ≤ n.toNat
  · exact pct_all_spec n k _ _ (by omega) (by omega) h w
  · exact pct_part_spec n k _ _ (by omega) (by omega) (by omega) (by omega) w
/-- Percent: the reference's. -/
theorem rpercent_spec (n k : Int) (hk : k ≤ 9223372036854775807) (w : World) :
    Calls Tryd.prog 12 #[.int .i64 n, .int .i64 k] w fun e w' => e = .returned (.string (pctB n.toNat k.toNat)) ∧ Fr (fun _ => False) w w' := by
  by_cases h : k.toNat ≤ n.toNat
  · exact rpct_all_spec n k _ _ (by omega) (by omega) h w
  · exact rpct_part_spec n k _ _ (by omega) (by omega) (by omega) (by omega) w
end Go.Proofs.YthnhieikeigjcaaDoor
