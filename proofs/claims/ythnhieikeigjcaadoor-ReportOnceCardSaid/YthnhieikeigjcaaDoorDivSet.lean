/- What bits.Div64 reckons ahead of its loops, in the walk's own spelling. -/
import Derived.Test.YthnhieikeigjcaaDoorDivPure
import Derived.WalkKit
import Derived.Laws.Bits64b
import Derived.Lib.ItoaNum
namespace Go.Proofs.YthnhieikeigjcaaDoor
open Go.RowKit

theorem wrapN (a : Nat) (ha : a < 18446744073709551616) : IntKind.u64.wrap (a : Int) = (a : Int) := by rw [IntKind.wrap_u64]; omega
theorem wrapM (a : Nat) : IntKind.u64.wrap (a : Int) = ((a % 18446744073709551616 : Nat) : Int) := by rw [IntKind.wrap_u64]; omega
theorem maskN (a : Nat) (ha : a < 18446744073709551616) : bits .and .u64 (a : Int) 4294967295 = ((a % 4294967296 : Nat) : Int) := by
  have h := bits_and_u64_nat a 4294967295 ha (by omega)
  have e : a &&& 4294967295 = a % 4294967296 := Nat.and_two_pow_sub_one_eq_mod a 32
  rw [e] at h
  exact h
theorem castPow (y s : Nat) : (y : Int) * 2 ^ s = ((y * 2 ^ s : Nat) : Int) := by rw [Int.natCast_mul, Int.natCast_pow]; rfl
theorem castDivPow (y s : Nat) : (y : Int) / 2 ^ s = ((y / 2 ^ s : Nat) : Int) := by rw [Int.natCast_ediv, Int.natCast_pow]; rfl

theorem s_bounds (y s : Nat) (y1 : 0 < y) (y2 : y < 18446744073709551616) (hs : Lib.bitLen y + s = 64) :
    s ≤ 63 ∧ 9223372036854775808 ≤ y * 2 ^ s ∧ y * 2 ^ s < 18446744073709551616 := by
  obtain ⟨a, b, c⟩ := Lib.bitLenAux_bounds 64 y (by omega) (by omega)
  have hb : Lib.bitLenAux 64 y + s = 64 := hs
  generalize Lib.bitLenAux 64 y = n at *
  refine ⟨by omega, ?_, ?_⟩
  · have h1 : 2 ^ (n - 1) * 2 ^ s ≤ y * 2 ^ s := Nat.mul_le_mul_right _ b
    rw [← Nat.pow_add, show n - 1 + s = 63 by omega] at h1
    exact h1
  · have h1 : y * 2 ^ s < 2 ^ n * 2 ^ s := Nat.mul_lt_mul_of_pos_right c (Nat.two_pow_pos s)
    rw [← Nat.pow_add, show n + s = 64 by omega] at h1
    exact h1

structure DivSet (hi lo y s Y u L A1 A0 a b : Nat) : Prop where
  e1 : IntKind.u64.wrap ((y : Int) * 2 ^ s) = (Y : Int)
  e2 : bits .and .u64 (Y : Int) 4294967295 = (A0 : Int)
  e3 : (Y : Int) / 4294967296 = (A1 : Int)
  e4 : bits .or .u64 (IntKind.u64.wrap ((hi : Int) * 2 ^ s)) ((lo : Int) / 2 ^ (64 - s)) = (u : Int)
  e5 : IntKind.u64.wrap ((lo : Int) * 2 ^ s) = (L : Int)
  e6 : (L : Int) / 4294967296 = (a : Int)
  e7 : bits .and .u64 (L : Int) 4294967295 = (b : Int)
  hY : Y = A1 * 4294967296 + A0
  hA0 : A0 < 4294967296
  hA1 : 2147483648 ≤ A1
  hA1' : A1 < 4294967296
  hu : u < Y
  ha : a < 4294967296
  hb : b < 4294967296
  hYs : Y = y * 2 ^ s
  hN : (hi * 18446744073709551616 + lo) * 2 ^ s = u * 4294967296 * 4294967296 + a * 4294967296 + b

theorem div_set (hi lo y s : Nat) (h1 : lo < 18446744073709551616) (y1 : hi < y) (y2 : y < 18446744073709551616) (hs : Lib.bitLen y + s = 64) :
    ∃ Y u L A1 A0 a b : Nat, DivSet hi lo y s Y u L A1 A0 a b := by
  obtain ⟨s63, b1, b2⟩ := s_bounds y s (by omega) y2 hs
  have hp : 0 < 2 ^ s := Nat.two_pow_pos s
  have hq : 0 < 2 ^ (64 - s) := Nat.two_pow_pos _
  have hpq : 2 ^ s * 2 ^ (64 - s) = 18446744073709551616 := by rw [← Nat.pow_add, show s + (64 - s) = 64 by omega]
  have hhi : hi * 2 ^ s + 2 ^ s ≤ y * 2 ^ s := by
    rw [← Nat.succ_mul]; exact Nat.mul_le_mul_right _ y1
  have hlo : lo / 2 ^ (64 - s) < 2 ^ s := by
    rw [Nat.div_lt_iff_lt_mul hq, hpq]; exact h1
  have hlo2 : lo * 2 ^ s / 18446744073709551616 = lo / 2 ^ (64 - s) := by
    rw [← hpq, Nat.mul_comm lo, Nat.mul_div_mul_left _ _ hp]
  have hor : hi * 2 ^ s ||| lo / 2 ^ (64 - s) = hi * 2 ^ s + lo / 2 ^ (64 - s) := by
    rw [Nat.mul_comm hi, ← Nat.two_pow_add_eq_or_of_lt hlo]
  obtain ⟨Y, hY⟩ : ∃ Y, Y = y * 2 ^ s := ⟨_, rfl⟩
  obtain ⟨L, hL⟩ : ∃ L, L = lo * 2 ^ s % 18446744073709551616 := ⟨_, rfl⟩
  have hLd := Nat.div_add_mod (lo * 2 ^ s) 18446744073709551616
  refine ⟨Y, hi * 2 ^ s + lo / 2 ^ (64 - s), L, Y / 4294967296, Y % 4294967296, L / 4294967296, L % 4294967296, ?_, ?_, ?_, ?_, ?_, ?_, ?_, ?_, ?_, ?_, ?_, ?_, ?_, ?_, hY, ?_⟩
  · rw [castPow, wrapN _ b2, hY]
  · exact maskN _ (by omega)
  · omega
  · rw [castPow, castDivPow, wrapN _ (by omega), bits_or_u64_nat _ _ (by omega) (by omega), hor]
  · rw [castPow, wrapM, hL]
  · omega
  · exact maskN _ (by omega)
  · omega
  · omega
  · omega
  · omega
  · omega
  · omega
  · omega
  · rw [Nat.add_mul]
    have e : hi * 18446744073709551616 * 2 ^ s = hi * 2 ^ s * 18446744073709551616 := by rw [Nat.mul_right_comm]
    rw [e]
    omega

theorem mul_bd (q c : Nat) (hq : ¬ (4294967296 : Int) ≤ (q : Int)) (hc : (c : Int) < 4294967296) : (q : Int) * (c : Int) ≤ 18446744065119617025 := by
  have h1 : q ≤ 4294967295 := by omega
  have h2 : c ≤ 4294967295 := by omega
  have := Nat.mul_le_mul h1 h2
  rw [← Int.natCast_mul]
  omega
theorem test_int (q c r d : Nat) : ((4294967296 : Int) * r + d < (q : Int) * c) ↔ r * 4294967296 + d < q * c := by
  rw [← Int.natCast_mul]
  omega

theorem rem_wrap (u a Y : Nat) (hY : Y < 18446744073709551616) (h0 : 0 < Y) :
    IntKind.u64.wrap (IntKind.u64.wrap (IntKind.u64.wrap ((u : Int) * 4294967296) + (a : Int)) - IntKind.u64.wrap ((((u * 4294967296 + a) / Y : Nat) : Int) * (Y : Int))) = (((u * 4294967296 + a) % Y : Nat) : Int) := by
  have hd := Nat.div_add_mod (u * 4294967296 + a) Y
  have hm := Nat.mod_lt (u * 4294967296 + a) h0
  rw [Nat.mul_comm] at hd
  rw [← Int.natCast_mul]
  obtain ⟨m, hm'⟩ : ∃ m, m = (u * 4294967296 + a) / Y * Y := ⟨_, rfl⟩
  obtain ⟨r, hr'⟩ : ∃ r, r = (u * 4294967296 + a) % Y := ⟨_, rfl⟩
  rw [← hm', ← hr'] at hd
  rw [← hr'] at hm
  rw [← hm', ← hr']
  simp only [IntKind.wrap_u64]
  omega

end Go.Proofs.YthnhieikeigjcaaDoor
