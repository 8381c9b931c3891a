/- The walk of bits.Div64. -/
import Derived.Test.YthnhieikeigjcaaDoorProg
import Derived.Test.YthnhieikeigjcaaDoorFr
import Derived.Test.YthnhieikeigjcaaDoorShelf
import Derived.Test.YthnhieikeigjcaaDoorDivSet
import Derived.KernelRfl
import Derived.Deep.QuietTactic
import Derived.BigQuiet
import Derived.Lib.Hide
import Derived.Deep.DeepCutAuto
import Derived.Deep.CutBlock
namespace Go.Proofs.YthnhieikeigjcaaDoor
open Go.RowKit

theorem div64_lo (lo y : Int) (w : World) (h0 : 0 ≤ lo) (h1 : lo < 18446744073709551616) (y1 : 1 ≤ y) (y2 : y < 18446744073709551616) :
    Calls Tryd.prog 23 #[.int .u64 0, .int .u64 lo, .int .u64 y] w fun e w' => e = .returned (.tuple #[.int .u64 (lo / y), .int .u64 (lo % y)]) ∧ Dr w w' := by
  have hne : (y == 0) = false := by simp; omega
  go_enter Tryd.func23, Tryd.ntmps23
  go_wp2_with (fail)
  go_quiet (fail)
  go_wp2
  go_ret2
  exact ⟨rfl, Dr.some _ _⟩

theorem lz_any (y s : Nat) (w : World) (y2 : y < 18446744073709551616) (hs : Lib.bitLen y + s = 64) :
    Calls Tryd.prog 31 #[.int .u64 y] w fun e w' => e = .returned (.int .i64 s) ∧ w = w' := by
  refine (Tryd.bits_LeadingZeros64 (y : Int) w (by omega) (by omega)).mono ?_
  rintro e w' ⟨rfl, rfl⟩
  have : (64 - (Lib.bitLen (y : Int).toNat : Int)) = s := by rw [Int.toNat_natCast]; omega
  rw [this]
  exact ⟨rfl, rfl⟩

set_option maxHeartbeats 2000000 in
set_option maxRecDepth 100000 in
theorem div64_hi (hi lo y s : Nat) (w : World) (h0 : 0 < hi) (h1 : lo < 18446744073709551616) (y1 : hi < y) (y2 : y < 18446744073709551616) (hs : Lib.bitLen y + s = 64) :
    Calls Tryd.prog 23 #[.int .u64 hi, .int .u64 lo, .int .u64 y] w fun e w' => e = .returned (.tuple #[.int .u64 ((hi * 18446744073709551616 + lo) / y : Nat), .int .u64 ((hi * 18446744073709551616 + lo) % y : Nat)]) ∧ Dr w w' := by
  have s63 := (s_bounds y s (by omega) y2 hs).1
  obtain ⟨Y, u, L, A1, A0, a, b, D⟩ := div_set hi lo y s h1 y1 y2 hs
  have e1 := D.e1
  have e2 := D.e2
  have e3 := D.e3
  have e4 := D.e4
  have e5 := D.e5
  have e6 := D.e6
  have e7 := D.e7
  have hA0 := D.hA0
  have hA1 := D.hA1
  have hA1' := D.hA1'
  have ha := D.ha
  have hb := D.hb
  have hu := D.hu
  obtain ⟨q, hq⟩ : ∃ q, q = u / A1 := ⟨_, rfl⟩
  obtain ⟨r, hr⟩ : ∃ r, r = u % A1 := ⟨_, rfl⟩
  have hqr : q * A1 + r = u := by rw [hq, hr, Nat.mul_comm]; exact Nat.div_add_mod _ _
  have e8 : (u : Int) / (A1 : Int) = (q : Int) := by rw [hq]; exact (Int.natCast_ediv _ _).symm
  have m1 : (q : Int) * (A1 : Int) ≤ u := by rw [← Int.natCast_mul]; omega
  have m0 : 0 ≤ (q : Int) * (A1 : Int) := by rw [← Int.natCast_mul]; omega
  have e9 : (u : Int) - (q : Int) * (A1 : Int) = (r : Int) := by rw [← Int.natCast_mul]; omega
  have hqle : q ≤ 4294967297 := by rw [hq]; exact div_guess_le u A1 A0 hA0 hA1 (by have := D.hY; omega)
  have hrlt : r < A1 := by rw [hr]; exact Nat.mod_lt _ (by omega)
  have HQ := Lib.hid hq
  have HR := Lib.hid hr
  have HQR := Lib.hid hqr
  have HS := Lib.hid hs
  clear hq hr hqr hs
  obtain ⟨Q, hQ⟩ : ∃ Q, Q = (u * 4294967296 + a) / Y := ⟨_, rfl⟩
  have HQ1 := Lib.hid hQ; clear hQ
  go_enter Tryd.func23, Tryd.ntmps23
  go_upto_block 0 with (first | (go_at_call 31; refine (lz_any y s _ y2 HS.out).mono ?_; rintro e w' ⟨rfl, rfl⟩))
  go_cut [15] (fun x15 wx => x15 = .int .u64 Q ∧ w = wx)
  case first =>
    have hQq : Q ≤ q := by rw [HQ1.out, HQ.out, D.hY]; exact div_step_ge u a A1 A0 ha hA0 hA1
    go_wp2_with (fail)
    go_loop [15, 16] (fun x15 x16 => ∃ q r : Nat, x15 = .int .u64 q ∧ x16 = .int .u64 r ∧ Hid (u = q * A1 + r) ∧ Q ≤ q ∧ q ≤ 4294967297 ∧ r < 4294967296) (fun x _ => (intOf x).toNat)
    case atStart => exact ⟨q, r, rfl, rfl, Lib.hid HQR.out.symm, hQq, hqle, by omega⟩
    case round =>
      clear hQq hqle hrlt m0 m1 e8 e9 HQR HQ HR e1 e2 e3 e4 e5 e6 e7 h0 h1 y1 y2 s63 HS hu hb
      obtain ⟨q, r, rfl, rfl, hqr, hQq, hqB, hrB⟩ := hrel
      have ht := div_test u a A1 A0 q r hqr.out (by omega)
      rw [← D.hY, ← HQ1.out] at ht
      have HT := Lib.hid ht; clear ht
      have k0 : 0 ≤ (q : Int) * (A0 : Int) := by rw [← Int.natCast_mul]; omega
      have g0 : 0 ≤ (q : Int) := by omega
      have g1 : (q : Int) ≤ 4294967297 := by omega
      have g2 : (r : Int) < 4294967296 := by omega
      have g3 : (Q : Int) ≤ q := by omega
      have g4 : (a : Int) < 4294967296 := by omega
      have g5 : (A1 : Int) < 4294967296 := by omega
      have g6 : (2147483648 : Int) ≤ A1 := by omega
      have g7 : (A0 : Int) < 4294967296 := by omega
      clear hQq hqB hrB hA0 hA1 hA1' ha
      have hend : ∀ q' r' : Nat, u = q' * A1 + r' → q' ≤ 4294967296 → 4294967296 ≤ r' → Q ≤ q' → Q = q' := by
        intro q' r' h1 h2 h3 h4
        have := div_over u a A1 A0 q' r' h1 h2 h3 (by omega) (by omega)
        rw [← D.hY, ← HQ1.out] at this
        omega
      have HE := Lib.hid hend; clear hend
      have hstep : ∀ q' : Nat, q = q' + 1 → u = q' * A1 + (r + A1) := by
        intro q' h
        have := hqr.out
        rw [this, h, Nat.succ_mul]; omega
      have HST := Lib.hid hstep; clear hstep
      by_cases hT : 4294967296 ≤ q ∨ r * 4294967296 + a < q * A0
      · have hQ1 : Q < q := by
          rcases hT with h | h
          · have := div_q_lt u a Y (by omega) D.hu
            rw [← HQ1.out] at this
            omega
          · exact HT.out.1 h
        have HQ2 := Lib.hid hQ1
        have g8 : 1 ≤ (q : Int) := by omega
        have HK := Lib.hid (HST.out (q - 1) (by omega))
        clear HST hQ1
        by_cases hR : (4294967296 : Int) ≤ (r : Int) + A1
        · have hfin : (Q : Int) = q - 1 := by
            have := HQ2.out
            have := HE.out (q - 1) (r + A1) HK.out (by omega) (by omega) (by omega)
            omega
          have HF := Lib.hid hfin; clear hfin
          have bR : decide ((4294967296 : Int) ≤ (r : Int) + A1) = true := decide_eq_true hR
          by_cases hB : (4294967296 : Int) ≤ (q : Int)
          · have bB : decide ((4294967296 : Int) ≤ (q : Int)) = true := decide_eq_true hB
            clear k0 hT hR hB
            go_wp2
            go_meet
            exact ⟨int_u (by have := HF.out; omega), rfl⟩
          · have k1 : (q : Int) * (A0 : Int) ≤ 18446744065119617025 := mul_bd q A0 hB g7
            have hT' : (4294967296 : Int) * r + a < (q : Int) * A0 := (test_int _ _ _ _).2 (by omega)
            have bB : decide ((4294967296 : Int) ≤ (q : Int)) = false := decide_eq_false hB
            have bT : decide ((4294967296 : Int) * r + a < (q : Int) * A0) = true := decide_eq_true hT'
            clear hT hR hB hT'
            go_wp2
            go_meet
            exact ⟨int_u (by have := HF.out; omega), rfl⟩
        · have bR : decide ((4294967296 : Int) ≤ (r : Int) + A1) = false := decide_eq_false hR
          have hR' : (r : Int) + A1 < 4294967296 := by omega
          have HR' := Lib.hid hR'
          by_cases hB : (4294967296 : Int) ≤ (q : Int)
          · have bB : decide ((4294967296 : Int) ≤ (q : Int)) = true := decide_eq_true hB
            clear k0 hT hR hB hR'
            go_wp2
            go_round
            case rel =>
              have hq2 : Q < q := HQ2.out
              have hr2 := HR'.out
              exact ⟨q - 1, r + A1, int_u (by omega), int_u (by omega), Lib.hid HK.out, by omega, by omega, by omega⟩
            case measure => simp only [intOf]; omega
          · have k1 : (q : Int) * (A0 : Int) ≤ 18446744065119617025 := mul_bd q A0 hB g7
            have hT' : (4294967296 : Int) * r + a < (q : Int) * A0 := (test_int _ _ _ _).2 (by omega)
            have bB : decide ((4294967296 : Int) ≤ (q : Int)) = false := decide_eq_false hB
            have bT : decide ((4294967296 : Int) * r + a < (q : Int) * A0) = true := decide_eq_true hT'
            clear hT hR hB hT' hR'
            go_wp2
            go_round
            case rel =>
              have hq2 : Q < q := HQ2.out
              have hr2 := HR'.out
              exact ⟨q - 1, r + A1, int_u (by omega), int_u (by omega), Lib.hid HK.out, by omega, by omega, by omega⟩
            case measure => simp only [intOf]; omega
      · have hQ1 : Q = q := by
          have := HT.out
          omega
        have HF := Lib.hid hQ1; clear hQ1
        have hB : ¬ (4294967296 : Int) ≤ (q : Int) := by omega
        have k1 : (q : Int) * (A0 : Int) ≤ 18446744065119617025 := mul_bd q A0 hB g7
        have hT' : ¬ (4294967296 : Int) * r + a < (q : Int) * A0 := fun h => hT (.inr ((test_int _ _ _ _).1 h))
        have bB : decide ((4294967296 : Int) ≤ (q : Int)) = false := decide_eq_false hB
        have bT : decide ((4294967296 : Int) * r + a < (q : Int) * A0) = false := decide_eq_false hT'
        clear hT hB hT'
        go_wp2
        go_meet
        exact ⟨int_u (by have := HF.out; omega), rfl⟩
  case rest =>
    obtain ⟨rfl, rfl⟩ := hcut
    obtain ⟨v, hv⟩ : ∃ v, v = (u * 4294967296 + a) % Y := ⟨_, rfl⟩
    have hvY : v < Y := by rw [hv]; exact Nat.mod_lt _ (by omega)
    have f1 : IntKind.u64.wrap (IntKind.u64.wrap (IntKind.u64.wrap ((u : Int) * 4294967296) + (a : Int)) - IntKind.u64.wrap ((Q : Int) * (Y : Int))) = (v : Int) := by
      rw [HQ1.out, hv]; exact rem_wrap u a Y (by have := D.hY; omega) (by have := D.hY; omega)
    obtain ⟨q2, hq2⟩ : ∃ q2, q2 = v / A1 := ⟨_, rfl⟩
    obtain ⟨r2, hr2⟩ : ∃ r2, r2 = v % A1 := ⟨_, rfl⟩
    have hqr2 : q2 * A1 + r2 = v := by rw [hq2, hr2, Nat.mul_comm]; exact Nat.div_add_mod _ _
    have f8 : (v : Int) / (A1 : Int) = (q2 : Int) := by rw [hq2]; exact (Int.natCast_ediv _ _).symm
    have n1 : (q2 : Int) * (A1 : Int) ≤ v := by rw [← Int.natCast_mul]; omega
    have n0 : 0 ≤ (q2 : Int) * (A1 : Int) := by rw [← Int.natCast_mul]; omega
    have f9 : (v : Int) - (q2 : Int) * (A1 : Int) = (r2 : Int) := by rw [← Int.natCast_mul]; omega
    have hq2le : q2 ≤ 4294967297 := by rw [hq2]; exact div_guess_le v A1 A0 hA0 hA1 (by have := D.hY; omega)
    have hr2lt : r2 < A1 := by rw [hr2]; exact Nat.mod_lt _ (by omega)
    have hv64 : v < 18446744073709551616 := by have := D.hY; omega
    have HVV := Lib.hid hv
    have HV := Lib.hid hvY
    have Hq2 := Lib.hid hq2
    have Hr2 := Lib.hid hr2
    have HQR2 := Lib.hid hqr2
    clear hv hvY hq2 hr2 hqr2
    obtain ⟨Q2, hQ2⟩ : ∃ Q2, Q2 = (v * 4294967296 + b) / Y := ⟨_, rfl⟩
    have HQ2' := Lib.hid hQ2; clear hQ2
    clear hqle hrlt m0 m1 e8 e9 HQR HQ HR
    go_upto_block 2 with (fail)
    go_cut [18] (fun x18 wx => x18 = .int .u64 Q2 ∧ w = wx)
    case first =>
      have hQq : Q2 ≤ q2 := by rw [HQ2'.out, Hq2.out, D.hY]; exact div_step_ge v b A1 A0 hb hA0 hA1
      go_wp2_with (fail)
      go_loop [16, 18] (fun x16 x18 => ∃ q r : Nat, x16 = .int .u64 r ∧ x18 = .int .u64 q ∧ Hid (v = q * A1 + r) ∧ Q2 ≤ q ∧ q ≤ 4294967297 ∧ r < 4294967296) (fun _ x => (intOf x).toNat)
      case atStart => exact ⟨q2, r2, rfl, rfl, Lib.hid HQR2.out.symm, hQq, hq2le, by omega⟩
      case round =>
        clear hQq hq2le hr2lt n0 n1 f8 f9 HQR2 Hq2 Hr2 e1 e2 e3 e4 e5 e6 e7 h0 h1 y1 y2 s63 HS hu ha
        obtain ⟨q, r, rfl, rfl, hqr, hQq, hqB, hrB⟩ := hrel
        have ht := div_test v b A1 A0 q r hqr.out (by omega)
        rw [← D.hY, ← HQ2'.out] at ht
        have HT := Lib.hid ht; clear ht
        have k0 : 0 ≤ (q : Int) * (A0 : Int) := by rw [← Int.natCast_mul]; omega
        have g0 : 0 ≤ (q : Int) := by omega
        have g1 : (q : Int) ≤ 4294967297 := by omega
        have g2 : (r : Int) < 4294967296 := by omega
        have g3 : (Q2 : Int) ≤ q := by omega
        have g4 : (b : Int) < 4294967296 := by omega
        have g5 : (A1 : Int) < 4294967296 := by omega
        have g6 : (2147483648 : Int) ≤ A1 := by omega
        have g7 : (A0 : Int) < 4294967296 := by omega
        clear hQq hqB hrB hA0 hA1 hA1' hb
        have hend : ∀ q' r' : Nat, v = q' * A1 + r' → q' ≤ 4294967296 → 4294967296 ≤ r' → Q2 ≤ q' → Q2 = q' := by
          intro q' r' h1 h2 h3 h4
          have := div_over v b A1 A0 q' r' h1 h2 h3 (by omega) (by omega)
          rw [← D.hY, ← HQ2'.out] at this
          omega
        have HE := Lib.hid hend; clear hend
        have hstep : ∀ q' : Nat, q = q' + 1 → v = q' * A1 + (r + A1) := by
          intro q' h
          have := hqr.out
          rw [this, h, Nat.succ_mul]; omega
        have HST := Lib.hid hstep; clear hstep
        by_cases hT : 4294967296 ≤ q ∨ r * 4294967296 + b < q * A0
        · have hQ1 : Q2 < q := by
            rcases hT with h | h
            · have := div_q_lt v b Y (by omega) HV.out
              rw [← HQ2'.out] at this
              omega
            · exact HT.out.1 h
          have HQq := Lib.hid hQ1
          have g8 : 1 ≤ (q : Int) := by omega
          have HK := Lib.hid (HST.out (q - 1) (by omega))
          clear HST hQ1
          by_cases hR : (4294967296 : Int) ≤ (r : Int) + A1
          · have hfin : (Q2 : Int) = q - 1 := by
              have := HQq.out
              have := HE.out (q - 1) (r + A1) HK.out (by omega) (by omega) (by omega)
              omega
            have HF := Lib.hid hfin; clear hfin
            have bR : decide ((4294967296 : Int) ≤ (r : Int) + A1) = true := decide_eq_true hR
            by_cases hB : (4294967296 : Int) ≤ (q : Int)
            · have bB : decide ((4294967296 : Int) ≤ (q : Int)) = true := decide_eq_true hB
              clear k0 hT hR hB
              go_wp2
              go_meet
              exact ⟨int_u (by have := HF.out; omega), rfl⟩
            · have k1 : (q : Int) * (A0 : Int) ≤ 18446744065119617025 := mul_bd q A0 hB g7
              have hT' : (4294967296 : Int) * r + b < (q : Int) * A0 := (test_int _ _ _ _).2 (by omega)
              have bB : decide ((4294967296 : Int) ≤ (q : Int)) = false := decide_eq_false hB
              have bT : decide ((4294967296 : Int) * r + b < (q : Int) * A0) = true := decide_eq_true hT'
              clear hT hR hB hT'
              go_wp2
              go_meet
              exact ⟨int_u (by have := HF.out; omega), rfl⟩
          · have bR : decide ((4294967296 : Int) ≤ (r : Int) + A1) = false := decide_eq_false hR
            have hR' : (r : Int) + A1 < 4294967296 := by omega
            have HR' := Lib.hid hR'
            by_cases hB : (4294967296 : Int) ≤ (q : Int)
            · have bB : decide ((4294967296 : Int) ≤ (q : Int)) = true := decide_eq_true hB
              clear k0 hT hR hB hR'
              go_wp2
              go_round
              case rel =>
                have hq2 : Q2 < q := HQq.out
                have hr2 := HR'.out
                exact ⟨q - 1, r + A1, int_u (by omega), int_u (by omega), Lib.hid HK.out, by omega, by omega, by omega⟩
              case measure => simp only [intOf]; omega
            · have k1 : (q : Int) * (A0 : Int) ≤ 18446744065119617025 := mul_bd q A0 hB g7
              have hT' : (4294967296 : Int) * r + b < (q : Int) * A0 := (test_int _ _ _ _).2 (by omega)
              have bB : decide ((4294967296 : Int) ≤ (q : Int)) = false := decide_eq_false hB
              have bT : decide ((4294967296 : Int) * r + b < (q : Int) * A0) = true := decide_eq_true hT'
              clear hT hR hB hT' hR'
              go_wp2
              go_round
              case rel =>
                have hq2 : Q2 < q := HQq.out
                have hr2 := HR'.out
                exact ⟨q - 1, r + A1, int_u (by omega), int_u (by omega), Lib.hid HK.out, by omega, by omega, by omega⟩
              case measure => simp only [intOf]; omega
        · have hQ1 : Q2 = q := by
            have := HT.out
            omega
          have HF := Lib.hid hQ1; clear hQ1
          have hB : ¬ (4294967296 : Int) ≤ (q : Int) := by omega
          have k1 : (q : Int) * (A0 : Int) ≤ 18446744065119617025 := mul_bd q A0 hB g7
          have hT' : ¬ (4294967296 : Int) * r + b < (q : Int) * A0 := fun h => hT (.inr ((test_int _ _ _ _).1 h))
          have bB : decide ((4294967296 : Int) ≤ (q : Int)) = false := decide_eq_false hB
          have bT : decide ((4294967296 : Int) * r + b < (q : Int) * A0) = false := decide_eq_false hT'
          clear hT hB hT'
          go_wp2
          go_meet
          exact ⟨int_u (by have := HF.out; omega), rfl⟩
    case rest =>
      obtain ⟨rfl, rfl⟩ := hcut
      have hQB : Q < 4294967296 := by rw [HQ1.out]; exact div_q_lt u a Y (by omega) hu
      have hQ2B : Q2 < 4294967296 := by rw [HQ2'.out]; exact div_q_lt v b Y (by omega) HV.out
      obtain ⟨v3, hv3⟩ : ∃ v3, v3 = (v * 4294967296 + b) % Y := ⟨_, rfl⟩
      have f2 : IntKind.u64.wrap (IntKind.u64.wrap (IntKind.u64.wrap ((v : Int) * 4294967296) + (b : Int)) - IntKind.u64.wrap ((Q2 : Int) * (Y : Int))) = (v3 : Int) := by
        rw [HQ2'.out, hv3]; exact rem_wrap v b Y (by have := D.hY; omega) (by have := D.hY; omega)
      have f3 : (v3 : Int) / 2 ^ s = ((v3 / 2 ^ s : Nat) : Int) := castDivPow _ _
      have hv3Y : v3 < Y := by rw [hv3]; exact Nat.mod_lt _ (by omega)
      have hres := div_two u a b Y (by omega)
      rw [← D.hN, D.hYs] at hres
      have hsh := div_shift (hi * 18446744073709551616 + lo) y (2 ^ s) (Nat.two_pow_pos s)
      rw [hsh.1, hsh.2] at hres
      rw [← D.hYs, ← HQ1.out, ← HVV.out, ← HQ2'.out, ← hv3] at hres
      have H1 := Lib.hid hres.1
      have hr2 : v3 / 2 ^ s = (hi * 18446744073709551616 + lo) % y := by
        rw [← hres.2, Nat.mul_div_cancel _ (Nat.two_pow_pos s)]
      have H2 := Lib.hid hr2
      have F3 := Lib.hid f3
      clear hres hsh hr2 hv3 f3 f1 e1 e2 e3 e4 e5 e6 e7 h0 h1 y1 y2 HS hu ha hb hA0 hA1 hA1' hv64 hv3Y hq2le hr2lt n0 n1 f8 f9 HQR2 Hq2 Hr2
      go_wp2_with (fail)
      go_ret2
      exact ⟨ret2_uu (by rw [H1.out]; omega) (by rw [← H2.out]; exact F3.out), Dr.refl _⟩

/-- bits.Div64, the quotient alone, over Int: whatever hi below y. -/
theorem div64_any (hi lo y : Int) (w : World) (h0 : 0 ≤ hi) (h1 : hi < y) (h2 : y < 18446744073709551616) (l0 : 0 ≤ lo) (l1 : lo < 18446744073709551616) :
    Calls Tryd.prog 23 #[.int .u64 hi, .int .u64 lo, .int .u64 y] w fun e w' => e = .returned (.tuple #[.int .u64 ((hi * 18446744073709551616 + lo) / y), .int .u64 ((hi * 18446744073709551616 + lo) % y)]) ∧ Dr w w' := by
  by_cases hz : hi = 0
  · subst hz
    refine (div64_lo lo y w l0 l1 (by omega) h2).mono ?_
    rintro e w' ⟨rfl, hf⟩
    refine ⟨ret2_uu ?_ ?_, hf⟩
    · rw [Int.zero_mul, Int.zero_add]
    · rw [Int.zero_mul, Int.zero_add]
  · obtain ⟨a, rfl⟩ := Int.eq_ofNat_of_zero_le h0
    obtain ⟨b, rfl⟩ := Int.eq_ofNat_of_zero_le l0
    obtain ⟨c, rfl⟩ := Int.eq_ofNat_of_zero_le (show 0 ≤ y by omega)
    have hb := Lib.bitLen_le c 64 (Nat.le_refl _) (show c < 2 ^ 64 by have : (2 : Nat) ^ 64 = 18446744073709551616 := by decide
                                                                      omega)
    refine (div64_hi a b c (64 - Lib.bitLen c) w (by omega) (by omega) (by omega) (by omega) (by omega)).mono ?_
    rintro e w' ⟨rfl, hf⟩
    refine ⟨ret2_uu ?_ ?_, hf⟩
    · rw [Int.natCast_ediv]; rfl
    · rw [Int.natCast_emod]; rfl
end Go.Proofs.YthnhieikeigjcaaDoor
