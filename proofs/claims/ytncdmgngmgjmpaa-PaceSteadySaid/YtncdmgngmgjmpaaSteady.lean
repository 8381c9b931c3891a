/- PaceSteady: for every total, each and ticks: who adds as much in each tick goes at that rate; what is left is told; with nothing added for 8 ticks the rate is 0: the law returns true, and its arguments read as before. -/
import Derived.Test.YtncdmgngmgjmpaaAwake
import Derived.Test.YtncdmgngmgjmpaaRows
import Derived.ProofKit
import Derived.OpenShut
namespace Go.Proofs.Ytncdmgngmgjmpaa
open Go.RowKit

namespace paceSteady

/-- The meter behind i rounds of Add(c), Pass(1). -/
def st (c : Int) : Nat → MS
  | 0 => ⟨0, [0, 0, 0, 0, 0, 0, 0, 0], 0⟩
  | i + 1 => mstep ⟨c, (st c i).ts, (st c i).passed⟩

theorem st_ok (c : Int) (h0 : 0 ≤ c) (h1 : c ≤ 65535) (i : Nat) :
    (st c i).now = 0 ∧ (st c i).ts.length = 8 ∧ (st c i).passed = min (i : Int) 8 ∧ (∀ x ∈ (st c i).ts, 0 ≤ x ∧ x ≤ MaxN) ∧
      (st c i).ts.take (min i 8) = List.replicate (min i 8) c := by
  induction i with
  | zero => refine ⟨rfl, rfl, rfl, ?_, rfl⟩; intro x hx; simp [st] at hx; unfold MaxN; omega
  | succ i ih =>
    obtain ⟨a, b, p, m, t⟩ := ih
    refine ⟨rfl, ?_, ?_, ?_, ?_⟩
    · simp [st, mstep, b]
    · simp only [st, mstep, p]; omega
    · intro x hx
      simp only [st, mstep, List.mem_cons] at hx
      rcases hx with rfl | hx
      · unfold MaxN; omega
      · exact m x (List.mem_of_mem_take hx)
    · simp only [st, mstep]
      obtain ⟨j, hj⟩ : ∃ j, min (i + 1) 8 = j + 1 := ⟨min i 7, by omega⟩
      have hj7 : min j 7 = j := by omega
      rw [hj, List.take_succ_cons, List.replicate_succ, List.take_take, hj7]
      congr 1
      have hji : j ≤ min i 8 := by omega
      have h2 := congrArg (List.take j) t
      rw [List.take_take, List.take_replicate, Nat.min_eq_left hji] at h2
      exact h2

theorem rate_st (c : Int) (h0 : 0 ≤ c) (h1 : c ≤ 65535) (i : Nat) (hi : 1 ≤ i) : rateP (st c i) = c := by
  obtain ⟨_, _, p, _, t⟩ := st_ok c h0 h1 i
  have hp : (st c i).passed.toNat = min i 8 := by omega
  unfold rateP
  rw [if_neg (by omega), hp, t, p, List.sum_replicate_int]
  rw [show ((min i 8 : Nat) : Int) = min (i : Int) 8 by omega]
  exact Int.mul_ediv_cancel_left _ (by omega)

theorem rate_after (s : MS) (h8 : s.ts.length = 8) (h0 : s.now = 0) (hp : 0 ≤ s.passed) : rateP (msteps 8 s) = 0 ∧ ∀ x ∈ (msteps 8 s).ts, 0 ≤ x ∧ x ≤ MaxN := by
  obtain ⟨now, ts, p⟩ := s
  obtain ⟨t0, t1, t2, t3, t4, t5, t6, t7, rfl⟩ := list8 h8
  obtain rfl : now = 0 := h0
  have hts : (msteps 8 ⟨0, [t0, t1, t2, t3, t4, t5, t6, t7], p⟩).ts = List.replicate 8 0 := rfl
  refine ⟨?_, ?_⟩
  · unfold rateP
    rw [hts, List.take_replicate, List.sum_replicate_int]
    simp
  · rw [hts]
    intro x hx
    have := List.eq_of_mem_replicate hx
    unfold MaxN
    omega

theorem walk (tot c tk : Int) (g0 : 0 ≤ tot) (g1 : tot ≤ 4294967295) (c0 : 0 ≤ c) (c1 : c ≤ 65535) (k0 : 0 ≤ tk) (k1 : tk ≤ 255) (w : World) :
    Calls Try.prog 4 #[.int .u32 tot, .int .u16 c, .int .u8 tk] w fun e w' => e = .returned (.bool true) ∧ Below w.heap.size w w' := by
  obtain ⟨K, hK⟩ : ∃ K : Nat, (K : Int) = 1 + tk % 30 := ⟨(1 + tk % 30).toNat, by omega⟩
  have K1 : 1 ≤ K := by omega
  have K2 : K ≤ 30 := by omega
  have hK' : 1 + tk % 30 = (K : Int) := hK.symm
  clear hK
  go_enter Try.func4, Try.ntmps4
  go_wp2_with (fail)
  refine (mstart_ok tot _ g0 (by omega)).mono ?_
  rintro e w1 ⟨rfl, hm1, hf1⟩
  have F1 := hf1.mono (S := fun i => w.heap.size ≤ i) (fun _ _ h => h.elim)
  have M1 : Mt w1 w.heap.size tot ((0 : Nat) * c) (st c 0) := by rw [Int.natCast_zero, Int.zero_mul]; exact hm1
  clear hf1 hm1
  go_wp2_with (fail)
  go_loopw [10] (fun x wr => ∃ k : Nat, k ≤ K ∧ x = .int .i64 k ∧ Mt wr w.heap.size tot ((k : Int) * c) (st c k) ∧ Fr (fun i => w.heap.size ≤ i) w wr) (fun x _ => K - (intOf x).toNat)
  case atStart => exact ⟨0, by omega, rfl, M1, F1⟩
  case round =>
    clear M1 F1
    obtain ⟨k, hk, rfl, hm, hf⟩ := hrel
    have b0 : 0 ≤ (k : Int) * c := Int.mul_nonneg (by omega) c0
    have b1 : (k : Int) * c ≤ 30 * 65535 := Int.mul_le_mul (by omega) c1 c0 (by omega)
    obtain ⟨s0, s8, sp, sm, _⟩ := st_ok c c0 c1 k
    by_cases hlt : k < K
    · have e1 : addN ((k : Int) * c) c = ((k + 1 : Nat) : Int) * c := by
        rw [Int.natCast_succ, Int.add_mul, Int.one_mul]
        unfold addN
        split <;> omega
      have e2 : addN (st c k).now c = c := by
        rw [s0]; unfold addN; split <;> omega
      have E1 := Lib.hid e1
      have E2 := Lib.hid e2
      have S0 := Lib.hid s0
      clear e1 e2 s0 s8 sp sm hK'
      go_wp2_with (fail)
      refine (madd_any w.heap.size tot ((k : Int) * c) c _ _ hm b0 (by omega) (by rw [S0.out]; omega) (by rw [S0.out]; omega)).mono ?_
      rintro e w2 ⟨rfl, hm2, hf2⟩
      rw [E1.out, E2.out] at hm2
      have F2 := hf.trans hf2 (fun i _ h => by omega)
      clear hf2 hm
      go_wp2_with (fail)
      refine (mpass_any w.heap.size tot _ 1 _ _ hm2).mono ?_
      rintro e w3 ⟨rfl, hm3, hf3⟩
      have F3 := F2.trans hf3 (fun i _ h => by omega)
      clear hf3 hm2 F2
      go_wp2
      go_roundw
      case rel => exact ⟨k + 1, by omega, by go_num, hm3, F3⟩
      case measure => simp [intOf]; omega
    · obtain rfl : k = K := by omega
      have hr := rate_st c c0 c1 k K1
      have hr2 := rate_after (st c k) s8 s0 (by omega)
      have hmx : (min (8 : Int) 9).toNat = 8 := rfl
      have S8 := Lib.hid s8
      have S0 := Lib.hid s0
      have SM := Lib.hid sm
      have HR := Lib.hid hr
      have R1 := Lib.hid hr2.1
      have R2 := Lib.hid hr2.2
      have MX := Lib.hid hmx
      clear s8 s0 sp sm hr hr2 hmx hlt
      by_cases kA : tot - (k : Int) * c ≤ 0
      · go_wp2_with (fail)
        refine (mleft_any w.heap.size tot _ _ _ hm SM.out g0 (by unfold MaxN; omega) b0 (by unfold MaxN; omega) (by rw [HR.out]; omega) (by rw [HR.out]; unfold MaxN; omega)).mono ?_
        rintro e w2 ⟨rfl, hd⟩
        rw [HR.out, show leftP tot ((k : Int) * c) c = 0 from if_pos kA, show leftB tot ((k : Int) * c) c = true from if_pos kA]
        have hm2 := hm.fr (hd.fr (fun _ => False)) (fun h => h)
        have F2 := hf.trans (hd.fr (fun _ => False)) (fun _ _ h => h.elim)
        clear hm hf hd
        go_wp2_with (fail)
        refine (mdone_any w.heap.size tot _ _ _ hm2).mono ?_
        rintro e w3 ⟨rfl, rfl⟩
        go_wp2_with (fail)
        refine (mrate_any w.heap.size tot _ _ _ hm2 SM.out).mono ?_
        rintro e w3 ⟨rfl, hd3⟩
        rw [HR.out]
        have hm3 := hm2.fr (hd3.fr (fun _ => False)) (fun h => h)
        have F3 := F2.trans (hd3.fr (fun _ => False)) (fun _ _ h => h.elim)
        clear hm2 F2 hd3
        go_wp2_with (fail)
        refine (mpass_any w.heap.size tot _ 8 _ _ hm3).mono ?_
        rintro e w4 ⟨rfl, hm4, hf4⟩
        rw [MX.out] at hm4
        have F4 := F3.trans hf4 (fun i _ h => by omega)
        clear hm3 F3 hf4
        go_wp2_with (fail)
        refine (mrate_any w.heap.size tot _ _ _ hm4 R2.out).mono ?_
        rintro e w5 ⟨rfl, hd5⟩
        rw [R1.out]
        have hm5 := hm4.fr (hd5.fr (fun _ => False)) (fun h => h)
        have F5 := F4.trans (hd5.fr (fun _ => False)) (fun _ _ h => h.elim)
        clear hm4 F4 hd5
        go_wp2_with (fail)
        refine (mdone_any w.heap.size tot _ _ _ hm5).mono ?_
        rintro e w6 ⟨rfl, rfl⟩
        go_wp2_with (fail)
        refine (awake_any _).mono ?_
        rintro e w6 ⟨rfl, hbel⟩
        go_wp2
        go_ret
        exact ⟨rfl, (F5.below (Nat.le_refl _) (fun k hk => by omega)).trans (hbel.mono F5.size)⟩
      · by_cases kB : c = 0
        · have kb : (c == 0) = true := by simp [kB]
          have KB := Lib.hid kB; clear kB
          go_wp2_with (fail)
          refine (mleft_any w.heap.size tot _ _ _ hm SM.out g0 (by unfold MaxN; omega) b0 (by unfold MaxN; omega) (by rw [HR.out]; omega) (by rw [HR.out]; unfold MaxN; omega)).mono ?_
          rintro e w2 ⟨rfl, hd⟩
          rw [HR.out, show leftP tot ((k : Int) * c) c = 0 by rw [leftP, if_neg (by omega), if_pos KB.out], show leftB tot ((k : Int) * c) c = false by rw [leftB, if_neg (by omega), if_pos KB.out]]
          have hm2 := hm.fr (hd.fr (fun _ => False)) (fun h => h)
          have F2 := hf.trans (hd.fr (fun _ => False)) (fun _ _ h => h.elim)
          clear hm hf hd
          go_wp2_with (fail)
          refine (mdone_any w.heap.size tot _ _ _ hm2).mono ?_
          rintro e w3 ⟨rfl, rfl⟩
          go_wp2_with (fail)
          refine (mrate_any w.heap.size tot _ _ _ hm2 SM.out).mono ?_
          rintro e w3 ⟨rfl, hd3⟩
          rw [HR.out]
          have hm3 := hm2.fr (hd3.fr (fun _ => False)) (fun h => h)
          have F3 := F2.trans (hd3.fr (fun _ => False)) (fun _ _ h => h.elim)
          clear hm2 F2 hd3
          go_wp2_with (fail)
          refine (mpass_any w.heap.size tot _ 8 _ _ hm3).mono ?_
          rintro e w4 ⟨rfl, hm4, hf4⟩
          rw [MX.out] at hm4
          have F4 := F3.trans hf4 (fun i _ h => by omega)
          clear hm3 F3 hf4
          go_wp2_with (fail)
          refine (mrate_any w.heap.size tot _ _ _ hm4 R2.out).mono ?_
          rintro e w5 ⟨rfl, hd5⟩
          rw [R1.out]
          have hm5 := hm4.fr (hd5.fr (fun _ => False)) (fun h => h)
          have F5 := F4.trans (hd5.fr (fun _ => False)) (fun _ _ h => h.elim)
          clear hm4 F4 hd5
          go_wp2_with (fail)
          refine (mdone_any w.heap.size tot _ _ _ hm5).mono ?_
          rintro e w6 ⟨rfl, rfl⟩
          go_wp2_with (fail)
          refine (awake_any _).mono ?_
          rintro e w6 ⟨rfl, hbel⟩
          go_wp2
          go_ret
          exact ⟨rfl, (F5.below (Nat.le_refl _) (fun k hk => by omega)).trans (hbel.mono F5.size)⟩
        · obtain ⟨n, hn⟩ : ∃ n, n = (tot - (k : Int) * c - 1) / c + 1 := ⟨_, rfl⟩
          have hle := Int.ediv_mul_le (tot - (k : Int) * c - 1) (b := c) (by omega)
          have hlt := Int.lt_ediv_add_one_mul_self (tot - (k : Int) * c - 1) (b := c) (by omega)
          rw [← hn] at hlt
          have hn1 : (n - 1) * c ≤ tot - (k : Int) * c - 1 := by rw [hn, Int.add_sub_cancel]; exact hle
          have hn2 : tot - (k : Int) * c ≤ n * c := by omega
          have hn0 : 1 ≤ n := by
            have := Int.ediv_nonneg (show 0 ≤ tot - (k : Int) * c - 1 by omega) (show 0 ≤ c by omega)
            omega
          have hn3 : n * c = (n - 1) * c + c := by rw [Int.sub_mul, Int.one_mul]; omega
          have hn4 : n * c ≤ 4294967295 + 65535 := by omega
          have hn5 : 0 ≤ (n - 1) * c := Int.mul_nonneg (by omega) c0
          have hn6 : n ≤ 4294967297 := by
            have : (n - 1) * 1 ≤ (n - 1) * c := Int.mul_le_mul_of_nonneg_left (by omega) (by omega)
            omega
          have hn7 : 0 ≤ n * c := Int.mul_nonneg (by omega) c0
          have HN := Lib.hid hn
          have kb : (c == 0) = false := by simp [kB]
          clear hn hn3 hle hlt
          have KB := Lib.hid kB; clear kB
          go_wp2_with (fail)
          refine (mleft_any w.heap.size tot _ _ _ hm SM.out g0 (by unfold MaxN; omega) b0 (by unfold MaxN; omega) (by rw [HR.out]; omega) (by rw [HR.out]; unfold MaxN; omega)).mono ?_
          rintro e w2 ⟨rfl, hd⟩
          rw [HR.out, show leftP tot ((k : Int) * c) c = n by rw [leftP, if_neg (by omega), if_neg KB.out, HN.out], show leftB tot ((k : Int) * c) c = true by rw [leftB, if_neg (by omega), if_neg KB.out]]
          have hm2 := hm.fr (hd.fr (fun _ => False)) (fun h => h)
          have F2 := hf.trans (hd.fr (fun _ => False)) (fun _ _ h => h.elim)
          clear hm hf hd
          go_wp2_with (fail)
          refine (mdone_any w.heap.size tot _ _ _ hm2).mono ?_
          rintro e w3 ⟨rfl, rfl⟩
          go_wp2_with (fail)
          refine (mrate_any w.heap.size tot _ _ _ hm2 SM.out).mono ?_
          rintro e w3 ⟨rfl, hd3⟩
          rw [HR.out]
          have hm3 := hm2.fr (hd3.fr (fun _ => False)) (fun h => h)
          have F3 := F2.trans (hd3.fr (fun _ => False)) (fun _ _ h => h.elim)
          clear hm2 F2 hd3
          go_wp2_with (fail)
          refine (mpass_any w.heap.size tot _ 8 _ _ hm3).mono ?_
          rintro e w4 ⟨rfl, hm4, hf4⟩
          rw [MX.out] at hm4
          have F4 := F3.trans hf4 (fun i _ h => by omega)
          clear hm3 F3 hf4
          go_wp2_with (fail)
          refine (mrate_any w.heap.size tot _ _ _ hm4 R2.out).mono ?_
          rintro e w5 ⟨rfl, hd5⟩
          rw [R1.out]
          have hm5 := hm4.fr (hd5.fr (fun _ => False)) (fun h => h)
          have F5 := F4.trans (hd5.fr (fun _ => False)) (fun _ _ h => h.elim)
          clear hm4 F4 hd5
          go_wp2_with (fail)
          refine (mdone_any w.heap.size tot _ _ _ hm5).mono ?_
          rintro e w6 ⟨rfl, rfl⟩
          go_wp2_with (fail)
          refine (awake_any _).mono ?_
          rintro e w6 ⟨rfl, hbel⟩
          go_wp2
          go_ret
          exact ⟨rfl, (F5.below (Nat.le_refl _) (fun k hk => by omega)).trans (hbel.mono F5.size)⟩

theorem bd_u32 {n : Int} (h : (Lit.int .u32 n).wf = true) : 0 ≤ n ∧ n ≤ 4294967295 := by
  simp only [Lit.wf, Bool.and_eq_true, decide_eq_true_eq] at h; exact h
theorem bd_u16 {n : Int} (h : (Lit.int .u16 n).wf = true) : 0 ≤ n ∧ n ≤ 65535 := by
  simp only [Lit.wf, Bool.and_eq_true, decide_eq_true_eq] at h; exact h
theorem bd_u8 {n : Int} (h : (Lit.int .u8 n).wf = true) : 0 ≤ n ∧ n ≤ 255 := by
  simp only [Lit.wf, Bool.and_eq_true, decide_eq_true_eq] at h; exact h

open Go.ChangeShapes Go.WideShapes Go.ChangeAt Go.RowKit
set_option linter.unusedVariables false
theorem own : ownKnob Try.prog.godebug = none := by kernel_rfl
theorem laidOut : laidOutB Try.prog = true := by kernel_rfl

set_option maxRecDepth 100000 in
theorem lifted (os : Os) (started : os.Started) (H : Type) (enc : TypeId × Value → H) :
    ReturnsInHanded {} Try.checked os 4 .any (Rows.paceSteadySpec.pre6 enc Try.prog Try.f4 Rows.paceSteadyRow.domain false) (Rows.paceSteadySpec.post enc Try.prog Try.f4 false true false false) := by
  refine returnsInHanded_of_change (C := Try.checked) own started (by kernel_rfl) Try.func4
    (ChangeSpec.witness6 (enc := enc) (C := Try.checked) false ⟨#[], #[.int .u32 0, .int .u16 0, .int .u8 0], []⟩ 8 (by kernel_rfl) (by kernel_rfl) (by kernel_rfl) (by kernel_rfl)) ?_
  intro W base args ds gs before hval0 hW hcnd _
  have hval : ∀ (j : Nat) t v, Try.f4.params[j]? = some t → args[j]? = some v → Value.okWide Try.prog W .any base t v := hval0
  have hW' := hW
  obtain ⟨p, q, hA0, hV, rfl, hfz, hnd⟩ := hW
  have hA : DataW.TrodAll enc Try.prog W 0 (fun _ => true) true Try.f4.params.toList args.toList ds p := hA0
  rw [Try.params4] at hA hval
  obtain ⟨v0, vs0, d0, ds0, p0, q0, hargs, rfl, rfl, h0, r0⟩ := trodAll_cons hA
  obtain ⟨v1, vs1, d1, ds1, p1, q1, rfl, rfl, rfl, h1, r1⟩ := trodAll_cons r0
  obtain ⟨v2, vs2, d2, ds2, p2, q2, rfl, rfl, rfl, h2, r2⟩ := trodAll_cons r1
  obtain ⟨rfl, rfl, rfl⟩ := trodAll_nil r2
  obtain rfl : args = #[v0, v1, v2] := by cases args; simp_all
  obtain ⟨rfl, rfl⟩ := trodVars_none hV
  have k0 := h0
  have lt0 : ∀ x ∈ p0, x.block < W.heap.size := by obtain ⟨m, hm⟩ := k0; exact DataW.trod_lt m _ _ _ hm
  have k1 := h1
  have lt1 : ∀ x ∈ p1, x.block < W.heap.size := by obtain ⟨m, hm⟩ := k1; exact DataW.trod_lt m _ _ _ hm
  have k2 := h2
  have lt2 : ∀ x ∈ p2, x.block < W.heap.size := by obtain ⟨m, hm⟩ := k2; exact DataW.trod_lt m _ _ _ hm
  obtain ⟨a0, rfl, rfl, rfl, w0⟩ := open_int Try.underlying38 (hval 0 38 v0 rfl rfl) h0
  obtain ⟨a1, rfl, rfl, rfl, w1⟩ := open_int Try.underlying39 (hval 1 39 v1 rfl rfl) h1
  obtain ⟨a2, rfl, rfl, rfl, w2⟩ := open_int Try.underlying5 (hval 2 5 v2 rfl rfl) h2
  clear hA0 hval0
  refine (walk a0 a1 a2 (bd_u32 w0).1 (bd_u32 w0).2 (bd_u16 w1).1 (bd_u16 w1).2 (bd_u8 w2).1 (bd_u8 w2).2 W).mono fun e W' ⟨he, bel⟩ => ?_
  subst he
  exact ⟨_, rfl, _, _, _, [], _, [], hW', trodAll_mk1 (shut_bool Try.underlying4 _), (trodAll_cons_mk (Below.trod laidOut (by kernel_rfl) (of_decide_eq_true (by kernel_rfl)) k0 bel lt0) (trodAll_cons_mk (Below.trod laidOut (by kernel_rfl) (of_decide_eq_true (by kernel_rfl)) k1 bel lt1) (trodAll_cons_mk (Below.trod laidOut (by kernel_rfl) (of_decide_eq_true (by kernel_rfl)) k2 bel lt2) trodAll_mk0))), rfl, bel.frame _, fun h => by cases h⟩

theorem over : Rows.paceSteadyRow.holds Try.pinned (OpenSpec.ofChange Rows.paceSteadySpec) :=
  OpenClaim.holds_of_wide 4 Try.f4 rfl rfl rfl rfl rfl rfl rfl ⟨rfl, rfl, rfl, rfl, rfl⟩ rfl rfl rfl rfl rfl (by kernel_rfl) Try.func4 (by kernel_rfl)
    (of_decide_eq_true (by kernel_rfl)) (by unfold Func.isWrapper; first | (rw [if_pos (by decide +kernel)]; kernel_rfl) | (rw [if_neg (by decide +kernel)]; exact ⟨rfl, rfl⟩))
    (fun os started H enc _ => lifted os started H enc)

theorem proved : Rows.PaceSteadySaid := over
#print axioms proved
end paceSteady
end Go.Proofs.Ytncdmgngmgjmpaa
