/- PaceWaits: for every rate, burst, what is taken and what is waited for: behind as many ticks as Wait tells there are as many tokens, behind one less there are not, more than the burst never come: the law returns true, and its arguments read as before. -/
import Derived.Test.YtncdmgngmgjmpaaAwake
import Derived.Test.YtncdmgngmgjmpaaRows
import Derived.Test.YtncdmgngmgjmpaaOpen
namespace Go.Proofs.Ytncdmgngmgjmpaa
open Go.RowKit

namespace paceWaits

theorem takeN_bd {n h : Int} (h0 : 0 ≤ h) : 0 ≤ takeN n h ∧ takeN n h ≤ h := by unfold takeN; omega

theorem walk (r u l0 n : Int) (r0 : 0 ≤ r) (r1 : r ≤ 65535) (u0 : 0 ≤ u) (u1 : u ≤ 65535) (w : World) :
    Calls Try.prog 7 #[.int .u16 r, .int .u16 u, .agg #[.int .i64 l0, .int .i64 n]] w fun e w' => e = .returned (.bool true) ∧ Below w.heap.size w w' := by
  have hA0 : Blk (w.alloc (.cells #[.int .i64 l0, .int .i64 n] 52)) w.heap.size 52 #[.int .i64 l0, .int .i64 n] := Blk.new _ _ _
  have hF0 : Fr (fun i => w.heap.size ≤ i) w (w.alloc (.cells #[.int .i64 l0, .int .i64 n] 52)) := (Fr.refl _ _).alloc _
  go_enter Try.func7, Try.ntmps7
  go_wp2_with (fail)
  generalize w.alloc (.cells #[.int .i64 l0, .int .i64 n] 52) = wa at *
  have hlt := hA0.lt
  refine (new_ok' (1 + r) (1 + u) _ (by omega) (by omega) (by omega) (by omega)).mono ?_
  rintro e w1 ⟨rfl, hb1, hf1⟩
  have hA1 := hA0.fr hf1 (fun h => h)
  have F1 := hF0.trans hf1 (fun _ _ h => h.elim)
  have c1 := hA1.cell 0 (v := .int .i64 l0) rfl
  clear hA0 hF0 hf1
  go_wp2_with (fail)
  refine (take_any' wa.heap.size (1 + r) (1 + u) (1 + u) l0 _ hb1 (by omega) (by omega)).mono ?_
  rintro e w2 ⟨rfl, hb2, hf2⟩
  obtain ⟨t0, t1⟩ := takeN_bd (n := l0) (show 0 ≤ 1 + u by omega)
  obtain ⟨h, hh⟩ : ∃ h, h = 1 + u - takeN l0 (1 + u) := ⟨_, rfl⟩
  rw [← hh] at hb2
  have h0 : 0 ≤ h := by omega
  have h1 : h ≤ 1 + u := by omega
  have hA2 := hA1.fr hf2 (fun h => by omega)
  have F2 := F1.trans hf2 (fun i _ h => by omega)
  have c2 := hA2.cell 1 (v := .int .i64 n) rfl
  clear hA1 F1 hf2 c1 hb1 hh t0 t1
  go_wp2_with (fail)
  refine (wait_any wa.heap.size (1 + r) (1 + u) h n _ hb2 (by omega) (by omega) (by omega) h0 (by omega)).mono ?_
  rintro e w3 ⟨rfl, hb3, hf3⟩
  have F3 := F2.trans hf3 (fun _ _ h => h.elim)
  clear hb2 hf3 F2 c2 hA2
  by_cases k1 : 1 + u < n
  · rw [show waitN (1 + r) (1 + u) h n = 0 from if_pos k1, show waitE (1 + u) n = 7 from if_pos k1]
    go_wp2_with (fail)
    refine (awake_any _).mono ?_
    rintro e w4 ⟨rfl, hbel⟩
    go_wp2
    go_ret
    exact ⟨rfl, (F3.below (Nat.le_refl _) (fun k hk => by omega)).trans (hbel.mono F3.size)⟩
  · rw [show waitE (1 + u) n = 0 from if_neg k1]
    by_cases k2 : n ≤ h
    · rw [show waitN (1 + r) (1 + u) h n = 0 by rw [waitN, if_neg k1, if_pos k2]]
      go_wp2_with (fail)
      refine (has_any wa.heap.size _ _ h _ hb3).mono ?_
      rintro e w4 ⟨rfl, rfl⟩
      go_wp2_with (fail)
      refine (awake_any _).mono ?_
      rintro e w4 ⟨rfl, hbel⟩
      go_wp2
      go_ret
      exact ⟨rfl, (F3.below (Nat.le_refl _) (fun k hk => by omega)).trans (hbel.mono F3.size)⟩
    · obtain ⟨t, ht⟩ : ∃ t, t = ticksN (1 + r) h n := ⟨_, rfl⟩
      rw [show waitN (1 + r) (1 + u) h n = t by rw [waitN, if_neg k1, if_neg k2, ht]]
      have g1 := ticks_lt (rate := 1 + r) (has := h) (n := n) (t := t - 1) (by omega) (by omega) (by omega)
      have g2 := ticks_ge (rate := 1 + r) (has := h) (n := n) (t := t) (by omega) (by omega) (by omega)
      have t1 : 1 ≤ t := by
        apply Int.le_of_sub_nonneg
        have : ¬ t ≤ 0 := by
          intro h'
          have : t * (1 + r) ≤ 0 := Int.mul_nonpos_of_nonpos_of_nonneg h' (by omega)
          omega
        omega
      have t2 : t ≤ 65536 := by
        have : (t - 1) * 1 ≤ (t - 1) * (1 + r) := Int.mul_le_mul_of_nonneg_left (by omega) (by omega)
        omega
      have e1 : (t - 1) * (1 + r) + (1 + r) = t * (1 + r) := by rw [Int.sub_mul, Int.one_mul]; omega
      obtain ⟨h2, hh2⟩ : ∃ h2, h2 = passN (1 + r) (1 + u) h (t - 1) := ⟨_, rfl⟩
      have m1 : h2 < n ∧ 0 ≤ h2 ∧ h2 ≤ 1 + u := by
        rw [hh2]; unfold passN
        have : 0 ≤ (t - 1) * (1 + r) := Int.mul_nonneg (by omega) (by omega)
        split <;> omega
      obtain ⟨h3, hh3⟩ : ∃ h3, h3 = passN (1 + r) (1 + u) h2 1 := ⟨_, rfl⟩
      have m2 : n ≤ h3 := by
        rw [hh3]; unfold passN
        rw [if_neg (by omega), Int.one_mul]
        rw [hh2]; unfold passN
        split
        · have : t = 1 := by omega
          subst this
          omega
        · omega
      have H2 := Lib.hid hh2
      have H3 := Lib.hid hh3
      have m11 := m1.1
      have m12 := m1.2.1
      have m13 := m1.2.2
      have kz : (t == 0) = false := by simp; omega
      clear ht g1 g2 e1 hh2 hh3 m1
      go_wp2_with (fail)
      refine (has_any wa.heap.size _ _ h _ hb3).mono ?_
      rintro e w4 ⟨rfl, rfl⟩
      go_wp2_with (fail)
      refine (pass_any wa.heap.size _ _ h (t - 1) _ hb3 (by omega) (by omega) (by omega) h0 h1).mono ?_
      rintro e w4 ⟨rfl, hb4, hf4⟩
      rw [← H2.out] at hb4
      have F4 := F3.trans hf4 (fun i _ h => by omega)
      clear hb3 hf4 F3
      go_wp2_with (fail)
      refine (has_any wa.heap.size _ _ h2 _ hb4).mono ?_
      rintro e w5 ⟨rfl, rfl⟩
      go_wp2_with (fail)
      refine (pass_any wa.heap.size _ _ h2 1 _ hb4 (by omega) (by omega) (by omega) (by omega) (by omega)).mono ?_
      rintro e w5 ⟨rfl, hb5, hf5⟩
      rw [← H3.out] at hb5
      have F5 := F4.trans hf5 (fun i _ h => by omega)
      clear hb4 hf5 F4
      go_wp2_with (fail)
      refine (has_any wa.heap.size _ _ h3 _ hb5).mono ?_
      rintro e w6 ⟨rfl, rfl⟩
      go_wp2_with (fail)
      refine (awake_any _).mono ?_
      rintro e w6 ⟨rfl, hbel⟩
      go_wp2
      go_ret
      exact ⟨rfl, (F5.below (Nat.le_refl _) (fun k hk => by omega)).trans (hbel.mono F5.size)⟩

open Go.ChangeShapes Go.WideShapes Go.ChangeAt Go.RowKit
set_option linter.unusedVariables false
theorem own : ownKnob Try.prog.godebug = none := by kernel_rfl
theorem laidOut : laidOutB Try.prog = true := by kernel_rfl

set_option maxRecDepth 100000 in
theorem lifted (os : Os) (started : os.Started) (H : Type) (enc : TypeId × Value → H) :
    ReturnsInHanded {} Try.checked os 7 .any (Rows.paceWaitsSpec.pre6 enc Try.prog Try.f7 Rows.paceWaitsRow.domain false) (Rows.paceWaitsSpec.post enc Try.prog Try.f7 false true false false) := by
  refine returnsInHanded_of_change (C := Try.checked) own started (by kernel_rfl) Try.func7
    (ChangeSpec.witness6 (enc := enc) (C := Try.checked) false ⟨#[], #[.int .u16 0, .int .u16 0, .agg #[.int .i64 0, .int .i64 0]], []⟩ 8 (by kernel_rfl) (by kernel_rfl) (by kernel_rfl) (by kernel_rfl)) ?_
  intro W base args ds gs before hval0 hW hcnd _
  have hval : ∀ (j : Nat) t v, Try.f7.params[j]? = some t → args[j]? = some v → Value.okWide Try.prog W .any base t v := hval0
  have hW' := hW
  obtain ⟨p, q, hA0, hV, rfl, hfz, hnd⟩ := hW
  have hA : DataW.TrodAll enc Try.prog W 0 (fun _ => true) true Try.f7.params.toList args.toList ds p := hA0
  rw [Try.params7] at hA hval
  obtain ⟨v0, vs0, d0, ds0, p0, q0, hargs, rfl, rfl, h0, r0⟩ := trodAll_cons hA
  obtain ⟨v1, vs1, d1, ds1, p1, q1, rfl, rfl, rfl, h1, r1⟩ := trodAll_cons r0
  obtain ⟨v2, vs2, d2, ds2, p2, q2, rfl, rfl, rfl, h2, r2⟩ := trodAll_cons r1
  obtain ⟨rfl, rfl, rfl⟩ := trodAll_nil r2
  obtain rfl : args = #[v0, v1, v2] := by cases args; simp_all
  obtain ⟨rfl, rfl⟩ := trodVars_none hV
  have k0 := h0
  have lt0 : ∀ x ∈ p0, x.block < W.heap.size := by obtain ⟨m, hm⟩ := k0; exact DataW.trod_lt m _ _ _ hm
  have k1 := h1
  have lt1 : ∀ x ∈ p1, x.block < W.heap.size := by obtain ⟨m, hm⟩ := k1; exact DataW.trod_lt m _ _ _ hm
  have k2 := h2
  have lt2 : ∀ x ∈ p2, x.block < W.heap.size := by obtain ⟨m, hm⟩ := k2; exact DataW.trod_lt m _ _ _ hm
  obtain ⟨a0, rfl, rfl, rfl, w0⟩ := open_int Try.underlying39 (hval 0 39 v0 rfl rfl) h0
  obtain ⟨a1, rfl, rfl, rfl, w1⟩ := open_int Try.underlying39 (hval 1 39 v1 rfl rfl) h1
  obtain ⟨l0, l1, rfl, _, _⟩ := open_arr2 Try.underlying52 Try.underlying3 (by kernel_rfl) (by kernel_rfl) (hval 2 52 v2 rfl rfl) h2
  clear hA0 hval0
  refine (walk a0 a1 l0 l1 (bd_u16 w0).1 (bd_u16 w0).2 (bd_u16 w1).1 (bd_u16 w1).2 W).mono fun e W' ⟨he, bel⟩ => ?_
  subst he
  exact ⟨_, rfl, _, _, _, [], _, [], hW', trodAll_mk1 (shut_bool Try.underlying4 _), (trodAll_cons_mk (Below.trod laidOut (by kernel_rfl) (of_decide_eq_true (by kernel_rfl)) k0 bel lt0) (trodAll_cons_mk (Below.trod laidOut (by kernel_rfl) (of_decide_eq_true (by kernel_rfl)) k1 bel lt1) (trodAll_cons_mk (Below.trod laidOut (by kernel_rfl) (of_decide_eq_true (by kernel_rfl)) k2 bel lt2) trodAll_mk0))), rfl, bel.frame _, fun h => by cases h⟩

theorem over : Rows.paceWaitsRow.holds Try.pinned (OpenSpec.ofChange Rows.paceWaitsSpec) :=
  OpenClaim.holds_of_wide 7 Try.f7 rfl rfl rfl rfl rfl rfl rfl ⟨rfl, rfl, rfl, rfl, rfl⟩ rfl rfl rfl rfl rfl (by kernel_rfl) Try.func7 (by kernel_rfl)
    (of_decide_eq_true (by kernel_rfl)) (by unfold Func.isWrapper; first | (rw [if_pos (by decide +kernel)]; kernel_rfl) | (rw [if_neg (by decide +kernel)]; exact ⟨rfl, rfl⟩))
    (fun os started H enc _ => lifted os started H enc)

theorem proved : Rows.PaceWaitsSaid := over
#print axioms proved
end paceWaits
end Go.Proofs.Ytncdmgngmgjmpaa
