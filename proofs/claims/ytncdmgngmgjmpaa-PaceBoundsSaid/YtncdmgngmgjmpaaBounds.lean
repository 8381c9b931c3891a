/- PaceBounds: for every rate, burst and deeds: no more tokens go than the burst, and the rate for each tick that passed; there are never more than the burst, nor fewer than none: the law returns true, and its arguments read as before. -/
import Derived.Test.YtncdmgngmgjmpaaAwake
import Derived.Test.YtncdmgngmgjmpaaRows
import Derived.Test.YtncdmgngmgjmpaaOpen
namespace Go.Proofs.Ytncdmgngmgjmpaa
open Go.RowKit

namespace paceBounds

set_option maxHeartbeats 8000000 in
set_option maxRecDepth 100000 in
theorem walk (r u : Int) (a : Option Addr) (n cap : Nat) (K N : Nat → Int) (r0 : 0 ≤ r) (r1 : r ≤ 65535) (u0 : 0 ≤ u) (u1 : u ≤ 65535) (w : World) (hp : Pairs w a n K N) :
    Calls Try.prog 6 #[.int .u16 r, .int .u16 u, .slice a n cap] w fun e w' => e = .returned (.bool true) ∧ Below w.heap.size w w' := by
  have hn := hp.1
  by_cases hbig : 200 < n
  · go_enter Try.func6, Try.ntmps6
    go_wp2_with (fail)
    refine (awake_any _).mono ?_
    rintro e w4 ⟨rfl, hbel⟩
    go_wp2
    go_ret
    exact ⟨rfl, hbel⟩
  go_enter Try.func6, Try.ntmps6
  go_wp2_with (fail)
  refine (new_ok' (1 + r) (1 + u) _ (by omega) (by omega) (by omega) (by omega)).mono ?_
  rintro e w1 ⟨rfl, hb1, hf1⟩
  have F1 := hf1.mono (S := fun i => w.heap.size ≤ i) (fun _ _ h => h.elim)
  clear hf1
  go_wp2_with (fail)
  refine (has_any w.heap.size _ _ _ _ hb1).mono ?_
  rintro e w4 ⟨rfl, rfl⟩
  go_wp2_with (fail)
  go_loopw [11, 12, 13] (fun x11 x12 x13 wr => ∃ (k : Nat) (h W T : Int), k ≤ n ∧ x13 = .int .i64 k ∧ x11 = .int .i64 W ∧ x12 = .int .i64 T ∧ Bk 68 wr w.heap.size (1 + r) (1 + u) h ∧ 0 ≤ h ∧ h ≤ 1 + u ∧ 0 ≤ W ∧ 0 ≤ T ∧ T ≤ k * 1000 ∧ W + h ≤ 1 + u + (1 + r) * T ∧ Fr (fun i => w.heap.size ≤ i) w wr) (fun _ _ x _ => n - (intOf x).toNat)
  case atStart => exact ⟨0, 1 + u, 0, 0, by omega, rfl, rfl, rfl, hb1, by omega, by omega, by omega, by omega, by omega, by omega, F1⟩
  case round =>
    clear hb1 F1
    obtain ⟨k, h, W, T, hk, rfl, rfl, rfl, hb, h0, h1, W0, T0, T1, hinv, hf⟩ := hrel
    have p0 : 0 ≤ (1 + r) * T := Int.mul_nonneg (by omega) (by omega)
    have p1 : (1 + r) * T ≤ 65536 * 200000 := Int.mul_le_mul (by omega) (by omega) (by omega) (by omega)
    by_cases hlt : k < n
    · obtain ⟨b, off, rfl, hbl, hc0, hc1, -, -, hN0, hN1⟩ := hp.2 k hlt
      have hd0 : wr.cell? ⟨b, off + k * 2, none⟩ = some (.int .i64 (K k)) := by
        rw [← hc0]; exact World.cell?_of_block (w := w) (hf.block b hbl (by omega))
      have hd1 : wr.cell? ⟨b, off + k * 2 + 1, none⟩ = some (.int .i64 (N k)) := by
        rw [← hc1]; exact World.cell?_of_block (w := w) (hf.block b hbl (by omega))
      obtain ⟨q, hq⟩ : ∃ q, q = N k := ⟨_, rfl⟩
      rw [← hq] at hd1 hN0 hN1
      obtain ⟨z, hz⟩ : ∃ z, z = K k := ⟨_, rfl⟩
      rw [← hz] at hd0
      have HP := Lib.hid hp
      clear hq hz hc0 hc1 hp
      by_cases kz : z = 0
      · subst kz
        obtain ⟨t, ht⟩ : ∃ t, t = takeN q h := ⟨_, rfl⟩
        obtain ⟨m, hm⟩ : ∃ m, m = h - t := ⟨_, rfl⟩
        have t0 : 0 ≤ t ∧ t ≤ h ∧ t ≤ max 0 q := by rw [ht]; unfold takeN; omega
        have t1 := t0.1
        have t2 := t0.2.1
        have t3 := t0.2.2
        have m0 : 0 ≤ m := by omega
        have m1 : m ≤ 1 + u := by omega
        have m2 : m ≤ h - t := by omega
        have m3 : h - t ≤ m := by omega
        have mb : (m != h - t) = false := by simp; omega
        have tb : decide (t < 0) = false := by simp; omega
        have HT := Lib.hid ht.symm
        have HM := Lib.hid hm
        clear ht hm t0
        by_cases kq : 0 < q
        · have t4 : t ≤ q := by omega
          have tq : decide (q < t) = false := by simp; omega
          clear t3
          go_wp2_with (fail)
          refine (has_any w.heap.size _ _ h _ hb).mono ?_
          rintro e w8 ⟨rfl, rfl⟩
          go_wp2_with (fail)
          refine (take_any' w.heap.size _ _ h q _ hb h0 (by omega)).mono ?_
          rintro e w2 ⟨rfl, hb2, hf2⟩
          rw [HT.out, ← HM.out] at *
          have F2 := hf.trans hf2 (fun i _ h => by omega)
          have hd1' : w2.cell? ⟨b, off + k * 2 + 1, none⟩ = some (.int .i64 q) := by
            rw [← hd1]; exact World.cell?_of_block (w := wr) (hf2.block b (by have := hf.size; omega) (by omega))
          clear hb hf hf2 hd0 hd1
          go_wp2_with (fail)
          refine (has_any w.heap.size _ _ m _ hb2).mono ?_
          rintro e w8 ⟨rfl, rfl⟩
          go_wp2_with (fail)
          refine (has_any w.heap.size _ _ m _ hb2).mono ?_
          rintro e w8 ⟨rfl, rfl⟩
          go_wp2_with (fail)
          refine (has_any w.heap.size _ _ m _ hb2).mono ?_
          rintro e w8 ⟨rfl, rfl⟩
          go_wp2
          go_roundw
          case rel => exact ⟨k + 1, m, W + t, T, by omega, by go_num, rfl, rfl, hb2, m0, m1, by omega, T0, by omega, by omega, F2⟩
          case measure => simp [intOf]; omega
        · have t4 : t ≤ 0 := by omega
          have tq : decide (0 < t) = false := by simp; omega
          clear t3
          go_wp2_with (fail)
          refine (has_any w.heap.size _ _ h _ hb).mono ?_
          rintro e w8 ⟨rfl, rfl⟩
          go_wp2_with (fail)
          refine (take_any' w.heap.size _ _ h q _ hb h0 (by omega)).mono ?_
          rintro e w2 ⟨rfl, hb2, hf2⟩
          rw [HT.out, ← HM.out] at *
          have F2 := hf.trans hf2 (fun i _ h => by omega)
          have hd1' : w2.cell? ⟨b, off + k * 2 + 1, none⟩ = some (.int .i64 q) := by
            rw [← hd1]; exact World.cell?_of_block (w := wr) (hf2.block b (by have := hf.size; omega) (by omega))
          clear hb hf hf2 hd0 hd1
          go_wp2_with (fail)
          refine (has_any w.heap.size _ _ m _ hb2).mono ?_
          rintro e w8 ⟨rfl, rfl⟩
          go_wp2_with (fail)
          refine (has_any w.heap.size _ _ m _ hb2).mono ?_
          rintro e w8 ⟨rfl, rfl⟩
          go_wp2_with (fail)
          refine (has_any w.heap.size _ _ m _ hb2).mono ?_
          rintro e w8 ⟨rfl, rfl⟩
          go_wp2
          go_roundw
          case rel => exact ⟨k + 1, m, W + t, T, by omega, by go_num, rfl, rfl, hb2, m0, m1, by omega, T0, by omega, by omega, F2⟩
          case measure => simp [intOf]; omega
      · have kz' : (z == 0) = false := by simp [kz]
        clear kz
        have q0 : 0 ≤ max 0 (min q 1000) := by omega
        have q1 : max 0 (min q 1000) ≤ 1000 := by omega
        have Q0 := Lib.hid q0
        have Q1 := Lib.hid q1
        clear q0 q1
        go_wp2_with (fail)
        have q0 := Q0.out
        have q1 := Q1.out
        clear Q0 Q1
        generalize max 0 (min q 1000) = P at *
        obtain ⟨m, hm⟩ : ∃ m, m = passN (1 + r) (1 + u) h P := ⟨_, rfl⟩
        have hpd : (1 + r) * (T + P) = (1 + r) * T + P * (1 + r) := by rw [Int.mul_add, Int.mul_comm (1 + r) P]
        have hq0 : 0 ≤ P * (1 + r) := Int.mul_nonneg (by omega) (by omega)
        have mm : 0 ≤ m ∧ m ≤ 1 + u ∧ m ≤ h + P * (1 + r) := by rw [hm]; unfold passN; split <;> omega
        have m0 := mm.1
        have m1 := mm.2.1
        have m2 := mm.2.2
        have pp0 : 0 ≤ (1 + r) * (T + P) := by omega
        have pp1 : (1 + r) * (T + P) ≤ 65536 * 202000 := Int.mul_le_mul (by omega) (by omega) (by omega) (by omega)
        have pp2 : W + m ≤ 1 + u + (1 + r) * (T + P) := by omega
        have HM := Lib.hid hm
        clear hm mm hpd hq0
        refine (pass_any w.heap.size _ _ h P _ hb (by omega) (by omega) (by omega) h0 h1).mono ?_
        rintro e w2 ⟨rfl, hb2, hf2⟩
        rw [← HM.out] at hb2
        have F2 := hf.trans hf2 (fun i _ h => by omega)
        clear hb hf hf2 hd0 hd1
        go_wp2_with (fail)
        refine (has_any w.heap.size _ _ m _ hb2).mono ?_
        rintro e w8 ⟨rfl, rfl⟩
        go_wp2_with (fail)
        refine (has_any w.heap.size _ _ m _ hb2).mono ?_
        rintro e w8 ⟨rfl, rfl⟩
        go_wp2
        go_roundw
        case rel => exact ⟨k + 1, m, W, T + P, by omega, by go_num, rfl, rfl, hb2, m0, m1, W0, by omega, by omega, by omega, F2⟩
        case measure => simp [intOf]; omega
    · go_wp2_with (fail)
      refine (awake_any _).mono ?_
      rintro e w9 ⟨rfl, hbel⟩
      go_wp2
      go_ret
      exact ⟨rfl, (hf.below (Nat.le_refl _) (fun k hk => by omega)).trans (hbel.mono hf.size)⟩

open Go.ChangeShapes Go.WideShapes Go.ChangeAt Go.RowKit
set_option linter.unusedVariables false
theorem own : ownKnob Try.prog.godebug = none := by kernel_rfl
theorem laidOut : laidOutB Try.prog = true := by kernel_rfl

set_option maxRecDepth 100000 in
theorem lifted (os : Os) (started : os.Started) (H : Type) (enc : TypeId × Value → H) :
    ReturnsInHanded {} Try.checked os 6 .any (Rows.paceBoundsSpec.pre6 enc Try.prog Try.f6 Rows.paceBoundsRow.domain false) (Rows.paceBoundsSpec.post enc Try.prog Try.f6 false true false false) := by
  refine returnsInHanded_of_change (C := Try.checked) own started (by kernel_rfl) Try.func6
    (ChangeSpec.witness6 (enc := enc) (C := Try.checked) false ⟨#[], #[.int .u16 0, .int .u16 0, .slice none 0 0], []⟩ 8 (by kernel_rfl) (by kernel_rfl) (by kernel_rfl) (by kernel_rfl)) ?_
  intro W base args ds gs before hval0 hW hcnd _
  have hval : ∀ (j : Nat) t v, Try.f6.params[j]? = some t → args[j]? = some v → Value.okWide Try.prog W .any base t v := hval0
  have hW' := hW
  obtain ⟨p, q, hA0, hV, rfl, hfz, hnd⟩ := hW
  have hA : DataW.TrodAll enc Try.prog W 0 (fun _ => true) true Try.f6.params.toList args.toList ds p := hA0
  rw [Try.params6] at hA hval
  obtain ⟨v0, vs0, d0, ds0, p0, q0, hargs, rfl, rfl, h0, r0⟩ := trodAll_cons hA
  obtain ⟨v1, vs1, d1, ds1, p1, q1, rfl, rfl, rfl, h1, r1⟩ := trodAll_cons r0
  obtain ⟨v2, vs2, d2, ds2, p2, q2, rfl, rfl, rfl, h2, r2⟩ := trodAll_cons r1
  obtain ⟨rfl, rfl, rfl⟩ := trodAll_nil r2
  obtain rfl : args = #[v0, v1, v2] := by cases args; simp_all
  obtain ⟨rfl, rfl⟩ := trodVars_none hV
  have k0 := h0
  have lt0 : ∀ x ∈ p0, x.block < W.heap.size := by obtain ⟨m, hm⟩ := k0; exact DataW.trod_lt m _ _ _ hm
  have k1 := h1
  have lt1 : ∀ x ∈ p1, x.block < W.heap.size := by obtain ⟨m, hm⟩ := k1; exact DataW.trod_lt m _ _ _ hm
  have k2 := h2
  have lt2 : ∀ x ∈ p2, x.block < W.heap.size := by obtain ⟨m, hm⟩ := k2; exact DataW.trod_lt m _ _ _ hm
  obtain ⟨a0, rfl, rfl, rfl, w0⟩ := open_int Try.underlying39 (hval 0 39 v0 rfl rfl) h0
  obtain ⟨a1, rfl, rfl, rfl, w1⟩ := open_int Try.underlying39 (hval 1 39 v1 rfl rfl) h1
  obtain ⟨a2, n2, c2, K2, N2, rfl, x2⟩ := open_pairs Try.underlying22 Try.underlying32 (by kernel_rfl) rfl rfl (by kernel_rfl) (by kernel_rfl) Try.underlying3 Try.underlying3 (hval 2 22 v2 rfl rfl) h2
  clear hA0 hval0
  refine (walk a0 a1 a2 n2 c2 K2 N2 (bd_u16 w0).1 (bd_u16 w0).2 (bd_u16 w1).1 (bd_u16 w1).2 W x2).mono fun e W' ⟨he, bel⟩ => ?_
  subst he
  exact ⟨_, rfl, _, _, _, [], _, [], hW', trodAll_mk1 (shut_bool Try.underlying4 _), (trodAll_cons_mk (Below.trod laidOut (by kernel_rfl) (of_decide_eq_true (by kernel_rfl)) k0 bel lt0) (trodAll_cons_mk (Below.trod laidOut (by kernel_rfl) (of_decide_eq_true (by kernel_rfl)) k1 bel lt1) (trodAll_cons_mk (Below.trod laidOut (by kernel_rfl) (of_decide_eq_true (by kernel_rfl)) k2 bel lt2) trodAll_mk0))), rfl, bel.frame _, fun h => by cases h⟩

theorem over : Rows.paceBoundsRow.holds Try.pinned (OpenSpec.ofChange Rows.paceBoundsSpec) :=
  OpenClaim.holds_of_wide 6 Try.f6 rfl rfl rfl rfl rfl rfl rfl ⟨rfl, rfl, rfl, rfl, rfl⟩ rfl rfl rfl rfl rfl (by kernel_rfl) Try.func6 (by kernel_rfl)
    (of_decide_eq_true (by kernel_rfl)) (by unfold Func.isWrapper; first | (rw [if_pos (by decide +kernel)]; kernel_rfl) | (rw [if_neg (by decide +kernel)]; exact ⟨rfl, rfl⟩))
    (fun os started H enc _ => lifted os started H enc)

theorem proved : Rows.PaceBoundsSaid := over
#print axioms proved
end paceBounds
end Go.Proofs.Ytncdmgngmgjmpaa
