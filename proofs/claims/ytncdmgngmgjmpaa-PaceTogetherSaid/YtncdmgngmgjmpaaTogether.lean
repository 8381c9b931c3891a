/- PaceTogether: for every rate, burst and ticks: ticks that pass at once, or one by one, bring the same: the law returns true, and its arguments read as before. -/
import Derived.Test.YtncdmgngmgjmpaaAwake
import Derived.Test.YtncdmgngmgjmpaaRows
import Derived.Test.YtncdmgngmgjmpaaOpen
namespace Go.Proofs.Ytncdmgngmgjmpaa
open Go.RowKit

namespace paceTogether

theorem takeN_bd {n h : Int} (h0 : 0 ≤ h) : 0 ≤ takeN n h ∧ takeN n h ≤ h := by unfold takeN; omega
theorem passN_eq {x y h t : Int} (h1 : h ≤ y) (t0 : 0 ≤ t) : passN x y h t = min y (h + t * x) := by
  unfold passN
  split
  · have : t = 0 := by omega
    subst this
    rw [Int.zero_mul]; omega
  · rfl
theorem pass_more {x y h t : Int} (x0 : 0 ≤ x) (h1 : h ≤ y) (t0 : 0 ≤ t) : passN x y (passN x y h t) 1 = passN x y h (t + 1) := by
  have e : (t + 1) * x = t * x + x := by rw [Int.add_mul, Int.one_mul]
  rw [passN_eq h1 t0, passN_eq (by omega) (by omega), passN_eq h1 (by omega), Int.one_mul, e]
  omega
theorem passN_bd {x y h t : Int} (x0 : 0 ≤ x) (h0 : 0 ≤ h) (h1 : h ≤ y) (t0 : 0 ≤ t) : 0 ≤ passN x y h t ∧ passN x y h t ≤ y := by
  have := Int.mul_nonneg t0 x0
  rw [passN_eq h1 t0]; omega

theorem walk (r u l0 l1 l2 : Int) (r0 : 0 ≤ r) (r1 : r ≤ 65535) (u0 : 0 ≤ u) (u1 : u ≤ 65535) (a0 : 0 ≤ l0) (a1 : l0 ≤ 255) (b0 : 0 ≤ l1) (b1 : l1 ≤ 255) (c0 : 0 ≤ l2) (c1 : l2 ≤ 255) (w : World) :
    Calls Try.prog 8 #[.int .u16 r, .int .u16 u, .agg #[.int .u8 l0, .int .u8 l1, .int .u8 l2]] w fun e w' => e = .returned (.bool true) ∧ Below w.heap.size w w' := by
  have hA0 : Blk (w.alloc (.cells #[.int .u8 l0, .int .u8 l1, .int .u8 l2] 54)) w.heap.size 54 #[.int .u8 l0, .int .u8 l1, .int .u8 l2] := Blk.new _ _ _
  have hF0 : Fr (fun i => w.heap.size ≤ i) w (w.alloc (.cells #[.int .u8 l0, .int .u8 l1, .int .u8 l2] 54)) := (Fr.refl _ _).alloc _
  obtain ⟨q, hq⟩ : ∃ q : Nat, (q : Int) = l2 := ⟨l2.toNat, by omega⟩
  have q1 : (q : Int) ≤ l2 := by omega
  have q2 : l2 ≤ (q : Int) := by omega
  clear hq
  obtain ⟨s0, s1⟩ := takeN_bd (n := 256 * l0) (h := 1 + u) (by omega)
  obtain ⟨h, hh⟩ : ∃ h, h = 1 + u - takeN (256 * l0) (1 + u) := ⟨_, rfl⟩
  have h0 : 0 ≤ h := by omega
  have h1 : h ≤ 1 + u := by omega
  have HH := Lib.hid hh
  clear hh s0 s1
  go_enter Try.func8, Try.ntmps8
  go_wp2_with (fail)
  generalize w.alloc (.cells #[.int .u8 l0, .int .u8 l1, .int .u8 l2] 54) = wa at *
  have hlt := hA0.lt
  refine (new_ok' (1 + r) (1 + u) _ (by omega) (by omega) (by omega) (by omega)).mono ?_
  rintro e w1 ⟨rfl, hb1, hf1⟩
  have hA1 := hA0.fr hf1 (fun h => h)
  have F1 := hF0.trans hf1 (fun _ _ h => h.elim)
  have hlt1 := hb1.lt
  clear hA0 hF0 hf1
  go_wp2_with (fail)
  refine (new_ok' (1 + r) (1 + u) _ (by omega) (by omega) (by omega) (by omega)).mono ?_
  rintro e w2 ⟨rfl, hc2, hf2⟩
  have hb2 := hb1.fr hf2 (fun h => h)
  have hA2 := hA1.fr hf2 (fun h => h)
  have F2 := F1.trans hf2 (fun _ _ h => h.elim)
  have d2 := hA2.cell 0 (v := .int .u8 l0) rfl
  clear hA1 F1 hf2 hb1
  go_wp2_with (fail)
  refine (take_any' wa.heap.size (1 + r) (1 + u) (1 + u) (256 * l0) _ hb2 (by omega) (by omega)).mono ?_
  rintro e w3 ⟨rfl, hb3, hf3⟩
  rw [← HH.out] at hb3
  have hc3 := hc2.fr hf3 (fun h => by omega)
  have hA3 := hA2.fr hf3 (fun h => by omega)
  have F3 := F2.trans hf3 (fun i _ h => by omega)
  have d3 := hA3.cell 0 (v := .int .u8 l0) rfl
  clear hA2 F2 hf3 d2 hb2 hc2
  go_wp2_with (fail)
  refine (take_any' w1.heap.size (1 + r) (1 + u) (1 + u) (256 * l0) _ hc3 (by omega) (by omega)).mono ?_
  rintro e w4 ⟨rfl, hc4, hf4⟩
  rw [← HH.out] at hc4
  have hb4 := hb3.fr hf4 (fun h => by omega)
  have hA4 := hA3.fr hf4 (fun h => by omega)
  have F4 := F3.trans hf4 (fun i _ h => by omega)
  have d4 := hA4.cell 1 (v := .int .u8 l1) rfl
  have d5 := hA4.cell 2 (v := .int .u8 l2) rfl
  clear hA3 F3 hf4 d3 hb3 hc3
  go_wp2_with (fail)
  refine (pass_any wa.heap.size _ _ h (l1 + l2) _ hb4 (by omega) (by omega) (by omega) h0 h1).mono ?_
  rintro e w5 ⟨rfl, hb5, hf5⟩
  have hc5 := hc4.fr hf5 (fun h => by omega)
  have hA5 := hA4.fr hf5 (fun h => by omega)
  have F5 := F4.trans hf5 (fun i _ h => by omega)
  have d6 := hA5.cell 1 (v := .int .u8 l1) rfl
  clear hA4 F4 hf5 d4 d5 hb4 hc4
  go_wp2_with (fail)
  refine (pass_any w1.heap.size _ _ h l1 _ hc5 (by omega) (by omega) (by omega) h0 h1).mono ?_
  rintro e w6 ⟨rfl, hc6, hf6⟩
  have hb6 := hb5.fr hf6 (fun h => by omega)
  have hA6 := hA5.fr hf6 (fun h => by omega)
  have F6 := F5.trans hf6 (fun i _ h => by omega)
  have hc6' : Bk 68 w6 w1.heap.size (1 + r) (1 + u) (passN (1 + r) (1 + u) h (l1 + ((0 : Nat) : Int))) := by rw [Int.natCast_zero, Int.add_zero]; exact hc6
  clear hA5 F5 hf6 d6 hb5 hc5 hc6
  go_wp2_with (fail)
  go_loopw [11] (fun x wr => ∃ k : Nat, k ≤ q ∧ x = .int .i64 k ∧ Bk 68 wr w1.heap.size (1 + r) (1 + u) (passN (1 + r) (1 + u) h (l1 + (k : Int))) ∧ Bk 68 wr wa.heap.size (1 + r) (1 + u) (passN (1 + r) (1 + u) h (l1 + l2)) ∧ Blk wr w.heap.size 54 #[.int .u8 l0, .int .u8 l1, .int .u8 l2] ∧ Fr (fun i => w.heap.size ≤ i) w wr) (fun x _ => q - (intOf x).toNat)
  case atStart => exact ⟨0, by omega, rfl, hc6', hb6, hA6, F6⟩
  case round =>
    clear hc6' hb6 hA6 F6
    obtain ⟨k, hk, rfl, hc, hb, hA, hf⟩ := hrel
    have d := hA.cell 2 (v := .int .u8 l2) rfl
    obtain ⟨p0, p1⟩ := passN_bd (x := 1 + r) (y := 1 + u) (h := h) (t := l1 + k) (by omega) h0 h1 (by omega)
    by_cases hlt' : k < q
    · have hm := pass_more (x := 1 + r) (y := 1 + u) (h := h) (t := l1 + k) (by omega) h1 (by omega)
      have HM := Lib.hid hm
      clear hm
      go_wp2_with (fail)
      refine (pass_any w1.heap.size _ _ _ 1 _ hc (by omega) (by omega) (by omega) p0 p1).mono ?_
      rintro e w7 ⟨rfl, hc7, hf7⟩
      rw [HM.out] at hc7
      have hb7 := hb.fr hf7 (fun h => by omega)
      have hA7 := hA.fr hf7 (fun h => by omega)
      have F7 := hf.trans hf7 (fun i _ h => by omega)
      clear hc hb hA hf hf7 d
      go_wp2
      go_roundw
      case rel => exact ⟨k + 1, by omega, by go_num, by rw [show l1 + ((k + 1 : Nat) : Int) = l1 + k + 1 by omega]; exact hc7, hb7, hA7, F7⟩
      case measure => simp [intOf]; omega
    · have hm : passN (1 + r) (1 + u) h (l1 + k) = passN (1 + r) (1 + u) h (l1 + l2) := by
        rw [show (k : Int) = l2 by omega]
      rw [hm] at hc
      clear hm
      go_wp2_with (fail)
      refine (has_any wa.heap.size _ _ _ _ hb).mono ?_
      rintro e w8 ⟨rfl, rfl⟩
      go_wp2_with (fail)
      refine (has_any w1.heap.size _ _ _ _ hc).mono ?_
      rintro e w8 ⟨rfl, rfl⟩
      go_wp2_with (fail)
      refine (awake_any _).mono ?_
      rintro e w9 ⟨rfl, hbel⟩
      go_wp2
      go_ret
      exact ⟨rfl, (hf.below (Nat.le_refl _) (fun k hk => by omega)).trans (hbel.mono hf.size)⟩

open Go.ChangeShapes Go.WideShapes Go.ChangeAt Go.RowKit
set_option linter.unusedVariables false
theorem own : ownKnob Try.prog.godebug = none := by kernel_rfl
theorem laidOut : laidOutB Try.prog = true := by kernel_rfl

set_option maxRecDepth 100000 in
theorem lifted (os : Os) (started : os.Started) (H : Type) (enc : TypeId × Value → H) :
    ReturnsInHanded {} Try.checked os 8 .any (Rows.paceTogetherSpec.pre6 enc Try.prog Try.f8 Rows.paceTogetherRow.domain false) (Rows.paceTogetherSpec.post enc Try.prog Try.f8 false true false false) := by
  refine returnsInHanded_of_change (C := Try.checked) own started (by kernel_rfl) Try.func8
    (ChangeSpec.witness6 (enc := enc) (C := Try.checked) false ⟨#[], #[.int .u16 0, .int .u16 0, .agg #[.int .u8 0, .int .u8 0, .int .u8 0]], []⟩ 8 (by kernel_rfl) (by kernel_rfl) (by kernel_rfl) (by kernel_rfl)) ?_
  intro W base args ds gs before hval0 hW hcnd _
  have hval : ∀ (j : Nat) t v, Try.f8.params[j]? = some t → args[j]? = some v → Value.okWide Try.prog W .any base t v := hval0
  have hW' := hW
  obtain ⟨p, q, hA0, hV, rfl, hfz, hnd⟩ := hW
  have hA : DataW.TrodAll enc Try.prog W 0 (fun _ => true) true Try.f8.params.toList args.toList ds p := hA0
  rw [Try.params8] at hA hval
  obtain ⟨v0, vs0, d0, ds0, p0, q0, hargs, rfl, rfl, h0, r0⟩ := trodAll_cons hA
  obtain ⟨v1, vs1, d1, ds1, p1, q1, rfl, rfl, rfl, h1, r1⟩ := trodAll_cons r0
  obtain ⟨v2, vs2, d2, ds2, p2, q2, rfl, rfl, rfl, h2, r2⟩ := trodAll_cons r1
  obtain ⟨rfl, rfl, rfl⟩ := trodAll_nil r2
  obtain rfl : args = #[v0, v1, v2] := by cases args; simp_all
  obtain ⟨rfl, rfl⟩ := trodVars_none hV
  have k0 := h0
  have lt0 : ∀ x ∈ p0, x.block < W.heap.size := by obtain ⟨m, hm⟩ := k0; exact DataW.trod_lt m _ _ _ hm
  have k1 := h1
  have lt1 : ∀ x ∈ p1, x.block < W.heap.size := by obtain ⟨m, hm⟩ := k1; exact DataW.trod_lt m _ _ _ hm
  have k2 := h2
  have lt2 : ∀ x ∈ p2, x.block < W.heap.size := by obtain ⟨m, hm⟩ := k2; exact DataW.trod_lt m _ _ _ hm
  obtain ⟨a0, rfl, rfl, rfl, w0⟩ := open_int Try.underlying39 (hval 0 39 v0 rfl rfl) h0
  obtain ⟨a1, rfl, rfl, rfl, w1⟩ := open_int Try.underlying39 (hval 1 39 v1 rfl rfl) h1
  obtain ⟨l0, l1, l2, rfl, x0, x1, x2⟩ := open_arr3 Try.underlying54 Try.underlying5 (by kernel_rfl) (by kernel_rfl) (hval 2 54 v2 rfl rfl) h2
  clear hA0 hval0
  refine (walk a0 a1 l0 l1 l2 (bd_u16 w0).1 (bd_u16 w0).2 (bd_u16 w1).1 (bd_u16 w1).2 (bd_u8 x0).1 (bd_u8 x0).2 (bd_u8 x1).1 (bd_u8 x1).2 (bd_u8 x2).1 (bd_u8 x2).2 W).mono fun e W' ⟨he, bel⟩ => ?_
  subst he
  exact ⟨_, rfl, _, _, _, [], _, [], hW', trodAll_mk1 (shut_bool Try.underlying4 _), (trodAll_cons_mk (Below.trod laidOut (by kernel_rfl) (of_decide_eq_true (by kernel_rfl)) k0 bel lt0) (trodAll_cons_mk (Below.trod laidOut (by kernel_rfl) (of_decide_eq_true (by kernel_rfl)) k1 bel lt1) (trodAll_cons_mk (Below.trod laidOut (by kernel_rfl) (of_decide_eq_true (by kernel_rfl)) k2 bel lt2) trodAll_mk0))), rfl, bel.frame _, fun h => by cases h⟩

theorem over : Rows.paceTogetherRow.holds Try.pinned (OpenSpec.ofChange Rows.paceTogetherSpec) :=
  OpenClaim.holds_of_wide 8 Try.f8 rfl rfl rfl rfl rfl rfl rfl ⟨rfl, rfl, rfl, rfl, rfl⟩ rfl rfl rfl rfl rfl (by kernel_rfl) Try.func8 (by kernel_rfl)
    (of_decide_eq_true (by kernel_rfl)) (by unfold Func.isWrapper; first | (rw [if_pos (by decide +kernel)]; kernel_rfl) | (rw [if_neg (by decide +kernel)]; exact ⟨rfl, rfl⟩))
    (fun os started H enc _ => lifted os started H enc)

theorem proved : Rows.PaceTogetherSaid := over
#print axioms proved
end paceTogether
end Go.Proofs.Ytncdmgngmgjmpaa
