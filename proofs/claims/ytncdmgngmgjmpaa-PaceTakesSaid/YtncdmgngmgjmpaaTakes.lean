/- PaceTakes: for every rate, burst and deeds: what any calls of any bucket answer, and what it has behind each, are the reference's: the law returns true, and its arguments read as before. -/
import Derived.Test.YtncdmgngmgjmpaaAwake
import Derived.Test.YtncdmgngmgjmpaaRows
import Derived.Test.YtncdmgngmgjmpaaOpen
namespace Go.Proofs.Ytncdmgngmgjmpaa
open Go.RowKit

namespace paceTakes

theorem Bk.setO {T : TypeId} {w : World} {b : Nat} {r u h : Int} (hb : Bk T w b r u h) {a : Addr} (ha : b ≠ a.block) (v : Value) : Bk T (w.setCell a v) b r u h := Blk.setOther (show Blk w b T _ from hb) ha v
theorem Bk.drew {T : TypeId} {w : World} {b : Nat} {r u h : Int} (hb : Bk T w b r u h) : Bk T w.drew b r u h := hb

theorem rnew_ok' (rate burst : Int) (w : World) (h1 : 1 ≤ rate) (h2 : rate ≤ 2147483647) (h3 : 1 ≤ burst) (h4 : burst ≤ 2147483647) :
    Calls Try.prog 24 #[.int .i64 rate, .int .i64 burst] w fun e w' => e = .returned (.tuple #[.pointer (some ⟨w.heap.size, 0, none⟩), .int .i64 0]) ∧ Bk 70 w' w.heap.size rate burst burst ∧ Fr (fun _ => False) w w' := by
  refine (rnew_ok rate burst w h1 h2 h3 h4).mono ?_
  rintro e w' ⟨rfl, rfl⟩
  exact ⟨rfl, Blk.new _ _ _, (Fr.refl _ _).alloc _⟩

set_option maxHeartbeats 8000000 in
set_option maxRecDepth 100000 in
/-- Buckets that may not be: nothing is told of them, whatever is called. -/
theorem walk_bad (rate burst : Int) (a : Option Addr) (n cap : Nat) (K N : Nat → Int) (hbad : rate < 1 ∨ 2147483647 < rate ∨ burst < 1 ∨ 2147483647 < burst) (w : World) (hp : Pairs w a n K N) (hbig : n ≤ 200) :
    Calls Try.prog 5 #[.int .i64 rate, .int .i64 burst, .slice a n cap] w fun e w' => e = .returned (.bool true) ∧ Below w.heap.size w w' := by
  have HBAD := Lib.hid hbad
  clear hbad
  go_enter Try.func5, Try.ntmps5
  go_wp2_with (fail)
  refine (new_bad rate burst _ HBAD.out).mono ?_
  rintro e w1 ⟨rfl, rfl⟩
  go_wp2_with (fail)
  refine (rnew_bad rate burst _ HBAD.out).mono ?_
  rintro e w1 ⟨rfl, rfl⟩
  go_wp2_with (fail)
  refine (has_nil _).mono ?_
  rintro e w1 ⟨rfl, rfl⟩
  go_wp2_with (fail)
  refine (rhas_nil _).mono ?_
  rintro e w1 ⟨rfl, rfl⟩
  go_wp2_with (fail)
  go_loopw [11] (fun x wr => ∃ (k : Nat), k ≤ n ∧ x = .int .i64 k ∧ Fr (fun i => w.heap.size ≤ i) w wr) (fun x _ => n - (intOf x).toNat)
  case atStart => exact ⟨0, by omega, rfl, Fr.refl _ _⟩
  case round =>
    obtain ⟨k, hk, rfl, hf⟩ := hrel
    by_cases hlt : k < n
    · obtain ⟨b, off, rfl, hbl, hc0, hc1, -, -, hN0, hN1⟩ := hp.2 k hlt
      have hd0 : wr.cell? ⟨b, off + k * 2, none⟩ = some (.int .i64 (K k)) := by
        rw [← hc0]; exact World.cell?_of_block (w := w) (hf.block b hbl (by omega))
      have hd1 : wr.cell? ⟨b, off + k * 2 + 1, none⟩ = some (.int .i64 (N k)) := by
        rw [← hc1]; exact World.cell?_of_block (w := w) (hf.block b hbl (by omega))
      obtain ⟨q, hq⟩ : ∃ q, q = N k := ⟨_, rfl⟩
      rw [← hq] at hd1 hN0 hN1
      obtain ⟨z, hz⟩ : ∃ z, z = K k := ⟨_, rfl⟩
      rw [← hz] at hd0
      have HP := Lib.hid hp
      clear hq hz hc0 hc1 hp
      by_cases kz : z = 0
      · have kz0 : (z == 0) = true := by simp [kz]
        clear kz
        go_wp2_with (fail)
        go_region_with (first
          | (go_at_call 27; refine (take_nil q _).mono ?_; rintro e w' ⟨rfl, rfl⟩)
          | (go_at_call 28; refine (rtake_nil q _).mono ?_; rintro e w' ⟨rfl, rfl⟩))
        all_goals go_wp2_with (fail)
        all_goals
          have hf := hf.drew
          refine (has_nil _).mono ?_
          rintro e w8 ⟨rfl, rfl⟩
          go_wp2_with (fail)
          refine (rhas_nil _).mono ?_
          rintro e w8 ⟨rfl, rfl⟩
          go_wp2
          go_roundw
          case rel => exact ⟨k + 1, by omega, by go_num, hf⟩
          case measure => simp [intOf]; omega
      · have kz0 : (z == 0) = false := by simp [kz]
        clear kz
        by_cases ko : z = 1
        · have kz1 : (z == 1) = true := by simp [ko]
          clear ko
          go_wp2_with (fail)
          refine (wait_nil q _).mono ?_
          rintro e w3 ⟨rfl, rfl⟩
          go_wp2_with (fail)
          refine (rwait_nil q _).mono ?_
          rintro e w3 ⟨rfl, rfl⟩
          go_wp2_with (fail)
          refine (has_nil _).mono ?_
          rintro e w8 ⟨rfl, rfl⟩
          go_wp2_with (fail)
          refine (rhas_nil _).mono ?_
          rintro e w8 ⟨rfl, rfl⟩
          go_wp2
          go_roundw
          case rel => exact ⟨k + 1, by omega, by go_num, hf⟩
          case measure => simp [intOf]; omega
        · have kz1 : (z == 1) = false := by simp [ko]
          clear ko
          go_wp2_with (fail)
          refine (pass_nil q _).mono ?_
          rintro e w3 ⟨rfl, rfl⟩
          go_wp2_with (fail)
          refine (rpass_nil q _).mono ?_
          rintro e w3 ⟨rfl, rfl⟩
          go_wp2_with (fail)
          refine (has_nil _).mono ?_
          rintro e w8 ⟨rfl, rfl⟩
          go_wp2_with (fail)
          refine (rhas_nil _).mono ?_
          rintro e w8 ⟨rfl, rfl⟩
          go_wp2
          go_roundw
          case rel => exact ⟨k + 1, by omega, by go_num, hf⟩
          case measure => simp [intOf]; omega
    · go_wp2_with (fail)
      refine (awake_any _).mono ?_
      rintro e w9 ⟨rfl, hbel⟩
      go_wp2
      go_ret
      exact ⟨rfl, (hf.below (Nat.le_refl _) (fun k hk => by omega)).trans (hbel.mono hf.size)⟩

set_option maxHeartbeats 8000000 in
set_option maxRecDepth 100000 in
theorem walk_good (rate burst : Int) (a : Option Addr) (n cap : Nat) (K N : Nat → Int) (r1 : 1 ≤ rate) (r2 : rate ≤ 2147483647) (u1 : 1 ≤ burst) (u2 : burst ≤ 2147483647) (w : World) (hp : Pairs w a n K N) (hbig : n ≤ 200) :
    Calls Try.prog 5 #[.int .i64 rate, .int .i64 burst, .slice a n cap] w fun e w' => e = .returned (.bool true) ∧ Below w.heap.size w w' := by
  go_enter Try.func5, Try.ntmps5
  go_wp2_with (fail)
  refine (new_ok' rate burst _ r1 r2 u1 u2).mono ?_
  rintro e w1 ⟨rfl, hb1, hf1⟩
  have F1 := hf1.mono (S := fun i => w.heap.size ≤ i) (fun _ _ h => h.elim)
  have hlt1 := hb1.lt
  clear hf1
  go_wp2_with (fail)
  refine (rnew_ok' rate burst _ r1 r2 u1 u2).mono ?_
  rintro e w2 ⟨rfl, hr2, hf2⟩
  have hb2 := hb1.fr hf2 (fun h => h)
  have F2 := F1.trans hf2 (fun _ _ h => h.elim)
  clear hf2 F1 hb1
  go_wp2_with (fail)
  refine (has_any w.heap.size _ _ _ _ hb2).mono ?_
  rintro e w4 ⟨rfl, rfl⟩
  go_wp2_with (fail)
  refine (rhas_any w1.heap.size _ _ _ _ hr2).mono ?_
  rintro e w4 ⟨rfl, rfl⟩
  go_wp2_with (fail)
  go_loopw [11] (fun x wr => ∃ (k : Nat) (h : Int), k ≤ n ∧ x = .int .i64 k ∧ Bk 68 wr w.heap.size rate burst h ∧ Bk 70 wr w1.heap.size rate burst h ∧ 0 ≤ h ∧ h ≤ burst ∧ Fr (fun i => w.heap.size ≤ i) w wr) (fun x _ => n - (intOf x).toNat)
  case atStart => exact ⟨0, burst, by omega, rfl, hb2, hr2, by omega, by omega, F2⟩
  case round =>
    clear hb2 hr2 F2
    obtain ⟨k, h, hk, rfl, hb, hr, h0, h1, hf⟩ := hrel
    by_cases hlt : k < n
    · obtain ⟨b, off, rfl, hbl, hc0, hc1, -, -, hN0, hN1⟩ := hp.2 k hlt
      have hd0 : wr.cell? ⟨b, off + k * 2, none⟩ = some (.int .i64 (K k)) := by
        rw [← hc0]; exact World.cell?_of_block (w := w) (hf.block b hbl (by omega))
      have hd1 : wr.cell? ⟨b, off + k * 2 + 1, none⟩ = some (.int .i64 (N k)) := by
        rw [← hc1]; exact World.cell?_of_block (w := w) (hf.block b hbl (by omega))
      obtain ⟨q, hq⟩ : ∃ q, q = N k := ⟨_, rfl⟩
      rw [← hq] at hd1 hN0 hN1
      obtain ⟨z, hz⟩ : ∃ z, z = K k := ⟨_, rfl⟩
      rw [← hz] at hd0
      have HP := Lib.hid hp
      have h2 : h ≤ 2147483647 := by omega
      have hne1 : b ≠ w.heap.size := by omega
      have hne2 : w1.heap.size ≠ w.heap.size := by omega
      have hne3 : b ≠ w1.heap.size := by omega
      clear hq hz hc0 hc1 hp
      by_cases kz : z = 0
      · have kz0 : (z == 0) = true := by simp [kz]
        clear kz
        go_wp2_with (fail)
        go_region_with (first
          | (go_at_call 27; refine (take_any w.heap.size rate burst h q _ (Bk.drew hb) h0 h2).mono ?_; rintro e w' ⟨rfl, rfl⟩)
          | (go_at_call 28; refine (rtake_any w1.heap.size rate burst h q _ (Bk.drew (Bk.setO hr hne2 _)) h0 h2).mono ?_; rintro e w' ⟨rfl, rfl⟩))
        all_goals go_wp2_with (fail)
        all_goals
          obtain ⟨t, ht⟩ : ∃ t, t = takeN q h := ⟨_, rfl⟩
          have tb : 0 ≤ t ∧ t ≤ h := by rw [ht]; unfold takeN; omega
          rw [← ht]
          have m0 : 0 ≤ h - t := by omega
          have m1 : h - t ≤ burst := by omega
          have hb5 : Bk 68 ((wr.setCell ⟨w.heap.size, 2, none⟩ (.int .i64 (h - t))).setCell ⟨w1.heap.size, 2, none⟩ (.int .i64 (h - t))).drew w.heap.size rate burst (h - t) :=
            Bk.drew (Bk.setO (show Bk 68 _ w.heap.size rate burst (h - t) from Blk.set (show Blk wr w.heap.size 68 _ from hb) 2 _) (fun e => hne2 e.symm) _)
          have hr5 : Bk 70 ((wr.setCell ⟨w.heap.size, 2, none⟩ (.int .i64 (h - t))).setCell ⟨w1.heap.size, 2, none⟩ (.int .i64 (h - t))).drew w1.heap.size rate burst (h - t) :=
            Bk.drew (show Bk 70 _ w1.heap.size rate burst (h - t) from Blk.set (show Blk _ w1.heap.size 70 _ from Bk.setO hr hne2 _) 2 _)
          have F5 : Fr (fun i => w.heap.size ≤ i) w ((wr.setCell ⟨w.heap.size, 2, none⟩ (.int .i64 (h - t))).setCell ⟨w1.heap.size, 2, none⟩ (.int .i64 (h - t))).drew :=
            ((hf.setCell (fun _ => Nat.le_refl _) _).setCell (fun _ => Nat.le_of_lt hlt1) _).drew
          generalize ((wr.setCell ⟨w.heap.size, 2, none⟩ (.int .i64 (h - t))).setCell ⟨w1.heap.size, 2, none⟩ (.int .i64 (h - t))).drew = w5 at *
          clear hb hr hf hd0 hd1 ht
          refine (has_any w.heap.size _ _ (h - t) _ hb5).mono ?_
          rintro e w8 ⟨rfl, rfl⟩
          go_wp2_with (fail)
          refine (rhas_any w1.heap.size _ _ (h - t) _ hr5).mono ?_
          rintro e w8 ⟨rfl, rfl⟩
          go_wp2
          go_roundw
          case rel => exact ⟨k + 1, (h - t), by omega, by go_num, hb5, hr5, m0, m1, F5⟩
          case measure => simp [intOf]; omega
      · have kz0 : (z == 0) = false := by simp [kz]
        clear kz
        by_cases ko : z = 1
        · have kz1 : (z == 1) = true := by simp [ko]
          clear ko
          have m0 := h0
          have m1 := h1
          go_wp2_with (fail)
          refine (wait_any w.heap.size rate burst h q _ hb r1 r2 u2 h0 h2).mono ?_
          rintro e w3 ⟨rfl, hb3, hf3⟩
          have hr3 := hr.fr hf3 (fun h => h)
          have F3 := hf.trans hf3 (fun _ _ h => h.elim)
          have hd3 : w3.cell? ⟨b, off + k * 2 + 1, none⟩ = some (.int .i64 q) := by
            rw [← hd1]; exact World.cell?_of_block (w := wr) (hf3.block b (by have := hf.size; omega) (fun h => h))
          clear hb hr hf hf3 hd0 hd1
          go_wp2_with (fail)
          refine (rwait_any w1.heap.size rate burst h q _ hr3 r1 r2 u2 h0 h2 hN0).mono ?_
          rintro e w4 ⟨rfl, rfl⟩
          have hb5 := hb3
          have hr5 := hr3
          have F5 := F3
          clear hb3 hr3 F3 hd3
          go_wp2_with (fail)
          refine (has_any w.heap.size _ _ h _ hb5).mono ?_
          rintro e w8 ⟨rfl, rfl⟩
          go_wp2_with (fail)
          refine (rhas_any w1.heap.size _ _ h _ hr5).mono ?_
          rintro e w8 ⟨rfl, rfl⟩
          go_wp2
          go_roundw
          case rel => exact ⟨k + 1, h, by omega, by go_num, hb5, hr5, m0, m1, F5⟩
          case measure => simp [intOf]; omega
        · have kz1 : (z == 1) = false := by simp [ko]
          clear ko
          go_wp2_with (fail)
          refine (pass_any w.heap.size rate burst h q _ hb r1 r2 u2 h0 h1).mono ?_
          rintro e w3 ⟨rfl, hb3, hf3⟩
          have hr3 := hr.fr hf3 (fun h => hne2 h)
          have F3 := hf.trans hf3 (fun i _ h => by omega)
          have hd3 : w3.cell? ⟨b, off + k * 2 + 1, none⟩ = some (.int .i64 q) := by
            rw [← hd1]; exact World.cell?_of_block (w := wr) (hf3.block b (by have := hf.size; omega) hne1)
          clear hb hr hf hf3 hd0 hd1
          go_wp2_with (fail)
          refine (rpass_any w1.heap.size rate burst h q _ hr3 r1 r2 u2 h0 h1).mono ?_
          rintro e w4 ⟨rfl, hr5, hf4⟩
          have hb5 := hb3.fr hf4 (fun h => hne2 h.symm)
          have F5 := F3.trans hf4 (fun i _ h => by omega)
          obtain ⟨m, hm⟩ : ∃ m, m = passN rate burst h q := ⟨_, rfl⟩
          have mb : 0 ≤ m ∧ m ≤ burst := by
            rw [hm]; unfold passN
            split
            · omega
            · have := Int.mul_nonneg (show 0 ≤ q by omega) (show 0 ≤ rate by omega)
              omega
          rw [← hm] at hb5 hr5
          have m0 := mb.1
          have m1 := mb.2
          clear hb3 hr3 F3 hf4 hd3 hm mb
          go_wp2_with (fail)
          refine (has_any w.heap.size _ _ m _ hb5).mono ?_
          rintro e w8 ⟨rfl, rfl⟩
          go_wp2_with (fail)
          refine (rhas_any w1.heap.size _ _ m _ hr5).mono ?_
          rintro e w8 ⟨rfl, rfl⟩
          go_wp2
          go_roundw
          case rel => exact ⟨k + 1, m, by omega, by go_num, hb5, hr5, m0, m1, F5⟩
          case measure => simp [intOf]; omega
    · go_wp2_with (fail)
      refine (awake_any _).mono ?_
      rintro e w9 ⟨rfl, hbel⟩
      go_wp2
      go_ret
      exact ⟨rfl, (hf.below (Nat.le_refl _) (fun k hk => by omega)).trans (hbel.mono hf.size)⟩

theorem walk (rate burst : Int) (a : Option Addr) (n cap : Nat) (K N : Nat → Int) (w : World) (hp : Pairs w a n K N) :
    Calls Try.prog 5 #[.int .i64 rate, .int .i64 burst, .slice a n cap] w fun e w' => e = .returned (.bool true) ∧ Below w.heap.size w w' := by
  by_cases hbig : 200 < n
  · have hn := hp.1
    go_enter Try.func5, Try.ntmps5
    go_wp2_with (fail)
    refine (awake_any _).mono ?_
    rintro e w4 ⟨rfl, hbel⟩
    go_wp2
    go_ret
    exact ⟨rfl, hbel⟩
  · by_cases hbad : rate < 1 ∨ 2147483647 < rate ∨ burst < 1 ∨ 2147483647 < burst
    · exact walk_bad rate burst a n cap K N hbad w hp (by omega)
    · exact walk_good rate burst a n cap K N (by omega) (by omega) (by omega) (by omega) w hp (by omega)

open Go.ChangeShapes Go.WideShapes Go.ChangeAt Go.RowKit
set_option linter.unusedVariables false
theorem own : ownKnob Try.prog.godebug = none := by kernel_rfl
theorem laidOut : laidOutB Try.prog = true := by kernel_rfl

set_option maxRecDepth 100000 in
theorem lifted (os : Os) (started : os.Started) (H : Type) (enc : TypeId × Value → H) :
    ReturnsInHanded {} Try.checked os 5 .any (Rows.paceTakesSpec.pre6 enc Try.prog Try.f5 Rows.paceTakesRow.domain false) (Rows.paceTakesSpec.post enc Try.prog Try.f5 false true false false) := by
  refine returnsInHanded_of_change (C := Try.checked) own started (by kernel_rfl) Try.func5
    (ChangeSpec.witness6 (enc := enc) (C := Try.checked) false ⟨#[], #[.int .i64 0, .int .i64 0, .slice none 0 0], []⟩ 8 (by kernel_rfl) (by kernel_rfl) (by kernel_rfl) (by kernel_rfl)) ?_
  intro W base args ds gs before hval0 hW hcnd _
  have hval : ∀ (j : Nat) t v, Try.f5.params[j]? = some t → args[j]? = some v → Value.okWide Try.prog W .any base t v := hval0
  have hW' := hW
  obtain ⟨p, q, hA0, hV, rfl, hfz, hnd⟩ := hW
  have hA : DataW.TrodAll enc Try.prog W 0 (fun _ => true) true Try.f5.params.toList args.toList ds p := hA0
  rw [Try.params5] at hA hval
  obtain ⟨v0, vs0, d0, ds0, p0, q0, hargs, rfl, rfl, h0, r0⟩ := trodAll_cons hA
  obtain ⟨v1, vs1, d1, ds1, p1, q1, rfl, rfl, rfl, h1, r1⟩ := trodAll_cons r0
  obtain ⟨v2, vs2, d2, ds2, p2, q2, rfl, rfl, rfl, h2, r2⟩ := trodAll_cons r1
  obtain ⟨rfl, rfl, rfl⟩ := trodAll_nil r2
  obtain rfl : args = #[v0, v1, v2] := by cases args; simp_all
  obtain ⟨rfl, rfl⟩ := trodVars_none hV
  have k0 := h0
  have lt0 : ∀ x ∈ p0, x.block < W.heap.size := by obtain ⟨m, hm⟩ := k0; exact DataW.trod_lt m _ _ _ hm
  have k1 := h1
  have lt1 : ∀ x ∈ p1, x.block < W.heap.size := by obtain ⟨m, hm⟩ := k1; exact DataW.trod_lt m _ _ _ hm
  have k2 := h2
  have lt2 : ∀ x ∈ p2, x.block < W.heap.size := by obtain ⟨m, hm⟩ := k2; exact DataW.trod_lt m _ _ _ hm
  obtain ⟨a0, rfl, rfl, rfl, w0⟩ := open_int Try.underlying3 (hval 0 3 v0 rfl rfl) h0
  obtain ⟨a1, rfl, rfl, rfl, w1⟩ := open_int Try.underlying3 (hval 1 3 v1 rfl rfl) h1
  obtain ⟨a2, n2, c2, K2, N2, rfl, x2⟩ := open_pairs Try.underlying22 Try.underlying32 (by kernel_rfl) rfl rfl (by kernel_rfl) (by kernel_rfl) Try.underlying3 Try.underlying3 (hval 2 22 v2 rfl rfl) h2
  clear hA0 hval0
  refine (walk a0 a1 a2 n2 c2 K2 N2 W x2).mono fun e W' ⟨he, bel⟩ => ?_
  subst he
  exact ⟨_, rfl, _, _, _, [], _, [], hW', trodAll_mk1 (shut_bool Try.underlying4 _), (trodAll_cons_mk (Below.trod laidOut (by kernel_rfl) (of_decide_eq_true (by kernel_rfl)) k0 bel lt0) (trodAll_cons_mk (Below.trod laidOut (by kernel_rfl) (of_decide_eq_true (by kernel_rfl)) k1 bel lt1) (trodAll_cons_mk (Below.trod laidOut (by kernel_rfl) (of_decide_eq_true (by kernel_rfl)) k2 bel lt2) trodAll_mk0))), rfl, bel.frame _, fun h => by cases h⟩

theorem over : Rows.paceTakesRow.holds Try.pinned (OpenSpec.ofChange Rows.paceTakesSpec) :=
  OpenClaim.holds_of_wide 5 Try.f5 rfl rfl rfl rfl rfl rfl rfl ⟨rfl, rfl, rfl, rfl, rfl⟩ rfl rfl rfl rfl rfl (by kernel_rfl) Try.func5 (by kernel_rfl)
    (of_decide_eq_true (by kernel_rfl)) (by unfold Func.isWrapper; first | (rw [if_pos (by decide +kernel)]; kernel_rfl) | (rw [if_neg (by decide +kernel)]; exact ⟨rfl, rfl⟩))
    (fun os started H enc _ => lifted os started H enc)

theorem proved : Rows.PaceTakesSaid := over
#print axioms proved
end paceTakes
end Go.Proofs.Ytncdmgngmgjmpaa
