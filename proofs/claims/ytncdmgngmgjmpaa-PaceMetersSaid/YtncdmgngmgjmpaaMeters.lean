/- PaceMeters: for every total and deeds: how far it is by any meter, how fast, and how long it still takes, behind any calls, is the reference's: the law returns true, and its arguments read as before. -/
import Derived.Test.YtncdmgngmgjmpaaAwake
import Derived.Test.YtncdmgngmgjmpaaRef2
import Derived.Test.YtncdmgngmgjmpaaRef3
import Derived.Test.YtncdmgngmgjmpaaNone
import Derived.Test.YtncdmgngmgjmpaaOpen
namespace Go.Proofs.Ytncdmgngmgjmpaa
open Go.RowKit

namespace paceMeters

/-- The program's meter and the reference's are in step. -/
structure Sim (s : MS) (L : List Int) : Prop where
  len : L.length ≤ 8
  p : s.passed = (L.length : Int)
  t : s.ts.take L.length = L.reverse
  b8 : s.ts.length = 8
  bd : ∀ x ∈ s.ts, 0 ≤ x ∧ x ≤ MaxN
  n0 : 0 ≤ s.now
  n1 : s.now ≤ MaxN

theorem Sim.mem {s : MS} {L : List Int} (h : Sim s L) : ∀ x ∈ L, 0 ≤ x ∧ x ≤ MaxN := by
  intro x hx
  have : x ∈ s.ts.take L.length := by rw [h.t]; exact List.mem_reverse.2 hx
  exact h.bd x (List.mem_of_mem_take this)

theorem sum_rev (L : List Int) : L.reverse.sum = L.sum := by
  induction L with
  | nil => rfl
  | cons a l ih => simp [List.sum_append, ih, Int.add_comm]

theorem Sim.rate {s : MS} {L : List Int} (h : Sim s L) : rateP s = rateL L := by
  unfold rateP rateL
  rw [h.p]
  by_cases hL : L = []
  · subst hL; rfl
  · have : 0 < L.length := List.length_pos_iff.2 hL
    rw [if_neg (by omega), if_neg hL, Int.toNat_natCast, h.t, sum_rev]

theorem Sim.rate_bd {s : MS} {L : List Int} (h : Sim s L) : 0 ≤ rateL L ∧ rateL L ≤ MaxN := by
  unfold rateL
  split
  · exact ⟨by omega, by unfold MaxN; omega⟩
  · next hL =>
    have hp : 0 < L.length := List.length_pos_iff.2 hL
    have hb := sum_bounds L MaxN h.mem
    exact ⟨Int.ediv_nonneg hb.1 (by omega), Int.ediv_le_of_le_mul (by omega) (by rw [Int.mul_comm]; exact hb.2)⟩

theorem Sim.step {s : MS} {L : List Int} (h : Sim s L) : Sim (mstep s) (rstep (s.now, L)).2 := by
  obtain ⟨len, p, t, b8, bd, n0, n1⟩ := h
  have hl8 : (L ++ [s.now]).length = L.length + 1 := by simp
  have htl : (mstep s).ts = s.now :: s.ts.take 7 := rfl
  have hbd : ∀ x ∈ (mstep s).ts, 0 ≤ x ∧ x ≤ MaxN := by
    intro x hx
    rw [htl, List.mem_cons] at hx
    rcases hx with rfl | hx
    · exact ⟨n0, n1⟩
    · exact bd x (List.mem_of_mem_take hx)
  have hps : (mstep s).passed = min (s.passed + 1) 8 := rfl
  have hb8 : (mstep s).ts.length = 8 := by rw [htl]; simp [b8]
  by_cases h7 : L.length < 8
  · have e : (rstep (s.now, L)).2 = L ++ [s.now] := by unfold rstep; dsimp only; rw [if_neg (by omega)]
    rw [e]
    refine ⟨by omega, by rw [hps, p, hl8]; omega, ?_, hb8, hbd, (by decide : (0 : Int) ≤ 0), (by decide : (0 : Int) ≤ MaxN)⟩
    rw [hl8, htl, List.take_succ_cons, List.take_take, Nat.min_eq_left (by omega), t]
    simp
  · have e : (rstep (s.now, L)).2 = (L ++ [s.now]).drop 1 := by unfold rstep; dsimp only; rw [if_pos (by omega)]
    have hl : L.length = 8 := by omega
    obtain ⟨a, l, rfl⟩ : ∃ a l, L = a :: l := by
      cases L with
      | nil => simp at hl
      | cons a l => exact ⟨a, l, rfl⟩
    have e2 : ((a :: l) ++ [s.now]).drop 1 = l ++ [s.now] := rfl
    rw [e, e2]
    simp only [List.length_cons] at hl t p
    have hl2 : (l ++ [s.now]).length = 8 := by simp; omega
    refine ⟨by omega, by rw [hps, p, hl2]; omega, ?_, hb8, hbd, (by decide : (0 : Int) ≤ 0), (by decide : (0 : Int) ≤ MaxN)⟩
    rw [hl2, htl, List.take_succ_cons, List.take_take]
    have h3 := congrArg (List.take 7) t
    rw [List.take_take, Nat.min_eq_left (by omega)] at h3
    rw [show min 7 7 = 7 from rfl, h3, List.reverse_cons, List.take_append_of_le_length (by simp; omega), List.take_of_length_le (by simp; omega)]
    simp

theorem sim_steps (n : Nat) {s : MS} {L : List Int} (h : Sim s L) : Sim (msteps n s) (rsteps n (s.now, L)).2 ∧ (rsteps n (s.now, L)).1 = (msteps n s).now := by
  induction n with
  | zero => exact ⟨h, rfl⟩
  | succ n ih =>
    obtain ⟨h1, h2⟩ := ih
    have hp : rsteps n (s.now, L) = ((msteps n s).now, (rsteps n (s.now, L)).2) := by rw [← h2]
    refine ⟨?_, rfl⟩
    rw [rsteps, hp]
    exact h1.step

theorem addN_addR (a n : Int) : addR a n = addN a n := rfl
theorem addN_bd {a n : Int} (h0 : 0 ≤ a) (h1 : a ≤ MaxN) : 0 ≤ addN a n ∧ addN a n ≤ MaxN := by
  unfold MaxN at *
  unfold addN
  split <;> omega

theorem radd_nil (n : Int) (w : World) : Calls Try.prog 14 #[.pointer none, .int .i64 n] w fun e w' => e = .returned (.tuple #[]) ∧ w = w' := by
  go_enter Try.func14, Try.ntmps14
  go_wp2
  go_end0
  exact ⟨rfl, rfl⟩
theorem rmpass_nil (n : Int) (w : World) : Calls Try.prog 16 #[.pointer none, .int .i64 n] w fun e w' => e = .returned (.tuple #[]) ∧ w = w' := by
  go_enter Try.func16, Try.ntmps16
  go_wp2
  refine bodyPost_ret (results_none (by rfl) _ _ _) rfl ?_
  exact ⟨rfl, rfl⟩
theorem rleft_nil (w : World) : Calls Try.prog 18 #[.pointer none] w fun e w' => e = .returned (.tuple #[.int .i64 0, .bool false]) ∧ w = w' := by
  go_enter Try.func18, Try.ntmps18
  go_wp2
  go_ret2
  exact ⟨rfl, rfl⟩
theorem rdone_nil (w : World) : Calls Try.prog 20 #[.pointer none] w fun e w' => e = .returned (.int .i64 0) ∧ w = w' := by
  go_enter Try.func20, Try.ntmps20
  go_wp2
  go_ret
  exact ⟨rfl, rfl⟩
theorem rrate_nil (w : World) : Calls Try.prog 22 #[.pointer none] w fun e w' => e = .returned (.int .i64 0) ∧ w = w' := by
  go_enter Try.func22, Try.ntmps22
  go_wp2
  go_ret
  exact ⟨rfl, rfl⟩

set_option maxHeartbeats 8000000 in
set_option maxRecDepth 100000 in
/-- Meters that may not be: nothing is told of them, whatever is called. -/
theorem walk_bad (total : Int) (a : Option Addr) (n cap : Nat) (K N : Nat → Int) (hbad : total < 0 ∨ 4611686018427387903 < total) (w : World) (hp : Pairs w a n K N) (hbig : n ≤ 200) :
    Calls Try.prog 3 #[.int .i64 total, .slice a n cap] w fun e w' => e = .returned (.bool true) ∧ Below w.heap.size w w' := by
  have HBAD := Lib.hid hbad
  clear hbad
  go_enter Try.func3, Try.ntmps3
  go_wp2_with (fail)
  refine (mstart_bad total _ HBAD.out).mono ?_
  rintro e w1 ⟨rfl, rfl⟩
  go_wp2_with (fail)
  refine (rstart_bad total _ HBAD.out).mono ?_
  rintro e w1 ⟨rfl, rfl⟩
  go_wp2_with (fail)
  go_loopw [9] (fun x wr => ∃ (k : Nat), k ≤ n ∧ x = .int .i64 k ∧ Fr (fun i => w.heap.size ≤ i) w wr) (fun x _ => n - (intOf x).toNat)
  case atStart => exact ⟨0, by omega, rfl, Fr.refl _ _⟩
  case round =>
    obtain ⟨k, hk, rfl, hf⟩ := hrel
    by_cases hlt : k < n
    · obtain ⟨b, off, rfl, hbl, hc0, hc1, -, -, hN0, hN1⟩ := hp.2 k hlt
      have hd0 : wr.cell? ⟨b, off + k * 2, none⟩ = some (.int .i64 (K k)) := by
        rw [← hc0]; exact World.cell?_of_block (w := w) (hf.block b hbl (by omega))
      have hd1 : wr.cell? ⟨b, off + k * 2 + 1, none⟩ = some (.int .i64 (N k)) := by
        rw [← hc1]; exact World.cell?_of_block (w := w) (hf.block b hbl (by omega))
      obtain ⟨q, hq⟩ : ∃ q, q = N k := ⟨_, rfl⟩
      rw [← hq] at hd1 hN0 hN1
      obtain ⟨z, hz⟩ : ∃ z, z = K k := ⟨_, rfl⟩
      rw [← hz] at hd0
      have HP := Lib.hid hp
      clear hq hz hc0 hc1 hp
      by_cases kz : z = 0
      · have kz0 : (z == 0) = true := by simp [kz]
        clear kz
        go_wp2_with (fail)
        refine (madd_nil q _).mono ?_
        rintro e w3 ⟨rfl, rfl⟩
        go_wp2_with (fail)
        refine (radd_nil q _).mono ?_
        rintro e w3 ⟨rfl, rfl⟩
        go_wp2_with (fail)
        refine (mleft_nil _).mono ?_
        rintro e w3 ⟨rfl, rfl⟩
        go_wp2_with (fail)
        refine (rleft_nil _).mono ?_
        rintro e w3 ⟨rfl, rfl⟩
        go_wp2_with (fail)
        refine (mdone_nil _).mono ?_
        rintro e w3 ⟨rfl, rfl⟩
        go_wp2_with (fail)
        refine (rdone_nil _).mono ?_
        rintro e w3 ⟨rfl, rfl⟩
        go_wp2_with (fail)
        refine (mrate_nil _).mono ?_
        rintro e w3 ⟨rfl, rfl⟩
        go_wp2_with (fail)
        refine (rrate_nil _).mono ?_
        rintro e w3 ⟨rfl, rfl⟩
        go_wp2
        go_roundw
        case rel => exact ⟨k + 1, by omega, by go_num, hf⟩
        case measure => simp [intOf]; omega
      · have kz0 : (z == 0) = false := by simp [kz]
        clear kz
        go_wp2_with (fail)
        refine (mpass_nil q _).mono ?_
        rintro e w3 ⟨rfl, rfl⟩
        go_wp2_with (fail)
        refine (rmpass_nil q _).mono ?_
        rintro e w3 ⟨rfl, rfl⟩
        go_wp2_with (fail)
        refine (mleft_nil _).mono ?_
        rintro e w3 ⟨rfl, rfl⟩
        go_wp2_with (fail)
        refine (rleft_nil _).mono ?_
        rintro e w3 ⟨rfl, rfl⟩
        go_wp2_with (fail)
        refine (mdone_nil _).mono ?_
        rintro e w3 ⟨rfl, rfl⟩
        go_wp2_with (fail)
        refine (rdone_nil _).mono ?_
        rintro e w3 ⟨rfl, rfl⟩
        go_wp2_with (fail)
        refine (mrate_nil _).mono ?_
        rintro e w3 ⟨rfl, rfl⟩
        go_wp2_with (fail)
        refine (rrate_nil _).mono ?_
        rintro e w3 ⟨rfl, rfl⟩
        go_wp2
        go_roundw
        case rel => exact ⟨k + 1, by omega, by go_num, hf⟩
        case measure => simp [intOf]; omega
    · go_wp2_with (fail)
      refine (awake_any _).mono ?_
      rintro e w9 ⟨rfl, hbel⟩
      go_wp2
      go_ret
      exact ⟨rfl, (hf.below (Nat.le_refl _) (fun k hk => by omega)).trans (hbel.mono hf.size)⟩

set_option maxHeartbeats 8000000 in
set_option maxRecDepth 100000 in
theorem walk_good (total : Int) (a : Option Addr) (n cap : Nat) (K N : Nat → Int) (t0 : 0 ≤ total) (t1 : total ≤ 4611686018427387903) (w : World) (hp : Pairs w a n K N) (hbig : n ≤ 200) :
    Calls Try.prog 3 #[.int .i64 total, .slice a n cap] w fun e w' => e = .returned (.bool true) ∧ Below w.heap.size w w' := by
  have t1' : total ≤ MaxN := t1
  go_enter Try.func3, Try.ntmps3
  go_wp2_with (fail)
  refine (mstart_ok total _ t0 t1).mono ?_
  rintro e w1 ⟨rfl, hm1, hf1⟩
  have F1 := hf1.mono (S := fun i => w.heap.size ≤ i) (fun _ _ h => h.elim)
  have hlt1 := hm1.lt
  clear hf1
  go_wp2_with (fail)
  refine (rstart_ok total _ t0 t1 (w1.heap.size + 1)).mono ?_
  rintro e w2 ⟨rfl, hr2, hf2⟩
  have hm2 := hm1.fr hf2 (fun h => h)
  have F2 := F1.trans hf2 (fun _ _ h => h.elim)
  have hw2 := hr2.lt
  have hsim0 : Sim ⟨0, [0, 0, 0, 0, 0, 0, 0, 0], 0⟩ [] := ⟨by decide, rfl, rfl, rfl, by intro x hx; simp at hx; unfold MaxN; omega, by decide, by decide⟩
  have HS0 := Lib.hid hsim0
  clear hf2 F1 hm1 hsim0
  go_wp2_with (fail)
  go_loopw [9] (fun x wr => ∃ (k : Nat) (d : Int) (s : MS) (L : List Int), k ≤ n ∧ x = .int .i64 k ∧ Mt wr w.heap.size total d s ∧ RMt wr w1.heap.size (w1.heap.size + 1) total d s.now L ∧ Sim s L ∧ 0 ≤ d ∧ d ≤ MaxN ∧ Fr (fun i => w.heap.size ≤ i) w wr) (fun x _ => n - (intOf x).toNat)
  case atStart => exact ⟨0, 0, _, [], by omega, rfl, hm2, hr2, HS0.out, by omega, by decide, F2⟩
  case round =>
    clear hm2 hr2 F2 hw2
    obtain ⟨k, d, s, L, hk, rfl, hm, hr, hsim, d0, d1, hf⟩ := hrel
    by_cases hlt : k < n
    · obtain ⟨b, off, rfl, hbl, hc0, hc1, -, -, hN0, hN1⟩ := hp.2 k hlt
      have hd0 : wr.cell? ⟨b, off + k * 2, none⟩ = some (.int .i64 (K k)) := by
        rw [← hc0]; exact World.cell?_of_block (w := w) (hf.block b hbl (by omega))
      have hd1 : wr.cell? ⟨b, off + k * 2 + 1, none⟩ = some (.int .i64 (N k)) := by
        rw [← hc1]; exact World.cell?_of_block (w := w) (hf.block b hbl (by omega))
      obtain ⟨q, hq⟩ : ∃ q, q = N k := ⟨_, rfl⟩
      rw [← hq] at hd1 hN0 hN1
      obtain ⟨z, hz⟩ : ∃ z, z = K k := ⟨_, rfl⟩
      rw [← hz] at hd0
      have HP := Lib.hid hp
      clear hq hz hc0 hc1 hp
      have n0 := hsim.n0
      have n1 := hsim.n1
      have hrl := hr.lt
      by_cases kz : z = 0
      · have kz0 : (z == 0) = true := by simp [kz]
        clear kz
        have HSI := Lib.hid hsim
        clear hsim
        go_wp2_with (fail)
        refine (madd_any w.heap.size total d q s _ hm d0 d1 n0 n1).mono ?_
        rintro e w3 ⟨rfl, hm3, hf3⟩
        have hr3 := hr.fr hf3 (fun h => by omega) (fun g h1 h2 => by omega)
        have F3 := hf.trans hf3 (fun i _ h => by omega)
        have hd3 : w3.cell? ⟨b, off + k * 2 + 1, none⟩ = some (.int .i64 q) := by
          rw [← hd1]; exact World.cell?_of_block (w := wr) (hf3.block b (by have := hf.size; omega) (by omega))
        clear hm hr hf hf3 hd0 hd1
        go_wp2_with (fail)
        refine (radd_any w1.heap.size (w1.heap.size + 1) total d s.now q L _ hr3 (by omega) d0 d1 n0 n1).mono ?_
        rintro e w4 ⟨rfl, hr4, hf4⟩
        have hm5 := hm3.fr hf4 (fun h => by omega)
        have F5 := F3.trans hf4 (fun i _ h => by omega)
        rw [addN_addR, addN_addR] at hr4
        obtain ⟨s5, hs5⟩ : ∃ s5 : MS, s5 = ⟨addN s.now q, s.ts, s.passed⟩ := ⟨_, rfl⟩
        obtain ⟨d5, hd5⟩ : ∃ d5, d5 = addN d q := ⟨_, rfl⟩
        obtain ⟨L5, hL5⟩ : ∃ L5, L5 = L := ⟨_, rfl⟩
        have hr5 : RMt w4 w1.heap.size (w1.heap.size + 1) total d5 s5.now L5 := by rw [hd5, hs5, hL5]; exact hr4
        rw [← hd5, ← hs5] at hm5
        have dd := addN_bd (n := q) d0 d1
        have nn := addN_bd (n := q) n0 n1
        rw [← hd5] at dd
        have dd0 := dd.1
        have dd1 := dd.2
        have hsim5 : Sim s5 L5 := by
          rw [hs5, hL5]
          exact ⟨HSI.out.len, HSI.out.p, HSI.out.t, HSI.out.b8, HSI.out.bd, nn.1, nn.2⟩
        clear hm3 hr3 F3 hd3 hf4 hr4 hs5 hd5 hL5 dd nn n0 n1 d0 d1 hrl HSI
        have hrt := hsim5.rate
        have hrb := hsim5.rate_bd
        have HSIM := Lib.hid hsim5
        have hM8 := hsim5.len
        have HT := Lib.hid hrt
        have g0 : 0 ≤ d5 ∧ d5 ≤ MaxN := ⟨dd0, dd1⟩
        clear hrt hsim5
        go_wp2_with (fail)
        refine (mleft_any w.heap.size total d5 s5 _ hm5 HSIM.out.bd t0 t1' dd0 dd1 (by rw [HT.out]; exact hrb.1) (by rw [HT.out]; exact hrb.2)).mono ?_
        rintro e w6 ⟨rfl, hdr6⟩
        rw [HT.out]
        have hm6 := hm5.fr (hdr6.fr (fun _ => False)) (fun h => h)
        have hr6 := hr5.fr (hdr6.fr (fun _ => False)) (fun h => h) (fun _ _ h => h)
        have F6 := F5.trans (hdr6.fr (fun _ => False)) (fun _ _ h => h.elim)
        clear hm5 hr5 F5 hdr6
        go_wp2_with (fail)
        refine (rleft_any w1.heap.size (w1.heap.size + 1) total d5 s5.now L5 _ hr6 hM8 HSIM.out.mem t0 t1' dd0 dd1 hrb.1 hrb.2).mono ?_
        rintro e w7 ⟨rfl, hdr7⟩
        have hm7 := hm6.fr (hdr7.fr (fun _ => False)) (fun h => h)
        have hr7 := hr6.fr (hdr7.fr (fun _ => False)) (fun h => h) (fun _ _ h => h)
        have F7 := F6.trans (hdr7.fr (fun _ => False)) (fun _ _ h => h.elim)
        clear hm6 hr6 F6 hdr7
        go_wp2_with (fail)
        refine (mdone_any w.heap.size total d5 s5 _ hm7).mono ?_
        rintro e w8 ⟨rfl, rfl⟩
        go_wp2_with (fail)
        refine (rdone_any w1.heap.size (w1.heap.size + 1) total d5 s5.now L5 _ hr7).mono ?_
        rintro e w8 ⟨rfl, rfl⟩
        go_wp2_with (fail)
        refine (mrate_any w.heap.size total d5 s5 _ hm7 HSIM.out.bd).mono ?_
        rintro e w8 ⟨rfl, hdr8⟩
        rw [HT.out]
        have hm8 := hm7.fr (hdr8.fr (fun _ => False)) (fun h => h)
        have hr8 := hr7.fr (hdr8.fr (fun _ => False)) (fun h => h) (fun _ _ h => h)
        have F8 := F7.trans (hdr8.fr (fun _ => False)) (fun _ _ h => h.elim)
        clear hm7 hr7 F7 hdr8
        go_wp2_with (fail)
        refine (rrate_any w1.heap.size (w1.heap.size + 1) total d5 s5.now L5 _ hr8 hM8 HSIM.out.mem).mono ?_
        rintro e w9 ⟨rfl, rfl⟩
        have HG := Lib.hid g0
        clear hrb hM8 g0
        go_wp2
        go_roundw
        case rel => exact ⟨k + 1, d5, s5, L5, by omega, by go_num, hm8, hr8, HSIM.out, HG.out.1, HG.out.2, F8⟩
        case measure => simp [intOf]; omega
      · have kz0 : (z == 0) = false := by simp [kz]
        clear kz
        have HSI := Lib.hid hsim
        clear hsim
        go_wp2_with (fail)
        refine (mpass_any w.heap.size total d q s _ hm).mono ?_
        rintro e w3 ⟨rfl, hm3, hf3⟩
        have hr3 := hr.fr hf3 (fun h => by omega) (fun g h1 h2 => by omega)
        have F3 := hf.trans hf3 (fun i _ h => by omega)
        have hd3 : w3.cell? ⟨b, off + k * 2 + 1, none⟩ = some (.int .i64 q) := by
          rw [← hd1]; exact World.cell?_of_block (w := wr) (hf3.block b (by have := hf.size; omega) (by omega))
        have hrl3 := hr3.lt
        clear hm hr hf hf3 hd0 hd1
        go_wp2_with (fail)
        refine (rpass_m w1.heap.size (w1.heap.size + 1) total d s.now q L _ hr3 HSI.out.len (by omega) (by omega)).mono ?_
        rintro e w4 ⟨rfl, hr4, hf4⟩
        have hm5 := hm3.fr hf4 (fun h => by omega)
        have F5 := F3.trans hf4 (fun i _ h => by omega)
        have hss := sim_steps (min q 9).toNat HSI.out
        rw [hss.2] at hr4
        obtain ⟨s5, hs5⟩ : ∃ s5 : MS, s5 = msteps (min q 9).toNat s := ⟨_, rfl⟩
        obtain ⟨d5, hd5⟩ : ∃ d5, d5 = d := ⟨_, rfl⟩
        obtain ⟨L5, hL5⟩ : ∃ L5, L5 = (rsteps (min q 9).toNat (s.now, L)).2 := ⟨_, rfl⟩
        have hr5 : RMt w4 w1.heap.size (w1.heap.size + 1) total d5 s5.now L5 := by rw [hd5, hs5, hL5]; exact hr4
        rw [← hd5, ← hs5] at hm5
        have dd0 : 0 ≤ d5 := by rw [hd5]; exact d0
        have dd1 : d5 ≤ MaxN := by rw [hd5]; exact d1
        have hsim5 : Sim s5 L5 := by
          rw [hs5, hL5]
          exact hss.1
        clear hm3 hr3 F3 hd3 hf4 hr4 hs5 hd5 hL5 n0 n1 d0 d1 hrl HSI hss hrl3
        have hrt := hsim5.rate
        have hrb := hsim5.rate_bd
        have HSIM := Lib.hid hsim5
        have hM8 := hsim5.len
        have HT := Lib.hid hrt
        have g0 : 0 ≤ d5 ∧ d5 ≤ MaxN := ⟨dd0, dd1⟩
        clear hrt hsim5
        go_wp2_with (fail)
        refine (mleft_any w.heap.size total d5 s5 _ hm5 HSIM.out.bd t0 t1' dd0 dd1 (by rw [HT.out]; exact hrb.1) (by rw [HT.out]; exact hrb.2)).mono ?_
        rintro e w6 ⟨rfl, hdr6⟩
        rw [HT.out]
        have hm6 := hm5.fr (hdr6.fr (fun _ => False)) (fun h => h)
        have hr6 := hr5.fr (hdr6.fr (fun _ => False)) (fun h => h) (fun _ _ h => h)
        have F6 := F5.trans (hdr6.fr (fun _ => False)) (fun _ _ h => h.elim)
        clear hm5 hr5 F5 hdr6
        go_wp2_with (fail)
        refine (rleft_any w1.heap.size (w1.heap.size + 1) total d5 s5.now L5 _ hr6 hM8 HSIM.out.mem t0 t1' dd0 dd1 hrb.1 hrb.2).mono ?_
        rintro e w7 ⟨rfl, hdr7⟩
        have hm7 := hm6.fr (hdr7.fr (fun _ => False)) (fun h => h)
        have hr7 := hr6.fr (hdr7.fr (fun _ => False)) (fun h => h) (fun _ _ h => h)
        have F7 := F6.trans (hdr7.fr (fun _ => False)) (fun _ _ h => h.elim)
        clear hm6 hr6 F6 hdr7
        go_wp2_with (fail)
        refine (mdone_any w.heap.size total d5 s5 _ hm7).mono ?_
        rintro e w8 ⟨rfl, rfl⟩
        go_wp2_with (fail)
        refine (rdone_any w1.heap.size (w1.heap.size + 1) total d5 s5.now L5 _ hr7).mono ?_
        rintro e w8 ⟨rfl, rfl⟩
        go_wp2_with (fail)
        refine (mrate_any w.heap.size total d5 s5 _ hm7 HSIM.out.bd).mono ?_
        rintro e w8 ⟨rfl, hdr8⟩
        rw [HT.out]
        have hm8 := hm7.fr (hdr8.fr (fun _ => False)) (fun h => h)
        have hr8 := hr7.fr (hdr8.fr (fun _ => False)) (fun h => h) (fun _ _ h => h)
        have F8 := F7.trans (hdr8.fr (fun _ => False)) (fun _ _ h => h.elim)
        clear hm7 hr7 F7 hdr8
        go_wp2_with (fail)
        refine (rrate_any w1.heap.size (w1.heap.size + 1) total d5 s5.now L5 _ hr8 hM8 HSIM.out.mem).mono ?_
        rintro e w9 ⟨rfl, rfl⟩
        have HG := Lib.hid g0
        clear hrb hM8 g0
        go_wp2
        go_roundw
        case rel => exact ⟨k + 1, d5, s5, L5, by omega, by go_num, hm8, hr8, HSIM.out, HG.out.1, HG.out.2, F8⟩
        case measure => simp [intOf]; omega
    · clear hm hr hsim
      go_wp2_with (fail)
      refine (awake_any _).mono ?_
      rintro e w9 ⟨rfl, hbel⟩
      go_wp2
      go_ret
      exact ⟨rfl, (hf.below (Nat.le_refl _) (fun k hk => by omega)).trans (hbel.mono hf.size)⟩

theorem walk (total : Int) (a : Option Addr) (n cap : Nat) (K N : Nat → Int) (w : World) (hp : Pairs w a n K N) :
    Calls Try.prog 3 #[.int .i64 total, .slice a n cap] w fun e w' => e = .returned (.bool true) ∧ Below w.heap.size w w' := by
  by_cases hbig : 200 < n
  · have hn := hp.1
    go_enter Try.func3, Try.ntmps3
    go_wp2_with (fail)
    refine (awake_any _).mono ?_
    rintro e w4 ⟨rfl, hbel⟩
    go_wp2
    go_ret
    exact ⟨rfl, hbel⟩
  · by_cases hbad : total < 0 ∨ 4611686018427387903 < total
    · exact walk_bad total a n cap K N hbad w hp (by omega)
    · exact walk_good total a n cap K N (by omega) (by omega) w hp (by omega)

open Go.ChangeShapes Go.WideShapes Go.ChangeAt Go.RowKit
set_option linter.unusedVariables false
theorem own : ownKnob Try.prog.godebug = none := by kernel_rfl
theorem laidOut : laidOutB Try.prog = true := by kernel_rfl

set_option maxRecDepth 100000 in
theorem lifted (os : Os) (started : os.Started) (H : Type) (enc : TypeId × Value → H) :
    ReturnsInHanded {} Try.checked os 3 .any (Rows.paceMetersSpec.pre6 enc Try.prog Try.f3 Rows.paceMetersRow.domain false) (Rows.paceMetersSpec.post enc Try.prog Try.f3 false true false false) := by
  refine returnsInHanded_of_change (C := Try.checked) own started (by kernel_rfl) Try.func3
    (ChangeSpec.witness6 (enc := enc) (C := Try.checked) false ⟨#[], #[.int .i64 0, .slice none 0 0], []⟩ 8 (by kernel_rfl) (by kernel_rfl) (by kernel_rfl) (by kernel_rfl)) ?_
  intro W base args ds gs before hval0 hW hcnd _
  have hval : ∀ (j : Nat) t v, Try.f3.params[j]? = some t → args[j]? = some v → Value.okWide Try.prog W .any base t v := hval0
  have hW' := hW
  obtain ⟨p, q, hA0, hV, rfl, hfz, hnd⟩ := hW
  have hA : DataW.TrodAll enc Try.prog W 0 (fun _ => true) true Try.f3.params.toList args.toList ds p := hA0
  rw [Try.params3] at hA hval
  obtain ⟨v0, vs0, d0, ds0, p0, q0, hargs, rfl, rfl, h0, r0⟩ := trodAll_cons hA
  obtain ⟨v1, vs1, d1, ds1, p1, q1, rfl, rfl, rfl, h1, r1⟩ := trodAll_cons r0
  obtain ⟨rfl, rfl, rfl⟩ := trodAll_nil r1
  obtain rfl : args = #[v0, v1] := by cases args; simp_all
  obtain ⟨rfl, rfl⟩ := trodVars_none hV
  have k0 := h0
  have lt0 : ∀ x ∈ p0, x.block < W.heap.size := by obtain ⟨m, hm⟩ := k0; exact DataW.trod_lt m _ _ _ hm
  have k1 := h1
  have lt1 : ∀ x ∈ p1, x.block < W.heap.size := by obtain ⟨m, hm⟩ := k1; exact DataW.trod_lt m _ _ _ hm
  obtain ⟨a0, rfl, rfl, rfl, w0⟩ := open_int Try.underlying3 (hval 0 3 v0 rfl rfl) h0
  obtain ⟨a1, n1, c1, K1, N1, rfl, x1⟩ := open_pairs Try.underlying22 Try.underlying32 (by kernel_rfl) rfl rfl (by kernel_rfl) (by kernel_rfl) Try.underlying3 Try.underlying3 (hval 1 22 v1 rfl rfl) h1
  clear hA0 hval0
  refine (walk a0 a1 n1 c1 K1 N1 W x1).mono fun e W' ⟨he, bel⟩ => ?_
  subst he
  exact ⟨_, rfl, _, _, _, [], _, [], hW', trodAll_mk1 (shut_bool Try.underlying4 _), (trodAll_cons_mk (Below.trod laidOut (by kernel_rfl) (of_decide_eq_true (by kernel_rfl)) k0 bel lt0) (trodAll_cons_mk (Below.trod laidOut (by kernel_rfl) (of_decide_eq_true (by kernel_rfl)) k1 bel lt1) trodAll_mk0)), rfl, bel.frame _, fun h => by cases h⟩

theorem over : Rows.paceMetersRow.holds Try.pinned (OpenSpec.ofChange Rows.paceMetersSpec) :=
  OpenClaim.holds_of_wide 3 Try.f3 rfl rfl rfl rfl rfl rfl rfl ⟨rfl, rfl, rfl, rfl, rfl⟩ rfl rfl rfl rfl rfl (by kernel_rfl) Try.func3 (by kernel_rfl)
    (of_decide_eq_true (by kernel_rfl)) (by unfold Func.isWrapper; first | (rw [if_pos (by decide +kernel)]; kernel_rfl) | (rw [if_neg (by decide +kernel)]; exact ⟨rfl, rfl⟩))
    (fun os started H enc _ => lifted os started H enc)

theorem proved : Rows.PaceMetersSaid := over
#print axioms proved
end paceMeters
end Go.Proofs.Ytncdmgngmgjmpaa
