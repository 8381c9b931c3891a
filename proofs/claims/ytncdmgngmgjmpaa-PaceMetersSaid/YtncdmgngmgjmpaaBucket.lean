/- The walks of the buckets' methods: the program's and the reference's. -/
import Derived.Test.YtncdmgngmgjmpaaProg
import Derived.Test.YtncdmgngmgjmpaaFr
import Derived.KernelRfl
import Derived.Deep.QuietTactic
import Derived.BigQuiet
import Derived.Lib.Hide
namespace Go.Proofs.Ytncdmgngmgjmpaa
open Go.RowKit

/-- A bucket at block b. -/
def Bk (T : TypeId) (w : World) (b : Nat) (rate burst has : Int) : Prop := Blk w b T #[.int .i64 rate, .int .i64 burst, .int .i64 has]

theorem new_ok (rate burst : Int) (w : World) (h1 : 1 ≤ rate) (h2 : rate ≤ 2147483647) (h3 : 1 ≤ burst) (h4 : burst ≤ 2147483647) :
    Calls Try.prog 23 #[.int .i64 rate, .int .i64 burst] w fun e w' => e = .returned (.tuple #[.pointer (some ⟨w.heap.size, 0, none⟩), .int .i64 0]) ∧ w.alloc (.cells #[.int .i64 rate, .int .i64 burst, .int .i64 burst] 68) = w' := by
  go_enter Try.func23, Try.ntmps23
  go_wp2
  go_ret2
  exact ⟨rfl, rfl⟩

theorem new_bad (rate burst : Int) (w : World) (h : rate < 1 ∨ 2147483647 < rate ∨ burst < 1 ∨ 2147483647 < burst) :
    Calls Try.prog 23 #[.int .i64 rate, .int .i64 burst] w fun e w' => e = .returned (.tuple #[.pointer none, .int .i64 2]) ∧ w = w' := by
  go_enter Try.func23, Try.ntmps23
  go_wp2
  all_goals first | omega | (go_ret2; exact ⟨rfl, rfl⟩)

def takeN (n has : Int) : Int := min (max n 0) has

theorem take_any (b : Nat) (rate burst has n : Int) (w : World) (hb : Bk 68 w b rate burst has) (h0 : 0 ≤ has) (h1 : has ≤ 2147483647) :
    Calls Try.prog 27 #[.pointer (some ⟨b, 0, none⟩), .int .i64 n] w fun e w' => e = .returned (.int .i64 (takeN n has)) ∧ w.setCell ⟨b, 2, none⟩ (.int .i64 (has - takeN n has)) = w' := by
  have c2 := hb.cell 2 rfl
  have f2 := hb.free 2
  go_enter Try.func27, Try.ntmps27
  go_wp2
  all_goals (go_ret; exact ⟨ret_i (by unfold takeN; omega), set_i (by unfold takeN; omega)⟩)

/-- How many ticks until there are n: by n above what there is. -/
def ticksN (rate has n : Int) : Int := (max (n - has) 0 + rate - 1) / rate

theorem ticks_any (b : Nat) (rate burst has n : Int) (w : World) (hb : Bk 68 w b rate burst has) (r1 : 1 ≤ rate) (r2 : rate ≤ 2147483647) (h0 : 0 ≤ has) (h1 : has ≤ 2147483647) (n0 : 0 ≤ n) (n1 : n ≤ 2147483647) :
    Calls Try.prog 37 #[.pointer (some ⟨b, 0, none⟩), .int .i64 n] w fun e w' => e = .returned (.int .i64 (ticksN rate has n)) ∧ Bk 68 w' b rate burst has ∧ Fr (fun _ => False) w w' := by
  have c0 := hb.cell 0 (v := .int .i64 rate) rfl
  have c2 := hb.cell 2 (v := .int .i64 has) rfl
  go_enter Try.func37, Try.ntmps37
  go_wp2
  go_quiet (fail)
  go_wp2
  all_goals (go_ret; refine ⟨ret_i ?_, hb.drewN _, (Fr.refl _ _).drewN _⟩; unfold ticksN)
  · rw [show max (n - has) 0 = 0 by omega, Int.zero_add]
  · rw [show max (n - has) 0 = n - has by omega]

def waitN (rate burst has n : Int) : Int := if n > burst then 0 else if n ≤ has then 0 else ticksN rate has n
def waitE (burst n : Int) : Int := if n > burst then 7 else 0

theorem wait_any (b : Nat) (rate burst has n : Int) (w : World) (hb : Bk 68 w b rate burst has) (r1 : 1 ≤ rate) (r2 : rate ≤ 2147483647) (u2 : burst ≤ 2147483647) (h0 : 0 ≤ has) (h1 : has ≤ 2147483647) :
    Calls Try.prog 29 #[.pointer (some ⟨b, 0, none⟩), .int .i64 n] w fun e w' => e = .returned (.tuple #[.int .i64 (waitN rate burst has n), .int .i64 (waitE burst n)]) ∧ Bk 68 w' b rate burst has ∧ Fr (fun _ => False) w w' := by
  have c1 := hb.cell 1 (v := .int .i64 burst) rfl
  have c2 := hb.cell 2 (v := .int .i64 has) rfl
  by_cases k1 : burst < n
  · go_enter Try.func29, Try.ntmps29
    go_wp2
    go_ret2
    exact ⟨ret2_ii (by rw [waitN, if_pos k1]) (by rw [waitE, if_pos k1]), hb, Fr.refl _ _⟩
  · by_cases k2 : n ≤ has
    · go_enter Try.func29, Try.ntmps29
      go_wp2
      go_ret2
      exact ⟨ret2_ii (by rw [waitN, if_neg (by omega), if_pos (by omega)]) (by rw [waitE, if_neg (by omega)]), hb, Fr.refl _ _⟩
    · go_enter Try.func29, Try.ntmps29
      go_wp2_with (go_at_call 37; refine (ticks_any b rate burst has n _ hb r1 r2 h0 h1 (by omega) (by omega)).mono ?_; rintro e w1 ⟨rfl, hb1, hf1⟩)
      go_ret2
      exact ⟨ret2_ii (by rw [waitN, if_neg (by omega), if_neg (by omega)]) (by rw [waitE, if_neg (by omega)]), hb1, hf1⟩

theorem ticks_lt {rate has n t : Int} (r1 : 1 ≤ rate) (h0 : has ≤ n) (h : t < ticksN rate has n) : t * rate < n - has := by
  unfold ticksN at h
  have h2 : t + 1 ≤ (max (n - has) 0 + rate - 1) / rate := h
  rw [Int.le_ediv_iff_mul_le (by omega), Int.add_mul] at h2
  omega
theorem ticks_ge {rate has n t : Int} (r1 : 1 ≤ rate) (h0 : has ≤ n) (h : ticksN rate has n ≤ t) : n - has ≤ t * rate := by
  unfold ticksN at h
  have h2 : (max (n - has) 0 + rate - 1) / rate < t + 1 := by omega
  rw [Int.ediv_lt_iff_lt_mul (by omega), Int.add_mul] at h2
  omega

def passN (rate burst has t : Int) : Int := if t < 1 then has else min burst (has + t * rate)

theorem pass_any (b : Nat) (rate burst has t : Int) (w : World) (hb : Bk 68 w b rate burst has) (r1 : 1 ≤ rate) (r2 : rate ≤ 2147483647) (u2 : burst ≤ 2147483647) (h0 : 0 ≤ has) (h1 : has ≤ burst) :
    Calls Try.prog 31 #[.pointer (some ⟨b, 0, none⟩), .int .i64 t] w fun e w' => e = .returned (.tuple #[]) ∧ Bk 68 w' b rate burst (passN rate burst has t) ∧ Fr (fun k => k = b) w w' := by
  have c0 := hb.cell 0 (v := .int .i64 rate) rfl
  have c1 := hb.cell 1 (v := .int .i64 burst) rfl
  have c2 := hb.cell 2 (v := .int .i64 has) rfl
  have f2 := hb.free 2
  by_cases k1 : t < 1
  · go_enter Try.func31, Try.ntmps31
    go_wp2
    go_end0
    exact ⟨rfl, by simp [passN, k1]; exact hb, Fr.refl _ _⟩
  · by_cases k2 : ticksN rate has burst ≤ t
    · go_enter Try.func31, Try.ntmps31
      go_wp2_with (go_at_call 37; refine (ticks_any b rate burst has burst _ hb r1 r2 h0 (by omega) (by omega) (by omega)).mono ?_; rintro e w1 ⟨rfl, hb1, hf1⟩; have d1 := hb1.cell 1 (v := .int .i64 burst) rfl; have d2 := hb1.cell 2 (v := .int .i64 has) rfl; have g2 := hb1.free 2)
      have hk := ticks_ge r1 h1 k2
      go_end0
      refine ⟨rfl, ?_, Fr.setCell (S := fun k => k = b) (hf1.mono (fun _ _ h => h.elim)) (p := ⟨b, 2, none⟩) (fun _ => rfl) _⟩
      have e : passN rate burst has t = burst := by rw [passN, if_neg (by omega)]; omega
      rw [e]
      exact hb1.set 2 _
    · go_enter Try.func31, Try.ntmps31
      go_wp2_with (go_at_call 37; refine (ticks_any b rate burst has burst _ hb r1 r2 h0 (by omega) (by omega) (by omega)).mono ?_; rintro e w1 ⟨rfl, hb1, hf1⟩; have d0 := hb1.cell 0 (v := .int .i64 rate) rfl; have d2 := hb1.cell 2 (v := .int .i64 has) rfl; have g2 := hb1.free 2)
      have hk := ticks_lt r1 h1 (by omega : t < ticksN rate has burst)
      have hk0 : 0 ≤ t * rate := Int.mul_nonneg (by omega) (by omega)
      go_region
      all_goals (go_wp2; go_end0)
      all_goals
        refine ⟨rfl, ?_, (Fr.setCell (S := fun k => k = b) (hf1.mono (fun _ _ h => h.elim)) (p := ⟨b, 2, none⟩) (fun _ => rfl) _).drew⟩
        have e : passN rate burst has t = has + t * rate := by rw [passN, if_neg (by omega)]; omega
        rw [e]
        exact (hb1.set 2 _).drew
theorem has_any (b : Nat) (rate burst has : Int) (w : World) (hb : Bk 68 w b rate burst has) :
    Calls Try.prog 25 #[.pointer (some ⟨b, 0, none⟩)] w fun e w' => e = .returned (.int .i64 has) ∧ w = w' := by
  have c2 := hb.cell 2 (v := .int .i64 has) rfl
  go_enter Try.func25, Try.ntmps25
  go_wp2
  go_ret
  exact ⟨rfl, rfl⟩

/-! ### the reference's bucket -/

theorem rnew_ok (rate burst : Int) (w : World) (h1 : 1 ≤ rate) (h2 : rate ≤ 2147483647) (h3 : 1 ≤ burst) (h4 : burst ≤ 2147483647) :
    Calls Try.prog 24 #[.int .i64 rate, .int .i64 burst] w fun e w' => e = .returned (.tuple #[.pointer (some ⟨w.heap.size, 0, none⟩), .int .i64 0]) ∧ w.alloc (.cells #[.int .i64 rate, .int .i64 burst, .int .i64 burst] 70) = w' := by
  go_enter Try.func24, Try.ntmps24
  go_wp2
  go_ret2
  exact ⟨rfl, rfl⟩

theorem rnew_bad (rate burst : Int) (w : World) (h : rate < 1 ∨ 2147483647 < rate ∨ burst < 1 ∨ 2147483647 < burst) :
    Calls Try.prog 24 #[.int .i64 rate, .int .i64 burst] w fun e w' => e = .returned (.tuple #[.pointer none, .int .i64 2]) ∧ w = w' := by
  go_enter Try.func24, Try.ntmps24
  go_wp2
  all_goals first | omega | (go_ret2; exact ⟨rfl, rfl⟩)

theorem rtake_any (b : Nat) (rate burst has n : Int) (w : World) (hb : Bk 70 w b rate burst has) (h0 : 0 ≤ has) (h1 : has ≤ 2147483647) :
    Calls Try.prog 28 #[.pointer (some ⟨b, 0, none⟩), .int .i64 n] w fun e w' => e = .returned (.int .i64 (takeN n has)) ∧ w.setCell ⟨b, 2, none⟩ (.int .i64 (has - takeN n has)) = w' := by
  have c2 := hb.cell 2 (v := .int .i64 has) rfl
  have f2 := hb.free 2
  go_enter Try.func28, Try.ntmps28
  go_wp2
  all_goals (go_ret; exact ⟨ret_i (by unfold takeN; omega), set_i (by unfold takeN; omega)⟩)

theorem rhas_any (b : Nat) (rate burst has : Int) (w : World) (hb : Bk 70 w b rate burst has) :
    Calls Try.prog 26 #[.pointer (some ⟨b, 0, none⟩)] w fun e w' => e = .returned (.int .i64 has) ∧ w = w' := by
  have c2 := hb.cell 2 (v := .int .i64 has) rfl
  go_enter Try.func26, Try.ntmps26
  go_wp2
  go_ret
  exact ⟨rfl, rfl⟩

theorem ticks_up {rate has n : Int} (r1 : 1 ≤ rate) (h : has ≤ n) : ticksN rate has n = (n - has) / rate + (if 0 < (n - has) % rate then 1 else 0) := by
  unfold ticksN
  have hd : max (n - has) 0 = n - has := by omega
  rw [hd]
  have hq := Int.mul_ediv_add_emod (n - has) rate
  have hm0 := Int.emod_nonneg (n - has) (show rate ≠ 0 by omega)
  have hm1 := Int.emod_lt_of_pos (n - has) (show 0 < rate by omega)
  have e : n - has + rate - 1 = ((n - has) % rate + rate - 1) + rate * ((n - has) / rate) := by omega
  rw [e, Int.add_mul_ediv_left _ _ (by omega)]
  split
  · have : ((n - has) % rate + rate - 1) / rate = 1 := by
      rw [show (n - has) % rate + rate - 1 = ((n - has) % rate - 1) + rate * 1 by omega, Int.add_mul_ediv_left _ _ (by omega), Int.ediv_eq_zero_of_lt (by omega) (by omega)]
      rfl
    omega
  · have : ((n - has) % rate + rate - 1) / rate = 0 := Int.ediv_eq_zero_of_lt (by omega) (by omega)
    omega

theorem rwait_any (b : Nat) (rate burst has n : Int) (w : World) (hb : Bk 70 w b rate burst has) (r1 : 1 ≤ rate) (r2 : rate ≤ 2147483647) (u2 : burst ≤ 2147483647) (h0 : 0 ≤ has) (h1 : has ≤ 2147483647) (n0 : -9223372036854775808 ≤ n) :
    Calls Try.prog 30 #[.pointer (some ⟨b, 0, none⟩), .int .i64 n] w fun e w' => e = .returned (.tuple #[.int .i64 (waitN rate burst has n), .int .i64 (waitE burst n)]) ∧ w = w' := by
  have c0 := hb.cell 0 (v := .int .i64 rate) rfl
  have c1 := hb.cell 1 (v := .int .i64 burst) rfl
  have c2 := hb.cell 2 (v := .int .i64 has) rfl
  by_cases k1 : burst < n
  · go_enter Try.func30, Try.ntmps30
    go_wp2
    go_ret2
    exact ⟨ret2_ii (by rw [waitN, if_pos k1]) (by rw [waitE, if_pos k1]), rfl⟩
  · by_cases k2 : n < 0
    · go_enter Try.func30, Try.ntmps30
      go_wp2
      all_goals (go_ret2; exact ⟨ret2_ii (by rw [waitN, if_neg (by omega), if_pos (by omega)]; try simp) (by rw [waitE, if_neg (by omega)]), rfl⟩)
    · by_cases k3 : n ≤ has
      · go_enter Try.func30, Try.ntmps30
        go_wp2
        all_goals (try go_ret2)
        all_goals exact ⟨ret2_ii (by rw [waitN, if_neg (by omega), if_pos (by omega)]; try simp) (by rw [waitE, if_neg (by omega)]), rfl⟩
      · have hm0 := Int.emod_nonneg (n - has) (show rate ≠ 0 by omega)
        have hm1 := Int.emod_lt_of_pos (n - has) (show 0 < rate by omega)
        have hd0 := Int.ediv_nonneg (show 0 ≤ n - has by omega) (show 0 ≤ rate by omega)
        have hd1 := Int.ediv_le_self rate (show 0 ≤ n - has by omega)
        by_cases k4 : 0 < (n - has) % rate
        · go_enter Try.func30, Try.ntmps30
          go_wp2
          all_goals (try go_ret2)
          all_goals exact ⟨ret2_ii (by rw [waitN, if_neg (by omega), if_neg (by omega), ticks_up r1 (by omega), if_pos k4]) (by rw [waitE, if_neg (by omega)]), rfl⟩
        · go_enter Try.func30, Try.ntmps30
          go_wp2
          all_goals (try go_ret2)
          all_goals exact ⟨ret2_ii (by rw [waitN, if_neg (by omega), if_neg (by omega), ticks_up r1 (by omega), if_neg (by omega), Int.add_zero]) (by rw [waitE, if_neg (by omega)]), rfl⟩

theorem rpass_any (b : Nat) (rate burst has t : Int) (w : World) (hb : Bk 70 w b rate burst has) (r1 : 1 ≤ rate) (r2 : rate ≤ 2147483647) (u2 : burst ≤ 2147483647) (h0 : 0 ≤ has) (h1 : has ≤ burst) :
    Calls Try.prog 32 #[.pointer (some ⟨b, 0, none⟩), .int .i64 t] w fun e w' => e = .returned (.tuple #[]) ∧ Bk 70 w' b rate burst (passN rate burst has t) ∧ Fr (fun k => k = b) w w' := by
  have c0 := hb.cell 0 (v := .int .i64 rate) rfl
  have c1 := hb.cell 1 (v := .int .i64 burst) rfl
  have c2 := hb.cell 2 (v := .int .i64 has) rfl
  have f2 := hb.free 2
  by_cases k1 : t < 1
  · go_enter Try.func32, Try.ntmps32
    go_wp2
    refine bodyPost_ret (results_none (by rfl) _ _ _) rfl ?_
    exact ⟨rfl, by rw [passN, if_pos (by omega)]; exact hb, Fr.refl _ _⟩
  · by_cases k2 : burst < t
    · have e1 : burst * 1 ≤ burst * rate := Int.mul_le_mul_of_nonneg_left r1 (by omega)
      have e2 : burst * rate ≤ 2147483647 * 2147483647 := Int.mul_le_mul u2 r2 (by omega) (by omega)
      have e3 : t * 1 ≤ t * rate := Int.mul_le_mul_of_nonneg_left r1 (by omega)
      have e : passN rate burst has t = burst := by rw [passN, if_neg (by omega)]; omega
      have E := Lib.hid e; clear e
      go_enter Try.func32, Try.ntmps32
      go_wp2
      go_region
      all_goals (go_wp2; go_end0)
      all_goals
        refine ⟨rfl, ?_, ((Fr.refl _ _).setCell (S := fun k => k = b) (p := ⟨b, 2, none⟩) (fun _ => rfl) _).drew⟩
        rw [E.out]
        exact (hb.set 2 _).drew
    · have e1 : t * 1 ≤ t * rate := Int.mul_le_mul_of_nonneg_left r1 (by omega)
      have e2 : t * rate ≤ 2147483647 * 2147483647 := Int.mul_le_mul (by omega) r2 (by omega) (by omega)
      by_cases k3 : burst ≤ has + t * rate
      · have e : passN rate burst has t = burst := by rw [passN, if_neg (by omega)]; omega
        have E := Lib.hid e; clear e
        go_enter Try.func32, Try.ntmps32
        go_wp2
        go_region
        go_wp2
        go_end0
        refine ⟨rfl, ?_, ((Fr.refl _ _).setCell (S := fun k => k = b) (p := ⟨b, 2, none⟩) (fun _ => rfl) _).drew⟩
        rw [E.out]
        exact (hb.set 2 _).drew
      · have e : passN rate burst has t = has + t * rate := by rw [passN, if_neg (by omega)]; omega
        have E := Lib.hid e; clear e
        go_enter Try.func32, Try.ntmps32
        go_wp2
        go_region
        go_wp2
        go_end0
        refine ⟨rfl, ?_, ((Fr.refl _ _).setCell (S := fun k => k = b) (p := ⟨b, 2, none⟩) (fun _ => rfl) _).drew⟩
        rw [E.out]
        exact (hb.set 2 _).drew

/-! ### what is not there -/
theorem has_nil (w : World) : Calls Try.prog 25 #[.pointer none] w fun e w' => e = .returned (.int .i64 0) ∧ w = w' := by
  go_enter Try.func25, Try.ntmps25
  go_wp2
  go_ret
  exact ⟨rfl, rfl⟩
theorem rhas_nil (w : World) : Calls Try.prog 26 #[.pointer none] w fun e w' => e = .returned (.int .i64 0) ∧ w = w' := by
  go_enter Try.func26, Try.ntmps26
  go_wp2
  go_ret
  exact ⟨rfl, rfl⟩
theorem take_nil (n : Int) (w : World) : Calls Try.prog 27 #[.pointer none, .int .i64 n] w fun e w' => e = .returned (.int .i64 0) ∧ w = w' := by
  go_enter Try.func27, Try.ntmps27
  go_wp2
  go_ret
  exact ⟨rfl, rfl⟩
theorem rtake_nil (n : Int) (w : World) : Calls Try.prog 28 #[.pointer none, .int .i64 n] w fun e w' => e = .returned (.int .i64 0) ∧ w = w' := by
  go_enter Try.func28, Try.ntmps28
  go_wp2
  go_ret
  exact ⟨rfl, rfl⟩
theorem wait_nil (n : Int) (w : World) : Calls Try.prog 29 #[.pointer none, .int .i64 n] w fun e w' => e = .returned (.tuple #[.int .i64 0, .int .i64 1]) ∧ w = w' := by
  go_enter Try.func29, Try.ntmps29
  go_wp2
  go_ret2
  exact ⟨rfl, rfl⟩
theorem rwait_nil (n : Int) (w : World) : Calls Try.prog 30 #[.pointer none, .int .i64 n] w fun e w' => e = .returned (.tuple #[.int .i64 0, .int .i64 1]) ∧ w = w' := by
  go_enter Try.func30, Try.ntmps30
  go_wp2
  go_ret2
  exact ⟨rfl, rfl⟩
theorem pass_nil (n : Int) (w : World) : Calls Try.prog 31 #[.pointer none, .int .i64 n] w fun e w' => e = .returned (.tuple #[]) ∧ w = w' := by
  go_enter Try.func31, Try.ntmps31
  go_wp2
  go_end0
  exact ⟨rfl, rfl⟩
theorem rpass_nil (n : Int) (w : World) : Calls Try.prog 32 #[.pointer none, .int .i64 n] w fun e w' => e = .returned (.tuple #[]) ∧ w = w' := by
  go_enter Try.func32, Try.ntmps32
  go_wp2
  refine bodyPost_ret (results_none (by rfl) _ _ _) rfl ?_
  exact ⟨rfl, rfl⟩

end Go.Proofs.Ytncdmgngmgjmpaa
