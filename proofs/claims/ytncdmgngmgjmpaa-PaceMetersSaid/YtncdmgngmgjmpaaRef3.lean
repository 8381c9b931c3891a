/- The walks of the reference's meter: Rate, Left. -/
import Derived.Test.YtncdmgngmgjmpaaRef
import Derived.Test.YtncdmgngmgjmpaaRate
namespace Go.Proofs.Ytncdmgngmgjmpaa
open Go.RowKit

def rateL (L : List Int) : Int := if L = [] then 0 else L.sum / (L.length : Int)

set_option maxRecDepth 100000 in
set_option maxHeartbeats 2000000 in
theorem rrate_any (r base : Nat) (total went now : Int) (L : List Int) (w : World) (hb : RMt w r base total went now L) (h8 : L.length ≤ 8) (hL : ∀ x ∈ L, 0 ≤ x ∧ x ≤ MaxN) :
    Calls Try.prog 22 #[.pointer (some ⟨r, 0, none⟩)] w fun e w' => e = .returned (.int .i64 (rateL L)) ∧ w = w' := by
  obtain ⟨a, cap, hb, hA⟩ := hb
  have c3 := hb.cell 3 (v := .slice a L.length cap) rfl
  rcases hA with ⟨rfl, rfl, rfl⟩ | ⟨hne, g, off, rfl, hg, hgl, hc⟩
  · have hz : rateL [] = 0 := rfl
    rw [hz]
    have c3' : w.cell? ⟨r, 3, none⟩ = some (.slice none 0 0) := c3
    clear c3 hb hz
    go_enter Try.func22, Try.ntmps22
    go_wp2
    go_ret
    exact ⟨rfl, rfl⟩
  · have hz : rateL L = L.sum / (L.length : Int) := if_neg hne
    rw [hz]
    obtain ⟨k, hk⟩ : ∃ k, k = L.length := ⟨_, rfl⟩
    have k1 : 1 ≤ k := by rw [hk]; exact List.length_pos_iff.2 hne
    have k8 : k ≤ 8 := by omega
    rw [← hk] at c3 ⊢
    obtain ⟨m, hm⟩ : ∃ m : Int, m = 4611686018427387903 / (k : Int) := ⟨_, rfl⟩
    have hmk : (k : Int) * m ≤ 4611686018427387903 := by rw [hm]; exact Int.mul_ediv_self_le (by omega)
    have hm0 : 0 ≤ m := by rw [hm]; exact Int.ediv_nonneg (by omega) (by omega)
    have HM := Lib.hid hm
    have HK := Lib.hid hk
    have HC := Lib.hid hc
    have HL := Lib.hid hL
    have hkz : ((k : Int) == 0) = false := by simp; omega
    clear hm hk hc hL hz hne hb h8
    go_enter Try.func22, Try.ntmps22
    go_wp2_with (fail)
    go_loop [4, 5, 6] (fun x4 x5 x6 => ∃ (i : Nat) (W R : Int), i ≤ k ∧ x4 = .int .i64 W ∧ x5 = .int .i64 R ∧ x6 = .int .i64 i ∧ Hid ((k : Int) * W + R = (L.take i).sum) ∧ 0 ≤ W ∧ W ≤ (i : Int) * m ∧ 0 ≤ R ∧ R ≤ (i : Int) * 7)
      (fun _ _ x => k - (intOf x).toNat)
    case atStart => exact ⟨0, 0, 0, by omega, rfl, rfl, rfl, Lib.hid (by simp), by omega, by simp, by omega, by omega⟩
    case round =>
      obtain ⟨i, W, R, hi, rfl, rfl, rfl, hsum, W0, W1, R0, R1⟩ := hrel
      by_cases hlt : i < k
      · have hil : i < L.length := by rw [← HK.out]; exact hlt
        obtain ⟨x, hx⟩ : ∃ x, x = L.getD i 0 := ⟨_, rfl⟩
        have hxe : L.getD i 0 = L[i] := by simp [hil]
        have hcell : w.cell? ⟨g, off + i, none⟩ = some (.int .i64 x) := by
          refine HC.out i _ ?_
          rw [List.getElem?_map, List.getElem?_eq_getElem hil, hx, hxe]
          rfl
        have hxb := HL.out L[i] (List.getElem_mem hil)
        rw [← hxe, ← hx] at hxb
        have x0 := hxb.1
        have x1 : x ≤ 4611686018427387903 := hxb.2
        have hss := sum_take_succ L i hil
        rw [← hx] at hss
        have q0 : 0 ≤ x / (k : Int) := Int.ediv_nonneg x0 (by omega)
        have q1 : x / (k : Int) ≤ m := by rw [HM.out]; exact Int.ediv_le_ediv (by omega) x1
        have p0 : 0 ≤ x % (k : Int) := Int.emod_nonneg _ (by omega)
        have p1 : x % (k : Int) < k := Int.emod_lt_of_pos _ (by omega)
        have p2 : x % (k : Int) ≤ 7 := by omega
        have hqr := Int.mul_ediv_add_emod x (k : Int)
        have hi1 : ((i + 1 : Nat) : Int) * m = (i : Int) * m + m := by rw [Int.natCast_succ, Int.add_mul, Int.one_mul]
        have hi2 : ((i + 1 : Nat) : Int) * m ≤ (k : Int) * m := Int.mul_le_mul_of_nonneg_right (by omega) hm0
        have hW2 : W + x / (k : Int) ≤ 4611686018427387903 := by omega
        have hW3 : W + x / (k : Int) ≤ ((i + 1 : Nat) : Int) * m := by omega
        have hs2 := hsum.out
        have hS : (k : Int) * (W + x / (k : Int)) + (R + x % (k : Int)) = (L.take (i + 1)).sum := by
          rw [hss, ← hs2, Int.mul_add]; omega
        have HS := Lib.hid hS
        have HW3 := Lib.hid hW3
        clear hs2 hsum hS hss hqr hi1 hi2 hx hxe hxb hW3 W1
        go_wp2_with (fail)
        go_round
        case rel => exact ⟨i + 1, W + x / (k : Int), R + x % (k : Int), by omega, rfl, rfl, by go_num, HS, by omega, HW3.out, by omega, by omega⟩
        case measure => simp [intOf]; omega
      · obtain rfl : i = k := by omega
        have hLt : (L.take i).sum = L.sum := by rw [List.take_of_length_le (by rw [← HK.out]; exact Nat.le_refl _)]
        have hs2 := hsum.out
        rw [hLt] at hs2
        have q0 : 0 ≤ R / (i : Int) := Int.ediv_nonneg R0 (by omega)
        have q1 : R / (i : Int) ≤ R := Int.ediv_le_self _ R0
        have W2 : W ≤ 4611686018427387903 := by omega
        have R2 : R ≤ 56 := by omega
        have HS2 := Lib.hid hs2
        clear hs2 hsum hLt W1 R1
        go_wp2_with (fail)
        go_ret
        refine ⟨ret_i ?_, rfl⟩
        rw [← HS2.out, Int.add_comm ((i : Int) * W) R, Int.add_mul_ediv_left _ _ (by omega)]
        omega

theorem rleft_any (r base : Nat) (total went now : Int) (L : List Int) (w : World) (hb : RMt w r base total went now L) (h8 : L.length ≤ 8) (hL : ∀ x ∈ L, 0 ≤ x ∧ x ≤ MaxN)
    (t0 : 0 ≤ total) (t1 : total ≤ MaxN) (d0 : 0 ≤ went) (d1 : went ≤ MaxN) (r0 : 0 ≤ rateL L) (r1 : rateL L ≤ MaxN) :
    Calls Try.prog 18 #[.pointer (some ⟨r, 0, none⟩)] w fun e w' => e = .returned (.tuple #[.int .i64 (leftP total went (rateL L)), .bool (leftB total went (rateL L))]) ∧ Dr w w' := by
  have hcall : ∀ n, Calls Try.prog 22 #[.pointer (some ⟨r, 0, none⟩)] (w.drewN n) fun e w' => e = .returned (.int .i64 (rateL L)) ∧ w.drewN n = w' := fun n =>
    rrate_any r base total went now L (w.drewN n) (RMt.fr (S := fun _ => False) hb ((Fr.refl _ _).drewN n) (fun h => h) (fun _ _ h => h)) h8 hL
  obtain ⟨a, cap, hb, _⟩ := hb
  have c0 := hb.cell 0 (v := .int .i64 total) rfl
  have c1 := hb.cell 1 (v := .int .i64 went) rfl
  have t1' : total ≤ 4611686018427387903 := t1
  have d1' : went ≤ 4611686018427387903 := d1
  have r1' : rateL L ≤ 4611686018427387903 := r1
  obtain ⟨R, hR⟩ : ∃ R, R = rateL L := ⟨_, rfl⟩
  rw [← hR] at r0 r1' hcall ⊢
  have HC := Lib.hid hcall
  clear hb hL t1 d1 r1 hcall hR
  by_cases k1 : total - went ≤ 0
  · go_enter Try.func18, Try.ntmps18
    go_wp2_with (fail)
    go_quiet (fail)
    go_wp2
    go_ret2
    exact ⟨ret2_ib (by rw [leftP, if_pos k1]) (by rw [leftB, if_pos k1]), Dr.some _ _⟩
  · have k1' : went < total := by omega
    by_cases k2 : R = 0
    · have k2' : (R == 0) = true := by simp [k2]
      have K2 := Lib.hid k2; clear k2
      go_enter Try.func18, Try.ntmps18
      go_wp2_with (fail)
      go_quiet (fail)
      go_wp2_with (fail)
      refine (HC.out _).mono ?_
      rintro e w1 ⟨rfl, rfl⟩
      go_wp2
      go_ret2
      exact ⟨ret2_ib (by rw [leftP, if_neg (by omega), if_pos K2.out]) (by rw [leftB, if_neg (by omega), if_pos K2.out]), Dr.some _ _⟩
    · have k2' : (R == 0) = false := by simp [k2]
      have K2 := Lib.hid k2
      have k3 : 1 ≤ R := by omega
      have q0 : 0 ≤ (total - went) / R := Int.ediv_nonneg (by omega) (by omega)
      have q1 : (total - went) / R ≤ total - went := Int.ediv_le_self _ (by omega)
      have p0 : 0 ≤ (total - went) % R := Int.emod_nonneg _ (by omega)
      have p1 : (total - went) % R < R := Int.emod_lt_of_pos _ (by omega)
      have hqr := Int.mul_ediv_add_emod (total - went) R
      by_cases k4 : 0 < (total - went) % R
      · have e : (total - went - 1) / R = (total - went) / R := by
          have : total - went - 1 = ((total - went) % R - 1) + R * ((total - went) / R) := by omega
          rw [this, Int.add_mul_ediv_left _ _ (by omega), Int.ediv_eq_zero_of_lt (by omega) (by omega), Int.zero_add]
        have E := Lib.hid e
        clear k2 e hqr
        go_enter Try.func18, Try.ntmps18
        go_wp2_with (fail)
        go_quiet (fail)
        go_wp2_with (fail)
        refine (HC.out _).mono ?_
        rintro e w1 ⟨rfl, rfl⟩
        go_wp2_with (fail)
        go_quiet (fail)
        go_wp2
        go_ret2
        exact ⟨ret2_ib (by rw [leftP, if_neg (by omega), if_neg K2.out, E.out]) (by rw [leftB, if_neg (by omega), if_neg K2.out]), Dr.some _ _⟩
      · have e : (total - went - 1) / R + 1 = (total - went) / R := by
          have : total - went - 1 = (R - 1) + R * ((total - went) / R - 1) := by rw [Int.mul_sub, Int.mul_one]; omega
          rw [this, Int.add_mul_ediv_left _ _ (by omega), Int.ediv_eq_zero_of_lt (by omega) (by omega)]
          omega
        have E := Lib.hid e
        have p2 : (total - went) % R ≤ 0 := by omega
        clear k2 e hqr k4
        go_enter Try.func18, Try.ntmps18
        go_wp2_with (fail)
        go_quiet (fail)
        go_wp2_with (fail)
        refine (HC.out _).mono ?_
        rintro e w1 ⟨rfl, rfl⟩
        go_wp2_with (fail)
        go_quiet (fail)
        go_wp2
        go_ret2
        exact ⟨ret2_ib (by rw [leftP, if_neg (by omega), if_neg K2.out, E.out]) (by rw [leftB, if_neg (by omega), if_neg K2.out]), Dr.some _ _⟩

end Go.Proofs.Ytncdmgngmgjmpaa
