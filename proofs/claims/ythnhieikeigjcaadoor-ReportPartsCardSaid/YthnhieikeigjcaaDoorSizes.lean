/- The walks of size and ReportSizes. -/
import Derived.Test.YthnhieikeigjcaaDoorNumW
import Derived.Test.YthnhieikeigjcaaDoorAw
namespace Go.Proofs.YthnhieikeigjcaaDoor
open Go.RowKit

/-- number at a number's digits and what stands behind them. -/
theorem number_dig (m : Nat) (s : ByteArray) (rest : List UInt8) (hm : m ≤ 9000000000000000000) (hs : s.data.toList = Lib.decDigits m ++ rest) (hr : ∀ c t, rest = c :: t → ¬ isDig c) (w : World) :
    Calls Tryd.prog 19 #[.string s] w fun e w' => e = .returned (.tuple #[.int .i64 m, .string ⟨rest.toArray⟩]) ∧ w = w' := by
  have h := number_spec s (Lib.decDigits m) rest w hs (dec_digits m).1 hr (by rw [(dec_digits m).2]; exact hm)
  rwa [(dec_digits m).2] at h

theorem size_lo (m : Nat) (h : m < 1024) (w : World) : Calls Tryd.prog 18 #[.string (humB m)] w fun e w' => e = .returned (.tuple #[.int .i64 m, .int .i64 1]) ∧ w = w' := by
  have HN := Lib.hid (number_dig m (humB m) [66] (by omega) (by rw [hum_lo h, pre_data2, digB_data]) (fun c t e => by cases e; unfold isDig; decide))
  clear h
  generalize humB m = s at HN ⊢
  go_enter Tryd.func18, Tryd.ntmps18
  go_wp2_with (first | (go_at_call 19; (refine (HN.out _).mono ?_); rintro e w1 ⟨rfl, rfl⟩))
  go_ret2
  exact ⟨rfl, rfl⟩

set_option maxHeartbeats 2000000 in
/-- What stands behind a size's whole units: three bytes. -/
theorem three (t L : Nat) (ht : t < 10) (hL : L < 256) : ∃ R : ByteArray, R = ⟨[46, UInt8.ofNat (48 + t), UInt8.ofNat L].toArray⟩ ∧ R.size = 3 ∧ (R.toList == [66]) = false ∧
    ∀ h0 h1 h2, (R[0]'h0).toNat = 46 ∧ (R[1]'h1).toNat = 48 + t ∧ (R[2]'h2).toNat = L := by
  refine ⟨_, rfl, rfl, ?_, fun h0 h1 h2 => ⟨rfl, dig_nat t ht, ?_⟩⟩
  · rw [ByteArray.toList_eq]; rfl
  · show (UInt8.ofNat L).toNat = L
    rw [UInt8.toNat_ofNat', Nat.mod_eq_of_lt (by omega)]

set_option maxRecDepth 10000 in
set_option maxHeartbeats 1000000 in
theorem size_k (q t : Nat) (s : ByteArray) (hq : q ≤ 8589934591) (ht : t < 10) (hs : s = digB q ++ ⟨#[46]⟩ ++ digB t ++ ⟨#[75]⟩) (w : World) : Calls Tryd.prog 18 #[.string s] w fun e w' => e = .returned (.tuple #[.int .i64 ((q : Int) * 1024 + ((t : Int) * 1024 + 9) / 10), .int .i64 1024]) ∧ w = w' := by
  have hn := number_dig q s [46, UInt8.ofNat (48 + t), UInt8.ofNat 75] (by omega) (by rw [hs, pre_data2, pre_data, digB_data, digB_data, Lib.decDigits_one ht]; simp only [List.append_assoc]; rfl) (fun c t e => by cases e; unfold isDig; decide)
  obtain ⟨R, hR, z, r0, hg⟩ := three t 75 ht (by decide)
  rw [← hR] at hn
  have HN := Lib.hid hn
  have z0 : 0 < R.size := by omega
  have z1 : 1 < R.size := by omega
  have z2 : 2 < R.size := by omega
  obtain ⟨g0, g1, g2⟩ := hg z0 z1 z2
  have c1 : (q : Int) ≤ 8589934591 := by omega
  have c2 : (t : Int) < 10 := by omega
  have c3 : (0 : Int) ≤ q := by omega
  have c4 : (0 : Int) ≤ t := by omega
  clear hs hq ht hR hn hg
  go_enter Tryd.func18, Tryd.ntmps18
  go_wp2_with (first | (go_at_call 19; (refine (HN.out _).mono ?_); rintro e w1 ⟨rfl, rfl⟩))
  go_ret2
  exact ⟨ret2_ii (by omega) rfl, rfl⟩

set_option maxRecDepth 10000 in
set_option maxHeartbeats 1000000 in
theorem size_m (q t : Nat) (s : ByteArray) (hq : q ≤ 8589934591) (ht : t < 10) (hs : s = digB q ++ ⟨#[46]⟩ ++ digB t ++ ⟨#[77]⟩) (w : World) : Calls Tryd.prog 18 #[.string s] w fun e w' => e = .returned (.tuple #[.int .i64 ((q : Int) * 1048576 + ((t : Int) * 1048576 + 9) / 10), .int .i64 1048576]) ∧ w = w' := by
  have hn := number_dig q s [46, UInt8.ofNat (48 + t), UInt8.ofNat 77] (by omega) (by rw [hs, pre_data2, pre_data, digB_data, digB_data, Lib.decDigits_one ht]; simp only [List.append_assoc]; rfl) (fun c t e => by cases e; unfold isDig; decide)
  obtain ⟨R, hR, z, r0, hg⟩ := three t 77 ht (by decide)
  rw [← hR] at hn
  have HN := Lib.hid hn
  have z0 : 0 < R.size := by omega
  have z1 : 1 < R.size := by omega
  have z2 : 2 < R.size := by omega
  obtain ⟨g0, g1, g2⟩ := hg z0 z1 z2
  have c1 : (q : Int) ≤ 8589934591 := by omega
  have c2 : (t : Int) < 10 := by omega
  have c3 : (0 : Int) ≤ q := by omega
  have c4 : (0 : Int) ≤ t := by omega
  clear hs hq ht hR hn hg
  go_enter Tryd.func18, Tryd.ntmps18
  go_wp2_with (first | (go_at_call 19; (refine (HN.out _).mono ?_); rintro e w1 ⟨rfl, rfl⟩))
  go_ret2
  exact ⟨ret2_ii (by omega) rfl, rfl⟩

set_option maxRecDepth 10000 in
set_option maxHeartbeats 1000000 in
theorem size_g (q t : Nat) (s : ByteArray) (hq : q ≤ 8589934591) (ht : t < 10) (hs : s = digB q ++ ⟨#[46]⟩ ++ digB t ++ ⟨#[71]⟩) (w : World) : Calls Tryd.prog 18 #[.string s] w fun e w' => e = .returned (.tuple #[.int .i64 ((q : Int) * 1073741824 + ((t : Int) * 1073741824 + 9) / 10), .int .i64 1073741824]) ∧ w = w' := by
  have hn := number_dig q s [46, UInt8.ofNat (48 + t), UInt8.ofNat 71] (by omega) (by rw [hs, pre_data2, pre_data, digB_data, digB_data, Lib.decDigits_one ht]; simp only [List.append_assoc]; rfl) (fun c t e => by cases e; unfold isDig; decide)
  obtain ⟨R, hR, z, r0, hg⟩ := three t 71 ht (by decide)
  rw [← hR] at hn
  have HN := Lib.hid hn
  have z0 : 0 < R.size := by omega
  have z1 : 1 < R.size := by omega
  have z2 : 2 < R.size := by omega
  obtain ⟨g0, g1, g2⟩ := hg z0 z1 z2
  have c1 : (q : Int) ≤ 8589934591 := by omega
  have c2 : (t : Int) < 10 := by omega
  have c3 : (0 : Int) ≤ q := by omega
  have c4 : (0 : Int) ≤ t := by omega
  clear hs hq ht hR hn hg
  go_enter Tryd.func18, Tryd.ntmps18
  go_wp2_with (first | (go_at_call 19; (refine (HN.out _).mono ?_); rintro e w1 ⟨rfl, rfl⟩))
  go_ret2
  exact ⟨ret2_ii (by omega) rfl, rfl⟩

/-- What a size says, and its unit. -/
def unN (m : Nat) : Nat := if m < 1024 then 1 else unitN m
def szN (m : Nat) : Nat := if m < 1024 then m else m / unitN m * unitN m + (m % unitN m * 10 / unitN m * unitN m + 9) / 10
theorem size_spec (m : Nat) (hm : m ≤ 9223372036854775807) (w : World) : Calls Tryd.prog 18 #[.string (humB m)] w fun e w' => e = .returned (.tuple #[.int .i64 (szN m), .int .i64 (unN m)]) ∧ w = w' := by
  unfold szN unN
  by_cases h : m < 1024
  · rw [if_pos h, if_pos h]; exact size_lo m h w
  rw [if_neg h, if_neg h]
  unfold unitN
  by_cases h2 : m < 1048576
  · rw [if_pos h2]
    refine (size_k (m / 1024) (m % 1024 * 10 / 1024) _ (by omega) (by omega) (hum_k (by omega) h2) w).mono fun e w' ⟨h1, hw⟩ => ⟨?_, hw⟩
    rw [h1]; exact ret2_ii (by omega) rfl
  rw [if_neg h2]
  by_cases h3 : m < 1073741824
  · rw [if_pos h3]
    refine (size_m (m / 1048576) (m % 1048576 * 10 / 1048576) _ (by omega) (by omega) (hum_m (by omega) h3) w).mono fun e w' ⟨h1, hw⟩ => ⟨?_, hw⟩
    rw [h1]; exact ret2_ii (by omega) rfl
  rw [if_neg h3]
  refine (size_g (m / 1073741824) (m % 1073741824 * 10 / 1073741824) _ (by omega) (by omega) (hum_g (by omega)) w).mono fun e w' ⟨h1, hw⟩ => ⟨?_, hw⟩
  rw [h1]; exact ret2_ii (by omega) rfl

theorem sz_one (m : Nat) : szN m ≤ m ∧ m - szN m ≤ unN m / 10 ∧ 0 < unN m ∧ (m < 1024 ↔ unN m = 1) ∧ unN m ≤ 1073741824 := by
  unfold szN unN unitN
  split
  · omega
  split
  · omega
  split <;> omega
theorem sz_two (a b : Nat) (h : a ≤ b) : szN a ≤ szN b ∧ unN a ≤ unN b := by
  unfold szN unN unitN
  by_cases a1 : a < 1024
  · rw [if_pos a1, if_pos a1]
    by_cases b1 : b < 1024
    · rw [if_pos b1, if_pos b1]; omega
    rw [if_neg b1, if_neg b1]
    split
    · omega
    split <;> omega
  rw [if_neg a1, if_neg a1, if_neg (show ¬ b < 1024 by omega), if_neg (show ¬ b < 1024 by omega)]
  by_cases a2 : a < 1048576
  · rw [if_pos a2]
    by_cases b2 : b < 1048576
    · rw [if_pos b2]; omega
    rw [if_neg b2]
    split <;> omega
  rw [if_neg a2, if_neg (show ¬ b < 1048576 by omega)]
  by_cases a3 : a < 1073741824
  · rw [if_pos a3]
    by_cases b3 : b < 1073741824
    · rw [if_pos b3]; omega
    rw [if_neg b3]; omega
  rw [if_neg a3, if_neg (show ¬ b < 1073741824 by omega)]; omega

set_option maxRecDepth 10000 in
set_option maxHeartbeats 4000000 in
theorem sizes_walk (a b : Int) (w : World) (ha : a ≤ 9223372036854775807) (hb : b ≤ 9223372036854775807) (ht : TB w) :
    Calls Tryd.prog 5 #[.int .i64 a, .int .i64 b] w fun e w' => e = .returned (.bool true) ∧ Below w.heap.size w w' := by
  obtain ⟨A, hA⟩ : ∃ A, A = max 0 (min a b) := ⟨_, rfl⟩
  obtain ⟨B, hB⟩ : ∃ B, B = max 0 (max a b) := ⟨_, rfl⟩
  have A0 : 0 ≤ A := by omega
  have AB : A ≤ B := by omega
  have B1 : B ≤ 9223372036854775807 := by omega
  have HT := Lib.hid ht
  have HF := Lib.hid (Fr.refl (fun _ => False) w)
  have H1 := Lib.hid (fun wx (hx : TB wx) => human_spec A (by omega) wx hx)
  have H2 := Lib.hid (fun wx (hx : TB wx) => human_spec B (by omega) wx hx)
  have hs1 := size_spec A.toNat (by omega)
  have hs2 := size_spec B.toNat (by omega)
  have o1 := sz_one A.toNat
  have o2 := sz_one B.toNat
  have o3 := sz_two A.toNat B.toNat (by omega)
  generalize szN A.toNat = X at hs1 o1 o3
  generalize szN B.toNat = Y at hs2 o2 o3
  generalize unN A.toNat = U at hs1 o1 o3
  generalize unN B.toNat = V at hs2 o2 o3
  have H3 := Lib.hid hs1
  have H4 := Lib.hid hs2
  obtain ⟨p1, p2, p3, p4, p5⟩ := o1
  obtain ⟨q1, q2, q3, q4, q5⟩ := o2
  obtain ⟨r1, r2⟩ := o3
  have hA' := hA.symm
  have hB' := hB.symm
  have c1 : (X : Int) ≤ A := by omega
  have c2 : A - (X : Int) ≤ (U : Int) / 10 := by omega
  have c3 : (0 : Int) < U := by omega
  have c4 : (Y : Int) ≤ B := by omega
  have c5 : B - (Y : Int) ≤ (V : Int) / 10 := by omega
  have c6 : (0 : Int) < V := by omega
  have c7 : (U : Int) ≤ 1073741824 := by omega
  have c8 : (V : Int) ≤ 1073741824 := by omega
  have d1 : ((U : Int) == 0) = false := by simp; omega
  have d2 : ((V : Int) == 0) = false := by simp; omega
  have d3 : decide (X ≤ Y) = true := by simpa using r1
  have d4 : decide (U ≤ V) = true := by simpa using r2
  by_cases hlt : A < 1024
  · have e1 : ((U : Int) == 1) = true := by simp; omega
    clear hs1 hs2 p1 p2 p3 p4 p5 q1 q2 q3 q4 q5 r1 r2 hA hB ht
    go_enter Tryd.func5, Tryd.ntmps5
    go_wp2_with (first
      | (go_at_call 9; ((with_reducible refine (H1.out _ (HT.out.fr HF.out)).mono ?_); rintro e w1 ⟨rfl, hf⟩; have HF := Lib.hid (HF.out.trans hf (fun _ _ h => h)); clear hf H1))
      | (go_at_call 9; ((with_reducible refine (H2.out _ (HT.out.fr HF.out)).mono ?_); rintro e w1 ⟨rfl, hf⟩; have HF := Lib.hid (HF.out.trans hf (fun _ _ h => h)); clear hf))
      | (go_at_call 18; ((with_reducible refine (H3.out _).mono ?_); rintro e w1 ⟨rfl, rfl⟩))
      | (go_at_call 18; ((with_reducible refine (H4.out _).mono ?_); rintro e w1 ⟨rfl, rfl⟩))
      | (go_at_call 15; ((refine (awake_spec _ (HT.out.fr HF.out)).mono ?_); rintro e w7 ⟨rfl, hf⟩; have HF := Lib.hid (HF.out.trans hf (fun _ _ h => h)); clear hf)))
    go_ret
    exact ⟨rfl, HF.out.below (Nat.le_refl _) (fun _ _ h => h)⟩
  · have e1 : ((U : Int) == 1) = false := by simp; omega
    have e2 : decide (A < 1024) = false := by simp; omega
    clear hs1 hs2 p1 p2 p3 p4 p5 q1 q2 q3 q4 q5 r1 r2 hA hB ht hlt
    go_enter Tryd.func5, Tryd.ntmps5
    go_wp2_with (first
      | (go_at_call 9; ((with_reducible refine (H1.out _ (HT.out.fr HF.out)).mono ?_); rintro e w1 ⟨rfl, hf⟩; have HF := Lib.hid (HF.out.trans hf (fun _ _ h => h)); clear hf H1))
      | (go_at_call 9; ((with_reducible refine (H2.out _ (HT.out.fr HF.out)).mono ?_); rintro e w1 ⟨rfl, hf⟩; have HF := Lib.hid (HF.out.trans hf (fun _ _ h => h)); clear hf))
      | (go_at_call 18; ((with_reducible refine (H3.out _).mono ?_); rintro e w1 ⟨rfl, rfl⟩))
      | (go_at_call 18; ((with_reducible refine (H4.out _).mono ?_); rintro e w1 ⟨rfl, rfl⟩))
      | (go_at_call 15; ((refine (awake_spec _ (HT.out.fr HF.out)).mono ?_); rintro e w7 ⟨rfl, hf⟩; have HF := Lib.hid (HF.out.trans hf (fun _ _ h => h)); clear hf)))
    go_ret
    exact ⟨rfl, HF.out.below (Nat.le_refl _) (fun _ _ h => h)⟩
end Go.Proofs.YthnhieikeigjcaaDoor
