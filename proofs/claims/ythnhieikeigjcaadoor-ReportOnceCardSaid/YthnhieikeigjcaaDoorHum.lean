/- The walks of Human, the program's and the reference's. -/
import Derived.Test.YthnhieikeigjcaaDoorDg
import Derived.Deep.RegionHeld3
namespace Go.Proofs.YthnhieikeigjcaaDoor
open Go.RowKit

/-- The unit of a size, and its letter. -/
def unitN (m : Nat) : Nat := if m < 1048576 then 1024 else if m < 1073741824 then 1048576 else 1073741824
def letB (m : Nat) : ByteArray := if m < 1048576 then ⟨#[75]⟩ else if m < 1073741824 then ⟨#[77]⟩ else ⟨#[71]⟩
/-- A size as people read it. -/
def humB (m : Nat) : ByteArray := if m < 1024 then digB m ++ ⟨#[66]⟩ else digB (m / unitN m) ++ ⟨#[46]⟩ ++ digB (m % unitN m * 10 / unitN m) ++ letB m
theorem hum_lo {m : Nat} (h : m < 1024) : humB m = digB m ++ ⟨#[66]⟩ := by unfold humB; rw [if_pos h]
theorem hum_k {m : Nat} (h : 1024 ≤ m) (h2 : m < 1048576) : humB m = digB (m / 1024) ++ ⟨#[46]⟩ ++ digB (m % 1024 * 10 / 1024) ++ ⟨#[75]⟩ := by
  unfold humB unitN letB; rw [if_neg (by omega), if_pos h2, if_pos h2]
theorem hum_m {m : Nat} (h : 1048576 ≤ m) (h2 : m < 1073741824) : humB m = digB (m / 1048576) ++ ⟨#[46]⟩ ++ digB (m % 1048576 * 10 / 1048576) ++ ⟨#[77]⟩ := by
  unfold humB unitN letB; rw [if_neg (by omega), if_neg (by omega), if_pos h2, if_neg (by omega), if_pos h2]
theorem hum_g {m : Nat} (h : 1073741824 ≤ m) : humB m = digB (m / 1073741824) ++ ⟨#[46]⟩ ++ digB (m % 1073741824 * 10 / 1073741824) ++ ⟨#[71]⟩ := by
  unfold humB unitN letB; rw [if_neg (by omega), if_neg (by omega), if_neg (by omega), if_neg (by omega), if_neg (by omega)]

theorem human_lo (n : Int) (m : Nat) (hm : max n 0 = (m : Int)) (h : m < 1024) (w : World) (ht : TB w) :
    Calls Tryd.prog 9 #[.int .i64 n] w fun e w' => e = .returned (.string (humB m)) ∧ Fr (fun _ => False) w w' := by
  have h1 : decide ((m : Int) < 1024) = true := by simp; omega
  have z := digB_size m (by omega)
  have HI := Lib.hid (itoa_spec m (by omega) w ht)
  have HE := Lib.hid (hum_lo h)
  clear ht h
  go_enter Tryd.func9, Tryd.ntmps9
  go_wp2_with (go_at_call 20; refine HI.out.mono ?_; rintro e w1 ⟨rfl, hf1⟩)
  have he := HE.out
  go_ret
  exact ⟨by rw [he]; rfl, hf1⟩
theorem rhuman_lo (m : Nat) (h : m < 1024) (w : World) :
    Calls Tryd.prog 10 #[.int .i64 m] w fun e w' => e = .returned (.string (humB m)) ∧ Fr (fun _ => False) w w' := by
  have h1 : decide ((m : Int) < 1024) = true := by simp; omega
  have z := digB_size m (by omega)
  have HI := Lib.hid (digits_pos m (by omega) w)
  have HE := Lib.hid (hum_lo h)
  clear h
  go_enter Tryd.func10, Tryd.ntmps10
  go_wp2_with (go_at_call 21; refine HI.out.mono ?_; rintro e w1 ⟨rfl, hf1⟩)
  have he := HE.out
  go_ret
  exact ⟨by rw [he]; rfl, hf1⟩
theorem rhuman_neg (n : Int) (h : n < 0) (w : World) :
    Calls Tryd.prog 10 #[.int .i64 n] w fun e w' => e = .returned (.string (humB 0)) ∧ Fr (fun _ => False) w w' := by
  have h1 : decide (n < 1024) = true := by simp; omega
  have z := digB_size 0 (by omega)
  have HI := Lib.hid (digits_neg n h w)
  have HE := Lib.hid (hum_lo (m := 0) (by omega))
  clear h
  go_enter Tryd.func10, Tryd.ntmps10
  go_wp2_with (go_at_call 21; refine HI.out.mono ?_; rintro e w1 ⟨rfl, hf1⟩)
  have he := HE.out
  go_ret
  exact ⟨by rw [he]; rfl, hf1⟩
set_option maxRecDepth 100000 in
set_option maxHeartbeats 4000000 in
theorem human_k (n : Int) (m : Nat) (hm : max n 0 = (m : Int)) (h0 : 1024 ≤ m) (h1 : m < 1048576) (w : World) (ht : TB w) :
    Calls Tryd.prog 9 #[.int .i64 n] w fun e w' => e = .returned (.string (humB m)) ∧ Fr (fun _ => False) w w' := by
  have c1 : decide ((m : Int) < 1024) = false := by simp; omega
  have c3 : decide ((1073741824 : Int) ≤ m) = false := by simp; omega
  have c2 : decide ((1048576 : Int) ≤ m) = false := by simp; omega
  have z1 := digB_size (m / 1024) (by omega)
  have z2 := digB_size (m % 1024 * 10 / 1024) (by omega)
  have HE := Lib.hid (hum_k h0 h1)
  have HA := Lib.hid (fun wx (hx : TB wx) => itoa_at ((m : Int) / 1024) (m / 1024) (by omega) (by omega) wx hx)
  have HB := Lib.hid (fun wx (hx : TB wx) => itoa_at ((m : Int) % 1024 * 10 / 1024) (m % 1024 * 10 / 1024) (by omega) (by omega) wx hx)
  have HT := Lib.hid ht
  have HF := Lib.hid (Fr.refl (fun _ => False) w)
  have m0 : (0 : Int) ≤ m := by omega
  have m1 : (m : Int) ≤ 9223372036854775807 := by omega
  have e1 : IntKind.i64.wrap ((m : Int) / 1024) = (m : Int) / 1024 := IntWalk.i64_in _ (by omega)
  have e2 : (m : Int).tmod 1024 = (m : Int) % 1024 := Int.tmod_eq_emod_of_nonneg m0
  have e3 : IntKind.i64.wrap ((m : Int) % 1024 * 10) = (m : Int) % 1024 * 10 := IntWalk.i64_in _ (by omega)
  have e4 : IntKind.i64.wrap ((m : Int) % 1024 * 10 / 1024) = (m : Int) % 1024 * 10 / 1024 := IntWalk.i64_in _ (by omega)
  have e5 : ((m : Int) % 1024 * 10).tdiv 1024 = (m : Int) % 1024 * 10 / 1024 := Int.tdiv_eq_ediv_of_nonneg (by omega)
  have e6 : IntKind.i64.wrap 1 = 1 := by decide
  have hsl : ∀ wx, (Instr.slice 9 (.string ⟨#[75, 77, 71]⟩) (some (.int .i64 0)) (some (.int .i64 1)) none).run Tryd.prog wx = .ok (.string ⟨#[75]⟩) wx := fun _ => by kernel_rfl
  clear h0 h1 ht
  go_enter Tryd.func9, Tryd.ntmps9
  go_wp2_with (fail)
  have HF := Lib.hid HF.out.drew
  go_region_with ((go_at_call 20; first | ((with_reducible refine (HA.out _ (HT.out.fr HF.out)).mono ?_); rintro e w1 ⟨rfl, hf⟩; have HF := Lib.hid (HF.out.trans hf (fun _ _ h => h)); clear hf) | ((with_reducible refine (HB.out _ (HT.out.fr HF.out)).mono ?_); rintro e w2 ⟨rfl, hf⟩; have HF := Lib.hid (HF.out.trans hf (fun _ _ h => h)); clear hf)))
  all_goals clear e1 e2 e3 e4 e5 e6 hsl
  all_goals go_wp2_with (fail)
  all_goals have he := HE.out
  all_goals go_ret
  all_goals exact ⟨by rw [he]; rfl, HF.out⟩
set_option maxRecDepth 100000 in
set_option maxHeartbeats 4000000 in
theorem human_m (n : Int) (m : Nat) (hm : max n 0 = (m : Int)) (h0 : 1048576 ≤ m) (h1 : m < 1073741824) (w : World) (ht : TB w) :
    Calls Tryd.prog 9 #[.int .i64 n] w fun e w' => e = .returned (.string (humB m)) ∧ Fr (fun _ => False) w w' := by
  have c1 : decide ((m : Int) < 1024) = false := by simp; omega
  have c3 : decide ((1073741824 : Int) ≤ m) = false := by simp; omega
  have c2 : decide ((1048576 : Int) ≤ m) = true := by simp; omega
  have z1 := digB_size (m / 1048576) (by omega)
  have z2 := digB_size (m % 1048576 * 10 / 1048576) (by omega)
  have HE := Lib.hid (hum_m h0 h1)
  have HA := Lib.hid (fun wx (hx : TB wx) => itoa_at ((m : Int) / 1048576) (m / 1048576) (by omega) (by omega) wx hx)
  have HB := Lib.hid (fun wx (hx : TB wx) => itoa_at ((m : Int) % 1048576 * 10 / 1048576) (m % 1048576 * 10 / 1048576) (by omega) (by omega) wx hx)
  have HT := Lib.hid ht
  have HF := Lib.hid (Fr.refl (fun _ => False) w)
  have m0 : (0 : Int) ≤ m := by omega
  have m1 : (m : Int) ≤ 9223372036854775807 := by omega
  have e1 : IntKind.i64.wrap ((m : Int) / 1048576) = (m : Int) / 1048576 := IntWalk.i64_in _ (by omega)
  have e2 : (m : Int).tmod 1048576 = (m : Int) % 1048576 := Int.tmod_eq_emod_of_nonneg m0
  have e3 : IntKind.i64.wrap ((m : Int) % 1048576 * 10) = (m : Int) % 1048576 * 10 := IntWalk.i64_in _ (by omega)
  have e4 : IntKind.i64.wrap ((m : Int) % 1048576 * 10 / 1048576) = (m : Int) % 1048576 * 10 / 1048576 := IntWalk.i64_in _ (by omega)
  have e5 : ((m : Int) % 1048576 * 10).tdiv 1048576 = (m : Int) % 1048576 * 10 / 1048576 := Int.tdiv_eq_ediv_of_nonneg (by omega)
  have e6 : IntKind.i64.wrap 2 = 2 := by decide
  have hsl : ∀ wx, (Instr.slice 9 (.string ⟨#[75, 77, 71]⟩) (some (.int .i64 1)) (some (.int .i64 2)) none).run Tryd.prog wx = .ok (.string ⟨#[77]⟩) wx := fun _ => by kernel_rfl
  clear h0 h1 ht
  go_enter Tryd.func9, Tryd.ntmps9
  go_wp2_with (fail)
  have HF := Lib.hid HF.out.drew
  go_region_with ((go_at_call 20; first | ((with_reducible refine (HA.out _ (HT.out.fr HF.out)).mono ?_); rintro e w1 ⟨rfl, hf⟩; have HF := Lib.hid (HF.out.trans hf (fun _ _ h => h)); clear hf) | ((with_reducible refine (HB.out _ (HT.out.fr HF.out)).mono ?_); rintro e w2 ⟨rfl, hf⟩; have HF := Lib.hid (HF.out.trans hf (fun _ _ h => h)); clear hf)))
  all_goals clear e1 e2 e3 e4 e5 e6 hsl
  all_goals go_wp2_with (fail)
  all_goals have he := HE.out
  all_goals go_ret
  all_goals exact ⟨by rw [he]; rfl, HF.out⟩
set_option maxRecDepth 100000 in
set_option maxHeartbeats 4000000 in
theorem human_g (n : Int) (m : Nat) (hm : max n 0 = (m : Int)) (h0 : 1073741824 ≤ m) (h1 : m ≤ 9223372036854775807) (w : World) (ht : TB w) :
    Calls Tryd.prog 9 #[.int .i64 n] w fun e w' => e = .returned (.string (humB m)) ∧ Fr (fun _ => False) w w' := by
  have c1 : decide ((m : Int) < 1024) = false := by simp; omega
  have c3 : decide ((1073741824 : Int) ≤ m) = true := by simp; omega
  have z1 := digB_size (m / 1073741824) (by omega)
  have z2 := digB_size (m % 1073741824 * 10 / 1073741824) (by omega)
  have HE := Lib.hid (hum_g h0)
  have HA := Lib.hid (fun wx (hx : TB wx) => itoa_at ((m : Int) / 1073741824) (m / 1073741824) (by omega) (by omega) wx hx)
  have HB := Lib.hid (fun wx (hx : TB wx) => itoa_at ((m : Int) % 1073741824 * 10 / 1073741824) (m % 1073741824 * 10 / 1073741824) (by omega) (by omega) wx hx)
  have HT := Lib.hid ht
  have HF := Lib.hid (Fr.refl (fun _ => False) w)
  have m0 : (0 : Int) ≤ m := by omega
  have m1 : (m : Int) ≤ 9223372036854775807 := by omega
  have e1 : IntKind.i64.wrap ((m : Int) / 1073741824) = (m : Int) / 1073741824 := IntWalk.i64_in _ (by omega)
  have e2 : (m : Int).tmod 1073741824 = (m : Int) % 1073741824 := Int.tmod_eq_emod_of_nonneg m0
  have e3 : IntKind.i64.wrap ((m : Int) % 1073741824 * 10) = (m : Int) % 1073741824 * 10 := IntWalk.i64_in _ (by omega)
  have e4 : IntKind.i64.wrap ((m : Int) % 1073741824 * 10 / 1073741824) = (m : Int) % 1073741824 * 10 / 1073741824 := IntWalk.i64_in _ (by omega)
  have e5 : ((m : Int) % 1073741824 * 10).tdiv 1073741824 = (m : Int) % 1073741824 * 10 / 1073741824 := Int.tdiv_eq_ediv_of_nonneg (by omega)
  have e6 : IntKind.i64.wrap 3 = 3 := by decide
  have hsl : ∀ wx, (Instr.slice 9 (.string ⟨#[75, 77, 71]⟩) (some (.int .i64 2)) (some (.int .i64 3)) none).run Tryd.prog wx = .ok (.string ⟨#[71]⟩) wx := fun _ => by kernel_rfl
  clear h0 h1 ht
  go_enter Tryd.func9, Tryd.ntmps9
  go_wp2_with (fail)
  have HF := Lib.hid HF.out.drew
  go_region_with ((go_at_call 20; first | ((with_reducible refine (HA.out _ (HT.out.fr HF.out)).mono ?_); rintro e w1 ⟨rfl, hf⟩; have HF := Lib.hid (HF.out.trans hf (fun _ _ h => h)); clear hf) | ((with_reducible refine (HB.out _ (HT.out.fr HF.out)).mono ?_); rintro e w2 ⟨rfl, hf⟩; have HF := Lib.hid (HF.out.trans hf (fun _ _ h => h)); clear hf)))
  all_goals clear e1 e2 e3 e4 e5 e6 hsl
  all_goals go_wp2_with (fail)
  all_goals have he := HE.out
  all_goals go_ret
  all_goals exact ⟨by rw [he]; rfl, HF.out⟩
set_option maxRecDepth 100000 in
set_option maxHeartbeats 4000000 in
theorem rhuman_k (m : Nat) (h0 : 1024 ≤ m) (h1 : m < 1048576) (w : World) :
    Calls Tryd.prog 10 #[.int .i64 m] w fun e w' => e = .returned (.string (humB m)) ∧ Fr (fun _ => False) w w' := by
  have c1 : decide ((m : Int) < 1024) = false := by simp; omega
  have c2 : decide ((1048576 : Int) ≤ m) = false := by simp; omega
  have c3 : decide ((1073741824 : Int) ≤ m) = false := by simp; omega
  have z1 := digB_size (m / 1024) (by omega)
  have z2 := digB_size (m % 1024 * 10 / 1024) (by omega)
  have HE := Lib.hid (hum_k h0 h1)
  have HA := Lib.hid (fun wx => digits_at ((m : Int) / 1024) (m / 1024) (by omega) (by omega) wx)
  have HB := Lib.hid (fun wx => digits_at ((m : Int) % 1024 * 10 / 1024) (m % 1024 * 10 / 1024) (by omega) (by omega) wx)
  have HF := Lib.hid (Fr.refl (fun _ => False) w)
  have m0 : (0 : Int) ≤ m := by omega
  have m1 : (m : Int) ≤ 9223372036854775807 := by omega
  have e1 : IntKind.i64.wrap ((m : Int) / 1024) = (m : Int) / 1024 := IntWalk.i64_in _ (by omega)
  have e2 : (m : Int).tmod 1024 = (m : Int) % 1024 := Int.tmod_eq_emod_of_nonneg m0
  have e3 : IntKind.i64.wrap ((m : Int) % 1024 * 10) = (m : Int) % 1024 * 10 := IntWalk.i64_in _ (by omega)
  have e4 : IntKind.i64.wrap ((m : Int) % 1024 * 10 / 1024) = (m : Int) % 1024 * 10 / 1024 := IntWalk.i64_in _ (by omega)
  have e5 : ((m : Int) % 1024 * 10).tdiv 1024 = (m : Int) % 1024 * 10 / 1024 := Int.tdiv_eq_ediv_of_nonneg (by omega)
  clear h0 h1
  go_enter Tryd.func10, Tryd.ntmps10
  go_wp2_with (fail)
  have HF := Lib.hid HF.out.drew
  go_region_with ((go_at_call 21; first | ((with_reducible refine (HA.out _).mono ?_); rintro e w1 ⟨rfl, hf⟩; have HF := Lib.hid (HF.out.trans hf (fun _ _ h => h)); clear hf) | ((with_reducible refine (HB.out _).mono ?_); rintro e w2 ⟨rfl, hf⟩; have HF := Lib.hid (HF.out.trans hf (fun _ _ h => h)); clear hf)))
  all_goals clear e1 e2 e3 e4 e5
  all_goals go_wp2_with (fail)
  all_goals have he := HE.out
  all_goals go_ret
  all_goals exact ⟨by rw [he]; rfl, HF.out⟩
set_option maxRecDepth 100000 in
set_option maxHeartbeats 4000000 in
theorem rhuman_m (m : Nat) (h0 : 1048576 ≤ m) (h1 : m < 1073741824) (w : World) :
    Calls Tryd.prog 10 #[.int .i64 m] w fun e w' => e = .returned (.string (humB m)) ∧ Fr (fun _ => False) w w' := by
  have c1 : decide ((m : Int) < 1024) = false := by simp; omega
  have c2 : decide ((1048576 : Int) ≤ m) = true := by simp; omega
  have c3 : decide ((1073741824 : Int) ≤ m) = false := by simp; omega
  have z1 := digB_size (m / 1048576) (by omega)
  have z2 := digB_size (m % 1048576 * 10 / 1048576) (by omega)
  have HE := Lib.hid (hum_m h0 h1)
  have HA := Lib.hid (fun wx => digits_at ((m : Int) / 1048576) (m / 1048576) (by omega) (by omega) wx)
  have HB := Lib.hid (fun wx => digits_at ((m : Int) % 1048576 * 10 / 1048576) (m % 1048576 * 10 / 1048576) (by omega) (by omega) wx)
  have HF := Lib.hid (Fr.refl (fun _ => False) w)
  have m0 : (0 : Int) ≤ m := by omega
  have m1 : (m : Int) ≤ 9223372036854775807 := by omega
  have e1 : IntKind.i64.wrap ((m : Int) / 1048576) = (m : Int) / 1048576 := IntWalk.i64_in _ (by omega)
  have e2 : (m : Int).tmod 1048576 = (m : Int) % 1048576 := Int.tmod_eq_emod_of_nonneg m0
  have e3 : IntKind.i64.wrap ((m : Int) % 1048576 * 10) = (m : Int) % 1048576 * 10 := IntWalk.i64_in _ (by omega)
  have e4 : IntKind.i64.wrap ((m : Int) % 1048576 * 10 / 1048576) = (m : Int) % 1048576 * 10 / 1048576 := IntWalk.i64_in _ (by omega)
  have e5 : ((m : Int) % 1048576 * 10).tdiv 1048576 = (m : Int) % 1048576 * 10 / 1048576 := Int.tdiv_eq_ediv_of_nonneg (by omega)
  clear h0 h1
  go_enter Tryd.func10, Tryd.ntmps10
  go_wp2_with (fail)
  have HF := Lib.hid HF.out.drew
  go_region_with ((go_at_call 21; first | ((with_reducible refine (HA.out _).mono ?_); rintro e w1 ⟨rfl, hf⟩; have HF := Lib.hid (HF.out.trans hf (fun _ _ h => h)); clear hf) | ((with_reducible refine (HB.out _).mono ?_); rintro e w2 ⟨rfl, hf⟩; have HF := Lib.hid (HF.out.trans hf (fun _ _ h => h)); clear hf)))
  all_goals clear e1 e2 e3 e4 e5
  all_goals go_wp2_with (fail)
  all_goals have he := HE.out
  all_goals go_ret
  all_goals exact ⟨by rw [he]; rfl, HF.out⟩
set_option maxRecDepth 100000 in
set_option maxHeartbeats 4000000 in
theorem rhuman_g (m : Nat) (h0 : 1073741824 ≤ m) (h1 : m ≤ 9223372036854775807) (w : World) :
    Calls Tryd.prog 10 #[.int .i64 m] w fun e w' => e = .returned (.string (humB m)) ∧ Fr (fun _ => False) w w' := by
  have c1 : decide ((m : Int) < 1024) = false := by simp; omega
  have c2 : decide ((1048576 : Int) ≤ m) = true := by simp; omega
  have c3 : decide ((1073741824 : Int) ≤ m) = true := by simp; omega
  have z1 := digB_size (m / 1073741824) (by omega)
  have z2 := digB_size (m % 1073741824 * 10 / 1073741824) (by omega)
  have HE := Lib.hid (hum_g h0)
  have HA := Lib.hid (fun wx => digits_at ((m : Int) / 1073741824) (m / 1073741824) (by omega) (by omega) wx)
  have HB := Lib.hid (fun wx => digits_at ((m : Int) % 1073741824 * 10 / 1073741824) (m % 1073741824 * 10 / 1073741824) (by omega) (by omega) wx)
  have HF := Lib.hid (Fr.refl (fun _ => False) w)
  have m0 : (0 : Int) ≤ m := by omega
  have m1 : (m : Int) ≤ 9223372036854775807 := by omega
  have e1 : IntKind.i64.wrap ((m : Int) / 1073741824) = (m : Int) / 1073741824 := IntWalk.i64_in _ (by omega)
  have e2 : (m : Int).tmod 1073741824 = (m : Int) % 1073741824 := Int.tmod_eq_emod_of_nonneg m0
  have e3 : IntKind.i64.wrap ((m : Int) % 1073741824 * 10) = (m : Int) % 1073741824 * 10 := IntWalk.i64_in _ (by omega)
  have e4 : IntKind.i64.wrap ((m : Int) % 1073741824 * 10 / 1073741824) = (m : Int) % 1073741824 * 10 / 1073741824 := IntWalk.i64_in _ (by omega)
  have e5 : ((m : Int) % 1073741824 * 10).tdiv 1073741824 = (m : Int) % 1073741824 * 10 / 1073741824 := Int.tdiv_eq_ediv_of_nonneg (by omega)
  clear h0 h1
  go_enter Tryd.func10, Tryd.ntmps10
  go_wp2_with (fail)
  have HF := Lib.hid HF.out.drew
  go_region_with ((go_at_call 21; first | ((with_reducible refine (HA.out _).mono ?_); rintro e w1 ⟨rfl, hf⟩; have HF := Lib.hid (HF.out.trans hf (fun _ _ h => h)); clear hf) | ((with_reducible refine (HB.out _).mono ?_); rintro e w2 ⟨rfl, hf⟩; have HF := Lib.hid (HF.out.trans hf (fun _ _ h => h)); clear hf)))
  all_goals clear e1 e2 e3 e4 e5
  all_goals go_wp2_with (fail)
  all_goals have he := HE.out
  all_goals go_ret
  all_goals exact ⟨by rw [he]; rfl, HF.out⟩

/-- Human: the program's. -/
theorem human_spec (n : Int) (hn : n ≤ 9223372036854775807) (w : World) (ht : TB w) :
    Calls Tryd.prog 9 #[.int .i64 n] w fun e w' => e = .returned (.string (humB n.toNat)) ∧ Fr (fun _ => False) w w' := by
  have hm : max n 0 = (n.toNat : Int) := by omega
  by_cases h1 : n.toNat < 1024
  · exact human_lo n _ hm h1 w ht
  by_cases h2 : n.toNat < 1048576
  · exact human_k n _ hm (by omega) h2 w ht
  by_cases h3 : n.toNat < 1073741824
  · exact human_m n _ hm (by omega) h3 w ht
  · exact human_g n _ hm (by omega) (by omega) w ht
/-- Human: the reference's. -/
theorem rhuman_spec (n : Int) (hn : n ≤ 9223372036854775807) (w : World) :
    Calls Tryd.prog 10 #[.int .i64 n] w fun e w' => e = .returned (.string (humB n.toNat)) ∧ Fr (fun _ => False) w w' := by
  by_cases h0 : n < 0
  · have := rhuman_neg n h0 w
    rwa [show n.toNat = 0 by omega]
  obtain ⟨m, rfl⟩ := Int.eq_ofNat_of_zero_le (show 0 ≤ n by omega)
  rw [show ((m : Nat) : Int).toNat = m by omega]
  by_cases h1 : m < 1024
  · exact rhuman_lo m h1 w
  by_cases h2 : m < 1048576
  · exact rhuman_k m (by omega) h2 w
  by_cases h3 : m < 1073741824
  · exact rhuman_m m (by omega) h3 w
  · exact rhuman_g m (by omega) (by omega) w
end Go.Proofs.YthnhieikeigjcaaDoor
