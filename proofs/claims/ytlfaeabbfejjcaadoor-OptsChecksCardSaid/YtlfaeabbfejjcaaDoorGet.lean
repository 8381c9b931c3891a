/- The walks of the fields' get. -/
import Derived.Test.YtlfaeabbfejjcaaDoorAt
namespace Go.Proofs.YtlfaeabbfejjcaaDoor
open Go.RowKit

theorem get_spec0 (o b : Nat) (f : Nat → Int) (w : World) (hb : Blk w b 58 #[.func (.func 28) #[] #[]]) (ho : Blk w o 23 (ocells f)) :
    Calls Tryd.prog 57 #[.pointer (some ⟨o, 0, none⟩), .pointer (some ⟨b, 0, none⟩)] w fun e w' => e = .returned (.int .i64 (f 0)) ∧ w = w' := by
  have c := hb.cell 0 (v := .func (.func 28) #[] #[]) rfl
  have d := ho.cell 0 (v := .int .i64 (f 0)) rfl
  clear hb ho
  go_enter Tryd.func57, Tryd.ntmps57
  go_wp2_with (go_at_call 28; refine (at_spec0 _ _).mono ?_; rintro e w' ⟨rfl, rfl⟩)
  go_ret
  exact ⟨rfl, rfl⟩
theorem get_spec1 (o b : Nat) (f : Nat → Int) (w : World) (hb : Blk w b 58 #[.func (.func 29) #[] #[]]) (ho : Blk w o 23 (ocells f)) :
    Calls Tryd.prog 57 #[.pointer (some ⟨o, 0, none⟩), .pointer (some ⟨b, 0, none⟩)] w fun e w' => e = .returned (.int .i64 (f 1)) ∧ w = w' := by
  have c := hb.cell 0 (v := .func (.func 29) #[] #[]) rfl
  have d := ho.cell 1 (v := .int .i64 (f 1)) rfl
  clear hb ho
  go_enter Tryd.func57, Tryd.ntmps57
  go_wp2_with (go_at_call 29; refine (at_spec1 _ _).mono ?_; rintro e w' ⟨rfl, rfl⟩)
  go_ret
  exact ⟨rfl, rfl⟩
theorem get_spec2 (o b : Nat) (f : Nat → Int) (w : World) (hb : Blk w b 61 #[.func (.func 31) #[] #[]]) (ho : Blk w o 23 (ocells f)) :
    Calls Tryd.prog 59 #[.pointer (some ⟨o, 0, none⟩), .pointer (some ⟨b, 0, none⟩)] w fun e w' => e = .returned (.int .i64 (if f 2 = 1 then 1 else 0)) ∧ w = w' := by
  have c := hb.cell 0 (v := .func (.func 31) #[] #[]) rfl
  have d := ho.cell 2 (v := .bool (f 2 == 1)) rfl
  clear hb ho
  by_cases h1 : f 2 = 1
  · have e1 : (f 2 == 1) = true := by simpa using h1
    rw [if_pos h1]
    rw [e1] at d
    clear h1 e1
    go_enter Tryd.func59, Tryd.ntmps59
    go_wp2_with (go_at_call 31; refine (at_spec2 _ _).mono ?_; rintro e w' ⟨rfl, rfl⟩)
    go_ret
    exact ⟨rfl, rfl⟩
  · have e1 : (f 2 == 1) = false := by simpa using h1
    rw [if_neg h1]
    rw [e1] at d
    clear h1 e1
    go_enter Tryd.func59, Tryd.ntmps59
    go_wp2_with (go_at_call 31; refine (at_spec2 _ _).mono ?_; rintro e w' ⟨rfl, rfl⟩)
    go_ret
    exact ⟨rfl, rfl⟩
theorem get_spec3 (o b : Nat) (f : Nat → Int) (w : World) (hb : Blk w b 61 #[.func (.func 32) #[] #[]]) (ho : Blk w o 23 (ocells f)) :
    Calls Tryd.prog 59 #[.pointer (some ⟨o, 0, none⟩), .pointer (some ⟨b, 0, none⟩)] w fun e w' => e = .returned (.int .i64 (if f 3 = 1 then 1 else 0)) ∧ w = w' := by
  have c := hb.cell 0 (v := .func (.func 32) #[] #[]) rfl
  have d := ho.cell 3 (v := .bool (f 3 == 1)) rfl
  clear hb ho
  by_cases h1 : f 3 = 1
  · have e1 : (f 3 == 1) = true := by simpa using h1
    rw [if_pos h1]
    rw [e1] at d
    clear h1 e1
    go_enter Tryd.func59, Tryd.ntmps59
    go_wp2_with (go_at_call 32; refine (at_spec3 _ _).mono ?_; rintro e w' ⟨rfl, rfl⟩)
    go_ret
    exact ⟨rfl, rfl⟩
  · have e1 : (f 3 == 1) = false := by simpa using h1
    rw [if_neg h1]
    rw [e1] at d
    clear h1 e1
    go_enter Tryd.func59, Tryd.ntmps59
    go_wp2_with (go_at_call 32; refine (at_spec3 _ _).mono ?_; rintro e w' ⟨rfl, rfl⟩)
    go_ret
    exact ⟨rfl, rfl⟩
theorem get_spec4 (o b : Nat) (f : Nat → Int) (w : World) (hb : Blk w b 61 #[.func (.func 33) #[] #[]]) (ho : Blk w o 23 (ocells f)) :
    Calls Tryd.prog 59 #[.pointer (some ⟨o, 0, none⟩), .pointer (some ⟨b, 0, none⟩)] w fun e w' => e = .returned (.int .i64 (if f 4 = 1 then 1 else 0)) ∧ w = w' := by
  have c := hb.cell 0 (v := .func (.func 33) #[] #[]) rfl
  have d := ho.cell 4 (v := .bool (f 4 == 1)) rfl
  clear hb ho
  by_cases h1 : f 4 = 1
  · have e1 : (f 4 == 1) = true := by simpa using h1
    rw [if_pos h1]
    rw [e1] at d
    clear h1 e1
    go_enter Tryd.func59, Tryd.ntmps59
    go_wp2_with (go_at_call 33; refine (at_spec4 _ _).mono ?_; rintro e w' ⟨rfl, rfl⟩)
    go_ret
    exact ⟨rfl, rfl⟩
  · have e1 : (f 4 == 1) = false := by simpa using h1
    rw [if_neg h1]
    rw [e1] at d
    clear h1 e1
    go_enter Tryd.func59, Tryd.ntmps59
    go_wp2_with (go_at_call 33; refine (at_spec4 _ _).mono ?_; rintro e w' ⟨rfl, rfl⟩)
    go_ret
    exact ⟨rfl, rfl⟩
theorem get_spec5 (o b : Nat) (f : Nat → Int) (w : World) (hb : Blk w b 61 #[.func (.func 34) #[] #[]]) (ho : Blk w o 23 (ocells f)) :
    Calls Tryd.prog 59 #[.pointer (some ⟨o, 0, none⟩), .pointer (some ⟨b, 0, none⟩)] w fun e w' => e = .returned (.int .i64 (if f 5 = 1 then 1 else 0)) ∧ w = w' := by
  have c := hb.cell 0 (v := .func (.func 34) #[] #[]) rfl
  have d := ho.cell 5 (v := .bool (f 5 == 1)) rfl
  clear hb ho
  by_cases h1 : f 5 = 1
  · have e1 : (f 5 == 1) = true := by simpa using h1
    rw [if_pos h1]
    rw [e1] at d
    clear h1 e1
    go_enter Tryd.func59, Tryd.ntmps59
    go_wp2_with (go_at_call 34; refine (at_spec5 _ _).mono ?_; rintro e w' ⟨rfl, rfl⟩)
    go_ret
    exact ⟨rfl, rfl⟩
  · have e1 : (f 5 == 1) = false := by simpa using h1
    rw [if_neg h1]
    rw [e1] at d
    clear h1 e1
    go_enter Tryd.func59, Tryd.ntmps59
    go_wp2_with (go_at_call 34; refine (at_spec5 _ _).mono ?_; rintro e w' ⟨rfl, rfl⟩)
    go_ret
    exact ⟨rfl, rfl⟩
theorem get_spec6 (o b : Nat) (f : Nat → Int) (w : World) (hb : Blk w b 61 #[.func (.func 35) #[] #[]]) (ho : Blk w o 23 (ocells f)) :
    Calls Tryd.prog 59 #[.pointer (some ⟨o, 0, none⟩), .pointer (some ⟨b, 0, none⟩)] w fun e w' => e = .returned (.int .i64 (if f 6 = 1 then 1 else 0)) ∧ w = w' := by
  have c := hb.cell 0 (v := .func (.func 35) #[] #[]) rfl
  have d := ho.cell 6 (v := .bool (f 6 == 1)) rfl
  clear hb ho
  by_cases h1 : f 6 = 1
  · have e1 : (f 6 == 1) = true := by simpa using h1
    rw [if_pos h1]
    rw [e1] at d
    clear h1 e1
    go_enter Tryd.func59, Tryd.ntmps59
    go_wp2_with (go_at_call 35; refine (at_spec6 _ _).mono ?_; rintro e w' ⟨rfl, rfl⟩)
    go_ret
    exact ⟨rfl, rfl⟩
  · have e1 : (f 6 == 1) = false := by simpa using h1
    rw [if_neg h1]
    rw [e1] at d
    clear h1 e1
    go_enter Tryd.func59, Tryd.ntmps59
    go_wp2_with (go_at_call 35; refine (at_spec6 _ _).mono ?_; rintro e w' ⟨rfl, rfl⟩)
    go_ret
    exact ⟨rfl, rfl⟩
theorem get_spec7 (o b : Nat) (f : Nat → Int) (w : World) (hb : Blk w b 61 #[.func (.func 36) #[] #[]]) (ho : Blk w o 23 (ocells f)) :
    Calls Tryd.prog 59 #[.pointer (some ⟨o, 0, none⟩), .pointer (some ⟨b, 0, none⟩)] w fun e w' => e = .returned (.int .i64 (if f 7 = 1 then 1 else 0)) ∧ w = w' := by
  have c := hb.cell 0 (v := .func (.func 36) #[] #[]) rfl
  have d := ho.cell 7 (v := .bool (f 7 == 1)) rfl
  clear hb ho
  by_cases h1 : f 7 = 1
  · have e1 : (f 7 == 1) = true := by simpa using h1
    rw [if_pos h1]
    rw [e1] at d
    clear h1 e1
    go_enter Tryd.func59, Tryd.ntmps59
    go_wp2_with (go_at_call 36; refine (at_spec7 _ _).mono ?_; rintro e w' ⟨rfl, rfl⟩)
    go_ret
    exact ⟨rfl, rfl⟩
  · have e1 : (f 7 == 1) = false := by simpa using h1
    rw [if_neg h1]
    rw [e1] at d
    clear h1 e1
    go_enter Tryd.func59, Tryd.ntmps59
    go_wp2_with (go_at_call 36; refine (at_spec7 _ _).mono ?_; rintro e w' ⟨rfl, rfl⟩)
    go_ret
    exact ⟨rfl, rfl⟩
theorem get_spec8 (o b : Nat) (f : Nat → Int) (w : World) (hb : Blk w b 61 #[.func (.func 37) #[] #[]]) (ho : Blk w o 23 (ocells f)) :
    Calls Tryd.prog 59 #[.pointer (some ⟨o, 0, none⟩), .pointer (some ⟨b, 0, none⟩)] w fun e w' => e = .returned (.int .i64 (if f 8 = 1 then 1 else 0)) ∧ w = w' := by
  have c := hb.cell 0 (v := .func (.func 37) #[] #[]) rfl
  have d := ho.cell 8 (v := .bool (f 8 == 1)) rfl
  clear hb ho
  by_cases h1 : f 8 = 1
  · have e1 : (f 8 == 1) = true := by simpa using h1
    rw [if_pos h1]
    rw [e1] at d
    clear h1 e1
    go_enter Tryd.func59, Tryd.ntmps59
    go_wp2_with (go_at_call 37; refine (at_spec8 _ _).mono ?_; rintro e w' ⟨rfl, rfl⟩)
    go_ret
    exact ⟨rfl, rfl⟩
  · have e1 : (f 8 == 1) = false := by simpa using h1
    rw [if_neg h1]
    rw [e1] at d
    clear h1 e1
    go_enter Tryd.func59, Tryd.ntmps59
    go_wp2_with (go_at_call 37; refine (at_spec8 _ _).mono ?_; rintro e w' ⟨rfl, rfl⟩)
    go_ret
    exact ⟨rfl, rfl⟩
theorem get_spec9 (o b : Nat) (f : Nat → Int) (w : World) (hb : Blk w b 61 #[.func (.func 38) #[] #[]]) (ho : Blk w o 23 (ocells f)) :
    Calls Tryd.prog 59 #[.pointer (some ⟨o, 0, none⟩), .pointer (some ⟨b, 0, none⟩)] w fun e w' => e = .returned (.int .i64 (if f 9 = 1 then 1 else 0)) ∧ w = w' := by
  have c := hb.cell 0 (v := .func (.func 38) #[] #[]) rfl
  have d := ho.cell 9 (v := .bool (f 9 == 1)) rfl
  clear hb ho
  by_cases h1 : f 9 = 1
  · have e1 : (f 9 == 1) = true := by simpa using h1
    rw [if_pos h1]
    rw [e1] at d
    clear h1 e1
    go_enter Tryd.func59, Tryd.ntmps59
    go_wp2_with (go_at_call 38; refine (at_spec9 _ _).mono ?_; rintro e w' ⟨rfl, rfl⟩)
    go_ret
    exact ⟨rfl, rfl⟩
  · have e1 : (f 9 == 1) = false := by simpa using h1
    rw [if_neg h1]
    rw [e1] at d
    clear h1 e1
    go_enter Tryd.func59, Tryd.ntmps59
    go_wp2_with (go_at_call 38; refine (at_spec9 _ _).mono ?_; rintro e w' ⟨rfl, rfl⟩)
    go_ret
    exact ⟨rfl, rfl⟩
theorem get_spec10 (o b : Nat) (f : Nat → Int) (w : World) (hb : Blk w b 61 #[.func (.func 39) #[] #[]]) (ho : Blk w o 23 (ocells f)) :
    Calls Tryd.prog 59 #[.pointer (some ⟨o, 0, none⟩), .pointer (some ⟨b, 0, none⟩)] w fun e w' => e = .returned (.int .i64 (if f 10 = 1 then 1 else 0)) ∧ w = w' := by
  have c := hb.cell 0 (v := .func (.func 39) #[] #[]) rfl
  have d := ho.cell 10 (v := .bool (f 10 == 1)) rfl
  clear hb ho
  by_cases h1 : f 10 = 1
  · have e1 : (f 10 == 1) = true := by simpa using h1
    rw [if_pos h1]
    rw [e1] at d
    clear h1 e1
    go_enter Tryd.func59, Tryd.ntmps59
    go_wp2_with (go_at_call 39; refine (at_spec10 _ _).mono ?_; rintro e w' ⟨rfl, rfl⟩)
    go_ret
    exact ⟨rfl, rfl⟩
  · have e1 : (f 10 == 1) = false := by simpa using h1
    rw [if_neg h1]
    rw [e1] at d
    clear h1 e1
    go_enter Tryd.func59, Tryd.ntmps59
    go_wp2_with (go_at_call 39; refine (at_spec10 _ _).mono ?_; rintro e w' ⟨rfl, rfl⟩)
    go_ret
    exact ⟨rfl, rfl⟩
theorem get_spec11 (o b : Nat) (f : Nat → Int) (w : World) (hb : Blk w b 61 #[.func (.func 40) #[] #[]]) (ho : Blk w o 23 (ocells f)) :
    Calls Tryd.prog 59 #[.pointer (some ⟨o, 0, none⟩), .pointer (some ⟨b, 0, none⟩)] w fun e w' => e = .returned (.int .i64 (if f 11 = 1 then 1 else 0)) ∧ w = w' := by
  have c := hb.cell 0 (v := .func (.func 40) #[] #[]) rfl
  have d := ho.cell 11 (v := .bool (f 11 == 1)) rfl
  clear hb ho
  by_cases h1 : f 11 = 1
  · have e1 : (f 11 == 1) = true := by simpa using h1
    rw [if_pos h1]
    rw [e1] at d
    clear h1 e1
    go_enter Tryd.func59, Tryd.ntmps59
    go_wp2_with (go_at_call 40; refine (at_spec11 _ _).mono ?_; rintro e w' ⟨rfl, rfl⟩)
    go_ret
    exact ⟨rfl, rfl⟩
  · have e1 : (f 11 == 1) = false := by simpa using h1
    rw [if_neg h1]
    rw [e1] at d
    clear h1 e1
    go_enter Tryd.func59, Tryd.ntmps59
    go_wp2_with (go_at_call 40; refine (at_spec11 _ _).mono ?_; rintro e w' ⟨rfl, rfl⟩)
    go_ret
    exact ⟨rfl, rfl⟩
theorem get_spec12 (o b : Nat) (f : Nat → Int) (w : World) (hb : Blk w b 61 #[.func (.func 41) #[] #[]]) (ho : Blk w o 23 (ocells f)) :
    Calls Tryd.prog 59 #[.pointer (some ⟨o, 0, none⟩), .pointer (some ⟨b, 0, none⟩)] w fun e w' => e = .returned (.int .i64 (if f 12 = 1 then 1 else 0)) ∧ w = w' := by
  have c := hb.cell 0 (v := .func (.func 41) #[] #[]) rfl
  have d := ho.cell 12 (v := .bool (f 12 == 1)) rfl
  clear hb ho
  by_cases h1 : f 12 = 1
  · have e1 : (f 12 == 1) = true := by simpa using h1
    rw [if_pos h1]
    rw [e1] at d
    clear h1 e1
    go_enter Tryd.func59, Tryd.ntmps59
    go_wp2_with (go_at_call 41; refine (at_spec12 _ _).mono ?_; rintro e w' ⟨rfl, rfl⟩)
    go_ret
    exact ⟨rfl, rfl⟩
  · have e1 : (f 12 == 1) = false := by simpa using h1
    rw [if_neg h1]
    rw [e1] at d
    clear h1 e1
    go_enter Tryd.func59, Tryd.ntmps59
    go_wp2_with (go_at_call 41; refine (at_spec12 _ _).mono ?_; rintro e w' ⟨rfl, rfl⟩)
    go_ret
    exact ⟨rfl, rfl⟩
theorem get_spec13 (o b : Nat) (f : Nat → Int) (w : World) (hb : Blk w b 61 #[.func (.func 42) #[] #[]]) (ho : Blk w o 23 (ocells f)) :
    Calls Tryd.prog 59 #[.pointer (some ⟨o, 0, none⟩), .pointer (some ⟨b, 0, none⟩)] w fun e w' => e = .returned (.int .i64 (if f 13 = 1 then 1 else 0)) ∧ w = w' := by
  have c := hb.cell 0 (v := .func (.func 42) #[] #[]) rfl
  have d := ho.cell 13 (v := .bool (f 13 == 1)) rfl
  clear hb ho
  by_cases h1 : f 13 = 1
  · have e1 : (f 13 == 1) = true := by simpa using h1
    rw [if_pos h1]
    rw [e1] at d
    clear h1 e1
    go_enter Tryd.func59, Tryd.ntmps59
    go_wp2_with (go_at_call 42; refine (at_spec13 _ _).mono ?_; rintro e w' ⟨rfl, rfl⟩)
    go_ret
    exact ⟨rfl, rfl⟩
  · have e1 : (f 13 == 1) = false := by simpa using h1
    rw [if_neg h1]
    rw [e1] at d
    clear h1 e1
    go_enter Tryd.func59, Tryd.ntmps59
    go_wp2_with (go_at_call 42; refine (at_spec13 _ _).mono ?_; rintro e w' ⟨rfl, rfl⟩)
    go_ret
    exact ⟨rfl, rfl⟩
theorem get_spec14 (o b : Nat) (f : Nat → Int) (w : World) (hb : Blk w b 61 #[.func (.func 43) #[] #[]]) (ho : Blk w o 23 (ocells f)) :
    Calls Tryd.prog 59 #[.pointer (some ⟨o, 0, none⟩), .pointer (some ⟨b, 0, none⟩)] w fun e w' => e = .returned (.int .i64 (if f 14 = 1 then 1 else 0)) ∧ w = w' := by
  have c := hb.cell 0 (v := .func (.func 43) #[] #[]) rfl
  have d := ho.cell 14 (v := .bool (f 14 == 1)) rfl
  clear hb ho
  by_cases h1 : f 14 = 1
  · have e1 : (f 14 == 1) = true := by simpa using h1
    rw [if_pos h1]
    rw [e1] at d
    clear h1 e1
    go_enter Tryd.func59, Tryd.ntmps59
    go_wp2_with (go_at_call 43; refine (at_spec14 _ _).mono ?_; rintro e w' ⟨rfl, rfl⟩)
    go_ret
    exact ⟨rfl, rfl⟩
  · have e1 : (f 14 == 1) = false := by simpa using h1
    rw [if_neg h1]
    rw [e1] at d
    clear h1 e1
    go_enter Tryd.func59, Tryd.ntmps59
    go_wp2_with (go_at_call 43; refine (at_spec14 _ _).mono ?_; rintro e w' ⟨rfl, rfl⟩)
    go_ret
    exact ⟨rfl, rfl⟩
theorem get_spec15 (o b : Nat) (f : Nat → Int) (w : World) (hb : Blk w b 61 #[.func (.func 44) #[] #[]]) (ho : Blk w o 23 (ocells f)) :
    Calls Tryd.prog 59 #[.pointer (some ⟨o, 0, none⟩), .pointer (some ⟨b, 0, none⟩)] w fun e w' => e = .returned (.int .i64 (if f 15 = 1 then 1 else 0)) ∧ w = w' := by
  have c := hb.cell 0 (v := .func (.func 44) #[] #[]) rfl
  have d := ho.cell 15 (v := .bool (f 15 == 1)) rfl
  clear hb ho
  by_cases h1 : f 15 = 1
  · have e1 : (f 15 == 1) = true := by simpa using h1
    rw [if_pos h1]
    rw [e1] at d
    clear h1 e1
    go_enter Tryd.func59, Tryd.ntmps59
    go_wp2_with (go_at_call 44; refine (at_spec15 _ _).mono ?_; rintro e w' ⟨rfl, rfl⟩)
    go_ret
    exact ⟨rfl, rfl⟩
  · have e1 : (f 15 == 1) = false := by simpa using h1
    rw [if_neg h1]
    rw [e1] at d
    clear h1 e1
    go_enter Tryd.func59, Tryd.ntmps59
    go_wp2_with (go_at_call 44; refine (at_spec15 _ _).mono ?_; rintro e w' ⟨rfl, rfl⟩)
    go_ret
    exact ⟨rfl, rfl⟩
theorem get_spec16 (o b : Nat) (f : Nat → Int) (w : World) (hb : Blk w b 61 #[.func (.func 45) #[] #[]]) (ho : Blk w o 23 (ocells f)) :
    Calls Tryd.prog 59 #[.pointer (some ⟨o, 0, none⟩), .pointer (some ⟨b, 0, none⟩)] w fun e w' => e = .returned (.int .i64 (if f 16 = 1 then 1 else 0)) ∧ w = w' := by
  have c := hb.cell 0 (v := .func (.func 45) #[] #[]) rfl
  have d := ho.cell 16 (v := .bool (f 16 == 1)) rfl
  clear hb ho
  by_cases h1 : f 16 = 1
  · have e1 : (f 16 == 1) = true := by simpa using h1
    rw [if_pos h1]
    rw [e1] at d
    clear h1 e1
    go_enter Tryd.func59, Tryd.ntmps59
    go_wp2_with (go_at_call 45; refine (at_spec16 _ _).mono ?_; rintro e w' ⟨rfl, rfl⟩)
    go_ret
    exact ⟨rfl, rfl⟩
  · have e1 : (f 16 == 1) = false := by simpa using h1
    rw [if_neg h1]
    rw [e1] at d
    clear h1 e1
    go_enter Tryd.func59, Tryd.ntmps59
    go_wp2_with (go_at_call 45; refine (at_spec16 _ _).mono ?_; rintro e w' ⟨rfl, rfl⟩)
    go_ret
    exact ⟨rfl, rfl⟩
theorem get_spec17 (o b : Nat) (f : Nat → Int) (w : World) (hb : Blk w b 61 #[.func (.func 46) #[] #[]]) (ho : Blk w o 23 (ocells f)) :
    Calls Tryd.prog 59 #[.pointer (some ⟨o, 0, none⟩), .pointer (some ⟨b, 0, none⟩)] w fun e w' => e = .returned (.int .i64 (if f 17 = 1 then 1 else 0)) ∧ w = w' := by
  have c := hb.cell 0 (v := .func (.func 46) #[] #[]) rfl
  have d := ho.cell 17 (v := .bool (f 17 == 1)) rfl
  clear hb ho
  by_cases h1 : f 17 = 1
  · have e1 : (f 17 == 1) = true := by simpa using h1
    rw [if_pos h1]
    rw [e1] at d
    clear h1 e1
    go_enter Tryd.func59, Tryd.ntmps59
    go_wp2_with (go_at_call 46; refine (at_spec17 _ _).mono ?_; rintro e w' ⟨rfl, rfl⟩)
    go_ret
    exact ⟨rfl, rfl⟩
  · have e1 : (f 17 == 1) = false := by simpa using h1
    rw [if_neg h1]
    rw [e1] at d
    clear h1 e1
    go_enter Tryd.func59, Tryd.ntmps59
    go_wp2_with (go_at_call 46; refine (at_spec17 _ _).mono ?_; rintro e w' ⟨rfl, rfl⟩)
    go_ret
    exact ⟨rfl, rfl⟩
theorem get_spec18 (o b : Nat) (f : Nat → Int) (w : World) (hb : Blk w b 58 #[.func (.func 47) #[] #[]]) (ho : Blk w o 23 (ocells f)) :
    Calls Tryd.prog 57 #[.pointer (some ⟨o, 0, none⟩), .pointer (some ⟨b, 0, none⟩)] w fun e w' => e = .returned (.int .i64 (f 18)) ∧ w = w' := by
  have c := hb.cell 0 (v := .func (.func 47) #[] #[]) rfl
  have d := ho.cell 18 (v := .int .i64 (f 18)) rfl
  clear hb ho
  go_enter Tryd.func57, Tryd.ntmps57
  go_wp2_with (go_at_call 47; refine (at_spec18 _ _).mono ?_; rintro e w' ⟨rfl, rfl⟩)
  go_ret
  exact ⟨rfl, rfl⟩
theorem get_spec19 (o b : Nat) (f : Nat → Int) (w : World) (hb : Blk w b 58 #[.func (.func 48) #[] #[]]) (ho : Blk w o 23 (ocells f)) :
    Calls Tryd.prog 57 #[.pointer (some ⟨o, 0, none⟩), .pointer (some ⟨b, 0, none⟩)] w fun e w' => e = .returned (.int .i64 (f 19)) ∧ w = w' := by
  have c := hb.cell 0 (v := .func (.func 48) #[] #[]) rfl
  have d := ho.cell 19 (v := .int .i64 (f 19)) rfl
  clear hb ho
  go_enter Tryd.func57, Tryd.ntmps57
  go_wp2_with (go_at_call 48; refine (at_spec19 _ _).mono ?_; rintro e w' ⟨rfl, rfl⟩)
  go_ret
  exact ⟨rfl, rfl⟩
theorem get_spec20 (o b : Nat) (f : Nat → Int) (w : World) (hb : Blk w b 58 #[.func (.func 49) #[] #[]]) (ho : Blk w o 23 (ocells f)) :
    Calls Tryd.prog 57 #[.pointer (some ⟨o, 0, none⟩), .pointer (some ⟨b, 0, none⟩)] w fun e w' => e = .returned (.int .i64 (f 20)) ∧ w = w' := by
  have c := hb.cell 0 (v := .func (.func 49) #[] #[]) rfl
  have d := ho.cell 20 (v := .int .i64 (f 20)) rfl
  clear hb ho
  go_enter Tryd.func57, Tryd.ntmps57
  go_wp2_with (go_at_call 49; refine (at_spec20 _ _).mono ?_; rintro e w' ⟨rfl, rfl⟩)
  go_ret
  exact ⟨rfl, rfl⟩

/-- A field's number. -/
def numOf (f : Nat → Int) (i : Nat) : Int := if boxT i = 58 then f i else if f i = 1 then 1 else 0

theorem fget_spec (o : Nat) (f : Nat → Int) (w : World) (ho : Blk w o 23 (ocells f)) : ∀ i, i < 21 → ∀ b, Blk w b (boxT i) #[.func (.func (atF i)) #[] #[]] →
    Calls Tryd.prog (gF i) #[.pointer (some ⟨o, 0, none⟩), .pointer (some ⟨b, 0, none⟩)] w fun e w' => e = .returned (.int .i64 (numOf f i)) ∧ w = w' := by
  exact by21 (fun b hb => get_spec0 o b f w hb ho) (fun b hb => get_spec1 o b f w hb ho) (fun b hb => get_spec2 o b f w hb ho) (fun b hb => get_spec3 o b f w hb ho) (fun b hb => get_spec4 o b f w hb ho) (fun b hb => get_spec5 o b f w hb ho) (fun b hb => get_spec6 o b f w hb ho) (fun b hb => get_spec7 o b f w hb ho) (fun b hb => get_spec8 o b f w hb ho) (fun b hb => get_spec9 o b f w hb ho) (fun b hb => get_spec10 o b f w hb ho) (fun b hb => get_spec11 o b f w hb ho) (fun b hb => get_spec12 o b f w hb ho) (fun b hb => get_spec13 o b f w hb ho) (fun b hb => get_spec14 o b f w hb ho) (fun b hb => get_spec15 o b f w hb ho) (fun b hb => get_spec16 o b f w hb ho) (fun b hb => get_spec17 o b f w hb ho) (fun b hb => get_spec18 o b f w hb ho) (fun b hb => get_spec19 o b f w hb ho) (fun b hb => get_spec20 o b f w hb ho)

end Go.Proofs.YtlfaeabbfejjcaaDoor
