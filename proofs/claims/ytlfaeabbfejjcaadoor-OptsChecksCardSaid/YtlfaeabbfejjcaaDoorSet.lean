/- The walks of the fields' set. -/
import Derived.Test.YtlfaeabbfejjcaaDoorAt
namespace Go.Proofs.YtlfaeabbfejjcaaDoor
open Go.RowKit

set_option maxHeartbeats 4000000 in
theorem set_spec0 (o b : Nat) (f : Nat → Int) (n : Int) (w : World) (hb : Blk w b 58 #[.func (.func 28) #[] #[]]) (ho : Blk w o 23 (ocells f)) :
    Calls Tryd.prog 58 #[.pointer (some ⟨o, 0, none⟩), .int .i64 n, .pointer (some ⟨b, 0, none⟩)] w fun e w' => e = .returned (.tuple #[]) ∧ Blk w' o 23 (ocells (upd f 0 n)) ∧ Fr (fun k => k = o) w w' := by
  have c := hb.cell 0 (v := .func (.func 28) #[] #[]) rfl
  have d := ho.cell 0 (v := .int .i64 (f 0)) rfl
  have fz := ho.free 0
  have hs := ho.set 0 (.int .i64 n)
  rw [show (ocells f).setIfInBounds 0 (.int .i64 n) = ocells (upd f 0 n) from ocells_upd f n 0 (by decide)] at hs
  have HS := Lib.hid hs
  clear hb ho hs
  go_enter Tryd.func58, Tryd.ntmps58
  go_wp2_with (go_at_call 28; refine (at_spec0 _ _).mono ?_; rintro e w' ⟨rfl, rfl⟩)
  go_end0
  exact ⟨rfl, HS.out, (Fr.refl (fun k => k = o) w).setCell (p := ⟨o, 0, none⟩) (fun _ => rfl) _⟩
set_option maxHeartbeats 4000000 in
theorem set_spec1 (o b : Nat) (f : Nat → Int) (n : Int) (w : World) (hb : Blk w b 58 #[.func (.func 29) #[] #[]]) (ho : Blk w o 23 (ocells f)) :
    Calls Tryd.prog 58 #[.pointer (some ⟨o, 0, none⟩), .int .i64 n, .pointer (some ⟨b, 0, none⟩)] w fun e w' => e = .returned (.tuple #[]) ∧ Blk w' o 23 (ocells (upd f 1 n)) ∧ Fr (fun k => k = o) w w' := by
  have c := hb.cell 0 (v := .func (.func 29) #[] #[]) rfl
  have d := ho.cell 1 (v := .int .i64 (f 1)) rfl
  have fz := ho.free 1
  have hs := ho.set 1 (.int .i64 n)
  rw [show (ocells f).setIfInBounds 1 (.int .i64 n) = ocells (upd f 1 n) from ocells_upd f n 1 (by decide)] at hs
  have HS := Lib.hid hs
  clear hb ho hs
  go_enter Tryd.func58, Tryd.ntmps58
  go_wp2_with (go_at_call 29; refine (at_spec1 _ _).mono ?_; rintro e w' ⟨rfl, rfl⟩)
  go_end0
  exact ⟨rfl, HS.out, (Fr.refl (fun k => k = o) w).setCell (p := ⟨o, 1, none⟩) (fun _ => rfl) _⟩
set_option maxHeartbeats 4000000 in
theorem set_spec2 (o b : Nat) (f : Nat → Int) (n : Int) (w : World) (hb : Blk w b 61 #[.func (.func 31) #[] #[]]) (ho : Blk w o 23 (ocells f)) :
    Calls Tryd.prog 60 #[.pointer (some ⟨o, 0, none⟩), .int .i64 n, .pointer (some ⟨b, 0, none⟩)] w fun e w' => e = .returned (.tuple #[]) ∧ Blk w' o 23 (ocells (upd f 2 n)) ∧ Fr (fun k => k = o) w w' := by
  have c := hb.cell 0 (v := .func (.func 31) #[] #[]) rfl
  have d := ho.cell 2 (v := .bool (f 2 == 1)) rfl
  have fz := ho.free 2
  have hs := ho.set 2 (.bool (n == 1))
  rw [show (ocells f).setIfInBounds 2 (.bool (n == 1)) = ocells (upd f 2 n) from ocells_upd f n 2 (by decide)] at hs
  have HS := Lib.hid hs
  clear hb ho hs
  go_enter Tryd.func60, Tryd.ntmps60
  go_wp2_with (go_at_call 31; refine (at_spec2 _ _).mono ?_; rintro e w' ⟨rfl, rfl⟩)
  go_end0
  exact ⟨rfl, HS.out, (Fr.refl (fun k => k = o) w).setCell (p := ⟨o, 2, none⟩) (fun _ => rfl) _⟩
set_option maxHeartbeats 4000000 in
theorem set_spec3 (o b : Nat) (f : Nat → Int) (n : Int) (w : World) (hb : Blk w b 61 #[.func (.func 32) #[] #[]]) (ho : Blk w o 23 (ocells f)) :
    Calls Tryd.prog 60 #[.pointer (some ⟨o, 0, none⟩), .int .i64 n, .pointer (some ⟨b, 0, none⟩)] w fun e w' => e = .returned (.tuple #[]) ∧ Blk w' o 23 (ocells (upd f 3 n)) ∧ Fr (fun k => k = o) w w' := by
  have c := hb.cell 0 (v := .func (.func 32) #[] #[]) rfl
  have d := ho.cell 3 (v := .bool (f 3 == 1)) rfl
  have fz := ho.free 3
  have hs := ho.set 3 (.bool (n == 1))
  rw [show (ocells f).setIfInBounds 3 (.bool (n == 1)) = ocells (upd f 3 n) from ocells_upd f n 3 (by decide)] at hs
  have HS := Lib.hid hs
  clear hb ho hs
  go_enter Tryd.func60, Tryd.ntmps60
  go_wp2_with (go_at_call 32; refine (at_spec3 _ _).mono ?_; rintro e w' ⟨rfl, rfl⟩)
  go_end0
  exact ⟨rfl, HS.out, (Fr.refl (fun k => k = o) w).setCell (p := ⟨o, 3, none⟩) (fun _ => rfl) _⟩
set_option maxHeartbeats 4000000 in
theorem set_spec4 (o b : Nat) (f : Nat → Int) (n : Int) (w : World) (hb : Blk w b 61 #[.func (.func 33) #[] #[]]) (ho : Blk w o 23 (ocells f)) :
    Calls Tryd.prog 60 #[.pointer (some ⟨o, 0, none⟩), .int .i64 n, .pointer (some ⟨b, 0, none⟩)] w fun e w' => e = .returned (.tuple #[]) ∧ Blk w' o 23 (ocells (upd f 4 n)) ∧ Fr (fun k => k = o) w w' := by
  have c := hb.cell 0 (v := .func (.func 33) #[] #[]) rfl
  have d := ho.cell 4 (v := .bool (f 4 == 1)) rfl
  have fz := ho.free 4
  have hs := ho.set 4 (.bool (n == 1))
  rw [show (ocells f).setIfInBounds 4 (.bool (n == 1)) = ocells (upd f 4 n) from ocells_upd f n 4 (by decide)] at hs
  have HS := Lib.hid hs
  clear hb ho hs
  go_enter Tryd.func60, Tryd.ntmps60
  go_wp2_with (go_at_call 33; refine (at_spec4 _ _).mono ?_; rintro e w' ⟨rfl, rfl⟩)
  go_end0
  exact ⟨rfl, HS.out, (Fr.refl (fun k => k = o) w).setCell (p := ⟨o, 4, none⟩) (fun _ => rfl) _⟩
set_option maxHeartbeats 4000000 in
theorem set_spec5 (o b : Nat) (f : Nat → Int) (n : Int) (w : World) (hb : Blk w b 61 #[.func (.func 34) #[] #[]]) (ho : Blk w o 23 (ocells f)) :
    Calls Tryd.prog 60 #[.pointer (some ⟨o, 0, none⟩), .int .i64 n, .pointer (some ⟨b, 0, none⟩)] w fun e w' => e = .returned (.tuple #[]) ∧ Blk w' o 23 (ocells (upd f 5 n)) ∧ Fr (fun k => k = o) w w' := by
  have c := hb.cell 0 (v := .func (.func 34) #[] #[]) rfl
  have d := ho.cell 5 (v := .bool (f 5 == 1)) rfl
  have fz := ho.free 5
  have hs := ho.set 5 (.bool (n == 1))
  rw [show (ocells f).setIfInBounds 5 (.bool (n == 1)) = ocells (upd f 5 n) from ocells_upd f n 5 (by decide)] at hs
  have HS := Lib.hid hs
  clear hb ho hs
  go_enter Tryd.func60, Tryd.ntmps60
  go_wp2_with (go_at_call 34; refine (at_spec5 _ _).mono ?_; rintro e w' ⟨rfl, rfl⟩)
  go_end0
  exact ⟨rfl, HS.out, (Fr.refl (fun k => k = o) w).setCell (p := ⟨o, 5, none⟩) (fun _ => rfl) _⟩
set_option maxHeartbeats 4000000 in
theorem set_spec6 (o b : Nat) (f : Nat → Int) (n : Int) (w : World) (hb : Blk w b 61 #[.func (.func 35) #[] #[]]) (ho : Blk w o 23 (ocells f)) :
    Calls Tryd.prog 60 #[.pointer (some ⟨o, 0, none⟩), .int .i64 n, .pointer (some ⟨b, 0, none⟩)] w fun e w' => e = .returned (.tuple #[]) ∧ Blk w' o 23 (ocells (upd f 6 n)) ∧ Fr (fun k => k = o) w w' := by
  have c := hb.cell 0 (v := .func (.func 35) #[] #[]) rfl
  have d := ho.cell 6 (v := .bool (f 6 == 1)) rfl
  have fz := ho.free 6
  have hs := ho.set 6 (.bool (n == 1))
  rw [show (ocells f).setIfInBounds 6 (.bool (n == 1)) = ocells (upd f 6 n) from ocells_upd f n 6 (by decide)] at hs
  have HS := Lib.hid hs
  clear hb ho hs
  go_enter Tryd.func60, Tryd.ntmps60
  go_wp2_with (go_at_call 35; refine (at_spec6 _ _).mono ?_; rintro e w' ⟨rfl, rfl⟩)
  go_end0
  exact ⟨rfl, HS.out, (Fr.refl (fun k => k = o) w).setCell (p := ⟨o, 6, none⟩) (fun _ => rfl) _⟩
set_option maxHeartbeats 4000000 in
theorem set_spec7 (o b : Nat) (f : Nat → Int) (n : Int) (w : World) (hb : Blk w b 61 #[.func (.func 36) #[] #[]]) (ho : Blk w o 23 (ocells f)) :
    Calls Tryd.prog 60 #[.pointer (some ⟨o, 0, none⟩), .int .i64 n, .pointer (some ⟨b, 0, none⟩)] w fun e w' => e = .returned (.tuple #[]) ∧ Blk w' o 23 (ocells (upd f 7 n)) ∧ Fr (fun k => k = o) w w' := by
  have c := hb.cell 0 (v := .func (.func 36) #[] #[]) rfl
  have d := ho.cell 7 (v := .bool (f 7 == 1)) rfl
  have fz := ho.free 7
  have hs := ho.set 7 (.bool (n == 1))
  rw [show (ocells f).setIfInBounds 7 (.bool (n == 1)) = ocells (upd f 7 n) from ocells_upd f n 7 (by decide)] at hs
  have HS := Lib.hid hs
  clear hb ho hs
  go_enter Tryd.func60, Tryd.ntmps60
  go_wp2_with (go_at_call 36; refine (at_spec7 _ _).mono ?_; rintro e w' ⟨rfl, rfl⟩)
  go_end0
  exact ⟨rfl, HS.out, (Fr.refl (fun k => k = o) w).setCell (p := ⟨o, 7, none⟩) (fun _ => rfl) _⟩
set_option maxHeartbeats 4000000 in
theorem set_spec8 (o b : Nat) (f : Nat → Int) (n : Int) (w : World) (hb : Blk w b 61 #[.func (.func 37) #[] #[]]) (ho : Blk w o 23 (ocells f)) :
    Calls Tryd.prog 60 #[.pointer (some ⟨o, 0, none⟩), .int .i64 n, .pointer (some ⟨b, 0, none⟩)] w fun e w' => e = .returned (.tuple #[]) ∧ Blk w' o 23 (ocells (upd f 8 n)) ∧ Fr (fun k => k = o) w w' := by
  have c := hb.cell 0 (v := .func (.func 37) #[] #[]) rfl
  have d := ho.cell 8 (v := .bool (f 8 == 1)) rfl
  have fz := ho.free 8
  have hs := ho.set 8 (.bool (n == 1))
  rw [show (ocells f).setIfInBounds 8 (.bool (n == 1)) = ocells (upd f 8 n) from ocells_upd f n 8 (by decide)] at hs
  have HS := Lib.hid hs
  clear hb ho hs
  go_enter Tryd.func60, Tryd.ntmps60
  go_wp2_with (go_at_call 37; refine (at_spec8 _ _).mono ?_; rintro e w' ⟨rfl, rfl⟩)
  go_end0
  exact ⟨rfl, HS.out, (Fr.refl (fun k => k = o) w).setCell (p := ⟨o, 8, none⟩) (fun _ => rfl) _⟩
set_option maxHeartbeats 4000000 in
theorem set_spec9 (o b : Nat) (f : Nat → Int) (n : Int) (w : World) (hb : Blk w b 61 #[.func (.func 38) #[] #[]]) (ho : Blk w o 23 (ocells f)) :
    Calls Tryd.prog 60 #[.pointer (some ⟨o, 0, none⟩), .int .i64 n, .pointer (some ⟨b, 0, none⟩)] w fun e w' => e = .returned (.tuple #[]) ∧ Blk w' o 23 (ocells (upd f 9 n)) ∧ Fr (fun k => k = o) w w' := by
  have c := hb.cell 0 (v := .func (.func 38) #[] #[]) rfl
  have d := ho.cell 9 (v := .bool (f 9 == 1)) rfl
  have fz := ho.free 9
  have hs := ho.set 9 (.bool (n == 1))
  rw [show (ocells f).setIfInBounds 9 (.bool (n == 1)) = ocells (upd f 9 n) from ocells_upd f n 9 (by decide)] at hs
  have HS := Lib.hid hs
  clear hb ho hs
  go_enter Tryd.func60, Tryd.ntmps60
  go_wp2_with (go_at_call 38; refine (at_spec9 _ _).mono ?_; rintro e w' ⟨rfl, rfl⟩)
  go_end0
  exact ⟨rfl, HS.out, (Fr.refl (fun k => k = o) w).setCell (p := ⟨o, 9, none⟩) (fun _ => rfl) _⟩
set_option maxHeartbeats 4000000 in
theorem set_spec10 (o b : Nat) (f : Nat → Int) (n : Int) (w : World) (hb : Blk w b 61 #[.func (.func 39) #[] #[]]) (ho : Blk w o 23 (ocells f)) :
    Calls Tryd.prog 60 #[.pointer (some ⟨o, 0, none⟩), .int .i64 n, .pointer (some ⟨b, 0, none⟩)] w fun e w' => e = .returned (.tuple #[]) ∧ Blk w' o 23 (ocells (upd f 10 n)) ∧ Fr (fun k => k = o) w w' := by
  have c := hb.cell 0 (v := .func (.func 39) #[] #[]) rfl
  have d := ho.cell 10 (v := .bool (f 10 == 1)) rfl
  have fz := ho.free 10
  have hs := ho.set 10 (.bool (n == 1))
  rw [show (ocells f).setIfInBounds 10 (.bool (n == 1)) = ocells (upd f 10 n) from ocells_upd f n 10 (by decide)] at hs
  have HS := Lib.hid hs
  clear hb ho hs
  go_enter Tryd.func60, Tryd.ntmps60
  go_wp2_with (go_at_call 39; refine (at_spec10 _ _).mono ?_; rintro e w' ⟨rfl, rfl⟩)
  go_end0
  exact ⟨rfl, HS.out, (Fr.refl (fun k => k = o) w).setCell (p := ⟨o, 10, none⟩) (fun _ => rfl) _⟩
set_option maxHeartbeats 4000000 in
theorem set_spec11 (o b : Nat) (f : Nat → Int) (n : Int) (w : World) (hb : Blk w b 61 #[.func (.func 40) #[] #[]]) (ho : Blk w o 23 (ocells f)) :
    Calls Tryd.prog 60 #[.pointer (some ⟨o, 0, none⟩), .int .i64 n, .pointer (some ⟨b, 0, none⟩)] w fun e w' => e = .returned (.tuple #[]) ∧ Blk w' o 23 (ocells (upd f 11 n)) ∧ Fr (fun k => k = o) w w' := by
  have c := hb.cell 0 (v := .func (.func 40) #[] #[]) rfl
  have d := ho.cell 11 (v := .bool (f 11 == 1)) rfl
  have fz := ho.free 11
  have hs := ho.set 11 (.bool (n == 1))
  rw [show (ocells f).setIfInBounds 11 (.bool (n == 1)) = ocells (upd f 11 n) from ocells_upd f n 11 (by decide)] at hs
  have HS := Lib.hid hs
  clear hb ho hs
  go_enter Tryd.func60, Tryd.ntmps60
  go_wp2_with (go_at_call 40; refine (at_spec11 _ _).mono ?_; rintro e w' ⟨rfl, rfl⟩)
  go_end0
  exact ⟨rfl, HS.out, (Fr.refl (fun k => k = o) w).setCell (p := ⟨o, 11, none⟩) (fun _ => rfl) _⟩
set_option maxHeartbeats 4000000 in
theorem set_spec12 (o b : Nat) (f : Nat → Int) (n : Int) (w : World) (hb : Blk w b 61 #[.func (.func 41) #[] #[]]) (ho : Blk w o 23 (ocells f)) :
    Calls Tryd.prog 60 #[.pointer (some ⟨o, 0, none⟩), .int .i64 n, .pointer (some ⟨b, 0, none⟩)] w fun e w' => e = .returned (.tuple #[]) ∧ Blk w' o 23 (ocells (upd f 12 n)) ∧ Fr (fun k => k = o) w w' := by
  have c := hb.cell 0 (v := .func (.func 41) #[] #[]) rfl
  have d := ho.cell 12 (v := .bool (f 12 == 1)) rfl
  have fz := ho.free 12
  have hs := ho.set 12 (.bool (n == 1))
  rw [show (ocells f).setIfInBounds 12 (.bool (n == 1)) = ocells (upd f 12 n) from ocells_upd f n 12 (by decide)] at hs
  have HS := Lib.hid hs
  clear hb ho hs
  go_enter Tryd.func60, Tryd.ntmps60
  go_wp2_with (go_at_call 41; refine (at_spec12 _ _).mono ?_; rintro e w' ⟨rfl, rfl⟩)
  go_end0
  exact ⟨rfl, HS.out, (Fr.refl (fun k => k = o) w).setCell (p := ⟨o, 12, none⟩) (fun _ => rfl) _⟩
set_option maxHeartbeats 4000000 in
theorem set_spec13 (o b : Nat) (f : Nat → Int) (n : Int) (w : World) (hb : Blk w b 61 #[.func (.func 42) #[] #[]]) (ho : Blk w o 23 (ocells f)) :
    Calls Tryd.prog 60 #[.pointer (some ⟨o, 0, none⟩), .int .i64 n, .pointer (some ⟨b, 0, none⟩)] w fun e w' => e = .returned (.tuple #[]) ∧ Blk w' o 23 (ocells (upd f 13 n)) ∧ Fr (fun k => k = o) w w' := by
  have c := hb.cell 0 (v := .func (.func 42) #[] #[]) rfl
  have d := ho.cell 13 (v := .bool (f 13 == 1)) rfl
  have fz := ho.free 13
  have hs := ho.set 13 (.bool (n == 1))
  rw [show (ocells f).setIfInBounds 13 (.bool (n == 1)) = ocells (upd f 13 n) from ocells_upd f n 13 (by decide)] at hs
  have HS := Lib.hid hs
  clear hb ho hs
  go_enter Tryd.func60, Tryd.ntmps60
  go_wp2_with (go_at_call 42; refine (at_spec13 _ _).mono ?_; rintro e w' ⟨rfl, rfl⟩)
  go_end0
  exact ⟨rfl, HS.out, (Fr.refl (fun k => k = o) w).setCell (p := ⟨o, 13, none⟩) (fun _ => rfl) _⟩
set_option maxHeartbeats 4000000 in
theorem set_spec14 (o b : Nat) (f : Nat → Int) (n : Int) (w : World) (hb : Blk w b 61 #[.func (.func 43) #[] #[]]) (ho : Blk w o 23 (ocells f)) :
    Calls Tryd.prog 60 #[.pointer (some ⟨o, 0, none⟩), .int .i64 n, .pointer (some ⟨b, 0, none⟩)] w fun e w' => e = .returned (.tuple #[]) ∧ Blk w' o 23 (ocells (upd f 14 n)) ∧ Fr (fun k => k = o) w w' := by
  have c := hb.cell 0 (v := .func (.func 43) #[] #[]) rfl
  have d := ho.cell 14 (v := .bool (f 14 == 1)) rfl
  have fz := ho.free 14
  have hs := ho.set 14 (.bool (n == 1))
  rw [show (ocells f).setIfInBounds 14 (.bool (n == 1)) = ocells (upd f 14 n) from ocells_upd f n 14 (by decide)] at hs
  have HS := Lib.hid hs
  clear hb ho hs
  go_enter Tryd.func60, Tryd.ntmps60
  go_wp2_with (go_at_call 43; refine (at_spec14 _ _).mono ?_; rintro e w' ⟨rfl, rfl⟩)
  go_end0
  exact ⟨rfl, HS.out, (Fr.refl (fun k => k = o) w).setCell (p := ⟨o, 14, none⟩) (fun _ => rfl) _⟩
set_option maxHeartbeats 4000000 in
theorem set_spec15 (o b : Nat) (f : Nat → Int) (n : Int) (w : World) (hb : Blk w b 61 #[.func (.func 44) #[] #[]]) (ho : Blk w o 23 (ocells f)) :
    Calls Tryd.prog 60 #[.pointer (some ⟨o, 0, none⟩), .int .i64 n, .pointer (some ⟨b, 0, none⟩)] w fun e w' => e = .returned (.tuple #[]) ∧ Blk w' o 23 (ocells (upd f 15 n)) ∧ Fr (fun k => k = o) w w' := by
  have c := hb.cell 0 (v := .func (.func 44) #[] #[]) rfl
  have d := ho.cell 15 (v := .bool (f 15 == 1)) rfl
  have fz := ho.free 15
  have hs := ho.set 15 (.bool (n == 1))
  rw [show (ocells f).setIfInBounds 15 (.bool (n == 1)) = ocells (upd f 15 n) from ocells_upd f n 15 (by decide)] at hs
  have HS := Lib.hid hs
  clear hb ho hs
  go_enter Tryd.func60, Tryd.ntmps60
  go_wp2_with (go_at_call 44; refine (at_spec15 _ _).mono ?_; rintro e w' ⟨rfl, rfl⟩)
  go_end0
  exact ⟨rfl, HS.out, (Fr.refl (fun k => k = o) w).setCell (p := ⟨o, 15, none⟩) (fun _ => rfl) _⟩
set_option maxHeartbeats 4000000 in
theorem set_spec16 (o b : Nat) (f : Nat → Int) (n : Int) (w : World) (hb : Blk w b 61 #[.func (.func 45) #[] #[]]) (ho : Blk w o 23 (ocells f)) :
    Calls Tryd.prog 60 #[.pointer (some ⟨o, 0, none⟩), .int .i64 n, .pointer (some ⟨b, 0, none⟩)] w fun e w' => e = .returned (.tuple #[]) ∧ Blk w' o 23 (ocells (upd f 16 n)) ∧ Fr (fun k => k = o) w w' := by
  have c := hb.cell 0 (v := .func (.func 45) #[] #[]) rfl
  have d := ho.cell 16 (v := .bool (f 16 == 1)) rfl
  have fz := ho.free 16
  have hs := ho.set 16 (.bool (n == 1))
  rw [show (ocells f).setIfInBounds 16 (.bool (n == 1)) = ocells (upd f 16 n) from ocells_upd f n 16 (by decide)] at hs
  have HS := Lib.hid hs
  clear hb ho hs
  go_enter Tryd.func60, Tryd.ntmps60
  go_wp2_with (go_at_call 45; refine (at_spec16 _ _).mono ?_; rintro e w' ⟨rfl, rfl⟩)
  go_end0
  exact ⟨rfl, HS.out, (Fr.refl (fun k => k = o) w).setCell (p := ⟨o, 16, none⟩) (fun _ => rfl) _⟩
set_option maxHeartbeats 4000000 in
theorem set_spec17 (o b : Nat) (f : Nat → Int) (n : Int) (w : World) (hb : Blk w b 61 #[.func (.func 46) #[] #[]]) (ho : Blk w o 23 (ocells f)) :
    Calls Tryd.prog 60 #[.pointer (some ⟨o, 0, none⟩), .int .i64 n, .pointer (some ⟨b, 0, none⟩)] w fun e w' => e = .returned (.tuple #[]) ∧ Blk w' o 23 (ocells (upd f 17 n)) ∧ Fr (fun k => k = o) w w' := by
  have c := hb.cell 0 (v := .func (.func 46) #[] #[]) rfl
  have d := ho.cell 17 (v := .bool (f 17 == 1)) rfl
  have fz := ho.free 17
  have hs := ho.set 17 (.bool (n == 1))
  rw [show (ocells f).setIfInBounds 17 (.bool (n == 1)) = ocells (upd f 17 n) from ocells_upd f n 17 (by decide)] at hs
  have HS := Lib.hid hs
  clear hb ho hs
  go_enter Tryd.func60, Tryd.ntmps60
  go_wp2_with (go_at_call 46; refine (at_spec17 _ _).mono ?_; rintro e w' ⟨rfl, rfl⟩)
  go_end0
  exact ⟨rfl, HS.out, (Fr.refl (fun k => k = o) w).setCell (p := ⟨o, 17, none⟩) (fun _ => rfl) _⟩
set_option maxHeartbeats 4000000 in
theorem set_spec18 (o b : Nat) (f : Nat → Int) (n : Int) (w : World) (hb : Blk w b 58 #[.func (.func 47) #[] #[]]) (ho : Blk w o 23 (ocells f)) :
    Calls Tryd.prog 58 #[.pointer (some ⟨o, 0, none⟩), .int .i64 n, .pointer (some ⟨b, 0, none⟩)] w fun e w' => e = .returned (.tuple #[]) ∧ Blk w' o 23 (ocells (upd f 18 n)) ∧ Fr (fun k => k = o) w w' := by
  have c := hb.cell 0 (v := .func (.func 47) #[] #[]) rfl
  have d := ho.cell 18 (v := .int .i64 (f 18)) rfl
  have fz := ho.free 18
  have hs := ho.set 18 (.int .i64 n)
  rw [show (ocells f).setIfInBounds 18 (.int .i64 n) = ocells (upd f 18 n) from ocells_upd f n 18 (by decide)] at hs
  have HS := Lib.hid hs
  clear hb ho hs
  go_enter Tryd.func58, Tryd.ntmps58
  go_wp2_with (go_at_call 47; refine (at_spec18 _ _).mono ?_; rintro e w' ⟨rfl, rfl⟩)
  go_end0
  exact ⟨rfl, HS.out, (Fr.refl (fun k => k = o) w).setCell (p := ⟨o, 18, none⟩) (fun _ => rfl) _⟩
set_option maxHeartbeats 4000000 in
theorem set_spec19 (o b : Nat) (f : Nat → Int) (n : Int) (w : World) (hb : Blk w b 58 #[.func (.func 48) #[] #[]]) (ho : Blk w o 23 (ocells f)) :
    Calls Tryd.prog 58 #[.pointer (some ⟨o, 0, none⟩), .int .i64 n, .pointer (some ⟨b, 0, none⟩)] w fun e w' => e = .returned (.tuple #[]) ∧ Blk w' o 23 (ocells (upd f 19 n)) ∧ Fr (fun k => k = o) w w' := by
  have c := hb.cell 0 (v := .func (.func 48) #[] #[]) rfl
  have d := ho.cell 19 (v := .int .i64 (f 19)) rfl
  have fz := ho.free 19
  have hs := ho.set 19 (.int .i64 n)
  rw [show (ocells f).setIfInBounds 19 (.int .i64 n) = ocells (upd f 19 n) from ocells_upd f n 19 (by decide)] at hs
  have HS := Lib.hid hs
  clear hb ho hs
  go_enter Tryd.func58, Tryd.ntmps58
  go_wp2_with (go_at_call 48; refine (at_spec19 _ _).mono ?_; rintro e w' ⟨rfl, rfl⟩)
  go_end0
  exact ⟨rfl, HS.out, (Fr.refl (fun k => k = o) w).setCell (p := ⟨o, 19, none⟩) (fun _ => rfl) _⟩
set_option maxHeartbeats 4000000 in
theorem set_spec20 (o b : Nat) (f : Nat → Int) (n : Int) (w : World) (hb : Blk w b 58 #[.func (.func 49) #[] #[]]) (ho : Blk w o 23 (ocells f)) :
    Calls Tryd.prog 58 #[.pointer (some ⟨o, 0, none⟩), .int .i64 n, .pointer (some ⟨b, 0, none⟩)] w fun e w' => e = .returned (.tuple #[]) ∧ Blk w' o 23 (ocells (upd f 20 n)) ∧ Fr (fun k => k = o) w w' := by
  have c := hb.cell 0 (v := .func (.func 49) #[] #[]) rfl
  have d := ho.cell 20 (v := .int .i64 (f 20)) rfl
  have fz := ho.free 20
  have hs := ho.set 20 (.int .i64 n)
  rw [show (ocells f).setIfInBounds 20 (.int .i64 n) = ocells (upd f 20 n) from ocells_upd f n 20 (by decide)] at hs
  have HS := Lib.hid hs
  clear hb ho hs
  go_enter Tryd.func58, Tryd.ntmps58
  go_wp2_with (go_at_call 49; refine (at_spec20 _ _).mono ?_; rintro e w' ⟨rfl, rfl⟩)
  go_end0
  exact ⟨rfl, HS.out, (Fr.refl (fun k => k = o) w).setCell (p := ⟨o, 20, none⟩) (fun _ => rfl) _⟩
/-- What a field's set does, whichever it is. -/
theorem set_spec (o : Nat) (f : Nat → Int) (n : Int) (w : World) (ho : Blk w o 23 (ocells f)) : ∀ i, i < 21 → ∀ b, Blk w b (boxT i) #[.func (.func (atF i)) #[] #[]] →
    Calls Tryd.prog (sF i) #[.pointer (some ⟨o, 0, none⟩), .int .i64 n, .pointer (some ⟨b, 0, none⟩)] w fun e w' => e = .returned (.tuple #[]) ∧ Blk w' o 23 (ocells (upd f i n)) ∧ Fr (fun k => k = o) w w' := by
  exact by21 (fun b hb => set_spec0 o b f n w hb ho) (fun b hb => set_spec1 o b f n w hb ho) (fun b hb => set_spec2 o b f n w hb ho) (fun b hb => set_spec3 o b f n w hb ho) (fun b hb => set_spec4 o b f n w hb ho) (fun b hb => set_spec5 o b f n w hb ho) (fun b hb => set_spec6 o b f n w hb ho) (fun b hb => set_spec7 o b f n w hb ho) (fun b hb => set_spec8 o b f n w hb ho) (fun b hb => set_spec9 o b f n w hb ho) (fun b hb => set_spec10 o b f n w hb ho) (fun b hb => set_spec11 o b f n w hb ho) (fun b hb => set_spec12 o b f n w hb ho) (fun b hb => set_spec13 o b f n w hb ho) (fun b hb => set_spec14 o b f n w hb ho) (fun b hb => set_spec15 o b f n w hb ho) (fun b hb => set_spec16 o b f n w hb ho) (fun b hb => set_spec17 o b f n w hb ho) (fun b hb => set_spec18 o b f n w hb ho) (fun b hb => set_spec19 o b f n w hb ho) (fun b hb => set_spec20 o b f n w hb ho)

end Go.Proofs.YtlfaeabbfejjcaaDoor
