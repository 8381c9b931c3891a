/- The walks of the fields' closures: at, get, set; Default. -/
import Derived.Test.YtlfaeabbfejjcaaDoorFld
import Derived.Laws.Tables
import Derived.Laws.CopyOwn
import Derived.Deep.WholeRow
namespace Go.Proofs.YtlfaeabbfejjcaaDoor
open Go.RowKit

set_option maxRecDepth 100000 in
theorem at_spec0 (o : Nat) (w : World) : Calls Tryd.prog 28 #[.pointer (some ⟨o, 0, none⟩)] w fun e w' => e = .returned (.pointer (some ⟨o, 0, none⟩)) ∧ w = w' := by
  go_enter Tryd.func28, Tryd.ntmps28
  go_wp2
  go_ret
  exact ⟨rfl, rfl⟩
theorem at_spec1 (o : Nat) (w : World) : Calls Tryd.prog 29 #[.pointer (some ⟨o, 0, none⟩)] w fun e w' => e = .returned (.pointer (some ⟨o, 1, none⟩)) ∧ w = w' := by
  go_enter Tryd.func29, Tryd.ntmps29
  go_wp2
  go_ret
  exact ⟨rfl, rfl⟩
theorem at_spec2 (o : Nat) (w : World) : Calls Tryd.prog 31 #[.pointer (some ⟨o, 0, none⟩)] w fun e w' => e = .returned (.pointer (some ⟨o, 2, none⟩)) ∧ w = w' := by
  go_enter Tryd.func31, Tryd.ntmps31
  go_wp2
  go_ret
  exact ⟨rfl, rfl⟩
theorem at_spec3 (o : Nat) (w : World) : Calls Tryd.prog 32 #[.pointer (some ⟨o, 0, none⟩)] w fun e w' => e = .returned (.pointer (some ⟨o, 3, none⟩)) ∧ w = w' := by
  go_enter Tryd.func32, Tryd.ntmps32
  go_wp2
  go_ret
  exact ⟨rfl, rfl⟩
theorem at_spec4 (o : Nat) (w : World) : Calls Tryd.prog 33 #[.pointer (some ⟨o, 0, none⟩)] w fun e w' => e = .returned (.pointer (some ⟨o, 4, none⟩)) ∧ w = w' := by
  go_enter Tryd.func33, Tryd.ntmps33
  go_wp2
  go_ret
  exact ⟨rfl, rfl⟩
theorem at_spec5 (o : Nat) (w : World) : Calls Tryd.prog 34 #[.pointer (some ⟨o, 0, none⟩)] w fun e w' => e = .returned (.pointer (some ⟨o, 5, none⟩)) ∧ w = w' := by
  go_enter Tryd.func34, Tryd.ntmps34
  go_wp2
  go_ret
  exact ⟨rfl, rfl⟩
theorem at_spec6 (o : Nat) (w : World) : Calls Tryd.prog 35 #[.pointer (some ⟨o, 0, none⟩)] w fun e w' => e = .returned (.pointer (some ⟨o, 6, none⟩)) ∧ w = w' := by
  go_enter Tryd.func35, Tryd.ntmps35
  go_wp2
  go_ret
  exact ⟨rfl, rfl⟩
theorem at_spec7 (o : Nat) (w : World) : Calls Tryd.prog 36 #[.pointer (some ⟨o, 0, none⟩)] w fun e w' => e = .returned (.pointer (some ⟨o, 7, none⟩)) ∧ w = w' := by
  go_enter Tryd.func36, Tryd.ntmps36
  go_wp2
  go_ret
  exact ⟨rfl, rfl⟩
theorem at_spec8 (o : Nat) (w : World) : Calls Tryd.prog 37 #[.pointer (some ⟨o, 0, none⟩)] w fun e w' => e = .returned (.pointer (some ⟨o, 8, none⟩)) ∧ w = w' := by
  go_enter Tryd.func37, Tryd.ntmps37
  go_wp2
  go_ret
  exact ⟨rfl, rfl⟩
theorem at_spec9 (o : Nat) (w : World) : Calls Tryd.prog 38 #[.pointer (some ⟨o, 0, none⟩)] w fun e w' => e = .returned (.pointer (some ⟨o, 9, none⟩)) ∧ w = w' := by
  go_enter Tryd.func38, Tryd.ntmps38
  go_wp2
  go_ret
  exact ⟨rfl, rfl⟩
theorem at_spec10 (o : Nat) (w : World) : Calls Tryd.prog 39 #[.pointer (some ⟨o, 0, none⟩)] w fun e w' => e = .returned (.pointer (some ⟨o, 10, none⟩)) ∧ w = w' := by
  go_enter Tryd.func39, Tryd.ntmps39
  go_wp2
  go_ret
  exact ⟨rfl, rfl⟩
theorem at_spec11 (o : Nat) (w : World) : Calls Tryd.prog 40 #[.pointer (some ⟨o, 0, none⟩)] w fun e w' => e = .returned (.pointer (some ⟨o, 11, none⟩)) ∧ w = w' := by
  go_enter Tryd.func40, Tryd.ntmps40
  go_wp2
  go_ret
  exact ⟨rfl, rfl⟩
theorem at_spec12 (o : Nat) (w : World) : Calls Tryd.prog 41 #[.pointer (some ⟨o, 0, none⟩)] w fun e w' => e = .returned (.pointer (some ⟨o, 12, none⟩)) ∧ w = w' := by
  go_enter Tryd.func41, Tryd.ntmps41
  go_wp2
  go_ret
  exact ⟨rfl, rfl⟩
theorem at_spec13 (o : Nat) (w : World) : Calls Tryd.prog 42 #[.pointer (some ⟨o, 0, none⟩)] w fun e w' => e = .returned (.pointer (some ⟨o, 13, none⟩)) ∧ w = w' := by
  go_enter Tryd.func42, Tryd.ntmps42
  go_wp2
  go_ret
  exact ⟨rfl, rfl⟩
theorem at_spec14 (o : Nat) (w : World) : Calls Tryd.prog 43 #[.pointer (some ⟨o, 0, none⟩)] w fun e w' => e = .returned (.pointer (some ⟨o, 14, none⟩)) ∧ w = w' := by
  go_enter Tryd.func43, Tryd.ntmps43
  go_wp2
  go_ret
  exact ⟨rfl, rfl⟩
theorem at_spec15 (o : Nat) (w : World) : Calls Tryd.prog 44 #[.pointer (some ⟨o, 0, none⟩)] w fun e w' => e = .returned (.pointer (some ⟨o, 15, none⟩)) ∧ w = w' := by
  go_enter Tryd.func44, Tryd.ntmps44
  go_wp2
  go_ret
  exact ⟨rfl, rfl⟩
theorem at_spec16 (o : Nat) (w : World) : Calls Tryd.prog 45 #[.pointer (some ⟨o, 0, none⟩)] w fun e w' => e = .returned (.pointer (some ⟨o, 16, none⟩)) ∧ w = w' := by
  go_enter Tryd.func45, Tryd.ntmps45
  go_wp2
  go_ret
  exact ⟨rfl, rfl⟩
theorem at_spec17 (o : Nat) (w : World) : Calls Tryd.prog 46 #[.pointer (some ⟨o, 0, none⟩)] w fun e w' => e = .returned (.pointer (some ⟨o, 17, none⟩)) ∧ w = w' := by
  go_enter Tryd.func46, Tryd.ntmps46
  go_wp2
  go_ret
  exact ⟨rfl, rfl⟩
theorem at_spec18 (o : Nat) (w : World) : Calls Tryd.prog 47 #[.pointer (some ⟨o, 0, none⟩)] w fun e w' => e = .returned (.pointer (some ⟨o, 18, none⟩)) ∧ w = w' := by
  go_enter Tryd.func47, Tryd.ntmps47
  go_wp2
  go_ret
  exact ⟨rfl, rfl⟩
theorem at_spec19 (o : Nat) (w : World) : Calls Tryd.prog 48 #[.pointer (some ⟨o, 0, none⟩)] w fun e w' => e = .returned (.pointer (some ⟨o, 19, none⟩)) ∧ w = w' := by
  go_enter Tryd.func48, Tryd.ntmps48
  go_wp2
  go_ret
  exact ⟨rfl, rfl⟩
theorem at_spec20 (o : Nat) (w : World) : Calls Tryd.prog 49 #[.pointer (some ⟨o, 0, none⟩)] w fun e w' => e = .returned (.pointer (some ⟨o, 20, none⟩)) ∧ w = w' := by
  go_enter Tryd.func49, Tryd.ntmps49
  go_wp2
  go_ret
  exact ⟨rfl, rfl⟩

theorem ocells_upd (f : Nat → Int) (n : Int) : ∀ i, i < 21 → (ocells f).setIfInBounds i (if boxT i = 58 then .int .i64 n else .bool (n == 1)) = ocells (upd f i n) := by
  refine by21 rfl rfl rfl rfl rfl rfl rfl rfl rfl rfl rfl rfl rfl rfl rfl rfl rfl rfl rfl rfl rfl

/-- The default, as numbers. -/
def dflt : Nat → Int
  | 7 => 1
  | 8 => 1
  | 10 => 1
  | 20 => 4
  | _ => 0


theorem Blk.setRow {w : World} {g : Nat} {t : TypeId} {cur : Array Value} (h : Blk w g t cur) (cs : Array Value) : Blk (w.setRow g cs) g t cs := setRow_heap w g _ _ t _ h

theorem default_cells : (Tryd.prog.built 23 [(7, .bool true), (8, .bool true), (10, .bool true), (20, .int .i64 4)]).getD #[] = ocells dflt := by kernel_rfl


theorem ocells_one (f : Nat → Int) : (ocells f).all (·.oneCell') = true := by simp [ocells, Value.oneCell']
/-- The zero options. -/
def zf : Nat → Int := fun _ => 0
set_option maxHeartbeats 4000000 in
theorem default_spec (w : World) : Calls Tryd.prog 14 #[] w fun e w' => e = .returned (.agg (ocells dflt)) ∧ Fr (fun _ => False) w w' := by
  have hn := Blk.new w 23 (ocells zf)
  have HN := Lib.hid hn
  clear hn
  go_enter Tryd.func14, Tryd.ntmps14
  go_wp2_with ((refine wpList_store_row rfl 23 _ _ rfl w.heap.size (ocells dflt) rfl rfl 23 (ocells zf) HN.out Tryd.size23 rfl (ocells_one _) ?_))
  exact bodyPost_ret (results_cell_row rfl _ _ w.heap.size 23 (ocells dflt) (0, 0) _ rfl (HN.out.setRow _) Tryd.underlying23 rfl Tryd.size23) rfl ⟨rfl, ((Fr.refl _ _).alloc _).trans (fr_setRow _ _ _) (fun i hi h => absurd h (Nat.ne_of_lt hi))⟩
end Go.Proofs.YtlfaeabbfejjcaaDoor
