/- The walks of the reference's Default, one, Of. -/
import Derived.Test.YtlfaeabbfejjcaaDoorAt
namespace Go.Proofs.YtlfaeabbfejjcaaDoor
open Go.RowKit

set_option maxHeartbeats 4000000 in
theorem rdefault_spec (w : World) : Calls Tryd.prog 15 #[] w fun e w' => e = .returned (.agg (ocells dflt)) ∧ Fr (fun _ => False) w w' := by
  have hn := Blk.new w 23 (ocells zf)
  have HN := Lib.hid hn
  clear hn
  go_enter Tryd.func15, Tryd.ntmps15
  go_wp2_with (refine wpList_store_row rfl 23 _ _ rfl w.heap.size (ocells dflt) rfl rfl 23 (ocells zf) HN.out Tryd.size23 rfl (ocells_one _) ?_)
  exact bodyPost_ret (results_cell_row rfl _ _ w.heap.size 23 (ocells dflt) (0, 0) _ rfl (HN.out.setRow _) Tryd.underlying23 rfl Tryd.size23) rfl ⟨rfl, ((Fr.refl _ _).alloc _).trans (fr_setRow _ _ _) (fun i hi h => absurd h (Nat.ne_of_lt hi))⟩

theorem one_spec (b : Bool) (w : World) : Calls Tryd.prog 52 #[.bool b] w fun e w' => e = .returned (.int .i64 (if b = true then 1 else 0)) ∧ w = w' := by
  cases b
  all_goals
    go_enter Tryd.func52, Tryd.ntmps52
    go_wp2
    go_ret
    exact ⟨rfl, rfl⟩

/-- The cells of an array of 21 numbers. -/
def acells (f : Nat → Int) : Array Value := #[.int .i64 (f 0), .int .i64 (f 1), .int .i64 (f 2), .int .i64 (f 3), .int .i64 (f 4), .int .i64 (f 5), .int .i64 (f 6), .int .i64 (f 7), .int .i64 (f 8), .int .i64 (f 9), .int .i64 (f 10), .int .i64 (f 11), .int .i64 (f 12), .int .i64 (f 13), .int .i64 (f 14), .int .i64 (f 15), .int .i64 (f 16), .int .i64 (f 17), .int .i64 (f 18), .int .i64 (f 19), .int .i64 (f 20)]
theorem acells_one (f : Nat → Int) : (acells f).all (·.oneCell') = true := by simp [acells, Value.oneCell']
theorem Tryd.size51 : (Tryd.prog.info? 51).map (·.size) = some 21 := by kernel_rfl

end Go.Proofs.YtlfaeabbfejjcaaDoor
