/- The walks of the reference's Default, one, Of. -/
import Derived.Test.YtlfaeabbfejjcaaAt
namespace Go.Proofs.Ytlfaeabbfejjcaa
open Go.RowKit

set_option maxHeartbeats 4000000 in
theorem rdefault_spec (w : World) : Calls Try.prog 20 #[] w fun e w' => e = .returned (.agg (ocells dflt)) ∧ Fr (fun _ => False) w w' := by
  have hn := Blk.new w 25 (ocells zf)
  have HN := Lib.hid hn
  clear hn
  go_enter Try.func20, Try.ntmps20
  go_wp2_with (refine wpList_store_row rfl 25 _ _ rfl w.heap.size (ocells dflt) rfl rfl 25 (ocells zf) HN.out Try.size25 rfl (ocells_one _) ?_)
  exact bodyPost_ret (results_cell_row rfl _ _ w.heap.size 25 (ocells dflt) (0, 0) _ rfl (HN.out.setRow _) Try.underlying25 rfl Try.size25) rfl ⟨rfl, ((Fr.refl _ _).alloc _).trans (fr_setRow _ _ _) (fun i hi h => absurd h (Nat.ne_of_lt hi))⟩

theorem one_spec (b : Bool) (w : World) : Calls Try.prog 51 #[.bool b] w fun e w' => e = .returned (.int .i64 (if b = true then 1 else 0)) ∧ w = w' := by
  cases b
  all_goals
    go_enter Try.func51, Try.ntmps51
    go_wp2
    go_ret
    exact ⟨rfl, rfl⟩

/-- The cells of an array of 21 numbers. -/
def acells (f : Nat → Int) : Array Value := #[.int .i64 (f 0), .int .i64 (f 1), .int .i64 (f 2), .int .i64 (f 3), .int .i64 (f 4), .int .i64 (f 5), .int .i64 (f 6), .int .i64 (f 7), .int .i64 (f 8), .int .i64 (f 9), .int .i64 (f 10), .int .i64 (f 11), .int .i64 (f 12), .int .i64 (f 13), .int .i64 (f 14), .int .i64 (f 15), .int .i64 (f 16), .int .i64 (f 17), .int .i64 (f 18), .int .i64 (f 19), .int .i64 (f 20)]
theorem acells_one (f : Nat → Int) : (acells f).all (·.oneCell') = true := by simp [acells, Value.oneCell']
theorem Try.size51 : (Try.prog.info? 51).map (·.size) = some 21 := by kernel_rfl

set_option maxHeartbeats 8000000 in
theorem of_spec (f : Nat → Int) (w : World) : Calls Try.prog 23 #[.agg (acells f)] w fun e w' => e = .returned (.agg (ocells f)) ∧ Fr (fun _ => False) w w' := by
  have hb := (Blk.new w 51 (acells f)).alloc (.cells #[.int .i64 0, .int .i64 0, .bool false, .bool false, .bool false, .bool false, .bool false, .bool false, .bool false, .bool false, .bool false, .bool false, .bool false, .bool false, .bool false, .bool false, .bool false, .bool false, .int .i64 0, .int .i64 0, .int .i64 0] 25)
  have hn := Blk.new (w.alloc (.cells (acells f) 51)) 25 (ocells zf)
  rw [show (w.alloc (.cells (acells f) 51)).heap.size = w.heap.size + 1 from Array.size_push ..] at hn
  have c0 := hb.cell 0 (v := .int .i64 (f 0)) rfl
  have c1 := hb.cell 1 (v := .int .i64 (f 1)) rfl
  have c2 := hb.cell 2 (v := .int .i64 (f 2)) rfl
  have c3 := hb.cell 3 (v := .int .i64 (f 3)) rfl
  have c4 := hb.cell 4 (v := .int .i64 (f 4)) rfl
  have c5 := hb.cell 5 (v := .int .i64 (f 5)) rfl
  have c6 := hb.cell 6 (v := .int .i64 (f 6)) rfl
  have c7 := hb.cell 7 (v := .int .i64 (f 7)) rfl
  have c8 := hb.cell 8 (v := .int .i64 (f 8)) rfl
  have c9 := hb.cell 9 (v := .int .i64 (f 9)) rfl
  have c10 := hb.cell 10 (v := .int .i64 (f 10)) rfl
  have c11 := hb.cell 11 (v := .int .i64 (f 11)) rfl
  have c12 := hb.cell 12 (v := .int .i64 (f 12)) rfl
  have c13 := hb.cell 13 (v := .int .i64 (f 13)) rfl
  have c14 := hb.cell 14 (v := .int .i64 (f 14)) rfl
  have c15 := hb.cell 15 (v := .int .i64 (f 15)) rfl
  have c16 := hb.cell 16 (v := .int .i64 (f 16)) rfl
  have c17 := hb.cell 17 (v := .int .i64 (f 17)) rfl
  have c18 := hb.cell 18 (v := .int .i64 (f 18)) rfl
  have c19 := hb.cell 19 (v := .int .i64 (f 19)) rfl
  have c20 := hb.cell 20 (v := .int .i64 (f 20)) rfl
  have HN := Lib.hid hn
  clear hb hn
  go_enter Try.func23, Try.ntmps23
  go_wp2_with (refine wpList_store_row rfl 25 _ _ rfl (w.heap.size + 1) (ocells f) rfl rfl 25 (ocells zf) HN.out Try.size25 rfl (ocells_one _) ?_)
  exact bodyPost_ret (results_cell_row rfl _ _ (w.heap.size + 1) 25 (ocells f) (0, 0) _ rfl (HN.out.setRow _) Try.underlying25 rfl Try.size25) rfl ⟨rfl, (((Fr.refl _ _).alloc _).alloc _).trans (fr_setRow _ _ _) (fun i hi h => by omega)⟩
end Go.Proofs.Ytlfaeabbfejjcaa
