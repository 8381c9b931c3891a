/- The walk of the reference's Check. -/
import Derived.Test.YtlfaeabbfejjcaaDoorChk
namespace Go.Proofs.YtlfaeabbfejjcaaDoor
open Go.RowKit

set_option maxHeartbeats 8000000 in
theorem rcheck_spec (f : Nat → Int) (w : World) : Calls Tryd.prog 12 #[.agg (ocells f)] w fun e w' => e = .returned (.int .i64 (ckS f)) ∧ Fr (fun _ => False) w w' := by
  have hb := Blk.new w 23 (ocells f)
  have c0 := hb.cell 0 (v := .int .i64 (f 0)) rfl
  have c1 := hb.cell 1 (v := .int .i64 (f 1)) rfl
  have c2 := hb.cell 2 (v := .bool (f 2 == 1)) rfl
  have c3 := hb.cell 3 (v := .bool (f 3 == 1)) rfl
  have c18 := hb.cell 18 (v := .int .i64 (f 18)) rfl
  have c19 := hb.cell 19 (v := .int .i64 (f 19)) rfl
  have c20 := hb.cell 20 (v := .int .i64 (f 20)) rfl
  clear hb
  go_enter Tryd.func12, Tryd.ntmps12
  go_wp2_with (fail)
  all_goals clear c0 c1 c2 c3 c18 c19 c20
  all_goals go_light
  all_goals (go_ret; refine ⟨ret_i ?_, (Fr.refl _ _).alloc _⟩)
  all_goals first
    | (refine ckS_two ?_; unfold okP; (try simp only [beq_iff_eq, beq_eq_false_iff_ne, ne_eq] at *); omega)
    | (refine ckS_zero ?_; unfold okP; (try simp only [beq_eq_false_iff_ne, ne_eq, bne_eq_false_iff_eq] at *); omega)

end Go.Proofs.YtlfaeabbfejjcaaDoor
