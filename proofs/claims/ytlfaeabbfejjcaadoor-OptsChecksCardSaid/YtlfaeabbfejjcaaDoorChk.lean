/- The walks of Check: the program's, the reference's; Default, one, Of: the reference's. -/
import Derived.Test.YtlfaeabbfejjcaaDoorAt
namespace Go.Proofs.YtlfaeabbfejjcaaDoor
open Go.RowKit

def inB (n a b : Int) : Bool := decide (a ≤ n) && decide (n ≤ b)
/-- Whether options may be. -/
def okS (f : Nat → Int) : Bool := inB (f 0) 0 3 && inB (f 1) 0 2147483647 && inB (f 18) 0 86400 && (f 19 == 0 || inB (f 19) 16 4096) && inB (f 20) 1 32 && !(f 2 == 1 && f 3 == 1)

theorem in_spec (n a b : Int) (w : World) : Calls Tryd.prog 19 #[.int .i64 n, .int .i64 a, .int .i64 b] w fun e w' => e = .returned (.bool (inB n a b)) ∧ w = w' := by
  by_cases h : a ≤ n
  · have h1 : decide (a ≤ n) = true := by simpa using h
    have hb : inB n a b = decide (n ≤ b) := by rw [inB, h1]; rfl
    rw [hb]
    go_enter Tryd.func19, Tryd.ntmps19
    go_wp2
    go_ret
    exact ⟨rfl, rfl⟩
  · have h1 : decide (a ≤ n) = false := by simpa using h
    have hb : inB n a b = false := by rw [inB, h1]; rfl
    rw [hb]
    go_enter Tryd.func19, Tryd.ntmps19
    go_wp2
    go_ret
    exact ⟨rfl, rfl⟩

def ckS (f : Nat → Int) : Int := if okS f = true then 0 else 2

set_option maxHeartbeats 8000000 in
theorem check_spec (f : Nat → Int) (w : World) : Calls Tryd.prog 7 #[.agg (ocells f)] w fun e w' => e = .returned (.int .i64 (ckS f)) ∧ Fr (fun _ => False) w w' := by
  have hb := Blk.new w 23 (ocells f)
  have c0 := hb.cell 0 (v := .int .i64 (f 0)) rfl
  have c1 := hb.cell 1 (v := .int .i64 (f 1)) rfl
  have c2 := hb.cell 2 (v := .bool (f 2 == 1)) rfl
  have c3 := hb.cell 3 (v := .bool (f 3 == 1)) rfl
  have c18 := hb.cell 18 (v := .int .i64 (f 18)) rfl
  have c19 := hb.cell 19 (v := .int .i64 (f 19)) rfl
  have c20 := hb.cell 20 (v := .int .i64 (f 20)) rfl
  clear hb
  go_enter Tryd.func7, Tryd.ntmps7
  go_wp2_with (go_at_call 19; refine (in_spec _ _ _ _).mono ?_; rintro e w' ⟨rfl, rfl⟩)
  all_goals clear c0 c1 c2 c3 c18 c19 c20
  all_goals go_light
  all_goals (go_ret; refine ⟨ret_i ?_, (Fr.refl _ _).alloc _⟩; simp [ckS, okS, *])

/-- The same, spelt out. -/
def okP (f : Nat → Int) : Prop := 0 ≤ f 0 ∧ f 0 ≤ 3 ∧ 0 ≤ f 1 ∧ f 1 ≤ 2147483647 ∧ 0 ≤ f 18 ∧ f 18 ≤ 86400 ∧ (f 19 = 0 ∨ (16 ≤ f 19 ∧ f 19 ≤ 4096)) ∧ 1 ≤ f 20 ∧ f 20 ≤ 32 ∧ ¬ (f 2 = 1 ∧ f 3 = 1)
theorem okS_iff (f : Nat → Int) : okS f = true ↔ okP f := by
  simp only [okS, inB, okP, Bool.and_eq_true, Bool.or_eq_true, Bool.not_eq_true', decide_eq_true_eq, beq_iff_eq, Bool.and_eq_false_iff, beq_eq_false_iff_ne, ne_eq]
  omega
theorem ckS_two {f : Nat → Int} (h : ¬ okP f) : 2 = ckS f := by rw [ckS, if_neg (fun hh => h ((okS_iff f).mp hh))]
theorem ckS_zero {f : Nat → Int} (h : okP f) : 0 = ckS f := by rw [ckS, if_pos ((okS_iff f).mpr h)]

end Go.Proofs.YtlfaeabbfejjcaaDoor
