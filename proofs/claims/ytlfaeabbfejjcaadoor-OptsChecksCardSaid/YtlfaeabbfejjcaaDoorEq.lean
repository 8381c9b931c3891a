/- Options compared: '==' of two structs of 21 fields. -/
import Derived.Test.YtlfaeabbfejjcaaDoorAt
import Derived.Laws.StructEq
namespace Go.Proofs.YtlfaeabbfejjcaaDoor
open Go.RowKit

theorem run_eqFields_list {P : Program} (w : World) (d : Nat) (xs ys : Array Value) : ∀ (fs : List Field) (bs : List Bool), fs.length = bs.length →
    (∀ (j : Nat) (fld : Field) (b : Bool), fs[j]? = some fld → bs[j]? = some b → fld.name ≠ "_" ∧ ∃ x y, (part fld.type xs fld.offset).run P w = .ok x w ∧ (part fld.type ys fld.offset).run P w = .ok y w ∧ (Op.equalIn d fld.type x y).run P w = .ok b w) →
    (Op.eqFields d xs ys fs).run P w = .ok (bs.all id) w := by
  intro fs
  induction fs with
  | nil => intro bs hl _; cases bs with
    | nil => simp [Op.eqFields]
    | cons b bs => cases hl
  | cons fld fs ih =>
    intro bs hl h
    cases bs with
    | nil => cases hl
    | cons b bs =>
      obtain ⟨hn, x, y, hx, hy, he⟩ := h 0 fld b rfl rfl
      have hrest := ih bs (by simpa using hl) (fun j f' b' hf hb => h (j + 1) f' b' hf hb)
      simp only [Op.eqFields, hn, ne_eq, not_false_eq_true, if_true, Sem.run_bind, hx, hy, he, Result.andThen_ok]
      cases b
      · simp
      · simpa using hrest

/-- Options are the same: field by field. -/
def eqO (f g : Nat → Int) : Bool := ([f 0 == g 0, f 1 == g 1, (f 2 == 1) == (g 2 == 1), (f 3 == 1) == (g 3 == 1), (f 4 == 1) == (g 4 == 1), (f 5 == 1) == (g 5 == 1), (f 6 == 1) == (g 6 == 1), (f 7 == 1) == (g 7 == 1), (f 8 == 1) == (g 8 == 1), (f 9 == 1) == (g 9 == 1), (f 10 == 1) == (g 10 == 1), (f 11 == 1) == (g 11 == 1), (f 12 == 1) == (g 12 == 1), (f 13 == 1) == (g 13 == 1), (f 14 == 1) == (g 14 == 1), (f 15 == 1) == (g 15 == 1), (f 16 == 1) == (g 16 == 1), (f 17 == 1) == (g 17 == 1), f 18 == g 18, f 19 == g 19, f 20 == g 20] : List Bool).all id

theorem part_int {P : Program} (w : World) (xs : Array Value) (o : Nat) {v : Value} (t : TypeId) (ha : (isAgg t).run P w = .ok false w) (h : xs[o]? = some v) : (part t xs o).run P w = .ok v w := by
  simp only [part, Sem.run_bind, ha, Result.andThen_ok, h]; simp

set_option maxRecDepth 100000 in
theorem fields25 : (Tryd.prog.fieldsOf 23).toList.length = 21 := by kernel_rfl
/-- The type of field i. -/
def ftyp (i : Nat) : TypeId := if boxT i = 58 then 3 else 4
theorem fields25_at : ∀ i, i < 21 → ((Tryd.prog.fieldsOf 23).toList[i]?).map (fun f => (f.type, f.offset, decide (f.name ≠ "_"))) = some (ftyp i, i, true) := by21 (by kernel_rfl) (by kernel_rfl) (by kernel_rfl) (by kernel_rfl) (by kernel_rfl) (by kernel_rfl) (by kernel_rfl) (by kernel_rfl) (by kernel_rfl) (by kernel_rfl) (by kernel_rfl) (by kernel_rfl) (by kernel_rfl) (by kernel_rfl) (by kernel_rfl) (by kernel_rfl) (by kernel_rfl) (by kernel_rfl) (by kernel_rfl) (by kernel_rfl) (by kernel_rfl)

/-- The comparisons, one a field. -/
def eqL (f g : Nat → Int) : List Bool := [f 0 == g 0, f 1 == g 1, (f 2 == 1) == (g 2 == 1), (f 3 == 1) == (g 3 == 1), (f 4 == 1) == (g 4 == 1), (f 5 == 1) == (g 5 == 1), (f 6 == 1) == (g 6 == 1), (f 7 == 1) == (g 7 == 1), (f 8 == 1) == (g 8 == 1), (f 9 == 1) == (g 9 == 1), (f 10 == 1) == (g 10 == 1), (f 11 == 1) == (g 11 == 1), (f 12 == 1) == (g 12 == 1), (f 13 == 1) == (g 13 == 1), (f 14 == 1) == (g 14 == 1), (f 15 == 1) == (g 15 == 1), (f 16 == 1) == (g 16 == 1), (f 17 == 1) == (g 17 == 1), f 18 == g 18, f 19 == g 19, f 20 == g 20]
theorem eqO_eq (f g : Nat → Int) : eqO f g = (eqL f g).all id := rfl

theorem eq_at (f g : Nat → Int) (w : World) : ∀ i, i < 21 → ∃ x y, (part (ftyp i) (ocells f) i).run Tryd.prog w = .ok x w ∧ (part (ftyp i) (ocells g) i).run Tryd.prog w = .ok y w ∧ (Op.equalIn 9999 (ftyp i) x y).run Tryd.prog w = .ok ((eqL f g).getD i false) w := by
  refine by21 ⟨_, _, part_int w _ 0 3 (by simp [isAgg, run_underlying Tryd.underlying3]) (show (ocells f)[0]? = some (.int .i64 (f 0)) from rfl), part_int w _ 0 3 (by simp [isAgg, run_underlying Tryd.underlying3]) (show (ocells g)[0]? = some (.int .i64 (g 0)) from rfl), run_equalIn_int w 9998 3 .i64 .i64 (f 0) (g 0) Tryd.underlying3⟩ ⟨_, _, part_int w _ 1 3 (by simp [isAgg, run_underlying Tryd.underlying3]) (show (ocells f)[1]? = some (.int .i64 (f 1)) from rfl), part_int w _ 1 3 (by simp [isAgg, run_underlying Tryd.underlying3]) (show (ocells g)[1]? = some (.int .i64 (g 1)) from rfl), run_equalIn_int w 9998 3 .i64 .i64 (f 1) (g 1) Tryd.underlying3⟩ ⟨_, _, part_int w _ 2 4 (by simp [isAgg, run_underlying Tryd.underlying4]) (show (ocells f)[2]? = some (.bool (f 2 == 1)) from rfl), part_int w _ 2 4 (by simp [isAgg, run_underlying Tryd.underlying4]) (show (ocells g)[2]? = some (.bool (g 2 == 1)) from rfl), run_equalIn_bool' w 9998 4 (f 2 == 1) (g 2 == 1) Tryd.underlying4⟩ ⟨_, _, part_int w _ 3 4 (by simp [isAgg, run_underlying Tryd.underlying4]) (show (ocells f)[3]? = some (.bool (f 3 == 1)) from rfl), part_int w _ 3 4 (by simp [isAgg, run_underlying Tryd.underlying4]) (show (ocells g)[3]? = some (.bool (g 3 == 1)) from rfl), run_equalIn_bool' w 9998 4 (f 3 == 1) (g 3 == 1) Tryd.underlying4⟩ ⟨_, _, part_int w _ 4 4 (by simp [isAgg, run_underlying Tryd.underlying4]) (show (ocells f)[4]? = some (.bool (f 4 == 1)) from rfl), part_int w _ 4 4 (by simp [isAgg, run_underlying Tryd.underlying4]) (show (ocells g)[4]? = some (.bool (g 4 == 1)) from rfl), run_equalIn_bool' w 9998 4 (f 4 == 1) (g 4 == 1) Tryd.underlying4⟩ ⟨_, _, part_int w _ 5 4 (by simp [isAgg, run_underlying Tryd.underlying4]) (show (ocells f)[5]? = some (.bool (f 5 == 1)) from rfl), part_int w _ 5 4 (by simp [isAgg, run_underlying Tryd.underlying4]) (show (ocells g)[5]? = some (.bool (g 5 == 1)) from rfl), run_equalIn_bool' w 9998 4 (f 5 == 1) (g 5 == 1) Tryd.underlying4⟩ ⟨_, _, part_int w _ 6 4 (by simp [isAgg, run_underlying Tryd.underlying4]) (show (ocells f)[6]? = some (.bool (f 6 == 1)) from rfl), part_int w _ 6 4 (by simp [isAgg, run_underlying Tryd.underlying4]) (show (ocells g)[6]? = some (.bool (g 6 == 1)) from rfl), run_equalIn_bool' w 9998 4 (f 6 == 1) (g 6 == 1) Tryd.underlying4⟩ ⟨_, _, part_int w _ 7 4 (by simp [isAgg, run_underlying Tryd.underlying4]) (show (ocells f)[7]? = some (.bool (f 7 == 1)) from rfl), part_int w _ 7 4 (by simp [isAgg, run_underlying Tryd.underlying4]) (show (ocells g)[7]? = some (.bool (g 7 == 1)) from rfl), run_equalIn_bool' w 9998 4 (f 7 == 1) (g 7 == 1) Tryd.underlying4⟩ ⟨_, _, part_int w _ 8 4 (by simp [isAgg, run_underlying Tryd.underlying4]) (show (ocells f)[8]? = some (.bool (f 8 == 1)) from rfl), part_int w _ 8 4 (by simp [isAgg, run_underlying Tryd.underlying4]) (show (ocells g)[8]? = some (.bool (g 8 == 1)) from rfl), run_equalIn_bool' w 9998 4 (f 8 == 1) (g 8 == 1) Tryd.underlying4⟩ ⟨_, _, part_int w _ 9 4 (by simp [isAgg, run_underlying Tryd.underlying4]) (show (ocells f)[9]? = some (.bool (f 9 == 1)) from rfl), part_int w _ 9 4 (by simp [isAgg, run_underlying Tryd.underlying4]) (show (ocells g)[9]? = some (.bool (g 9 == 1)) from rfl), run_equalIn_bool' w 9998 4 (f 9 == 1) (g 9 == 1) Tryd.underlying4⟩ ⟨_, _, part_int w _ 10 4 (by simp [isAgg, run_underlying Tryd.underlying4]) (show (ocells f)[10]? = some (.bool (f 10 == 1)) from rfl), part_int w _ 10 4 (by simp [isAgg, run_underlying Tryd.underlying4]) (show (ocells g)[10]? = some (.bool (g 10 == 1)) from rfl), run_equalIn_bool' w 9998 4 (f 10 == 1) (g 10 == 1) Tryd.underlying4⟩ ⟨_, _, part_int w _ 11 4 (by simp [isAgg, run_underlying Tryd.underlying4]) (show (ocells f)[11]? = some (.bool (f 11 == 1)) from rfl), part_int w _ 11 4 (by simp [isAgg, run_underlying Tryd.underlying4]) (show (ocells g)[11]? = some (.bool (g 11 == 1)) from rfl), run_equalIn_bool' w 9998 4 (f 11 == 1) (g 11 == 1) Tryd.underlying4⟩ ⟨_, _, part_int w _ 12 4 (by simp [isAgg, run_underlying Tryd.underlying4]) (show (ocells f)[12]? = some (.bool (f 12 == 1)) from rfl), part_int w _ 12 4 (by simp [isAgg, run_underlying Tryd.underlying4]) (show (ocells g)[12]? = some (.bool (g 12 == 1)) from rfl), run_equalIn_bool' w 9998 4 (f 12 == 1) (g 12 == 1) Tryd.underlying4⟩ ⟨_, _, part_int w _ 13 4 (by simp [isAgg, run_underlying Tryd.underlying4]) (show (ocells f)[13]? = some (.bool (f 13 == 1)) from rfl), part_int w _ 13 4 (by simp [isAgg, run_underlying Tryd.underlying4]) (show (ocells g)[13]? = some (.bool (g 13 == 1)) from rfl), run_equalIn_bool' w 9998 4 (f 13 == 1) (g 13 == 1) Tryd.underlying4⟩ ⟨_, _, part_int w _ 14 4 (by simp [isAgg, run_underlying Tryd.underlying4]) (show (ocells f)[14]? = some (.bool (f 14 == 1)) from rfl), part_int w _ 14 4 (by simp [isAgg, run_underlying Tryd.underlying4]) (show (ocells g)[14]? = some (.bool (g 14 == 1)) from rfl), run_equalIn_bool' w 9998 4 (f 14 == 1) (g 14 == 1) Tryd.underlying4⟩ ⟨_, _, part_int w _ 15 4 (by simp [isAgg, run_underlying Tryd.underlying4]) (show (ocells f)[15]? = some (.bool (f 15 == 1)) from rfl), part_int w _ 15 4 (by simp [isAgg, run_underlying Tryd.underlying4]) (show (ocells g)[15]? = some (.bool (g 15 == 1)) from rfl), run_equalIn_bool' w 9998 4 (f 15 == 1) (g 15 == 1) Tryd.underlying4⟩ ⟨_, _, part_int w _ 16 4 (by simp [isAgg, run_underlying Tryd.underlying4]) (show (ocells f)[16]? = some (.bool (f 16 == 1)) from rfl), part_int w _ 16 4 (by simp [isAgg, run_underlying Tryd.underlying4]) (show (ocells g)[16]? = some (.bool (g 16 == 1)) from rfl), run_equalIn_bool' w 9998 4 (f 16 == 1) (g 16 == 1) Tryd.underlying4⟩ ⟨_, _, part_int w _ 17 4 (by simp [isAgg, run_underlying Tryd.underlying4]) (show (ocells f)[17]? = some (.bool (f 17 == 1)) from rfl), part_int w _ 17 4 (by simp [isAgg, run_underlying Tryd.underlying4]) (show (ocells g)[17]? = some (.bool (g 17 == 1)) from rfl), run_equalIn_bool' w 9998 4 (f 17 == 1) (g 17 == 1) Tryd.underlying4⟩ ⟨_, _, part_int w _ 18 3 (by simp [isAgg, run_underlying Tryd.underlying3]) (show (ocells f)[18]? = some (.int .i64 (f 18)) from rfl), part_int w _ 18 3 (by simp [isAgg, run_underlying Tryd.underlying3]) (show (ocells g)[18]? = some (.int .i64 (g 18)) from rfl), run_equalIn_int w 9998 3 .i64 .i64 (f 18) (g 18) Tryd.underlying3⟩ ⟨_, _, part_int w _ 19 3 (by simp [isAgg, run_underlying Tryd.underlying3]) (show (ocells f)[19]? = some (.int .i64 (f 19)) from rfl), part_int w _ 19 3 (by simp [isAgg, run_underlying Tryd.underlying3]) (show (ocells g)[19]? = some (.int .i64 (g 19)) from rfl), run_equalIn_int w 9998 3 .i64 .i64 (f 19) (g 19) Tryd.underlying3⟩ ⟨_, _, part_int w _ 20 3 (by simp [isAgg, run_underlying Tryd.underlying3]) (show (ocells f)[20]? = some (.int .i64 (f 20)) from rfl), part_int w _ 20 3 (by simp [isAgg, run_underlying Tryd.underlying3]) (show (ocells g)[20]? = some (.int .i64 (g 20)) from rfl), run_equalIn_int w 9998 3 .i64 .i64 (f 20) (g 20) Tryd.underlying3⟩

theorem run_eql25 (f g : Nat → Int) (w : World) : (binOp .eql 23 (.agg (ocells f)) (.agg (ocells g))).run Tryd.prog w = .ok (.bool (eqO f g)) w := by
  rw [run_eql_struct, show (10000 : Nat) = 9999 + 1 from rfl, run_equalIn_struct w 9999 23 _ _ (by kernel_rfl) (by kernel_rfl)]
  rw [run_eqFields_list w 9999 (ocells f) (ocells g) _ (eqL f g) fields25 ?_]
  · rfl
  · intro j fld b hf hb
    have hj : j < 21 := by
      rcases Nat.lt_or_ge j 21 with h | h
      · exact h
      · rw [List.getElem?_eq_none (by rw [fields25]; exact h)] at hf; cases hf
    have h := fields25_at j hj
    rw [hf] at h
    have h2 := Option.some.inj h
    injection h2 with h3 h4
    injection h4 with h5 h6
    obtain ⟨x, y, hx, hy, he⟩ := eq_at f g w j hj
    have hbb : (eqL f g).getD j false = b := by rw [List.getD_eq_getElem?_getD, hb]; rfl
    rw [hbb] at he
    rw [h3, h5]
    exact ⟨by simpa using h6, x, y, hx, hy, he⟩
end Go.Proofs.YtlfaeabbfejjcaaDoor
