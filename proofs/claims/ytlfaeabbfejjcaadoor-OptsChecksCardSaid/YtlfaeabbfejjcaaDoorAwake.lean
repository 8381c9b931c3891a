/- The walk of awake. -/
import Derived.Test.YtlfaeabbfejjcaaDoorParse
import Derived.Test.YtlfaeabbfejjcaaDoorEq
namespace Go.Proofs.YtlfaeabbfejjcaaDoor
open Go.RowKit

/-- The three words of the small case. -/
def L3 : List ByteArray := [⟨#[45, 45, 100, 101, 108, 101, 116, 101, 61, 97, 102, 116, 101, 114]⟩, ⟨#[45, 45, 110, 111, 45, 112, 101, 114, 109, 115]⟩, ⟨#[45, 45, 119, 105, 110, 100, 111, 119, 61, 49]⟩]
def f3 : Nat → Int
  | 0 => 3
  | 8 => 1
  | 10 => 1
  | 18 => 1
  | 20 => 4
  | _ => 0

theorem parse3_cells : ocells (parseS L3).1 = ocells f3 := by kernel_rfl
theorem parse3_2 : (parseS L3).2 = (3, 0) := by kernel_rfl
def W3 : Array Value := #[.string ⟨#[45, 45, 100, 101, 108, 101, 116, 101, 61, 97, 102, 116, 101, 114]⟩, .string ⟨#[45, 45, 110, 111, 45, 112, 101, 114, 109, 115]⟩, .string ⟨#[45, 45, 119, 105, 110, 100, 111, 119, 61, 49]⟩]

theorem parse3 (w : World) : Calls Tryd.prog 8 #[.slice (some ⟨w.heap.size, 0, none⟩) 3 3] (w.alloc (.cells W3 9)) fun e w' => e = .returned (.tuple #[.agg (ocells f3), .int .i64 3, .int .i64 0]) ∧ Fr (fun _ => False) (w.alloc (.cells W3 9)) w' := by
  have h := parse_spec (some ⟨w.heap.size, 0, none⟩) L3 3 (w.alloc (.cells W3 9)) (by decide) (by
    intro j s hj
    refine ⟨_, rfl, by simp, ?_⟩
    have hb := Blk.new w 9 W3
    match j, hj with
    | 0, hj => cases hj; exact hb.cell 0 rfl
    | 1, hj => cases hj; exact hb.cell 1 rfl
    | 2, hj => cases hj; exact hb.cell 2 rfl
    | j + 3, hj => cases hj)
  rw [parse3_cells, parse3_2] at h
  exact h

/-- A whole row read by a guarded operation that is wanted. -/
theorem wpList_load_row_g {P : Program} {ops : Array Oper} {rest : List Oper} {o : Oper} {a : Act} {w : World} {Q : Exit → Act → World → Prop} (hw : Region.wanted o (yielded ops a.tmps) = true) (ty : TypeId) (x : Operand) (ho : o.op = .load ty x)
    (g : Nat) (hx : a.eval x = .pointer (some ⟨g, 0, none⟩)) (t : TypeId) (cs : Array Value) (fr : Nat × Nat) (d : TypeDesc) (hg : w.heap[g]? = some (.cells cs t fr))
    (hu : P.underlying ty = some d) (hd : (match d with | .struct _ | .array _ _ => true | _ => false) = true) (hi : (P.info? ty).map (·.size) = some cs.size)
    (h : wpList P ops Q rest (a.put o.dst (.agg cs)) w) : wpList P ops Q (o :: rest) a w :=
  wpList_step fun _ hK => by rw [if_pos hw]; exact wp_load_row ty x ho g hx t cs fr d hg hu hd hi (hK _ _ h)

set_option maxRecDepth 100000 in
set_option maxHeartbeats 4000000 in
theorem awake_spec (w : World) : Calls Tryd.prog 5 #[] w fun e w' => e = .returned (.bool true) ∧ Fr (fun _ => False) w w' := by
  have heq : ∀ w, (binOp .eql 23 (.agg (ocells f3)) (.agg #[.int .i64 3, .int .i64 0, .bool false, .bool false, .bool false, .bool false, .bool false, .bool false, .bool true, .bool false, .bool true, .bool false, .bool false, .bool false, .bool false, .bool false, .bool false, .bool false, .int .i64 1, .int .i64 0, .int .i64 4])).run Tryd.prog w = .ok (.bool true) w := fun w => (run_eql25 f3 f3 w).trans rfl
  have HP := Lib.hid (parse3 w)
  go_enter Tryd.func5, Tryd.ntmps5
  go_wp2_with (first | (go_at_call 8; refine HP.out.mono ?_; rintro e w1 ⟨rfl, hf1⟩) | (refine wpList_store_row rfl 23 _ _ rfl _ (ocells f3) rfl rfl 23 (ocells zf) (Blk.new _ _ _) Tryd.size23 rfl (ocells_one _) ?_; rw [World.setRow_alloc_new]; have HB := Lib.hid (Blk.new w1 23 (ocells f3)); have HF := Lib.hid ((Fr.refl (fun _ => False) w1).alloc (.cells (ocells f3) 23)); generalize w1.alloc (.cells (ocells f3) 23) = w2 at HB HF ⊢; generalize w1.heap.size = o1 at HB ⊢) | (refine wpList_load_row_g rfl 23 _ rfl o1 rfl 23 (ocells f3) (0, 0) _ HB.out Tryd.underlying23 rfl Tryd.size23 ?_) | (refine wp_load_row 23 _ rfl o1 rfl 23 (ocells f3) (0, 0) _ HB.out Tryd.underlying23 rfl Tryd.size23 ?_))
  go_ret
  exact ⟨rfl, (((Fr.refl _ _).alloc _).trans hf1 (fun _ _ h => h)).trans HF.out (fun _ _ h => h)⟩
end Go.Proofs.YtlfaeabbfejjcaaDoor
