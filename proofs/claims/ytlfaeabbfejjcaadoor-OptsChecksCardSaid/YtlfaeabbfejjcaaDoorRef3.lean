/- The walk of the reference's Fields. -/
import Derived.Test.YtlfaeabbfejjcaaDoorOf
import Derived.StillTailTactics
import Derived.Deep.QuietTactic
namespace Go.Proofs.YtlfaeabbfejjcaaDoor
open Go.RowKit

def oneI (b : Bool) : Int := cond b 1 0
/-- Options as the reference's numbers. -/
def nrm (f : Nat → Int) : Nat → Int := fun i => if 2 ≤ i ∧ i ≤ 17 then oneI (f i == 1) else f i

def ncl (f : Nat → Int) : Array Value := #[.int .i64 (f 0), .int .i64 (f 1), .int .i64 (oneI (f 2 == 1)), .int .i64 (oneI (f 3 == 1)), .int .i64 (oneI (f 4 == 1)), .int .i64 (oneI (f 5 == 1)), .int .i64 (oneI (f 6 == 1)), .int .i64 (oneI (f 7 == 1)), .int .i64 (oneI (f 8 == 1)), .int .i64 (oneI (f 9 == 1)), .int .i64 (oneI (f 10 == 1)), .int .i64 (oneI (f 11 == 1)), .int .i64 (oneI (f 12 == 1)), .int .i64 (oneI (f 13 == 1)), .int .i64 (oneI (f 14 == 1)), .int .i64 (oneI (f 15 == 1)), .int .i64 (oneI (f 16 == 1)), .int .i64 (oneI (f 17 == 1)), .int .i64 (f 18), .int .i64 (f 19), .int .i64 (f 20)]
theorem ncl_eq (f : Nat → Int) : acells (nrm f) = ncl f := by simp [acells, nrm, ncl]
theorem ncl_one (f : Nat → Int) : (ncl f).all (·.oneCell') = true := by simp [ncl, Value.oneCell']

set_option maxRecDepth 100000 in
set_option maxHeartbeats 1600000 in
theorem rfields_spec (f : Nat → Int) (w : World) : Calls Tryd.prog 21 #[.agg (ocells f)] w fun e w' => e = .returned (.agg (acells (nrm f))) ∧ Fr (fun _ => False) w w' := by
  have hb := (Blk.new w 23 (ocells f)).alloc (.cells #[.int .i64 0, .int .i64 0, .int .i64 0, .int .i64 0, .int .i64 0, .int .i64 0, .int .i64 0, .int .i64 0, .int .i64 0, .int .i64 0, .int .i64 0, .int .i64 0, .int .i64 0, .int .i64 0, .int .i64 0, .int .i64 0, .int .i64 0, .int .i64 0, .int .i64 0, .int .i64 0, .int .i64 0] 51)
  have hn : Blk ((w.alloc (.cells (ocells f) 23)).alloc (.cells #[.int .i64 0, .int .i64 0, .int .i64 0, .int .i64 0, .int .i64 0, .int .i64 0, .int .i64 0, .int .i64 0, .int .i64 0, .int .i64 0, .int .i64 0, .int .i64 0, .int .i64 0, .int .i64 0, .int .i64 0, .int .i64 0, .int .i64 0, .int .i64 0, .int .i64 0, .int .i64 0, .int .i64 0] 51)) (w.heap.size + 1) 51 (acells zf) := by
    have hn := Blk.new (w.alloc (.cells (ocells f) 23)) 51 (acells zf)
    rw [show (w.alloc (.cells (ocells f) 23)).heap.size = w.heap.size + 1 from Array.size_push ..] at hn
    exact hn
  have hf := ((Fr.refl (fun _ => False) w).alloc (.cells (ocells f) 23)).alloc (.cells #[.int .i64 0, .int .i64 0, .int .i64 0, .int .i64 0, .int .i64 0, .int .i64 0, .int .i64 0, .int .i64 0, .int .i64 0, .int .i64 0, .int .i64 0, .int .i64 0, .int .i64 0, .int .i64 0, .int .i64 0, .int .i64 0, .int .i64 0, .int .i64 0, .int .i64 0, .int .i64 0, .int .i64 0] 51)
  have q : ∀ wx b, Calls Tryd.prog 52 #[.bool b] wx fun e w' => e = .returned (.int .i64 (oneI b)) ∧ w' = wx := fun wx b => (one_spec b wx).mono fun _ _ ⟨h1, h2⟩ => ⟨by rw [h1]; cases b <;> rfl, h2.symm⟩
  have HQ := Lib.hid q
  have HB := Lib.hid hb
  have HN := Lib.hid hn
  have HF := Lib.hid hf
  clear hb hn hf q
  go_enter Tryd.func21, Tryd.ntmps21
  go_wp2_with (fail)
  generalize (w.alloc (.cells (ocells f) 23)).alloc (.cells #[.int .i64 0, .int .i64 0, .int .i64 0, .int .i64 0, .int .i64 0, .int .i64 0, .int .i64 0, .int .i64 0, .int .i64 0, .int .i64 0, .int .i64 0, .int .i64 0, .int .i64 0, .int .i64 0, .int .i64 0, .int .i64 0, .int .i64 0, .int .i64 0, .int .i64 0, .int .i64 0, .int .i64 0] 51) = wv at HB HN HF ⊢
  have HF2 := Lib.hid HF.out.drew
  have hb : Blk wv.drew w.heap.size 23 (ocells f) := HB.out
  have HN2 : Hid (Blk wv.drew (w.heap.size + 1) 51 (acells zf)) := HN
  refine wp_region_still_tail 59 (by kernel_rfl) (by kernel_rfl) ?_
  simp only [List.take_succ_cons, List.take_zero, List.drop_succ_cons, List.drop_zero]
  change wpStill _ _ wv.drew (fun a' => wpList _ _ _ _ a' wv.drew) _ _
  generalize wv.drew = wx at hb HN2 HF2 ⊢
  have c0 := hb.cell 0 (v := .int .i64 (f 0)) rfl
  have c1 := hb.cell 1 (v := .int .i64 (f 1)) rfl
  have c2 := hb.cell 2 (v := .bool (f 2 == 1)) rfl
  have c3 := hb.cell 3 (v := .bool (f 3 == 1)) rfl
  have c4 := hb.cell 4 (v := .bool (f 4 == 1)) rfl
  have c5 := hb.cell 5 (v := .bool (f 5 == 1)) rfl
  have c6 := hb.cell 6 (v := .bool (f 6 == 1)) rfl
  have c7 := hb.cell 7 (v := .bool (f 7 == 1)) rfl
  have c8 := hb.cell 8 (v := .bool (f 8 == 1)) rfl
  have c9 := hb.cell 9 (v := .bool (f 9 == 1)) rfl
  have c10 := hb.cell 10 (v := .bool (f 10 == 1)) rfl
  have c11 := hb.cell 11 (v := .bool (f 11 == 1)) rfl
  have c12 := hb.cell 12 (v := .bool (f 12 == 1)) rfl
  have c13 := hb.cell 13 (v := .bool (f 13 == 1)) rfl
  have c14 := hb.cell 14 (v := .bool (f 14 == 1)) rfl
  have c15 := hb.cell 15 (v := .bool (f 15 == 1)) rfl
  have c16 := hb.cell 16 (v := .bool (f 16 == 1)) rfl
  have c17 := hb.cell 17 (v := .bool (f 17 == 1)) rfl
  have c18 := hb.cell 18 (v := .int .i64 (f 18)) rfl
  have c19 := hb.cell 19 (v := .int .i64 (f 19)) rfl
  have c20 := hb.cell 20 (v := .int .i64 (f 20)) rfl
  clear hb HB HF HN
  iterate 59 (first | still_step | still_call (HQ.out _ _))
  refine wpStill_nil ?_
  clear c0 c1 c2 c3 c4 c5 c6 c7 c8 c9 c10 c11 c12 c13 c14 c15 c16 c17 c18 c19 c20 HQ
  refine wpList_store_row rfl 51 _ _ rfl (w.heap.size + 1) (ncl f) rfl (by as_aux_lemma => rfl) 51 (acells zf) HN2.out Tryd.size51 rfl (ncl_one f) ?_
  have HN3 := Lib.hid (HN2.out.setRow (ncl f))
  have HF3 := Lib.hid (HF2.out.trans (fr_setRow wx (w.heap.size + 1) (ncl f)) (fun i hi h => by omega))
  generalize wx.setRow (w.heap.size + 1) (ncl f) = wy at HN3 HF3 ⊢
  clear HN2 HF2
  go_wp2_with (fail)
  rw [ncl_eq]
  exact bodyPost_ret (results_cell_row rfl _ _ (w.heap.size + 1) 51 (ncl f) (0, 0) _ rfl HN3.out Tryd.underlying51 rfl Tryd.size51) rfl ⟨rfl, HF3.out⟩
end Go.Proofs.YtlfaeabbfejjcaaDoor
