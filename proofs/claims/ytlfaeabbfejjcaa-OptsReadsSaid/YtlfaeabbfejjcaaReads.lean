/- OptsReads: for all bytes and every place, the options read there, the place behind and what is wrong first are the reference's: the law returns true, and its arguments read as before. -/
import Derived.Test.YtlfaeabbfejjcaaAwake
import Derived.Test.YtlfaeabbfejjcaaReadR
import Derived.Test.YtlfaeabbfejjcaaOpenB
import Derived.Test.YtlfaeabbfejjcaaRows
import Derived.SizedLaws
namespace Go.Proofs.Ytlfaeabbfejjcaa
open Go.RowKit

theorem eqO_refl2 (f : Nat → Int) : eqO f f = true := by simp [eqO]

namespace optsReads
set_option maxRecDepth 100000 in
set_option maxHeartbeats 4000000 in
theorem walk (a : Option Addr) (l : List UInt8) (cap : Nat) (p : Int) (w : World) (hs : Byts w a l) :
    Calls Try.prog 6 #[.slice a l.length cap, .int .i64 p] w fun e w' => e = .returned (.bool true) ∧ Below w.heap.size w w' := by
  suffices h : Calls Try.prog 6 #[.slice a l.length cap, .int .i64 p] w fun e w' => e = .returned (.bool true) ∧ Fr (fun _ => False) w w' from h.mono fun _ _ ⟨h1, h2⟩ => ⟨h1, h2.below (Nat.le_refl _) (fun _ _ h => h)⟩
  have c1 := fun wx (hx : Byts wx a l) => read_spec a l cap p wx hx
  have c2 := fun wx (hx : Byts wx a l) => rread_spec a l cap p wx hx
  obtain ⟨f1, n1, e1, h1⟩ : ∃ f1 n1 e1, readS l p = (f1, n1, e1) := ⟨_, _, _, rfl⟩
  rw [h1] at c1 c2
  have HC1 := Lib.hid c1
  have HC2 := Lib.hid c2
  have HS := Lib.hid hs
  have heq : ∀ w, (binOp .eql 25 (.agg (ocells f1)) (.agg (ocells f1))).run Try.prog w = .ok (.bool true) w := fun w => by rw [run_eql25, eqO_refl2]
  clear hs c1 c2 h1
  go_enter Try.func6, Try.ntmps6
  go_wp2_with (fail)
  refine (HC1.out _ HS.out).mono ?_
  rintro e w1 ⟨rfl, hf1⟩
  have HF1 := Lib.hid (hf1.alloc (.cells (ocells f1) 25))
  have HS1 := Lib.hid (HS.out.fr (hf1.alloc (.cells (ocells f1) 25)))
  have HB1 := Lib.hid (Blk.new w1 25 (ocells f1))
  clear hf1 HS HC1
  go_wp2_with (refine wpList_store_row rfl 25 _ _ rfl _ (ocells f1) rfl rfl 25 (ocells zf) (Blk.new _ _ _) Try.size25 rfl (ocells_one _) ?_; rw [World.setRow_alloc_new]; generalize w1.alloc (.cells (ocells f1) 25) = w2 at HB1 HF1 HS1 ⊢; generalize w1.heap.size = o1 at HB1 ⊢)
  refine (HC2.out _ HS1.out).mono ?_
  rintro e w3 ⟨rfl, hf3⟩
  have HF2 := Lib.hid ((HF1.out.trans hf3 (fun _ _ h => h)).alloc (.cells (ocells f1) 25))
  have HB2 := Lib.hid ((HB1.out.fr hf3 (fun h => h)).alloc (.cells (ocells f1) 25))
  have HB3 := Lib.hid (Blk.new w3 25 (ocells f1))
  clear hf3 HF1 HS1 HC2 HB1
  go_wp2_with (first
    | (refine wpList_store_row rfl 25 _ _ rfl _ (ocells f1) rfl rfl 25 (ocells zf) (Blk.new _ _ _) Try.size25 rfl (ocells_one _) ?_; rw [World.setRow_alloc_new]; generalize w3.alloc (.cells (ocells f1) 25) = w4 at HB2 HB3 HF2 ⊢; generalize w3.heap.size = o3 at HB3 ⊢)
    | (refine wpList_load_row rfl 25 _ rfl o1 rfl 25 (ocells f1) (0, 0) _ HB2.out Try.underlying25 rfl Try.size25 ?_)
    | (refine wpList_load_row rfl 25 _ rfl o3 rfl 25 (ocells f1) (0, 0) _ HB3.out Try.underlying25 rfl Try.size25 ?_)
    | (go_at_call 8; refine (awake_spec _).mono ?_; rintro e w5 ⟨rfl, hf5⟩; have HF3 := Lib.hid (HF2.out.trans hf5 (fun _ _ h => h)); clear hf5))
  go_ret
  exact ⟨rfl, HF3.out⟩
open Go.ChangeShapes Go.WideShapes Go.ChangeAt Go.RowKit
set_option linter.unusedVariables false
theorem own : ownKnob Try.prog.godebug = none := by kernel_rfl
theorem laidOut : laidOutB Try.prog = true := by kernel_rfl

set_option maxRecDepth 100000 in
theorem lifted (os : Os) (started : os.Started) (H : Type) (enc : TypeId × Value → H) :
    ReturnsInHanded {} Try.checked os 6 .any (Rows.optsReadsSpec.pre6 enc Try.prog Try.f6 Rows.optsReadsRow.domain false) (Rows.optsReadsSpec.post enc Try.prog Try.f6 false true false false) := by
  refine returnsInHanded_of_change_sized (C := Try.checked) own started (by kernel_rfl) Try.func6
    (ChangeSpec.witness6 (enc := enc) (C := Try.checked) false ⟨#[], #[.slice none 0 0, .int .i64 0], []⟩ 8 (by kernel_rfl) (by kernel_rfl) (by kernel_rfl) (by kernel_rfl)) ?_
  intro W base args ds gs before hval0 hW hcnd hsz0 _
  have hval : ∀ (j : Nat) t v, Try.f6.params[j]? = some t → args[j]? = some v → Value.okWide Try.prog W .any base t v := hval0
  have hW' := hW
  obtain ⟨p, q, hA0, hV, rfl, hfz, hnd⟩ := hW
  have hA : DataW.TrodAll enc Try.prog W 0 (fun _ => true) true Try.f6.params.toList args.toList ds p := hA0
  have hsz : (DataW.weightsEach Try.prog (Try.f6.params.toList ++ Rows.optsReadsSpec.plain.varTypes Try.prog) (ds ++ gs)).all (· ≤ reachBytes) = true := hsz0
  rw [Try.params6] at hA hval hsz
  obtain ⟨v0, vs0, d0, ds0, p0, q0, hargs, rfl, rfl, h0, r0⟩ := trodAll_cons hA
  obtain ⟨v1, vs1, d1, ds1, p1, q1, rfl, rfl, rfl, h1, r1⟩ := trodAll_cons r0
  obtain ⟨rfl, rfl, rfl⟩ := trodAll_nil r1
  obtain rfl : args = #[v0, v1] := by cases args; simp_all
  obtain ⟨rfl, rfl⟩ := trodVars_none hV
  have k0 := h0
  have lt0 : ∀ x ∈ p0, x.block < W.heap.size := by obtain ⟨m, hm⟩ := k0; exact DataW.trod_lt m _ _ _ hm
  have k1 := h1
  have lt1 : ∀ x ∈ p1, x.block < W.heap.size := by obtain ⟨m, hm⟩ := k1; exact DataW.trod_lt m _ _ _ hm
  obtain ⟨a0, l0, c0, rfl, x0⟩ := open_B Try.underlying31 Try.underlying5 (by kernel_rfl) (by kernel_rfl) (hval 0 31 v0 rfl rfl) h0 (fun es ss e => sized_slice hsz (j := 0) (t := 31) (e := 5) rfl (by rw [e]; rfl) Try.underlying31)
  obtain ⟨a1, rfl, rfl, rfl, w1⟩ := open_int Try.underlying3 (hval 1 3 v1 rfl rfl) h1
  clear hA0 hval0
  refine (walk a0 l0 c0 a1 W x0).mono fun e W' ⟨he, bel⟩ => ?_
  subst he
  exact ⟨_, rfl, _, _, _, [], _, [], hW', trodAll_mk1 (shut_bool Try.underlying4 _), (trodAll_cons_mk (Below.trod laidOut (by kernel_rfl) (of_decide_eq_true (by kernel_rfl)) k0 bel lt0) (trodAll_cons_mk (Below.trod laidOut (by kernel_rfl) (of_decide_eq_true (by kernel_rfl)) k1 bel lt1) trodAll_mk0)), rfl, bel.frame _, fun h => by cases h⟩

theorem over : Rows.optsReadsRow.holds Try.pinned (OpenSpec.ofChange Rows.optsReadsSpec) :=
  OpenClaim.holds_of_wide 6 Try.f6 rfl rfl rfl rfl rfl rfl rfl ⟨rfl, rfl, rfl, rfl, rfl⟩ rfl rfl rfl rfl rfl (by kernel_rfl) Try.func6 (by kernel_rfl)
    (of_decide_eq_true (by kernel_rfl)) (by unfold Func.isWrapper; first | (rw [if_pos (by decide +kernel)]; kernel_rfl) | (rw [if_neg (by decide +kernel)]; exact ⟨rfl, rfl⟩))
    (fun os started H enc _ => lifted os started H enc)

theorem proved : Rows.OptsReadsSaid := over
#print axioms proved
end optsReads
end Go.Proofs.Ytlfaeabbfejjcaa
