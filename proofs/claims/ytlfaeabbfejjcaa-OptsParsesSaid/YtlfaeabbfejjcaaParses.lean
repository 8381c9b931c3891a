/- OptsParses: for every list of words, the program's options, or the place of the first wrong word and what is wrong, are the reference's: the law returns true, and its argument reads as before. -/
import Derived.Test.YtlfaeabbfejjcaaOrder
import Derived.Test.YtlfaeabbfejjcaaRef6
namespace Go.Proofs.Ytlfaeabbfejjcaa
open Go.RowKit

set_option maxRecDepth 100000 in
set_option maxHeartbeats 4000000 in
theorem parses_walk (a : Option Addr) (L : List ByteArray) (cap : Nat) (w : World) (hs : Strs w a L) (hl : L.length ≤ 100) :
    Calls Try.prog 3 #[.slice a L.length cap] w fun e w' => e = .returned (.bool true) ∧ Fr (fun _ => False) w w' := by
  have hle : decide (100 < (L.length : Int)) = false := by simp; omega
  have c1 := fun wx (hx : Strs wx a L) => parse_spec a L cap wx (by omega) hx.2
  have c2 := fun wx (hx : Strs wx a L) => rparse_spec a L cap wx (by omega) hx.2
  obtain ⟨f1, n1, e1, h1⟩ : ∃ f1 n1 e1, parseS L = (f1, n1, e1) := ⟨_, _, _, rfl⟩
  rw [h1] at c1 c2
  have HC1 := Lib.hid c1
  have HC2 := Lib.hid c2
  have HS := Lib.hid hs
  have heq : ∀ w, (binOp .eql 25 (.agg (ocells f1)) (.agg (ocells f1))).run Try.prog w = .ok (.bool true) w := fun w => by rw [run_eql25, eqO_refl]
  clear hs c1 c2 h1
  go_enter Try.func3, Try.ntmps3
  go_wp2_with (fail)
  refine (HC1.out _ HS.out).mono ?_
  rintro e w1 ⟨rfl, hf1⟩
  have HF1 := Lib.hid (hf1.alloc (.cells (ocells f1) 25))
  have HS1 := Lib.hid (HS.out.fr (hf1.alloc (.cells (ocells f1) 25)))
  have HB1 := Lib.hid (Blk.new w1 25 (ocells f1))
  clear hf1 HS HC1
  go_wp2_with (refine wpList_store_row rfl 25 _ _ rfl _ (ocells f1) rfl rfl 25 (ocells zf) (Blk.new _ _ _) Try.size25 rfl (ocells_one _) ?_; rw [World.setRow_alloc_new]; generalize w1.alloc (.cells (ocells f1) 25) = w2 at HB1 HF1 HS1 ⊢; generalize w1.heap.size = o1 at HB1 ⊢)
  refine (HC2.out _ HS1.out).mono ?_
  rintro e w3 ⟨rfl, hf3⟩
  have HF2 := Lib.hid ((HF1.out.trans hf3 (fun _ _ h => h)).alloc (.cells (ocells f1) 25))
  have HB2 := Lib.hid ((HB1.out.fr hf3 (fun h => h)).alloc (.cells (ocells f1) 25))
  have HB3 := Lib.hid (Blk.new w3 25 (ocells f1))
  clear hf3 HF1 HS1 HC2 HB1
  go_wp2_with (first
    | (refine wpList_store_row rfl 25 _ _ rfl _ (ocells f1) rfl rfl 25 (ocells zf) (Blk.new _ _ _) Try.size25 rfl (ocells_one _) ?_; rw [World.setRow_alloc_new]; generalize w3.alloc (.cells (ocells f1) 25) = w4 at HB2 HB3 HF2 ⊢; generalize w3.heap.size = o3 at HB3 ⊢)
    | (refine wpList_load_row rfl 25 _ rfl o1 rfl 25 (ocells f1) (0, 0) _ HB2.out Try.underlying25 rfl Try.size25 ?_)
    | (refine wpList_load_row rfl 25 _ rfl o3 rfl 25 (ocells f1) (0, 0) _ HB3.out Try.underlying25 rfl Try.size25 ?_)
    | (go_at_call 8; refine (awake_spec _).mono ?_; rintro e w5 ⟨rfl, hf5⟩; have HF3 := Lib.hid (HF2.out.trans hf5 (fun _ _ h => h)); clear hf5))
  go_ret
  exact ⟨rfl, HF3.out⟩

namespace optsParses
theorem walk (a : Option Addr) (L : List ByteArray) (cap : Nat) (w : World) (hs : Strs w a L) :
    Calls Try.prog 3 #[.slice a L.length cap] w fun e w' => e = .returned (.bool true) ∧ Below w.heap.size w w' := by
  by_cases hl : L.length ≤ 100
  · exact (parses_walk a L cap w hs hl).mono fun _ _ ⟨h1, h2⟩ => ⟨h1, h2.below (Nat.le_refl _) (fun _ _ h => h)⟩
  · have hle : decide (100 < (L.length : Int)) = true := by simp; omega
    have hm := hs.1
    clear hs hl
    go_enter Try.func3, Try.ntmps3
    go_wp2_with (go_at_call 8; refine (awake_spec _).mono ?_; rintro e w5 ⟨rfl, hf5⟩)
    go_ret
    exact ⟨rfl, hf5.below (Nat.le_refl _) (fun _ _ h => h)⟩
open Go.ChangeShapes Go.WideShapes Go.ChangeAt Go.RowKit
set_option linter.unusedVariables false
theorem own : ownKnob Try.prog.godebug = none := by kernel_rfl
theorem laidOut : laidOutB Try.prog = true := by kernel_rfl

set_option maxRecDepth 100000 in
theorem lifted (os : Os) (started : os.Started) (H : Type) (enc : TypeId × Value → H) :
    ReturnsInHanded {} Try.checked os 3 .any (Rows.optsParsesSpec.pre6 enc Try.prog Try.f3 Rows.optsParsesRow.domain false) (Rows.optsParsesSpec.post enc Try.prog Try.f3 false true false false) := by
  refine returnsInHanded_of_change (C := Try.checked) own started (by kernel_rfl) Try.func3
    (ChangeSpec.witness6 (enc := enc) (C := Try.checked) false ⟨#[], #[.slice none 0 0], []⟩ 8 (by kernel_rfl) (by kernel_rfl) (by kernel_rfl) (by kernel_rfl)) ?_
  intro W base args ds gs before hval0 hW hcnd _
  have hval : ∀ (j : Nat) t v, Try.f3.params[j]? = some t → args[j]? = some v → Value.okWide Try.prog W .any base t v := hval0
  have hW' := hW
  obtain ⟨p, q, hA0, hV, rfl, hfz, hnd⟩ := hW
  have hA : DataW.TrodAll enc Try.prog W 0 (fun _ => true) true Try.f3.params.toList args.toList ds p := hA0
  rw [Try.params3] at hA hval
  obtain ⟨v0, vs0, d0, ds0, p0, q0, hargs, rfl, rfl, h0, r0⟩ := trodAll_cons hA
  obtain ⟨rfl, rfl, rfl⟩ := trodAll_nil r0
  obtain rfl : args = #[v0] := by cases args; simp_all
  obtain ⟨rfl, rfl⟩ := trodVars_none hV
  have k0 := h0
  have lt0 : ∀ x ∈ p0, x.block < W.heap.size := by obtain ⟨m, hm⟩ := k0; exact DataW.trod_lt m _ _ _ hm
  obtain ⟨a0, L0, c0, rfl, x0⟩ := open_L Try.underlying22 Try.underlying9 (by kernel_rfl) (hval 0 22 v0 rfl rfl) h0
  clear hA0 hval0
  refine (walk a0 L0 c0 W x0).mono fun e W' ⟨he, bel⟩ => ?_
  subst he
  exact ⟨_, rfl, _, _, _, [], _, [], hW', trodAll_mk1 (shut_bool Try.underlying4 _), (trodAll_cons_mk (Below.trod laidOut (by kernel_rfl) (of_decide_eq_true (by kernel_rfl)) k0 bel lt0) trodAll_mk0), rfl, bel.frame _, fun h => by cases h⟩

theorem over : Rows.optsParsesRow.holds Try.pinned (OpenSpec.ofChange Rows.optsParsesSpec) :=
  OpenClaim.holds_of_wide 3 Try.f3 rfl rfl rfl rfl rfl rfl rfl ⟨rfl, rfl, rfl, rfl, rfl⟩ rfl rfl rfl rfl rfl (by kernel_rfl) Try.func3 (by kernel_rfl)
    (of_decide_eq_true (by kernel_rfl)) (by unfold Func.isWrapper; first | (rw [if_pos (by decide +kernel)]; kernel_rfl) | (rw [if_neg (by decide +kernel)]; exact ⟨rfl, rfl⟩))
    (fun os started H enc _ => lifted os started H enc)

theorem proved : Rows.OptsParsesSaid := over
#print axioms proved
end optsParses
end Go.Proofs.Ytlfaeabbfejjcaa
