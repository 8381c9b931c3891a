/- The walk of awake. -/
import Derived.Test.YthnhieikeigjcaaDoorRTot
import Derived.Test.YthnhieikeigjcaaDoorSpan
namespace Go.Proofs.YthnhieikeigjcaaDoor
open Go.RowKit

theorem aw1 : humB 1587 = ⟨#[49, 46, 53, 75]⟩ := by decide +kernel
theorem aw2 : pctB 1 3 = ⟨#[51, 51, 37]⟩ := by decide +kernel
theorem aw3 : spanB 3725 = ⟨#[49, 58, 48, 50, 58, 48, 53]⟩ := by decide +kernel
def awT : ByteArray := ⟨#[102, 105, 108, 101, 115, 32, 50, 10, 116, 111, 108, 100, 32, 49, 48, 66, 44, 32, 99, 111, 112, 105, 101, 100, 32, 51, 48, 66, 10, 115, 112, 97, 114, 101, 100, 32, 55, 53, 37, 10]⟩
theorem aw4 : totB (cOf [2, 2]) 10 30 = awT := by decide +kernel
def awA : Array Value := #[.int .i64 2, .string ⟨#[]⟩, .string ⟨#[]⟩, .string ⟨#[]⟩, .int .i64 0, .int .i64 0, .int .i64 0, .int .i64 0, .int .i64 0, .int .i64 0, .int .i64 0, .string ⟨#[]⟩, .string ⟨#[]⟩, .int .i64 0, .int .i64 0, .int .i64 2, .string ⟨#[]⟩, .string ⟨#[]⟩, .string ⟨#[]⟩, .int .i64 0, .int .i64 0, .int .i64 0, .int .i64 0, .int .i64 0, .int .i64 0, .int .i64 0, .string ⟨#[]⟩, .string ⟨#[]⟩, .int .i64 0, .int .i64 0]
def awC : List Value := [.int .i64 2, .string ⟨#[]⟩, .string ⟨#[]⟩, .string ⟨#[]⟩, .int .i64 0, .int .i64 0, .int .i64 0, .int .i64 0, .int .i64 0, .int .i64 0, .int .i64 0, .string ⟨#[]⟩, .string ⟨#[]⟩, .int .i64 0, .int .i64 0]
theorem aw_steps (w : World) : Steps (w.alloc (.cells awA 41)) (some ⟨w.heap.size, 0, none⟩) [2, 2] := by
  have hb := Blk.new w 41 awA
  have hone : ∀ v ∈ awC, v.oneCell' = true := List.all_eq_true.1 (by decide : awC.all (·.oneCell') = true)
  have hall : ∀ i, i < 2 → ∀ j v, awC[j]? = some v → awA[i * 15 + j]? = some v := by
    intro i hi j v hj
    have hl : j < 15 := (List.getElem?_eq_some_iff.1 hj).1
    have key : ∀ i, i < 2 → ∀ j, j < 15 → awA[i * 15 + j]? = awC[j]? := by
      intro i hi
      obtain rfl | rfl : i = 0 ∨ i = 1 := by omega
      · intro j hj; match j, hj with
        | 0, _ | 1, _ | 2, _ | 3, _ | 4, _ | 5, _ | 6, _ | 7, _ | 8, _ | 9, _ | 10, _ | 11, _ | 12, _ | 13, _ | 14, _ => rfl
      · intro j hj; match j, hj with
        | 0, _ | 1, _ | 2, _ | 3, _ | 4, _ | 5, _ | 6, _ | 7, _ | 8, _ | 9, _ | 10, _ | 11, _ | 12, _ | 13, _ | 14, _ => rfl
    rw [key i hi j hl]; exact hj
  intro i k hk
  have hi : i < 2 := (List.getElem?_eq_some_iff.1 hk).1
  have hk2 : k = 2 := by
    obtain rfl | rfl : i = 0 ∨ i = 1 := by omega
    · cases hk; rfl
    · cases hk; rfl
  subst hk2
  refine ⟨_, awC, rfl, by rw [addr_add_block]; simp, rfl, rfl, fun j v hj => ?_, hone⟩
  rw [Go.Deep.add_add, Addr.add_mid, Nat.zero_add]
  exact hb.cell _ (hall i hi j v hj)

set_option maxRecDepth 100000 in
set_option maxHeartbeats 4000000 in
theorem awake_spec (w : World) (hb : TB w) : Calls Tryd.prog 15 #[] w fun e w' => e = .returned (.bool true) ∧ Fr (fun _ => False) w w' := by
  have HT := Lib.hid hb
  have H1 := Lib.hid (fun wx (hx : TB wx) => (show Calls Tryd.prog 9 #[.int .i64 1587] wx fun e w' => e = .returned (.string ⟨#[49, 46, 53, 75]⟩) ∧ Fr (fun _ => False) wx w' by rw [← aw1]; exact human_spec 1587 (by decide) wx hx))
  have H2 := Lib.hid (fun wx => (show Calls Tryd.prog 11 #[.int .i64 1, .int .i64 3] wx fun e w' => e = .returned (.string ⟨#[51, 51, 37]⟩) ∧ Fr (fun _ => False) wx w' by rw [← aw2]; exact percent_spec 1 3 (by decide) wx))
  have H3 := Lib.hid (fun wx (hx : TB wx) => (show Calls Tryd.prog 13 #[.int .i64 3725] wx fun e w' => e = .returned (.string ⟨#[49, 58, 48, 50, 58, 48, 53]⟩) ∧ Fr (fun _ => False) wx w' by rw [← aw3]; exact span_spec 3725 (by decide) wx hx))
  have H4 := Lib.hid (fun wx (hx : TB wx) => (show Calls Tryd.prog 16 #[.slice (some ⟨wx.heap.size, 0, none⟩) 2 2, .int .i64 10, .int .i64 30] (wx.alloc (.cells awA 41)) fun e w' => e = .returned (.string awT) ∧ Fr (fun _ => False) (wx.alloc (.cells awA 41)) w' by
    rw [← aw4]; exact total_spec _ [2, 2] 2 10 30 _ (aw_steps wx) (by decide) (by decide) (by decide) (hx.fr ((Fr.refl _ _).alloc _))))
  have HF := Lib.hid (Fr.refl (fun _ => False) w)
  have haw : (awT.toList == [102, 105, 108, 101, 115, 32, 50, 10, 116, 111, 108, 100, 32, 49, 48, 66, 44, 32, 99, 111, 112, 105, 101, 100, 32, 51, 48, 66, 10, 115, 112, 97, 114, 101, 100, 32, 55, 53, 37, 10]) = true := by decide +kernel
  clear hb
  go_enter Tryd.func15, Tryd.ntmps15
  go_wp2_with (first
    | (go_at_call 9; ((refine (H1.out _ (HT.out.fr HF.out)).mono ?_); rintro e w3 ⟨rfl, hf⟩; have HF := Lib.hid (HF.out.trans hf (fun _ _ h => h)); clear hf))
    | (go_at_call 11; ((refine (H2.out _).mono ?_); rintro e w4 ⟨rfl, hf⟩; have HF := Lib.hid (HF.out.trans hf (fun _ _ h => h)); clear hf))
    | (go_at_call 13; ((refine (H3.out _ (HT.out.fr HF.out)).mono ?_); rintro e w5 ⟨rfl, hf⟩; have HF := Lib.hid (HF.out.trans hf (fun _ _ h => h)); clear hf))
    | (go_at_call 16; ((refine (H4.out _ (HT.out.fr HF.out)).mono ?_); rintro e w6 ⟨rfl, hf⟩; have HF := Lib.hid ((HF.out.alloc _).trans hf (fun _ _ h => h)); clear hf)))
  go_ret
  exact ⟨rfl, HF.out⟩
end Go.Proofs.YthnhieikeigjcaaDoor
