/- alive08. -/
import Derived.Test.YtmmobhmiemmioaaDoorLn
import Derived.Test.YtmmobhmiemmioaaDoorRh
namespace Go.Proofs.YtmmobhmiemmioaaDoor
open Go.RowKit

def L8 : List R := [⟨2, ⟨#[120]⟩, true, false⟩, ⟨1, ⟨#[42]⟩, false, false⟩]
theorem txt8 : txL L8 = [45, 32, 120, 47, 10, 43, 32, 42, 10] := by decide +kernel
theorem chk8 : chkL L8 = 0 := by decide +kernel
theorem h81 : hidS L8 ⟨#[120, 47, 97]⟩ false = true := by decide +kernel
theorem h82 : hidS L8 ⟨#[121, 47, 97]⟩ false = false := by decide +kernel
theorem h83 : hidS L8 ⟨#[120]⟩ false = false := by decide +kernel
set_option maxHeartbeats 2000000 in
theorem alive_spec (w : World) (m : Int) (hm : w.cell? ⟨0, 0, none⟩ = some (.int .i64 m)) :
    Calls Tryd.prog 6 #[] w fun e w' => e = .returned (.bool true) ∧ Fr (fun _ => False) w w' := by
  have HL := Lib.hid (lin_spec L8 w m chk8 hm)
  rw [show mkB (txL L8) = ⟨#[45, 32, 120, 47, 10, 43, 32, 42, 10]⟩ by rw [txt8]; rfl, show L8.length = 2 from rfl] at HL
  have hp : ∀ r ∈ L8, r.pat.size ≤ 9223372036854775807 := by
    intro r hr
    simp only [L8, List.mem_cons, List.not_mem_nil, or_false] at hr
    rcases hr with rfl | rfl <;> decide
  have H1 := Lib.hid (fun ad cap wx (hr : RRow wx ad L8) => hid_spec ad L8 cap ⟨#[120, 47, 97]⟩ false wx (by decide) hr hp (by decide))
  have H2 := Lib.hid (fun ad cap wx (hr : RRow wx ad L8) => hid_spec ad L8 cap ⟨#[121, 47, 97]⟩ false wx (by decide) hr hp (by decide))
  have H3 := Lib.hid (fun ad cap wx (hr : RRow wx ad L8) => hid_spec ad L8 cap ⟨#[120]⟩ false wx (by decide) hr hp (by decide))
  rw [h81, show L8.length = 2 from rfl] at H1
  rw [h82, show L8.length = 2 from rfl] at H2
  rw [h83, show L8.length = 2 from rfl] at H3
  clear hp hm
  go_enter Tryd.func6, Tryd.ntmps6
  go_wp2_with (first
    | (go_at_call 12; (refine HL.out.mono ?_); rintro e w1 ⟨ad, cap, rfl, hr, hf⟩; have HR := Lib.hid hr; have HF := Lib.hid hf; clear hr hf)
    | (go_at_call 8; (with_reducible refine (H1.out ad cap _ HR.out).mono ?_); rintro e w2 ⟨rfl, hf⟩; have HF := Lib.hid (HF.out.trans hf (fun _ _ h => h)); have HR := Lib.hid (HR.out.fr hf); clear hf)
    | (go_at_call 8; (with_reducible refine (H2.out ad cap _ HR.out).mono ?_); rintro e w3 ⟨rfl, hf⟩; have HF := Lib.hid (HF.out.trans hf (fun _ _ h => h)); have HR := Lib.hid (HR.out.fr hf); clear hf)
    | (go_at_call 8; (with_reducible refine (H3.out ad cap _ HR.out).mono ?_); rintro e w4 ⟨rfl, hf⟩; have HF := Lib.hid (HF.out.trans hf (fun _ _ h => h)); have HR := Lib.hid (HR.out.fr hf); clear hf)
    | fail)
  go_ret
  exact ⟨rfl, HF.out⟩
end Go.Proofs.YtmmobhmiemmioaaDoor
