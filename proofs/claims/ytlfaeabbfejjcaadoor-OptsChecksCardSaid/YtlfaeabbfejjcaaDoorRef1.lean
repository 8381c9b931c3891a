/- The walks of the reference's Names, whens, front. -/
import Derived.Test.YtlfaeabbfejjcaaDoorNumP
import Derived.Test.YtlfaeabbfejjcaaDoorAt
namespace Go.Proofs.YtlfaeabbfejjcaaDoor
open Go.RowKit

def ncells : Array Value := #[.string (nm 0), .string (nm 1), .string (nm 2), .string (nm 3), .string (nm 4), .string (nm 5), .string (nm 6), .string (nm 7), .string (nm 8), .string (nm 9), .string (nm 10), .string (nm 11), .string (nm 12), .string (nm 13), .string (nm 14), .string (nm 15), .string (nm 16), .string (nm 17), .string (nm 18), .string (nm 19), .string (nm 20)]
def wcells : Array Value := #[.string (whn 0), .string (whn 1), .string (whn 2), .string (whn 3)]
theorem ncells_get : ∀ i, i < 21 → ncells[i]? = some (.string (nm i)) := by21 rfl rfl rfl rfl rfl rfl rfl rfl rfl rfl rfl rfl rfl rfl rfl rfl rfl rfl rfl rfl rfl
theorem wcells_get : ∀ i, i < 4 → wcells[i]? = some (.string (whn i)) := fun i hi => match i, hi with
  | 0, _ => rfl
  | 1, _ => rfl
  | 2, _ => rfl
  | 3, _ => rfl

theorem names_spec (w : World) : Calls Tryd.prog 22 #[] w fun e w' => ∃ g, e = .returned (.slice (some ⟨g, 0, none⟩) 21 21) ∧ Blk w' g 9 ncells ∧ Fr (fun _ => False) w w' := by
  have hb := Lib.hid (Blk.new w 9 ncells)
  have hf := Lib.hid ((Fr.refl (fun _ => False) w).alloc (.cells ncells 9))
  go_enter Tryd.func22, Tryd.ntmps22
  go_wp2
  go_ret
  exact ⟨_, rfl, hb.out, hf.out⟩

theorem whens_spec (w : World) : Calls Tryd.prog 23 #[] w fun e w' => ∃ g, e = .returned (.slice (some ⟨g, 0, none⟩) 4 4) ∧ Blk w' g 9 wcells ∧ Fr (fun _ => False) w w' := by
  have hb := Lib.hid (Blk.new w 9 wcells)
  have hf := Lib.hid ((Fr.refl (fun _ => False) w).alloc (.cells wcells 9))
  go_enter Tryd.func23, Tryd.ntmps23
  go_wp2
  go_ret
  exact ⟨_, rfl, hb.out, hf.out⟩

end Go.Proofs.YtlfaeabbfejjcaaDoor
