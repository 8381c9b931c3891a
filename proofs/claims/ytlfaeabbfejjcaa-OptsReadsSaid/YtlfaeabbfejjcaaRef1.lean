/- The walks of the reference's Names, whens, front. -/
import Derived.Test.YtlfaeabbfejjcaaNumP
import Derived.Test.YtlfaeabbfejjcaaAt
namespace Go.Proofs.Ytlfaeabbfejjcaa
open Go.RowKit

def ncells : Array Value := #[.string (nm 0), .string (nm 1), .string (nm 2), .string (nm 3), .string (nm 4), .string (nm 5), .string (nm 6), .string (nm 7), .string (nm 8), .string (nm 9), .string (nm 10), .string (nm 11), .string (nm 12), .string (nm 13), .string (nm 14), .string (nm 15), .string (nm 16), .string (nm 17), .string (nm 18), .string (nm 19), .string (nm 20)]
def wcells : Array Value := #[.string (whn 0), .string (whn 1), .string (whn 2), .string (whn 3)]
theorem ncells_get : ∀ i, i < 21 → ncells[i]? = some (.string (nm i)) := by21 rfl rfl rfl rfl rfl rfl rfl rfl rfl rfl rfl rfl rfl rfl rfl rfl rfl rfl rfl rfl rfl
theorem wcells_get : ∀ i, i < 4 → wcells[i]? = some (.string (whn i)) := fun i hi => match i, hi with
  | 0, _ => rfl
  | 1, _ => rfl
  | 2, _ => rfl
  | 3, _ => rfl

theorem names_spec (w : World) : Calls Try.prog 52 #[] w fun e w' => ∃ g, e = .returned (.slice (some ⟨g, 0, none⟩) 21 21) ∧ Blk w' g 9 ncells ∧ Fr (fun _ => False) w w' := by
  have hb := Lib.hid (Blk.new w 9 ncells)
  have hf := Lib.hid ((Fr.refl (fun _ => False) w).alloc (.cells ncells 9))
  go_enter Try.func52, Try.ntmps52
  go_wp2
  go_ret
  exact ⟨_, rfl, hb.out, hf.out⟩

theorem whens_spec (w : World) : Calls Try.prog 55 #[] w fun e w' => ∃ g, e = .returned (.slice (some ⟨g, 0, none⟩) 4 4) ∧ Blk w' g 9 wcells ∧ Fr (fun _ => False) w w' := by
  have hb := Lib.hid (Blk.new w 9 wcells)
  have hf := Lib.hid ((Fr.refl (fun _ => False) w).alloc (.cells wcells 9))
  go_enter Try.func55, Try.ntmps55
  go_wp2
  go_ret
  exact ⟨_, rfl, hb.out, hf.out⟩

theorem front_no (s f : ByteArray) (h : Lib.hasPrefix s.data.toList f.data.toList = false) (w : World) :
    Calls Try.prog 53 #[.string s, .string f] w fun e w' => e = .returned (.tuple #[.string ⟨#[]⟩, .bool false]) ∧ w = w' := by
  by_cases hl : s.size < f.size
  · have h1 : decide ((s.size : Int) < (f.size : Int)) = true := by simp; omega
    go_enter Try.func53, Try.ntmps53
    go_wp2
    go_ret2
    exact ⟨rfl, rfl⟩
  · have h1 : decide (s.size < f.size) = false := by simp; omega
    have h2 : ((s.extract 0 f.size).toList == f.toList) = false := by
      rw [ba_eq]; simp only [decide_eq_false_iff_not]
      intro e
      have : Lib.hasPrefix s.data.toList f.data.toList = true := by
        rw [Lib.hasPrefix, List.isPrefixOf_iff_prefix]
        rw [← e]
        simp [List.take_prefix]
      rw [this] at h; cases h
    have hm : f.size ≤ s.size := by omega
    clear h hl
    go_enter Try.func53, Try.ntmps53
    go_wp2_with (fail)
    go_ret2
    exact ⟨rfl, rfl⟩

theorem front_yes (s f : ByteArray) (h : Lib.hasPrefix s.data.toList f.data.toList = true) (w : World) :
    Calls Try.prog 53 #[.string s, .string f] w fun e w' => e = .returned (.tuple #[.string ⟨(Lib.trimPrefix s.data.toList f.data.toList).toArray⟩, .bool true]) ∧ w = w' := by
  obtain ⟨t, ht⟩ := pre_split h
  have hsz : s.size = f.size + t.length := by have := congrArg List.length ht; simpa using this
  have hm : f.size ≤ s.size := by omega
  have h1 : decide (s.size < f.size) = false := by simp; omega
  have h2 : ((s.extract 0 f.size).toList == f.toList) = true := by
    rw [ba_eq]; simp only [decide_eq_true_eq]
    simp [ht]
  have h3 : s.extract f.size s.size = ⟨(Lib.trimPrefix s.data.toList f.data.toList).toArray⟩ := by
    apply ba_ext
    rw [Lib.trimPrefix, if_pos h]
    simp [List.take_of_length_le]
  have H3 := Lib.hid h3
  clear h h3 ht hsz
  go_enter Try.func53, Try.ntmps53
  go_wp2_with (fail)
  have h3 := H3.out
  go_ret2
  exact ⟨by rw [← h3]; rfl, rfl⟩
end Go.Proofs.Ytlfaeabbfejjcaa
