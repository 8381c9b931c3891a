/- sha: words turned; rows of words. -/
import Derived.Test.YtphjebbjhfnhoaaFr
import Derived.Test.YtphjebbjhfnhoaaProg
import Derived.KernelRfl
import Derived.Lib.Hide
import Derived.IntWalk
import Derived.BigQuiet
import Derived.StillTailTactics
import Derived.Deep.LoopGhost
import Derived.Laws.Tables
import Derived.Laws.AppendOwn
import Derived.Deep.MidRow
namespace Go.Proofs.Ytphjebbjhfnhoaa
open Go.RowKit

/-- A word turned to the right. -/
def rotR (x : Int) (k : Nat) : Int := bits BinOp.or IntKind.u32 (x * 2 ^ (32 - k) % 4294967296) (x / 2 ^ k)
theorem rot2 (x : Int) (w : World) : Calls Try.prog 67 #[.int .u32 x, .int .i64 (-2)] w fun e w' => e = .returned (.int .u32 (rotR x 2)) ∧ w = w' := by
  have hb : bits BinOp.and IntKind.u64 (IntKind.u64.wrap (-2)) 31 = 30 := by decide
  go_enter Try.func67, Try.ntmps67
  go_wp2_with (fail)
  go_ret
  exact ⟨rfl, rfl⟩
theorem turn2 (x : Int) (w : World) : Calls Try.prog 66 #[.int .u32 x, .int .i64 2] w fun e w' => e = .returned (.int .u32 (rotR x 2)) ∧ w = w' := by
  have H := Lib.hid (rot2 x)
  go_enter Try.func66, Try.ntmps66
  go_wp2_with (go_at_call 67; (refine (H.out _).mono ?_); rintro e w2 ⟨rfl, rfl⟩)
  go_ret
  exact ⟨rfl, rfl⟩
theorem rot6 (x : Int) (w : World) : Calls Try.prog 67 #[.int .u32 x, .int .i64 (-6)] w fun e w' => e = .returned (.int .u32 (rotR x 6)) ∧ w = w' := by
  have hb : bits BinOp.and IntKind.u64 (IntKind.u64.wrap (-6)) 31 = 26 := by decide
  go_enter Try.func67, Try.ntmps67
  go_wp2_with (fail)
  go_ret
  exact ⟨rfl, rfl⟩
theorem turn6 (x : Int) (w : World) : Calls Try.prog 66 #[.int .u32 x, .int .i64 6] w fun e w' => e = .returned (.int .u32 (rotR x 6)) ∧ w = w' := by
  have H := Lib.hid (rot6 x)
  go_enter Try.func66, Try.ntmps66
  go_wp2_with (go_at_call 67; (refine (H.out _).mono ?_); rintro e w2 ⟨rfl, rfl⟩)
  go_ret
  exact ⟨rfl, rfl⟩
theorem rot7 (x : Int) (w : World) : Calls Try.prog 67 #[.int .u32 x, .int .i64 (-7)] w fun e w' => e = .returned (.int .u32 (rotR x 7)) ∧ w = w' := by
  have hb : bits BinOp.and IntKind.u64 (IntKind.u64.wrap (-7)) 31 = 25 := by decide
  go_enter Try.func67, Try.ntmps67
  go_wp2_with (fail)
  go_ret
  exact ⟨rfl, rfl⟩
theorem turn7 (x : Int) (w : World) : Calls Try.prog 66 #[.int .u32 x, .int .i64 7] w fun e w' => e = .returned (.int .u32 (rotR x 7)) ∧ w = w' := by
  have H := Lib.hid (rot7 x)
  go_enter Try.func66, Try.ntmps66
  go_wp2_with (go_at_call 67; (refine (H.out _).mono ?_); rintro e w2 ⟨rfl, rfl⟩)
  go_ret
  exact ⟨rfl, rfl⟩
theorem rot11 (x : Int) (w : World) : Calls Try.prog 67 #[.int .u32 x, .int .i64 (-11)] w fun e w' => e = .returned (.int .u32 (rotR x 11)) ∧ w = w' := by
  have hb : bits BinOp.and IntKind.u64 (IntKind.u64.wrap (-11)) 31 = 21 := by decide
  go_enter Try.func67, Try.ntmps67
  go_wp2_with (fail)
  go_ret
  exact ⟨rfl, rfl⟩
theorem turn11 (x : Int) (w : World) : Calls Try.prog 66 #[.int .u32 x, .int .i64 11] w fun e w' => e = .returned (.int .u32 (rotR x 11)) ∧ w = w' := by
  have H := Lib.hid (rot11 x)
  go_enter Try.func66, Try.ntmps66
  go_wp2_with (go_at_call 67; (refine (H.out _).mono ?_); rintro e w2 ⟨rfl, rfl⟩)
  go_ret
  exact ⟨rfl, rfl⟩
theorem rot13 (x : Int) (w : World) : Calls Try.prog 67 #[.int .u32 x, .int .i64 (-13)] w fun e w' => e = .returned (.int .u32 (rotR x 13)) ∧ w = w' := by
  have hb : bits BinOp.and IntKind.u64 (IntKind.u64.wrap (-13)) 31 = 19 := by decide
  go_enter Try.func67, Try.ntmps67
  go_wp2_with (fail)
  go_ret
  exact ⟨rfl, rfl⟩
theorem turn13 (x : Int) (w : World) : Calls Try.prog 66 #[.int .u32 x, .int .i64 13] w fun e w' => e = .returned (.int .u32 (rotR x 13)) ∧ w = w' := by
  have H := Lib.hid (rot13 x)
  go_enter Try.func66, Try.ntmps66
  go_wp2_with (go_at_call 67; (refine (H.out _).mono ?_); rintro e w2 ⟨rfl, rfl⟩)
  go_ret
  exact ⟨rfl, rfl⟩
theorem rot17 (x : Int) (w : World) : Calls Try.prog 67 #[.int .u32 x, .int .i64 (-17)] w fun e w' => e = .returned (.int .u32 (rotR x 17)) ∧ w = w' := by
  have hb : bits BinOp.and IntKind.u64 (IntKind.u64.wrap (-17)) 31 = 15 := by decide
  go_enter Try.func67, Try.ntmps67
  go_wp2_with (fail)
  go_ret
  exact ⟨rfl, rfl⟩
theorem turn17 (x : Int) (w : World) : Calls Try.prog 66 #[.int .u32 x, .int .i64 17] w fun e w' => e = .returned (.int .u32 (rotR x 17)) ∧ w = w' := by
  have H := Lib.hid (rot17 x)
  go_enter Try.func66, Try.ntmps66
  go_wp2_with (go_at_call 67; (refine (H.out _).mono ?_); rintro e w2 ⟨rfl, rfl⟩)
  go_ret
  exact ⟨rfl, rfl⟩
theorem rot18 (x : Int) (w : World) : Calls Try.prog 67 #[.int .u32 x, .int .i64 (-18)] w fun e w' => e = .returned (.int .u32 (rotR x 18)) ∧ w = w' := by
  have hb : bits BinOp.and IntKind.u64 (IntKind.u64.wrap (-18)) 31 = 14 := by decide
  go_enter Try.func67, Try.ntmps67
  go_wp2_with (fail)
  go_ret
  exact ⟨rfl, rfl⟩
theorem turn18 (x : Int) (w : World) : Calls Try.prog 66 #[.int .u32 x, .int .i64 18] w fun e w' => e = .returned (.int .u32 (rotR x 18)) ∧ w = w' := by
  have H := Lib.hid (rot18 x)
  go_enter Try.func66, Try.ntmps66
  go_wp2_with (go_at_call 67; (refine (H.out _).mono ?_); rintro e w2 ⟨rfl, rfl⟩)
  go_ret
  exact ⟨rfl, rfl⟩
theorem rot19 (x : Int) (w : World) : Calls Try.prog 67 #[.int .u32 x, .int .i64 (-19)] w fun e w' => e = .returned (.int .u32 (rotR x 19)) ∧ w = w' := by
  have hb : bits BinOp.and IntKind.u64 (IntKind.u64.wrap (-19)) 31 = 13 := by decide
  go_enter Try.func67, Try.ntmps67
  go_wp2_with (fail)
  go_ret
  exact ⟨rfl, rfl⟩
theorem turn19 (x : Int) (w : World) : Calls Try.prog 66 #[.int .u32 x, .int .i64 19] w fun e w' => e = .returned (.int .u32 (rotR x 19)) ∧ w = w' := by
  have H := Lib.hid (rot19 x)
  go_enter Try.func66, Try.ntmps66
  go_wp2_with (go_at_call 67; (refine (H.out _).mono ?_); rintro e w2 ⟨rfl, rfl⟩)
  go_ret
  exact ⟨rfl, rfl⟩
theorem rot22 (x : Int) (w : World) : Calls Try.prog 67 #[.int .u32 x, .int .i64 (-22)] w fun e w' => e = .returned (.int .u32 (rotR x 22)) ∧ w = w' := by
  have hb : bits BinOp.and IntKind.u64 (IntKind.u64.wrap (-22)) 31 = 10 := by decide
  go_enter Try.func67, Try.ntmps67
  go_wp2_with (fail)
  go_ret
  exact ⟨rfl, rfl⟩
theorem turn22 (x : Int) (w : World) : Calls Try.prog 66 #[.int .u32 x, .int .i64 22] w fun e w' => e = .returned (.int .u32 (rotR x 22)) ∧ w = w' := by
  have H := Lib.hid (rot22 x)
  go_enter Try.func66, Try.ntmps66
  go_wp2_with (go_at_call 67; (refine (H.out _).mono ?_); rintro e w2 ⟨rfl, rfl⟩)
  go_ret
  exact ⟨rfl, rfl⟩
theorem rot25 (x : Int) (w : World) : Calls Try.prog 67 #[.int .u32 x, .int .i64 (-25)] w fun e w' => e = .returned (.int .u32 (rotR x 25)) ∧ w = w' := by
  have hb : bits BinOp.and IntKind.u64 (IntKind.u64.wrap (-25)) 31 = 7 := by decide
  go_enter Try.func67, Try.ntmps67
  go_wp2_with (fail)
  go_ret
  exact ⟨rfl, rfl⟩
theorem turn25 (x : Int) (w : World) : Calls Try.prog 66 #[.int .u32 x, .int .i64 25] w fun e w' => e = .returned (.int .u32 (rotR x 25)) ∧ w = w' := by
  have H := Lib.hid (rot25 x)
  go_enter Try.func66, Try.ntmps66
  go_wp2_with (go_at_call 67; (refine (H.out _).mono ?_); rintro e w2 ⟨rfl, rfl⟩)
  go_ret
  exact ⟨rfl, rfl⟩

/-- A row of numbers. -/
def rowK (kd : IntKind) (f : Nat → Int) (n : Nat) : Array Value := ((List.range n).map fun i => Value.int kd (f i)).toArray
theorem rowK_at (kd : IntKind) (f : Nat → Int) (n i : Nat) (h : i < n) : (rowK kd f n)[i]? = some (.int kd (f i)) := by
  unfold rowK; rw [List.getElem?_toArray, List.getElem?_map, List.getElem?_range h]; rfl
theorem rowK_size (kd : IntKind) (f : Nat → Int) (n : Nat) : (rowK kd f n).size = n := by simp [rowK]
def updN (f : Nat → Int) (k : Nat) (v : Int) : Nat → Int := fun i => if i = k then v else f i
theorem rowK_set (kd : IntKind) (f : Nat → Int) (n k : Nat) (v : Int) : (rowK kd f n).setIfInBounds k (.int kd v) = rowK kd (updN f k v) n := by
  apply Array.ext
  · rw [Array.size_setIfInBounds, rowK_size, rowK_size]
  · intro i h1 h2
    rw [rowK_size] at h2
    have e : ((rowK kd f n).setIfInBounds k (.int kd v))[i]? = (rowK kd (updN f k v) n)[i]? := by
      rw [rowK_at _ _ n i h2]
      unfold updN
      by_cases hk : k = i
      · subst hk
        rw [Array.getElem?_setIfInBounds_self_of_lt (by rw [rowK_size]; exact h2), if_pos rfl]
      · rw [Array.getElem?_setIfInBounds_ne hk, rowK_at _ f n i h2, if_neg (Ne.symm hk)]
    rw [Array.getElem?_eq_getElem h1, Array.getElem?_eq_getElem (by rw [rowK_size]; exact h2)] at e
    exact Option.some.inj e
theorem rowK_one (kd : IntKind) (f : Nat → Int) (n : Nat) : (rowK kd f n).all (·.oneCell') = true := by
  unfold rowK
  exact all_oneCell_toArray (fun v hv => by
    obtain ⟨i, _, rfl⟩ := List.mem_map.1 hv
    rfl)
theorem rowK_congr (kd : IntKind) (f g : Nat → Int) (n : Nat) (h : ∀ i, i < n → f i = g i) : rowK kd f n = rowK kd g n := by
  unfold rowK
  congr 1
  exact List.map_congr_left (fun i hi => by rw [h i (List.mem_range.1 hi)])
end Go.Proofs.Ytphjebbjhfnhoaa
