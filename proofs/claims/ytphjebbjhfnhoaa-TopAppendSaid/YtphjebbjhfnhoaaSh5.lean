/- sha: the state; New · sha: Copy. -/
import Derived.Test.YtphjebbjhfnhoaaSh3
namespace Go.Proofs.Ytphjebbjhfnhoaa
open Go.RowKit

/-- A state's cells. -/
def stA (h bl : Nat → Int) (hv n : Int) : Array Value := (rowK .u32 h 8 ++ rowK .u8 bl 64) ++ #[.int .i64 hv, .int .i64 n]
theorem stA_size (h bl : Nat → Int) (hv n : Int) : (stA h bl hv n).size = 74 := by simp [stA, rowK_size]
theorem Try.size114 : (Try.prog.info? 114).map (·.size) = some 74 := by kernel_rfl
theorem built114 : Try.prog.built 114 [(0, Value.agg (rowK .u32 hF 8))] = some (stA hF zN 0 0) := by kernel_rfl
theorem wpList_bld {ops : Array Oper} {rest : List Oper} {o : Oper} {a : Act} {w : World} {Q : Exit → Act → World → Prop} (hg : o.guard = none) (t : TypeId) (parts : Array (Nat × Operand)) (ho : o.op = .build t parts)
    (cells : Array Value) (hf : Try.prog.built t (parts.map fun (i, x) => (i, a.eval x)).toList = some cells)
    (h : wpList Try.prog ops Q rest (a.put o.dst (.agg cells)) w) : wpList Try.prog ops Q (o :: rest) a w :=
  wpList_build hg t parts ho (by rw [hf]; rfl) (by rw [hf]; exact h)
theorem stA_h (h bl : Nat → Int) (hv n : Int) (i : Nat) (hi : i < 8) : (stA h bl hv n)[i]? = some (.int .u32 (h i)) := by
  unfold stA
  rw [Array.getElem?_append_left (by simp [rowK_size]; omega), Array.getElem?_append_left (by rw [rowK_size]; exact hi), rowK_at _ _ _ _ hi]
theorem stA_b (h bl : Nat → Int) (hv n : Int) (i : Nat) (hi : i < 64) : (stA h bl hv n)[8 + i]? = some (.int .u8 (bl i)) := by
  unfold stA
  rw [Array.getElem?_append_left (by simp [rowK_size]; omega), Array.getElem?_append_right (by rw [rowK_size]; omega), rowK_size, Nat.add_sub_cancel_left, rowK_at _ _ _ _ hi]
theorem stA_v (h bl : Nat → Int) (hv n : Int) : (stA h bl hv n)[72]? = some (.int .i64 hv) := by
  unfold stA
  rw [Array.getElem?_append_right (by simp [rowK_size])]
  simp [rowK_size]
theorem stA_n (h bl : Nat → Int) (hv n : Int) : (stA h bl hv n)[73]? = some (.int .i64 n) := by
  unfold stA
  rw [Array.getElem?_append_right (by simp [rowK_size])]
  simp [rowK_size]
set_option maxRecDepth 100000 in
set_option maxHeartbeats 4000000 in
theorem new_spec (w : World) : Calls Try.prog 56 #[] w fun e w' => ∃ s, e = .returned (.pointer (some ⟨s, 0, none⟩)) ∧ w.heap.size ≤ s ∧ Blk w' s 114 (stA hF zN 0 0) ∧ Fr (fun _ => False) w w' := by
  have H := Lib.hid (first_spec w)
  go_enter Try.func56, Try.ntmps56
  go_wp2_with (first
    | (go_at_call 60; (refine H.out.mono ?_); rintro e w2 ⟨rfl, hf⟩; have HF := Lib.hid hf; clear hf)
    | (refine wpList_bld rfl 114 _ rfl (stA hF zN 0 0) built114 ?_)
    | fail)
  go_ret
  exact ⟨w2.heap.size, rfl, HF.out.size, Blk.new _ _ _, HF.out.alloc _⟩
end Go.Proofs.Ytphjebbjhfnhoaa

namespace Go.Proofs.Ytphjebbjhfnhoaa
open Go.RowKit
theorem z114 (w : World) : (zeroValue 114).run Try.prog w = .ok (.agg (stA zN zN 0 0)) w := by kernel_rfl
attribute [local go_sem ↓] z114
theorem stA_one (h bl : Nat → Int) (hv n : Int) : (stA h bl hv n).all (·.oneCell') = true := by
  have e : stA h bl hv n = (stA h bl hv n).toList.toArray := by simp
  rw [e]
  refine all_oneCell_toArray (fun v hm => ?_)
  have hm' : v ∈ ((rowK .u32 h 8).toList ++ (rowK .u8 bl 64).toList) ++ [Value.int .i64 hv, .int .i64 n] := by simpa [stA] using hm
  rcases List.mem_append.1 hm' with h1 | h1
  · rcases List.mem_append.1 h1 with h2 | h2
    · have : v ∈ (List.range 8).map fun i => Value.int .u32 (h i) := by simpa [rowK] using h2
      obtain ⟨i, _, rfl⟩ := List.mem_map.1 this; rfl
    · have : v ∈ (List.range 64).map fun i => Value.int .u8 (bl i) := by simpa [rowK] using h2
      obtain ⟨i, _, rfl⟩ := List.mem_map.1 this; rfl
  · simp only [List.mem_cons, List.not_mem_nil, or_false] at h1
    rcases h1 with rfl | rfl <;> rfl
set_option maxRecDepth 100000 in
set_option maxHeartbeats 4000000 in
theorem copy_spec (s : Nat) (h bl : Nat → Int) (hv n : Int) (w : World) (hs : Blk w s 114 (stA h bl hv n)) :
    Calls Try.prog 62 #[.pointer (some ⟨s, 0, none⟩)] w fun e w' => ∃ c, e = .returned (.pointer (some ⟨c, 0, none⟩)) ∧ w.heap.size ≤ c ∧ Blk w' c 114 (stA h bl hv n) ∧ Fr (fun _ => False) w w' := by
  have HB := Lib.hid hs
  have HN := Lib.hid (Blk.new w 114 (stA zN zN 0 0))
  have HS := Lib.hid (stA_size h bl hv n)
  have hlt := hs.lt
  clear hs
  obtain ⟨cs, hcs⟩ : ∃ cs, cs = stA h bl hv n := ⟨_, rfl⟩
  have HO := Lib.hid (show cs.all (·.oneCell') = true by rw [hcs]; exact stA_one _ _ _ _)
  rw [← hcs] at HB HS ⊢
  clear hcs
  go_enter Try.func62, Try.ntmps62
  go_wp2_with (first
    | (refine wpList_load_row rfl 114 _ rfl s rfl 114 cs (0, 0) _ HB.out Try.underlying114 rfl (by rw [HS.out]; exact Try.size114) ?_)
    | (refine wpList_store_row rfl 114 _ _ rfl w.heap.size cs rfl rfl 114 (stA zN zN 0 0) HN.out (by rw [HS.out]; exact Try.size114) (by rw [HS.out]; exact stA_size _ _ _ _) HO.out ?_)
    | fail)
  go_ret
  exact ⟨w.heap.size, rfl, Nat.le_refl _, setRow_heap _ _ _ _ 114 _ HN.out, ((Fr.refl _ w).alloc _).trans (fr_setRow _ _ _) (fun i hi e => by omega)⟩
end Go.Proofs.Ytphjebbjhfnhoaa
