/- bytes.Clone. -/
import Derived.Test.YtphjebbjhfnhoaaJn
import Derived.Lib.SliceRun
namespace Go.Proofs.Ytphjebbjhfnhoaa
open Go.RowKit
set_option maxRecDepth 100000 in
set_option maxHeartbeats 4000000 in
theorem clone_spec (v : Value) (d : List UInt8) (w : World) (h : SlB w v d) (hd : d ≠ []) (hl : d.length ≤ 1000000) :
    Calls Try.prog 44 #[v] w fun e w' => ∃ v', e = .returned v' ∧ SlB w' v' d ∧ (∀ k, v'.ownBlock = some k → w.heap.size ≤ k) ∧ Fr (fun _ => False) w w' := by
  obtain ⟨m, hm⟩ : ∃ m, m = d.length := ⟨_, rfl⟩
  have hm0 : 0 < m := by
    rw [hm]; cases d with
    | nil => exact absurd rfl hd
    | cons a b => simp
  obtain ⟨g, o, cap, cur, rfl, _, _, _, _, _⟩ := Sl.pos h (by rw [← hm]; exact hm0)
  have HF := Lib.hid (show Fr (fun _ => False) w (w.alloc (.cells #[] 5)) from (Fr.refl (fun _ => False) w).alloc _)
  have HS := Lib.hid (Sl.fr h HF.out (fun _ _ x => x))
  obtain ⟨ad, cp, e0, hb, hcp⟩ := SlB.byt HS.out
  have HSRC := Lib.hid (src_byt (P := Try.prog) (tx := 22) Try.underlying22 (cap := cp) hb)
  rw [← e0, ← hm] at HSRC
  have HN := Lib.hid (show Sl (w.alloc (.cells #[] 5)) 5 1 (.slice (some ⟨w.heap.size, 0, none⟩) 0 0) 0 [] from ⟨rfl, .inr ⟨w.heap.size, 0, 0, #[], rfl, Blk.new w 5 #[], Nat.le_refl _, by decide, Nat.le_refl _, fun j u q => by simp at q⟩⟩)
  rw [← hm] at hl ⊢
  have HL := Lib.hid hl
  have HM := Lib.hid hm
  clear h hd hl hm hm0 hb hcp e0
  have q22 : ∀ (w : World) (a : Option Addr) (n c n' c' : Nat), (binOp .eql 22 (.slice a n c) (.slice none n' c')).run Try.prog w = .ok (.bool a.isNone) w := fun w a n c n' c' => Lib.run_eql_slice_nil w 22 5 a n c n' c' Try.underlying22
  go_enter Try.func44, Try.ntmps44
  go_wp2_with (first
    | (at_builtin; refine wpList_app rfl (.tmp 5) (.tmp 6) 22 22 rfl 5 (.int .u8 0) 1 1 Try.underlying22 Try.info5 rfl _ 0 [] rfl HN.out _ m (d.map u8v) rfl HSRC.out (by have := HL.out; unfold maxLen; omega) (by have := HL.out; omega) ?_; intro v' w9 q1 q2 q3; have Q1 := Lib.hid q1; have Q2 := Lib.hid q2; have Q3 := Lib.hid q3; clear q1 q2 q3)
    | fail)
  go_ret
  refine ⟨_, rfl, ?_, fun k hk => ?_, HF.out.trans Q2.out (fun k hk q => by cases q; exact absurd hk (Nat.lt_irrefl _))⟩
  · have := Q1.out
    rw [Nat.zero_add, List.nil_append] at this
    unfold SlB
    rw [← HM.out]; exact this
  · rcases Q3.out with e | e
    · have h2 := e.symm.trans hk; cases h2; exact Nat.le_refl _
    · have h2 := e.symm.trans hk; cases h2; exact HF.out.size
end Go.Proofs.Ytphjebbjhfnhoaa
