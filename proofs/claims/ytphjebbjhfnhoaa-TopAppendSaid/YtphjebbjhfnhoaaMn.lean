/- match: New. -/
import Derived.Test.YtphjebbjhfnhoaaQi
namespace Go.Proofs.Ytphjebbjhfnhoaa
open Go.RowKit
/-- A search to which nothing came. -/
def s00 : Sst := ⟨.slice none 0 0, [], 0, 0, .slice none 0 0, [], .slice none 0 0, [], false⟩
set_option maxRecDepth 100000 in
set_option maxHeartbeats 8000000 in
theorem mnew_spec (l : List UInt8) (B st : Nat) (v : Value) (w : World) (hm : l.length ≤ 131072) (hB : isB B) (h1 : 1 ≤ st) (h2 : st ≤ 32) (hv : Sl w 59 2 v (cnt l.length B) (marks l B st (cnt l.length B))) :
    Calls Try.prog 10 #[.agg #[.int .i64 (l.length : Int), .int .i64 (B : Int), .int .i64 (st : Int), v]] w fun e w' => ∃ C : Cfg, e = .returned (.tuple #[.pointer (some ⟨C.sc, 0, none⟩), .int .i64 0]) ∧ C.l = l ∧ C.B = B ∧ C.st = st ∧ C.vs = v ∧ (∀ k, C.K k ↔ k < w.heap.size) ∧ SC C s00 w' ∧ Fr (fun _ => False) w w' := by
  have HF0 := Lib.hid (show Fr (fun _ => False) w (w.alloc (.cells #[.int .i64 (l.length : Int), .int .i64 (B : Int), .int .i64 (st : Int), v] 27)) from (Fr.refl (fun _ => False) w).alloc _)
  have HB1 := Lib.hid (Blk.new w 27 #[.int .i64 (l.length : Int), .int .i64 (B : Int), .int .i64 (st : Int), v])
  have HIN := Lib.hid (inew_spec l B st v _ hm hB h1 h2 (hv.fr HF0.out (fun _ _ x => x)))
  obtain ⟨ad, cap, hvs, _, _⟩ := hv.slice
  obtain ⟨N, hN⟩ : ∃ N, N = cnt l.length B := ⟨_, rfl⟩
  rw [← hN] at hvs
  have c0 := HB1.out.cell 0 rfl
  have c1 := HB1.out.cell 1 rfl
  have c2 := HB1.out.cell 2 rfl
  have c3 := HB1.out.cell 3 rfl
  obtain ⟨nl, hnl⟩ : ∃ nl, nl = (l.length : Int) := ⟨_, rfl⟩
  rw [← hnl] at HIN HF0 HB1 c0 c1 c2 c3 ⊢
  have HNL := Lib.hid hnl
  have HVS := Lib.hid hvs
  rw [hvs] at HIN HF0 HB1 c0 c1 c2 c3 ⊢
  clear hm hB h1 h2 hv hvs hN hnl
  go_enter Try.func10, Try.ntmps10
  go_upto_region 2 with (first
    | (go_at_call 22; (refine HIN.out.mono ?_); rintro e w2 ⟨x, vm, ch, H, al, rfl, hix, hf, hx, hch, hal, hvm⟩; have HIX := Lib.hid hix; have HF := Lib.hid hf; clear hix hf hx hch hal hvm)
    | fail)
  have HB2 := Lib.hid (HB1.out.fr HF.out (fun x => x))
  clear c0 c1 c2 c3
  have c0 := HB2.out.cell 0 rfl
  have c1 := HB2.out.cell 1 rfl
  have c2 := HB2.out.cell 2 rfl
  have c3 := HB2.out.cell 3 rfl
  go_wp2_with (fail)
  go_ret2
  have hF1 := HF0.out.trans HF.out (fun _ _ x => x)
  refine ⟨⟨l, B, st, x, vm, ch, H, al, v, w2.heap.size, fun k => k < w.heap.size⟩, rfl, rfl, rfl, rfl, HVS.out ▸ rfl, fun k => Iff.rfl, ?_, hF1.alloc _⟩
  have hf2 : Fr (fun _ => False) w2 (w2.alloc (.cells (scA ⟨l, B, st, x, vm, ch, H, al, v, w2.heap.size, fun k => k < w.heap.size⟩ s00) 67)) := (Fr.refl (fun _ => False) w2).alloc _
  have hsc : SC ⟨l, B, st, x, vm, ch, H, al, v, w2.heap.size, fun k => k < w.heap.size⟩ s00 (w2.alloc (.cells (scA ⟨l, B, st, x, vm, ch, H, al, v, w2.heap.size, fun k => k < w.heap.size⟩ s00) 67)) := by
    refine ⟨Blk.new w2 67 _, Sl.nil _ _ _, Sl.nil _ _ _, Sl.nil _ _ _, fun o ho => (by cases ho), fun k hk => (by cases hk), fun o ho => (by cases ho), HIX.out.frF hf2, fun q => ?_, fun k hk => (by cases hk), fun k hk => (by cases hk), fun k hk => (by cases hk), fun k hk => ?_⟩
    · have : w2.heap.size < w.heap.size := q
      have := hF1.size; omega
    · have : k < w.heap.size := hk
      have := hF1.size; have := hf2.size; omega
  unfold scA at hsc
  rw [HVS.out, ← HNL.out] at hsc
  rw [HVS.out]
  exact hsc
end Go.Proofs.Ytphjebbjhfnhoaa
