/- sig: mark. -/
import Derived.Test.YtphjebbjhfnhoaaCt
import Derived.Test.YtphjebbjhfnhoaaAp
namespace Go.Proofs.Ytphjebbjhfnhoaa
open Go.RowKit
/-- A block's mark. -/
def mkA (l : List UInt8) (n : Nat) : Array Value := #[.int .u32 (weak l), .string (cutS l n)]
theorem Try.size59 : (Try.prog.info? 59).map (·.size) = some 2 := by kernel_rfl
set_option maxHeartbeats 2000000 in
theorem mark_spec (l : List UInt8) (ad : Option Addr) (cap n : Nat) (w : World) (hl : l.length ≤ 1000000) (hc : l.length ≤ cap) (hb : Byt w ad l) (hn : n ≤ 32) :
    Calls Try.prog 21 #[.slice ad l.length cap, .int .i64 (n : Int)] w fun e w' => e = .returned (.agg (mkA l n)) ∧ Fr (fun _ => False) w w' := by
  have HC := Lib.hid (fun wx (f : Fr (fun _ => False) w wx) => cut_spec l ad cap n wx hl hc (hb.fr f) hn)
  have HO := Lib.hid (fun wx (f : Fr (fun _ => False) w wx) => of_spec ad l cap wx hl (hb.fr f))
  unfold mkA
  generalize l.length = m at HC HO ⊢
  generalize weak l = x at HO ⊢
  generalize cutS l n = y at HC ⊢
  clear hl hc hb hn
  have HF := Lib.hid (Fr.refl (fun _ => False) w)
  go_enter Try.func21, Try.ntmps21
  go_wp2_with (first
    | (go_at_call 33; (refine (HC.out _ (HF.out.alloc _)).mono ?_); rintro e w1 ⟨rfl, h1⟩; have HB := Lib.hid ((Blk.new w 59 #[.int .u32 0, .string ⟨#[]⟩]).fr h1 (fun x => x)); have H1 := Lib.hid ((HF.out.alloc _).trans h1 (fun _ _ h => h)); clear h1)
    | (go_at_call 34; (refine (HO.out _ H1.out).mono ?_); rintro e w2 ⟨rfl, rfl⟩)
    | (refine wpList_store_row rfl 59 _ _ rfl w.heap.size #[.int .u32 x, .string y] rfl rfl 59 _ HB.out Try.size59 rfl (all_oneCell_toArray (fun v hv => by simp at hv; rcases hv with rfl | rfl <;> rfl)) ?_)
    | fail)
  refine bodyPost_ret (results_cell_row rfl _ _ w.heap.size 59 #[.int .u32 x, .string y] (0, 0) _ rfl (setRow_heap _ _ _ _ 59 _ HB.out) Try.underlying59 rfl Try.size59) rfl ⟨rfl, ?_⟩
  exact H1.out.trans (fr_setRow _ _ _) (fun i hi e => by omega)
end Go.Proofs.Ytphjebbjhfnhoaa
