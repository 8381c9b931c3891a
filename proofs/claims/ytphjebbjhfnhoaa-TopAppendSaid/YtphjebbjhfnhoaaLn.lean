/- delta: told, length · delta: length. -/
import Derived.Test.YtphjebbjhfnhoaaBl
namespace Go.Proofs.Ytphjebbjhfnhoaa
open Go.RowKit
theorem told_spec (off len : Int) (ad : Option Addr) (n cap : Nat) (w : World) (hn : n ≤ 1000000) : Calls Try.prog 14 #[.agg #[.int .i64 off, .int .i64 len, .slice ad n cap]] w fun e w' => e = .returned (.bool (decide (0 < n))) ∧ Fr (fun _ => False) w w' := by
  have HF := Lib.hid (fun o => (Fr.refl (fun _ => False) w).alloc o)
  have n1 : (n : Int) ≤ 1000000 := by omega
  by_cases h : 0 < n
  · have h1 : (0 : Int) < (n : Int) := by omega
    rw [decide_eq_true h]
    clear h hn
    go_enter Try.func14, Try.ntmps14
    go_wp2_with (fail)
    go_ret
    exact ⟨by simp; omega, HF.out _⟩
  · obtain rfl : n = 0 := by omega
    clear h hn
    go_enter Try.func14, Try.ntmps14
    go_wp2_with (fail)
    go_ret
    exact ⟨rfl, HF.out _⟩
end Go.Proofs.Ytphjebbjhfnhoaa

namespace Go.Proofs.Ytphjebbjhfnhoaa
open Go.RowKit
/-- How many bytes an op makes. -/
def lenV (n len : Nat) : Nat := if 0 < n then n else len
theorem length_spec (off : Int) (len : Nat) (ad : Option Addr) (n cap : Nat) (w : World) (hn : n ≤ 1000000) (hl : len ≤ 1000000) :
    Calls Try.prog 15 #[.agg #[.int .i64 off, .int .i64 (len : Int), .slice ad n cap]] w fun e w' => e = .returned (.int .i64 (lenV n len : Int)) ∧ Fr (fun _ => False) w w' := by
  have HT := Lib.hid (fun wx => told_spec off (len : Int) ad n cap wx hn)
  have HF := Lib.hid (show Fr (fun _ => False) w (w.alloc (.cells #[.int .i64 off, .int .i64 (len : Int), .slice ad n cap] 48)) from (Fr.refl (fun _ => False) w).alloc _)
  have HB := Lib.hid (Blk.new w 48 #[.int .i64 off, .int .i64 (len : Int), .slice ad n cap])
  have n1 : (n : Int) ≤ 1000000 := by omega
  have n2 : (len : Int) ≤ 1000000 := by omega
  by_cases h : 0 < n
  · rw [decide_eq_true h] at HT
    rw [show lenV n len = n from if_pos h]
    clear h hn hl
    go_enter Try.func15, Try.ntmps15
    go_wp2_with (first
      | (go_at_call 14; (refine (HT.out _).mono ?_); rintro e w1 ⟨rfl, hf1⟩; have HF1 := Lib.hid hf1; have hb1 := HB.out.fr hf1 (fun x => x); have c2 := hb1.cell 2 rfl; clear hf1 hb1)
      | fail)
    go_ret
    exact ⟨rfl, HF.out.trans HF1.out (fun _ _ x => x)⟩
  · rw [decide_eq_false h] at HT
    rw [show lenV n len = len from if_neg h]
    have hmax : max (len : Int) 0 = (len : Int) := by omega
    clear h hn hl
    go_enter Try.func15, Try.ntmps15
    go_wp2_with (first
      | (go_at_call 14; (refine (HT.out _).mono ?_); rintro e w1 ⟨rfl, hf1⟩; have HF1 := Lib.hid hf1; have hb1 := HB.out.fr hf1 (fun x => x); have c1 := hb1.cell 1 rfl; clear hf1 hb1)
      | fail)
    go_ret
    exact ⟨rfl, HF.out.trans HF1.out (fun _ _ x => x)⟩
end Go.Proofs.Ytphjebbjhfnhoaa
