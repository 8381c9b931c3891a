/- The walks of ReportNumbers and ReportTotals. -/
import Derived.Test.YthnhieikeigjcaaDoorAw
namespace Go.Proofs.YthnhieikeigjcaaDoor
open Go.RowKit

set_option maxRecDepth 100000 in
set_option maxHeartbeats 4000000 in
theorem numbers_walk (n k : Int) (w : World) (hn : n ≤ 9223372036854775807) (hk : k ≤ 9223372036854775807) (hb : TB w) :
    Calls Tryd.prog 3 #[.int .i64 n, .int .i64 k] w fun e w' => e = .returned (.bool true) ∧ Below w.heap.size w w' := by
  have HT := Lib.hid hb
  have H1 := Lib.hid (fun wx (hx : TB wx) => human_spec n hn wx hx)
  have H2 := Lib.hid (fun wx => rhuman_spec n hn wx)
  have H3 := Lib.hid (fun wx => percent_spec n k hk wx)
  have H4 := Lib.hid (fun wx => rpercent_spec n k hk wx)
  have H5 := Lib.hid (fun wx (hx : TB wx) => span_spec n hn wx hx)
  have H6 := Lib.hid (fun wx => rspan_spec n hn wx)
  have HF := Lib.hid (Fr.refl (fun _ => False) w)
  clear hb
  go_enter Tryd.func3, Tryd.ntmps3
  go_wp2_with (first
    | (go_at_call 9; ((refine (H1.out _ (HT.out.fr HF.out)).mono ?_); rintro e w1 ⟨rfl, hf⟩; have HF := Lib.hid (HF.out.trans hf (fun _ _ h => h)); clear hf))
    | (go_at_call 10; ((refine (H2.out _).mono ?_); rintro e w2 ⟨rfl, hf⟩; have HF := Lib.hid (HF.out.trans hf (fun _ _ h => h)); clear hf))
    | (go_at_call 11; ((refine (H3.out _).mono ?_); rintro e w3 ⟨rfl, hf⟩; have HF := Lib.hid (HF.out.trans hf (fun _ _ h => h)); clear hf))
    | (go_at_call 12; ((refine (H4.out _).mono ?_); rintro e w4 ⟨rfl, hf⟩; have HF := Lib.hid (HF.out.trans hf (fun _ _ h => h)); clear hf))
    | (go_at_call 13; ((refine (H5.out _ (HT.out.fr HF.out)).mono ?_); rintro e w5 ⟨rfl, hf⟩; have HF := Lib.hid (HF.out.trans hf (fun _ _ h => h)); clear hf))
    | (go_at_call 14; ((refine (H6.out _).mono ?_); rintro e w6 ⟨rfl, hf⟩; have HF := Lib.hid (HF.out.trans hf (fun _ _ h => h)); clear hf))
    | (go_at_call 15; ((refine (awake_spec _ (HT.out.fr HF.out)).mono ?_); rintro e w7 ⟨rfl, hf⟩; have HF := Lib.hid (HF.out.trans hf (fun _ _ h => h)); clear hf)))
  go_ret
  exact ⟨rfl, HF.out.below (Nat.le_refl _) (fun _ _ h => h)⟩

set_option maxRecDepth 100000 in
set_option maxHeartbeats 4000000 in
theorem totals_walk (a : Option Addr) (ks : List Int) (cap : Nat) (t k : Int) (w : World) (hs : Steps w a ks) (hm : ks.length ≤ 9223372036854775807) (ht : t ≤ 9223372036854775807) (hk : k ≤ 9223372036854775807) (hb : TB w) :
    Calls Tryd.prog 4 #[.slice a ks.length cap, .int .i64 t, .int .i64 k] w fun e w' => e = .returned (.bool true) ∧ Below w.heap.size w w' := by
  have HT := Lib.hid hb
  have HF := Lib.hid (Fr.refl (fun _ => False) w)
  by_cases hl : ks.length ≤ 1000
  · have hle : decide (1000 < (ks.length : Int)) = false := by simp; omega
    have H1 := Lib.hid (fun wx (hx : TB wx) (hy : Steps wx a ks) => total_spec a ks cap t k wx hy hl ht hk hx)
    have H2 := Lib.hid (fun wx (hy : Steps wx a ks) => rtotal_spec a ks cap t k wx hy hl ht hk)
    have HS := Lib.hid hs
    generalize ks.length = n at H1 H2 hle ⊢
    clear hb hs hl hm
    go_enter Tryd.func4, Tryd.ntmps4
    go_wp2_with (first
      | (go_at_call 16; ((refine (H1.out _ (HT.out.fr HF.out) (HS.out.fr HF.out)).mono ?_); rintro e w1 ⟨rfl, hf⟩; have HF := Lib.hid (HF.out.trans hf (fun _ _ h => h)); clear hf))
      | (go_at_call 17; ((refine (H2.out _ (HS.out.fr HF.out)).mono ?_); rintro e w2 ⟨rfl, hf⟩; have HF := Lib.hid (HF.out.trans hf (fun _ _ h => h)); clear hf))
      | (go_at_call 15; ((refine (awake_spec _ (HT.out.fr HF.out)).mono ?_); rintro e w7 ⟨rfl, hf⟩; have HF := Lib.hid (HF.out.trans hf (fun _ _ h => h)); clear hf)))
    go_ret
    exact ⟨rfl, HF.out.below (Nat.le_refl _) (fun _ _ h => h)⟩
  · have hle : decide (1000 < (ks.length : Int)) = true := by simp; omega
    generalize ks.length = n at hle ⊢
    clear hb hs hl hm
    go_enter Tryd.func4, Tryd.ntmps4
    go_wp2_with (first
      | (go_at_call 15; ((refine (awake_spec _ (HT.out.fr HF.out)).mono ?_); rintro e w7 ⟨rfl, hf⟩; have HF := Lib.hid (HF.out.trans hf (fun _ _ h => h)); clear hf)))
    go_ret
    exact ⟨rfl, HF.out.below (Nat.le_refl _) (fun _ _ h => h)⟩
end Go.Proofs.YthnhieikeigjcaaDoor
