/- the law's sums: a text's sums, in blocks of 16 to 64 bytes. -/
import Derived.Test.YtphjebbjhfnhoaaSo
import Derived.Test.YtphjebbjhfnhoaaTa
namespace Go.Proofs.Ytphjebbjhfnhoaa
open Go.RowKit
def bOf (a : Nat) : Nat := if a % 3 = 0 then 16 else if a % 3 = 1 then 32 else 64
theorem bOf_isB (a : Nat) : isB (bOf a) := by
  unfold bOf isB
  split
  · exact .inl rfl
  · split
    · exact .inr (.inl rfl)
    · exact .inr (.inr rfl)
def stOf (b : Nat) : Nat := 1 + b % 32
set_option maxRecDepth 100000 in
set_option maxHeartbeats 8000000 in
theorem sums_spec (l : List UInt8) (ad : Option Addr) (cap a b : Nat) (w : World) (ha : a < 256) (hb8 : b < 256) (hl : l.length ≤ 4000) (hb : Byt w ad l) (hbc : l.length ≤ cap) (hcm : cap ≤ maxLen) :
    Calls Try.prog 5 #[.slice ad l.length cap, .int .u8 (a : Int), .int .u8 (b : Int)] w fun e w' => ∃ v, e = .returned (.tuple #[.agg #[.int .i64 (l.length : Int), .int .i64 (bOf a : Int), .int .i64 (stOf b : Int), v], .bool true]) ∧
      Sl w' 59 2 v (cnt l.length (bOf a)) (marks l (bOf a) (stOf b) (cnt l.length (bOf a))) ∧ Fr (fun _ => False) w w' := by
  have HF0 := Lib.hid (show Fr (fun _ => False) w (w.alloc (.cells #[.int .i64 0, .int .i64 0, .int .i64 0, .slice none 0 0] 27)) from (Fr.refl (fun _ => False) w).alloc _)
  have HB0 := Lib.hid (Blk.new w 27 #[.int .i64 0, .int .i64 0, .int .i64 0, .slice none 0 0])
  have HSO := Lib.hid (fun B => fun (hB : isB B) => sof_spec l ad cap B (stOf b) _ hB (by omega) hbc hcm (by unfold stOf; omega) (by unfold stOf; omega) (hb.fr HF0.out))
  obtain ⟨nl, hnl⟩ : ∃ nl, nl = l.length := ⟨_, rfl⟩
  obtain ⟨st, hst⟩ : ∃ st, st = stOf b := ⟨_, rfl⟩
  obtain ⟨rr, hrr⟩ : ∃ rr, rr = b % 32 := ⟨_, rfl⟩
  have r1 : rr < 32 := by omega
  have e1 : (b : Int).tmod 32 = (rr : Int) := by rw [Int.tmod_eq_emod_of_nonneg (by omega)]; omega
  have e3 : (st : Int) = 1 + (rr : Int) := by rw [hst]; unfold stOf; omega
  rw [← hst, ← hnl] at HSO
  simp only [← hst, ← hnl]
  have HNL := Lib.hid hnl
  have HE3 := Lib.hid e3
  clear hb hl hbc hcm hnl hst e3 hb8 hrr
  rcases (show a % 3 = 0 ∨ a % 3 = 1 ∨ a % 3 = 2 by omega) with h | h | h
  · have hB : bOf a = 16 := by unfold bOf; rw [if_pos h]
    have e4 : (a : Int).tmod 3 = 0 := by rw [Int.tmod_eq_emod_of_nonneg (by omega)]; omega
    rw [hB]
    have HS := Lib.hid (HSO.out 16 (.inl rfl))
    rw [show ((16 : Nat) : Int) = 16 from rfl, HE3.out] at HS
    rw [show ((16 : Nat) : Int) = 16 from rfl]
    clear hB h HSO ha
    go_enter Try.func5, Try.ntmps5
    go_upto_region 2 with (first
      | (go_at_call 9; (refine HS.out.mono ?_); rintro e w2 ⟨v, rfl, hv, hf⟩; have HV := Lib.hid hv; have HF := Lib.hid hf; obtain ⟨va, vc, hvs, _, _⟩ := hv.slice; subst hvs; clear hv hf)
      | fail)
    have HF3 := Lib.hid (show Fr (fun _ => False) w2 (w2.alloc (.cells #[.int .i64 (nl : Int), .int .i64 16, .int .i64 (1 + (rr : Int)), .slice va (cnt nl 16) vc] 27)) from (Fr.refl (fun _ => False) w2).alloc _)
    have HB8 := Lib.hid (Blk.new w2 27 #[.int .i64 (nl : Int), .int .i64 16, .int .i64 (1 + (rr : Int)), .slice va (cnt nl 16) vc])
    obtain ⟨b8, hb8⟩ : ∃ b8, b8 = w2.heap.size := ⟨_, rfl⟩
    rw [← hb8] at HB8 ⊢
    generalize w2.alloc (.cells #[.int .i64 (nl : Int), .int .i64 16, .int .i64 (1 + (rr : Int)), .slice va (cnt nl 16) vc] 27) = w3 at HF3 HB8 ⊢
    have HB6 := Lib.hid ((HB0.out.fr HF.out (fun x => x)).fr HF3.out (fun x => x))
    go_wp2_with (first
      | (refine wpList_load_row rfl 27 _ rfl b8 rfl 27 _ (0, 0) _ HB8.out Try.underlying27 rfl Try.size27 ?_)
      | (refine wpList_store_row rfl 27 _ _ rfl w.heap.size #[.int .i64 (nl : Int), .int .i64 16, .int .i64 (1 + (rr : Int)), .slice va (cnt nl 16) vc] rfl rfl 27 _ HB6.out Try.size27 rfl (one4 _ _ _ _ rfl rfl rfl rfl) ?_)
      | fail)
    have hb6 : Blk (w3.setRow w.heap.size #[.int .i64 (nl : Int), .int .i64 16, .int .i64 (1 + (rr : Int)), .slice va (cnt nl 16) vc]) w.heap.size 27 #[.int .i64 (nl : Int), .int .i64 16, .int .i64 (1 + (rr : Int)), .slice va (cnt nl 16) vc] := setRow_heap _ _ _ _ 27 _ HB6.out
    have g := fr_setRow w3 w.heap.size #[.int .i64 (nl : Int), .int .i64 16, .int .i64 (1 + (rr : Int)), .slice va (cnt nl 16) vc]
    refine bodyPost_ret (results_cell_row_tmp rfl _ _ w.heap.size 27 _ (0, 0) _ rfl hb6 Try.underlying27 rfl Try.size27) rfl ⟨.slice va (cnt nl 16) vc, ?_, ?_, ?_⟩
    · rw [HE3.out]; rfl
    · have h1 := HV.out.fr HF3.out (fun _ _ x => x)
      exact h1.fr g (fun k hk e => h1.ne HB6.out (by decide) k hk e)
    · exact ((HF0.out.trans HF.out (fun _ _ x => x)).trans HF3.out (fun _ _ x => x)).trans g (fun k hk e => by rw [e] at hk; exact absurd hk (Nat.lt_irrefl _))
  · have hB : bOf a = 32 := by unfold bOf; rw [if_neg (by omega), if_pos h]
    have e4 : (a : Int).tmod 3 = 1 := by rw [Int.tmod_eq_emod_of_nonneg (by omega)]; omega
    rw [hB]
    have HS := Lib.hid (HSO.out 32 (.inr (.inl rfl)))
    rw [show ((32 : Nat) : Int) = 32 from rfl, HE3.out] at HS
    rw [show ((32 : Nat) : Int) = 32 from rfl]
    clear hB h HSO ha
    go_enter Try.func5, Try.ntmps5
    go_upto_region 2 with (first
      | (go_at_call 9; (refine HS.out.mono ?_); rintro e w2 ⟨v, rfl, hv, hf⟩; have HV := Lib.hid hv; have HF := Lib.hid hf; obtain ⟨va, vc, hvs, _, _⟩ := hv.slice; subst hvs; clear hv hf)
      | fail)
    have HF3 := Lib.hid (show Fr (fun _ => False) w2 (w2.alloc (.cells #[.int .i64 (nl : Int), .int .i64 32, .int .i64 (1 + (rr : Int)), .slice va (cnt nl 32) vc] 27)) from (Fr.refl (fun _ => False) w2).alloc _)
    have HB8 := Lib.hid (Blk.new w2 27 #[.int .i64 (nl : Int), .int .i64 32, .int .i64 (1 + (rr : Int)), .slice va (cnt nl 32) vc])
    obtain ⟨b8, hb8⟩ : ∃ b8, b8 = w2.heap.size := ⟨_, rfl⟩
    rw [← hb8] at HB8 ⊢
    generalize w2.alloc (.cells #[.int .i64 (nl : Int), .int .i64 32, .int .i64 (1 + (rr : Int)), .slice va (cnt nl 32) vc] 27) = w3 at HF3 HB8 ⊢
    have HB6 := Lib.hid ((HB0.out.fr HF.out (fun x => x)).fr HF3.out (fun x => x))
    go_wp2_with (first
      | (refine wpList_load_row rfl 27 _ rfl b8 rfl 27 _ (0, 0) _ HB8.out Try.underlying27 rfl Try.size27 ?_)
      | (refine wpList_store_row rfl 27 _ _ rfl w.heap.size #[.int .i64 (nl : Int), .int .i64 32, .int .i64 (1 + (rr : Int)), .slice va (cnt nl 32) vc] rfl rfl 27 _ HB6.out Try.size27 rfl (one4 _ _ _ _ rfl rfl rfl rfl) ?_)
      | fail)
    have hb6 : Blk (w3.setRow w.heap.size #[.int .i64 (nl : Int), .int .i64 32, .int .i64 (1 + (rr : Int)), .slice va (cnt nl 32) vc]) w.heap.size 27 #[.int .i64 (nl : Int), .int .i64 32, .int .i64 (1 + (rr : Int)), .slice va (cnt nl 32) vc] := setRow_heap _ _ _ _ 27 _ HB6.out
    have g := fr_setRow w3 w.heap.size #[.int .i64 (nl : Int), .int .i64 32, .int .i64 (1 + (rr : Int)), .slice va (cnt nl 32) vc]
    refine bodyPost_ret (results_cell_row_tmp rfl _ _ w.heap.size 27 _ (0, 0) _ rfl hb6 Try.underlying27 rfl Try.size27) rfl ⟨.slice va (cnt nl 32) vc, ?_, ?_, ?_⟩
    · rw [HE3.out]; rfl
    · have h1 := HV.out.fr HF3.out (fun _ _ x => x)
      exact h1.fr g (fun k hk e => h1.ne HB6.out (by decide) k hk e)
    · exact ((HF0.out.trans HF.out (fun _ _ x => x)).trans HF3.out (fun _ _ x => x)).trans g (fun k hk e => by rw [e] at hk; exact absurd hk (Nat.lt_irrefl _))
  · have hB : bOf a = 64 := by unfold bOf; rw [if_neg (by omega), if_neg (by omega)]
    have e4 : (a : Int).tmod 3 = 2 := by rw [Int.tmod_eq_emod_of_nonneg (by omega)]; omega
    rw [hB]
    have HS := Lib.hid (HSO.out 64 (.inr (.inr rfl)))
    rw [show ((64 : Nat) : Int) = 64 from rfl, HE3.out] at HS
    rw [show ((64 : Nat) : Int) = 64 from rfl]
    clear hB h HSO ha
    go_enter Try.func5, Try.ntmps5
    go_upto_region 2 with (first
      | (go_at_call 9; (refine HS.out.mono ?_); rintro e w2 ⟨v, rfl, hv, hf⟩; have HV := Lib.hid hv; have HF := Lib.hid hf; obtain ⟨va, vc, hvs, _, _⟩ := hv.slice; subst hvs; clear hv hf)
      | fail)
    have HF3 := Lib.hid (show Fr (fun _ => False) w2 (w2.alloc (.cells #[.int .i64 (nl : Int), .int .i64 64, .int .i64 (1 + (rr : Int)), .slice va (cnt nl 64) vc] 27)) from (Fr.refl (fun _ => False) w2).alloc _)
    have HB8 := Lib.hid (Blk.new w2 27 #[.int .i64 (nl : Int), .int .i64 64, .int .i64 (1 + (rr : Int)), .slice va (cnt nl 64) vc])
    obtain ⟨b8, hb8⟩ : ∃ b8, b8 = w2.heap.size := ⟨_, rfl⟩
    rw [← hb8] at HB8 ⊢
    generalize w2.alloc (.cells #[.int .i64 (nl : Int), .int .i64 64, .int .i64 (1 + (rr : Int)), .slice va (cnt nl 64) vc] 27) = w3 at HF3 HB8 ⊢
    have HB6 := Lib.hid ((HB0.out.fr HF.out (fun x => x)).fr HF3.out (fun x => x))
    go_wp2_with (first
      | (refine wpList_load_row rfl 27 _ rfl b8 rfl 27 _ (0, 0) _ HB8.out Try.underlying27 rfl Try.size27 ?_)
      | (refine wpList_store_row rfl 27 _ _ rfl w.heap.size #[.int .i64 (nl : Int), .int .i64 64, .int .i64 (1 + (rr : Int)), .slice va (cnt nl 64) vc] rfl rfl 27 _ HB6.out Try.size27 rfl (one4 _ _ _ _ rfl rfl rfl rfl) ?_)
      | fail)
    have hb6 : Blk (w3.setRow w.heap.size #[.int .i64 (nl : Int), .int .i64 64, .int .i64 (1 + (rr : Int)), .slice va (cnt nl 64) vc]) w.heap.size 27 #[.int .i64 (nl : Int), .int .i64 64, .int .i64 (1 + (rr : Int)), .slice va (cnt nl 64) vc] := setRow_heap _ _ _ _ 27 _ HB6.out
    have g := fr_setRow w3 w.heap.size #[.int .i64 (nl : Int), .int .i64 64, .int .i64 (1 + (rr : Int)), .slice va (cnt nl 64) vc]
    refine bodyPost_ret (results_cell_row_tmp rfl _ _ w.heap.size 27 _ (0, 0) _ rfl hb6 Try.underlying27 rfl Try.size27) rfl ⟨.slice va (cnt nl 64) vc, ?_, ?_, ?_⟩
    · rw [HE3.out]; rfl
    · have h1 := HV.out.fr HF3.out (fun _ _ x => x)
      exact h1.fr g (fun k hk e => h1.ne HB6.out (by decide) k hk e)
    · exact ((HF0.out.trans HF.out (fun _ _ x => x)).trans HF3.out (fun _ _ x => x)).trans g (fun k hk e => by rw [e] at hk; exact absurd hk (Nat.lt_irrefl _))
end Go.Proofs.Ytphjebbjhfnhoaa
