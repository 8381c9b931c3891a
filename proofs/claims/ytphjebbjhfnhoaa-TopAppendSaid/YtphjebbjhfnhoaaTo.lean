/- TopAppend's walk: it answers true. -/
import Derived.Test.YtphjebbjhfnhoaaAl
import Derived.Deep.RegionHeld3
namespace Go.Proofs.Ytphjebbjhfnhoaa
open Go.RowKit
theorem copyV_eq (O : List OpV) : copyV O = copyS (O.map OpV.p) := by
  unfold copyV copyS
  rw [List.map_map]
  rfl
def ArgB (w : World) (ad : Option Addr) (cap : Nat) (l : List UInt8) : Prop := Byt w ad l ∧ l.length ≤ cap ∧ cap ≤ maxLen
set_option maxRecDepth 100000 in
set_option maxHeartbeats 8000000 in
theorem big_case (old more : List UInt8) (ad0 ad1 : Option Addr) (c0 c1 : Nat) (a b : Int) (w : World) (h0 : ArgB w ad0 c0 old) (h1 : ArgB w ad1 c1 more) (h : 3000 < old.length ∨ 1000 < more.length) :
    Calls Try.prog 3 #[.slice ad0 old.length c0, .slice ad1 more.length c1, .agg #[.int .u8 a, .int .u8 b]] w fun e w' => e = .returned (.bool true) ∧ Fr (fun _ => False) w w' := by
  have HAL := Lib.hid (fun wx => alive_spec wx)
  have HFA := Lib.hid (show Fr (fun _ => False) w (w.alloc (.cells #[.int .u8 a, .int .u8 b] 23)) from (Fr.refl (fun _ => False) w).alloc _)
  obtain ⟨n0, hn0⟩ : ∃ n0, n0 = old.length := ⟨_, rfl⟩
  obtain ⟨n1, hn1⟩ : ∃ n1, n1 = more.length := ⟨_, rfl⟩
  have q0 : (n0 : Int) ≤ 9223372036854775807 := by have := h0.2.1; have := h0.2.2; unfold maxLen at this; omega
  have q1 : (n1 : Int) ≤ 9223372036854775807 := by have := h1.2.1; have := h1.2.2; unfold maxLen at this; omega
  rw [← hn0, ← hn1] at h ⊢
  by_cases hb : 3000 < n0
  · have e1 : (3000 : Int) < (n0 : Int) := by omega
    clear h h0 h1 hn0 hn1 hb
    go_enter Try.func3, Try.ntmps3
    go_wp2_with (first
      | (go_at_call 4; (refine (HAL.out _).mono ?_); rintro e w1 ⟨rfl, hf⟩; have HF := Lib.hid hf; clear hf)
      | fail)
    go_ret
    exact ⟨rfl, HFA.out.trans HF.out (fun _ _ x => x)⟩
  · have e1 : ¬ (3000 : Int) < (n0 : Int) := by omega
    have e2 : (1000 : Int) < (n1 : Int) := by omega
    clear h h0 h1 hn0 hn1 hb
    go_enter Try.func3, Try.ntmps3
    go_wp2_with (first
      | (go_at_call 4; (refine (HAL.out _).mono ?_); rintro e w1 ⟨rfl, hf⟩; have HF := Lib.hid hf; clear hf)
      | fail)
    go_ret
    exact ⟨rfl, HFA.out.trans HF.out (fun _ _ x => x)⟩
set_option maxRecDepth 100000 in
set_option maxHeartbeats 8000000 in
theorem append_spec (old more : List UInt8) (ad0 ad1 : Option Addr) (c0 c1 : Nat) (a b : Nat) (ha : a < 256) (hb : b < 256) (w : World) (h0 : ArgB w ad0 c0 old) (h1 : ArgB w ad1 c1 more) :
    Calls Try.prog 3 #[.slice ad0 old.length c0, .slice ad1 more.length c1, .agg #[.int .u8 (a : Int), .int .u8 (b : Int)]] w fun e w' => e = .returned (.bool true) ∧ Fr (fun _ => False) w w' := by
  by_cases hbig : 3000 < old.length ∨ 1000 < more.length
  · exact big_case old more ad0 ad1 c0 c1 a b w h0 h1 hbig
  have ho3 : old.length ≤ 3000 := by omega
  have hm1 : more.length ≤ 1000 := by omega
  have HAL := Lib.hid (fun wx => alive_spec wx)
  have HFA := Lib.hid (show Fr (fun _ => False) w (w.alloc (.cells #[.int .u8 (a : Int), .int .u8 (b : Int)] 23)) from (Fr.refl (fun _ => False) w).alloc _)
  have HBX := Lib.hid (Blk.new w 23 #[.int .u8 (a : Int), .int .u8 (b : Int)])
  have HSU := Lib.hid (sums_spec old ad0 c0 a b _ ha hb (by omega) (h0.1.fr HFA.out) h0.2.1 h0.2.2)
  have x0 := HBX.out.cell 0 rfl
  have x1 := HBX.out.cell 1 rfl
  obtain ⟨B, hB⟩ : ∃ B, B = bOf a := ⟨_, rfl⟩
  obtain ⟨st, hst⟩ : ∃ st, st = stOf b := ⟨_, rfl⟩
  have hBB : isB B := by rw [hB]; exact bOf_isB a
  have hs1 : 1 ≤ st ∧ st ≤ 32 := by rw [hst]; unfold stOf; omega
  rw [← hB, ← hst] at HSU
  obtain ⟨n0, hn0⟩ : ∃ n0, n0 = old.length := ⟨_, rfl⟩
  obtain ⟨n1, hn1⟩ : ∃ n1, n1 = more.length := ⟨_, rfl⟩
  have e1 : ¬ (3000 : Int) < (n0 : Int) := by omega
  have e2 : ¬ (1000 : Int) < (n1 : Int) := by omega
  have e3 : ¬ (B : Int) < 1 := by rcases hBB with e | e | e <;> omega
  have e4 : ¬ (B : Int) = 0 := by omega
  obtain ⟨md, hmd⟩ : ∃ md, md = n0 % B := ⟨_, rfl⟩
  have e5 : (n0 : Int).tmod (B : Int) = (md : Int) := by rw [Int.tmod_eq_emod_of_nonneg (by omega), hmd]; omega
  have e6 : md ≤ 3000 := by rw [hmd]; have := Nat.mod_le n0 B; omega
  obtain ⟨N, hN⟩ : ∃ N, N = cnt n0 B := ⟨_, rfl⟩
  have HNC := Lib.hid (show N = cnt old.length B by rw [hN, hn0])
  rw [← hn0, ← hn1]
  rw [← hn0] at HSU
  have HN0 := Lib.hid hn0
  have HN1 := Lib.hid hn1
  have HMD := Lib.hid hmd
  have HBB := Lib.hid hBB
  have HS1 := Lib.hid hs1
  have HA0 := Lib.hid h0
  have HA1 := Lib.hid h1
  have HO3 := Lib.hid ho3
  have HM1 := Lib.hid hm1
  have k0 : (n0 : Int) ≤ 3000 := by omega
  have k1 : (n1 : Int) ≤ 1000 := by omega
  have k2 : (B : Int) ≤ 64 := by rcases hBB with e | e | e <;> omega
  rw [← hN] at HSU
  clear hbig ho3 hm1 ha hb h0 h1 hB hst hn0 hn1 hmd hBB hs1 hN
  go_enter Try.func3, Try.ntmps3
  go_upto_region 4 with (first
    | (go_at_call 5; (refine HSU.out.mono ?_); rintro e w2 ⟨v, rfl, hv, hf⟩; have HV := Lib.hid hv; have HF := Lib.hid hf; obtain ⟨va, vc, hvs, _, _⟩ := hv.slice; subst hvs; clear hv hf)
    | fail)
  have HF3 := Lib.hid (show Fr (fun _ => False) w2 (w2.alloc (.cells #[.int .i64 (n0 : Int), .int .i64 (B : Int), .int .i64 (st : Int), .slice va N vc] 27)) from (Fr.refl (fun _ => False) w2).alloc _)
  have HB0 := Lib.hid (Blk.new w2 27 #[.int .i64 (n0 : Int), .int .i64 (B : Int), .int .i64 (st : Int), .slice va N vc])
  obtain ⟨b7, hb7⟩ : ∃ b7, b7 = w2.heap.size := ⟨_, rfl⟩
  rw [← hb7] at HB0 ⊢
  generalize w2.alloc (.cells #[.int .i64 (n0 : Int), .int .i64 (B : Int), .int .i64 (st : Int), .slice va N vc] 27) = w3 at HF3 HB0 ⊢
  have HFW := Lib.hid ((HFA.out.trans HF.out (fun _ _ x => x)).trans HF3.out (fun _ _ x => x))
  have HV3 := Lib.hid (HV.out.fr HF3.out (fun _ _ x => x))
  have HS4 := Lib.hid (fun w' (hf : Fr (fun _ => False) w3 w') => (⟨(HB0.out.fr hf (fun x => x)).cell 0 rfl, (HB0.out.fr hf (fun x => x)).cell 1 rfl, (HB0.out.fr hf (fun x => x)).cell 2 rfl, (HB0.out.fr hf (fun x => x)).cell 3 rfl⟩ :
    w'.cell? ⟨b7, 0, none⟩ = some (.int .i64 (n0 : Int)) ∧ w'.cell? ⟨b7, 1, none⟩ = some (.int .i64 (B : Int)) ∧ w'.cell? ⟨b7, 2, none⟩ = some (.int .i64 (st : Int)) ∧ w'.cell? ⟨b7, 3, none⟩ = some (.slice va N vc)))
  obtain ⟨nb, hnb⟩ : ∃ nb, nb = n0 + n1 := ⟨_, rfl⟩
  have HNB := Lib.hid hnb
  have HNL := Lib.hid (show nb = (old ++ more).length by rw [List.length_append, hnb, ← HN0.out, ← HN1.out])
  have HFD := Lib.hid (show Fr (fun _ => False) w3 (w3.drew.alloc (.cells #[] 5)) from ((Fr.refl (fun _ => False) w3).drew).alloc _)
  have HNIL := Lib.hid (show Sl (w3.drew.alloc (.cells #[] 5)) 5 1 (.slice (some ⟨w3.heap.size, 0, none⟩) 0 0) 0 [] from ⟨rfl, .inr ⟨w3.heap.size, 0, 0, #[], rfl, Blk.new w3.drew 5 #[], Nat.le_refl _, by decide, Nat.le_refl _, fun j u q => by simp at q⟩⟩)
  have HSRC0 := Lib.hid (src_byt (P := Try.prog) (tx := 22) Try.underlying22 (cap := c0) ((HA0.out.1.fr HFW.out).fr HFD.out))
  rw [← HN0.out] at HSRC0
  have HMO := Lib.hid (fun wx ad cap (hx : Fr (fun _ => False) w3 wx) (hb : Byt wx ad (old ++ more)) hc => mof_spec old B st (.slice va N vc) (old ++ more) ad cap wx (by have := HO3.out; omega) HBB.out HS1.out.1 HS1.out.2 (by rw [← HNC.out]; exact HV3.out.fr hx (fun _ _ x => x)) hb hc (by rw [List.length_append]; have := HO3.out; have := HM1.out; omega))
  rw [← HN0.out, ← HNL.out] at HMO
  have HC3 := Lib.hid (Fr.refl (fun _ => False) w3)
  have HC4 := Lib.hid ((Fr.refl (fun _ => False) w3).drew)
  clear hnb x0 x1 HSU HB0 HF HF3 HV HFA HBX hb7
  go_region_held3 (fun w' => w'.cell? ⟨b7, 0, none⟩ = some (.int .i64 (n0 : Int)) ∧ w'.cell? ⟨b7, 1, none⟩ = some (.int .i64 (B : Int)) ∧ w'.cell? ⟨b7, 2, none⟩ = some (.int .i64 (st : Int)) ∧ w'.cell? ⟨b7, 3, none⟩ = some (.slice va N vc))
    (first | exact HS4.out _ HC3.out | exact HS4.out _ HC4.out | exact HS4.out _ HFD.out)
    (first
      | (refine step_app rfl (.tmp 33) (.tmp 34) 22 22 rfl 5 (.int .u8 0) 1 1 Try.underlying22 Try.info5 rfl _ 0 [] rfl HNIL.out _ n0 (old.map u8v) rfl HSRC0.out (by have := HO3.out; have := HN0.out; unfold maxLen; omega) (by have := HO3.out; have := HN0.out; omega) ?_; intro v1 w5 q1 q2 q3; rw [Nat.zero_add, List.nil_append] at q1; have Q1 := Lib.hid q1; replace HC3 := Lib.hid (HFD.out.trans q2 (fun k hk q => by cases q; exact Nat.lt_irrefl _ hk)); have HSRC1 := Lib.hid (src_byt (P := Try.prog) (tx := 22) Try.underlying22 (cap := c1) ((HA1.out.1.fr HFW.out).fr HC3.out)); rw [← HN1.out] at HSRC1; have Q3 := Lib.hid (show ∀ k, v1.ownBlock = some k → w3.heap.size ≤ k from (fun k hk => by rcases q3 with e | e; (· rw [e] at hk; cases hk; exact Nat.le_refl _); (· rw [e] at hk; cases hk; exact HFD.out.size))); obtain ⟨a5, p5, hv5, _, _⟩ := q1.slice; subst hv5; clear q1 q2 q3)
      | (refine step_app rfl (.tmp 35) (.tmp 36) 22 22 rfl 5 (.int .u8 0) 1 1 Try.underlying22 Try.info5 rfl (.slice a5 n0 p5) n0 (old.map u8v) rfl Q1.out _ n1 (more.map u8v) rfl HSRC1.out (by have := HO3.out; have := HN0.out; have := HM1.out; have := HN1.out; unfold maxLen; omega) (by have := HO3.out; have := HN0.out; have := HM1.out; have := HN1.out; omega) ?_; intro v2 w6 q1 q2 q3; rw [← HNB.out, ← List.map_append] at q1; replace HC3 := Lib.hid (HC3.out.trans q2 (fun k hk q => absurd hk (Nat.not_lt.2 (Q3.out k q)))); obtain ⟨a6, p6, hv6, hp6, _⟩ := q1.slice; subst hv6; have HB6 := Lib.hid (SlB.bytAt (n := nb) (cap := p6) (l := old ++ more) (by unfold SlB; rw [← HNL.out]; exact q1)); have HP6 := Lib.hid hp6; clear q1 q2 q3 hp6)
      | (go_at_call 6; (refine (HMO.out _ a6 p6 HC3.out HB6.out HP6.out).mono ?_); rintro e w7 ⟨v7, O', P1, P2, rfl, g1, g2, g3, g4, g5, g6⟩; have G1 := Lib.hid g1; have G2 := Lib.hid g2; have G3 := Lib.hid g3; have G4 := Lib.hid g4; have G5 := Lib.hid g5; replace HC3 := Lib.hid (HC3.out.trans g6 (fun _ _ x => x)); clear g1 g2 g3 g4 g5 g6))
  obtain ⟨s0, s1, s2, s3⟩ := HS4.out _ HC3.out
  obtain ⟨tt, htt⟩ : ∃ tt, tt = toldV O' := ⟨_, rfl⟩
  obtain ⟨cc, hcc⟩ : ∃ cc, cc = copyV O' := ⟨_, rfl⟩
  have ht1 : tt = toldS (outP P1 P2) := by rw [htt, toldV_eq, G2.out.told_eq]
  have hc1 : cc = copyS (outP P1 P2) := by rw [hcc, copyV_eq, G2.out.copy_eq]
  have htl : tt ≤ n1 + md := by rw [ht1, HN1.out, HMD.out, HN0.out]; exact G1.out.told_le HBB.out
  have htz : n1 = 0 → tt = 0 := fun e => by
    have hm : more = [] := List.eq_nil_of_length_eq_zero (by rw [← HN1.out]; exact e)
    have hr := G1.out
    rw [hm, List.append_nil] at hr
    rw [ht1]; exact hr.told_zero HBB.out
  have hcl : cc ≤ nb := by rw [hc1, HNL.out]; exact G1.out.copy_le
  have HCO := Lib.hid (cost_spec v7 O' w7 G3.out G4.out (by rw [← htt]; omega) (by rw [← hcc]; have := HNB.out; omega) (fun o ho => by have := G5.out o ho; omega))
  rw [← htt, ← hcc] at HCO
  have e7 : IntKind.i64.wrap ((n1 : Int) + (md : Int)) = (n1 : Int) + (md : Int) := IntWalk.i64_in _ (by omega)
  have HFZ := Lib.hid (HFW.out.trans HC3.out (fun _ _ x => x))
  by_cases hz : n1 = 0
  · have hz2 := htz hz
    subst hz2
    subst hz
    clear htt hcc ht1 hc1 htl htz hcl s0 s2 s3
    go_wp2_with (first
      | (go_at_call 7; (refine HCO.out.mono ?_); rintro e w8 ⟨rfl, hf⟩; have HF8 := Lib.hid hf; clear hf)
      | (go_at_call 4; (refine (HAL.out _).mono ?_); rintro e w9 ⟨rfl, hf⟩; have HF9 := Lib.hid hf; clear hf)
      | fail)
    go_ret
    exact ⟨rfl, (HFZ.out.trans HF8.out (fun _ _ x => x)).trans HF9.out (fun _ _ x => x)⟩
  · have hz1 : ¬ (n1 : Int) = 0 := by omega
    have hl1 : (tt : Int) ≤ (n1 : Int) + (md : Int) := by omega
    clear htt hcc ht1 hc1 htl htz hcl s0 s2 s3 hz
    go_upto_region 8 with (first
      | (go_at_call 7; (refine HCO.out.mono ?_); rintro e w8 ⟨rfl, hf⟩; have HF8 := Lib.hid hf; have t1 := (HS4.out _ (HC3.out.trans HF8.out (fun _ _ x => x))).2.1; clear hf)
      | fail)
    go_wp2_with (first
      | (go_at_call 4; (refine (HAL.out _).mono ?_); rintro e w9 ⟨rfl, hf⟩; have HF9 := Lib.hid hf; clear hf)
      | fail)
    go_ret
    exact ⟨rfl, (HFZ.out.trans HF8.out (fun _ _ x => x)).trans HF9.out (fun _ _ x => x)⟩
end Go.Proofs.Ytphjebbjhfnhoaa
