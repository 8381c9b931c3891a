/- match: Of. -/
import Derived.Test.YtphjebbjhfnhoaaPl
import Derived.Test.YtphjebbjhfnhoaaMn
import Derived.Test.YtphjebbjhfnhoaaFe
import Derived.Test.YtphjebbjhfnhoaaDo
import Derived.Test.YtphjebbjhfnhoaaNo
namespace Go.Proofs.Ytphjebbjhfnhoaa
open Go.RowKit
theorem opsC_one {w : World} {v : Value} {O : List OpV} (h : OpsIn w v O) : ∀ u ∈ opsC O, u.oneCell' = true := by
  intro u hu
  obtain ⟨o, ho, hu⟩ := List.mem_flatMap.1 hu
  obtain ⟨a, c, e, _, _⟩ := Sl.slice (h.2 o ho)
  simp only [opC, List.mem_cons, List.not_mem_nil, or_false] at hu
  rcases hu with rfl | rfl | rfl
  · rfl
  · rfl
  · rw [e]; rfl
theorem src_ops {w : World} {v : Value} {O : List OpV} (h : OpsIn w v O) : Src Try.prog 3 30 v O.length (opsC O) w := by
  rcases h.1.2 with ⟨e, h0⟩ | ⟨g, o, cap, cur, e, hb, _, _, _, hat⟩
  · have : O = [] := List.eq_nil_of_length_eq_zero h0
    subst this
    rw [e]
    exact Src.ofNil w Try.underlying30 0
  · rw [e]
    exact Src.ofSlice w Try.underlying30 ⟨g, o, none⟩ _ cap _ (opsC_length O) (fun j u hj => by rw [Addr.add_mid]; exact hb.cell _ (hat j u hj)) (opsC_one h)
theorem OpsIn.join {w w' : World} {v1 v2 v' : Value} {O1 O2 : List OpV} (h1 : OpsIn w v1 O1) (h2 : OpsIn w v2 O2) (q1 : Sl w' 48 3 v' (O1.length + O2.length) (opsC O1 ++ opsC O2)) (q2 : Fr (fun k => v1.ownBlock = some k) w w') : OpsIn w' v' (O1 ++ O2) := by
  refine ⟨?_, fun o ho => ?_⟩
  · rw [List.length_append, show opsC (O1 ++ O2) = opsC O1 ++ opsC O2 by simp [opsC]]; exact q1
  · have : SlB w o.dv o.d := by
      rcases List.mem_append.1 ho with ho | ho
      · exact h1.2 o ho
      · exact h2.2 o ho
    exact Sl.fr this q2 (fun k hk q => Sl.ne2 this h1.1 (by decide) k hk q)
theorem goodP_le {base : Nat} {o : OpV} (h : GoodP base o.p) (hb : base ≤ 131072) : o.off + o.len ≤ 131072 := by
  rcases h with ⟨_, x, y⟩ | ⟨_, _, y⟩
  · have x2 : o.off = 0 := x
    have y2 : o.len = 0 := y
    omega
  · have y2 : o.off + o.len ≤ base := y
    omega
set_option maxRecDepth 100000 in
set_option maxHeartbeats 8000000 in
theorem mof_spec (l : List UInt8) (B st : Nat) (v : Value) (b : List UInt8) (ad : Option Addr) (cap : Nat) (w : World) (hm : l.length ≤ 4000) (hB : isB B) (h1 : 1 ≤ st) (h2 : st ≤ 32) (hv : Sl w 59 2 v (cnt l.length B) (marks l B st (cnt l.length B)))
    (hb : Byt w ad b) (hbc : b.length ≤ cap) (hbl : b.length ≤ 4000) :
    Calls Try.prog 6 #[.agg #[.int .i64 (l.length : Int), .int .i64 (B : Int), .int .i64 (st : Int), v], .slice ad b.length cap] w fun e w' => ∃ v' O' P1 P2, e = .returned (.tuple #[v', .int .i64 0]) ∧ RunP l B st b P1 P2 ∧ NormR (outP P1 P2) (O'.map OpV.p) ∧ OpsIn w' v' O' ∧ O'.length ≤ 500000 ∧ (∀ o ∈ O', o.off + o.len ≤ 131072) ∧ Fr (fun _ => False) w w' := by
  have HF0 := Lib.hid (show Fr (fun _ => False) w (w.alloc (.cells #[.int .i64 (l.length : Int), .int .i64 (B : Int), .int .i64 (st : Int), v] 27)) from (Fr.refl (fun _ => False) w).alloc _)
  have HB1 := Lib.hid (Blk.new w 27 #[.int .i64 (l.length : Int), .int .i64 (B : Int), .int .i64 (st : Int), v])
  have HIN := Lib.hid (mnew_spec l B st v _ (by omega) hB h1 h2 (hv.fr HF0.out (fun _ _ x => x)))
  obtain ⟨va, vc, hvs, _, _⟩ := hv.slice
  obtain ⟨N, hN⟩ : ∃ N, N = cnt l.length B := ⟨_, rfl⟩
  rw [← hN] at hvs
  have c0 := HB1.out.cell 0 rfl
  have c1 := HB1.out.cell 1 rfl
  have c2 := HB1.out.cell 2 rfl
  have c3 := HB1.out.cell 3 rfl
  obtain ⟨nl, hnl⟩ : ∃ nl, nl = (l.length : Int) := ⟨_, rfl⟩
  obtain ⟨nb, hnb⟩ : ∃ nb, nb = b.length := ⟨_, rfl⟩
  rw [← hnl] at HIN HF0 HB1 c0 c1 c2 c3 ⊢
  have HVS := Lib.hid hvs
  rw [hvs] at HIN HF0 HB1 c0 c1 c2 c3 ⊢
  have HNN := Lib.hid hN
  have HM := Lib.hid hm
  have HB := Lib.hid hB
  have HST := Lib.hid h2
  have HBL := Lib.hid hbl
  have HBC := Lib.hid hbc
  have n1 : (b.length : Int) ≤ 4000 := by omega
  have HBY := Lib.hid hb
  rw [← hnb] at n1 ⊢
  have HNB := Lib.hid hnb
  clear hm hB h1 h2 hv hvs hN hnl hb hbl hbc hnb
  go_enter Try.func6, Try.ntmps6
  go_upto_region 2 with (first
    | (go_at_call 10; (refine HIN.out.mono ?_); rintro e w2 ⟨C, rfl, e1, e2, e3, e4, hk, hsc, hf⟩; have E1 := Lib.hid e1; have E2 := Lib.hid e2; have E3 := Lib.hid e3; have E4 := Lib.hid e4; have HK := Lib.hid hk; have HSC := Lib.hid hsc; have HF := Lib.hid hf; clear e1 e2 e3 e4 hk hsc hf)
    | fail)
  have HFW := Lib.hid (HF0.out.trans HF.out (fun _ _ x => x))
  have HFE := Lib.hid (feed_spec C s00 b ad cap w2 (by rw [E1.out]; have := HM.out; omega) (by rw [E2.out]; exact HB.out) (by rw [E3.out]; exact HST.out) HSC.out (by show 0 < C.B; rw [E2.out]; rcases HB.out with e | e | e <;> rw [e] <;> decide) rfl (by decide) (by show 0 + b.length ≤ _; have := HBL.out; omega) (by decide) (by decide) HBC.out
    (by
      intro j c hj
      obtain ⟨g, o, e, hlt, hcell⟩ := HBY.out j c hj
      exact ⟨g, o, e, Nat.lt_of_lt_of_le hlt HFW.out.size, (World.cell?_of_block (HFW.out.block g hlt (fun x => x))).trans hcell, (HK.out g).2 (Nat.lt_of_lt_of_le hlt HF0.out.size)⟩))
  rw [← HNB.out] at HFE
  clear c0 c1 c2 c3 HIN HB1
  obtain ⟨sc, hsc⟩ : ∃ sc, sc = C.sc := ⟨_, rfl⟩
  rw [← hsc] at HFE ⊢
  have HSCE := Lib.hid hsc
  clear hsc
  go_upto_region 7 with (first
    | (go_at_call 11; (refine HFE.out.mono ?_); rintro e w3 ⟨v1, S1, tv1, rfl, f1, f2, f3, f4, f5, f6, f7, f8, f9⟩; have F1 := Lib.hid f1; have F2 := Lib.hid f2; have F3 := Lib.hid f3; have F4 := Lib.hid f4; have F5 := Lib.hid f5; have F6 := Lib.hid f6; have F7 := Lib.hid f7; have F8 := Lib.hid f8; have F9 := Lib.hid f9; clear f1 f2 f3 f4 f5 f6 f7 f8 f9)
    | fail)
  have B64 : C.B ≤ 64 := by rw [E2.out]; rcases HB.out with e | e | e <;> omega
  have HDO := Lib.hid (done_spec (C.keep v1 (S1.O ++ tellO S1)) { S1 with ov := .slice none 0 0, O := [], tv := tv1, T := [] } w3 va vc (by show C.vs = .slice va (cnt C.l.length C.B) vc; rw [E4.out, E1.out, E2.out, ← HNN.out]) (by show C.l.length ≤ _; rw [E1.out]; have := HM.out; omega) (by show isB C.B; rw [E2.out]; exact HB.out) (by show C.st ≤ 32; rw [E3.out]; exact HST.out) F7.out F2.out F3.out (by show 0 ≤ 300000; omega) (by show 0 + S1.L.length ≤ 10000; have := F5.out; omega))
  rw [show (C.keep v1 (S1.O ++ tellO S1)).sc = sc from HSCE.out.symm] at HDO
  have HO1 := F6.out
  obtain ⟨a1, p1, hv1, _, _⟩ := HO1.1.slice
  obtain ⟨m1, hm1⟩ : ∃ m1, m1 = (S1.O ++ tellO S1).length := ⟨_, rfl⟩
  rw [← hm1] at hv1
  have HV1 := Lib.hid hv1
  have HM1 := Lib.hid hm1
  have hmb : m1 ≤ 200001 := by
    rw [hm1, List.length_append]
    have h1 := F4.out
    have h2 : (tellO S1).length ≤ 1 := by unfold tellO; split <;> simp
    omega
  have HMB := Lib.hid hmb
  clear HO1 hm1 B64 hmb
  rw [hv1]
  clear hv1
  go_wp2_with (first
    | (go_at_call 13; (refine HDO.out.mono ?_); rintro e w4 ⟨v2, S2, rfl, d1, d2, d3, d4, d5⟩; have D1 := Lib.hid d1; have D2 := Lib.hid d2; have D3 := Lib.hid d3; have D4 := Lib.hid d4; have D5 := Lib.hid d5; clear d1 d2 d3 d4 d5; have HO1 := Lib.hid (F6.out.fr D5.out (fun k hk q => q (.inr hk))); have HSRC := Lib.hid (src_ops D4.out); have hl2 : (S2.O ++ tellO S2).length ≤ 3 := (by rw [List.length_append]; have h1 : S2.O.length ≤ 0 + 2 := D3.out; have h2 : (tellO S2).length ≤ 1 := (by unfold tellO; split <;> simp); omega); have HL2 := Lib.hid hl2; clear hl2; have HS1 := Lib.hid (show Sl w4 48 3 (.slice a1 m1 p1) m1 (opsC (S1.O ++ tellO S1)) from (by have := HO1.out.1; rw [HV1.out, ← HM1.out] at this; exact this)))
    | (at_builtin; refine wpList_app rfl (.tmp 23) (.tmp 25) 30 30 rfl 48 (.agg #[.int .i64 0, .int .i64 0, .slice none 0 0]) 3 40 Try.underlying30 Try.info48 rfl (.slice a1 m1 p1) m1 (opsC (S1.O ++ tellO S1)) rfl HS1.out _ (S2.O ++ tellO S2).length (opsC (S2.O ++ tellO S2)) rfl HSRC.out (by have := HMB.out; have := HL2.out; unfold maxLen; omega) (by have := HMB.out; have := HL2.out; omega) ?_; intro v' w9 q1 q2 q3; have Q1 := Lib.hid q1; have Q2 := Lib.hid q2; clear q1 q2 q3; have HJ := Lib.hid (HO1.out.join D4.out (by rw [← HM1.out]; exact Q1.out) (by rw [HV1.out]; exact Q2.out)); have HRUN := Lib.hid (show RunP l B st b S1.p S2.p from (by have hd := D1.out; have hf := F1.out; have hle := D2.out; rw [E1.out, E2.out, E3.out] at hf; exact ⟨hf, by have hd2 : DoneP C.l C.B C.st (lastN C.l C.B) ⟨S1.L, S1.want, [], []⟩ S2.p := hd; rw [E1.out, E2.out, E3.out] at hd2; exact hd2, hle⟩)); have HMAP := Lib.hid (show ((S1.O ++ tellO S1) ++ (S2.O ++ tellO S2)).map OpV.p = outP S1.p S2.p from (by simp only [List.map_append, tellO_p]; rfl)); have HNO := Lib.hid (norm_spec v' _ w9 HJ.out (by rw [List.length_append, ← HM1.out]; have := HMB.out; have := HL2.out; omega) (by rw [HMAP.out]; have := HRUN.out.good.1; have := HBL.out; omega) (fun o ho => by have h3 : GoodP l.length o.p := HRUN.out.good.2 o.p (by rw [← HMAP.out]; exact List.mem_map_of_mem ho); exact goodP_le h3 (by have := HM.out; omega))))
    | (go_at_call 12; (refine HNO.out.mono ?_); rintro e w5 ⟨v5, O5, rfl, g1, g2, g3, g4, g5⟩; have G1 := Lib.hid g1; have G2 := Lib.hid g2; have G3 := Lib.hid g3; have G4 := Lib.hid g4; have G5 := Lib.hid g5; clear g1 g2 g3 g4 g5)
    | fail)
  go_ret2
  refine ⟨v5, O5, S1.p, S2.p, rfl, HRUN.out, by rw [← HMAP.out]; exact G1.out, G2.out, ?_, G4.out, ?_⟩
  · have h1 := G3.out
    rw [List.length_append, ← HM1.out] at h1
    have := HMB.out; have := HL2.out; omega
  · have A : Fr (fun _ => False) w w3 := HFW.out.trans F8.out (fun k hk q => q ((HK.out k).2 (Nat.lt_of_lt_of_le hk HF0.out.size)))
    have Bf : Fr (fun _ => False) w w4 := A.trans D5.out (fun k hk q => q (.inl ((HK.out k).2 (Nat.lt_of_lt_of_le hk HF0.out.size))))
    have Cf : Fr (fun _ => False) w w9 := Bf.trans Q2.out (fun k hk q => F9.out k (by rw [HV1.out]; exact q) ((HK.out k).2 (Nat.lt_of_lt_of_le hk HF0.out.size)))
    exact Cf.trans G5.out (fun _ _ x => x)
end Go.Proofs.Ytphjebbjhfnhoaa
