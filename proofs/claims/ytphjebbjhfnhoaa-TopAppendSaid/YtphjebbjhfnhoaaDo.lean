/- match: Done. -/
import Derived.Test.YtphjebbjhfnhoaaFe
namespace Go.Proofs.Ytphjebbjhfnhoaa
open Go.RowKit
def actD (c u : Nat → Value) : Act := { tmps := [c 0, c 1, c 2, c 3, c 4, c 5, c 6, c 7, c 8, c 9, c 10, c 11, c 12, c 13, c 14, c 15, c 16, c 17, c 18, c 19,
  c 20, c 21, c 22, c 23, c 24, c 25, c 26, c 27, c 28, c 29, c 30, c 31, c 32, c 33, c 34, c 35, u 36, u 37, u 38, u 39,
  u 40, u 41, u 42, u 43, u 44, u 45, u 46, u 47, u 48, c 49, c 50].toArray, defers := [] }
theorem actD_wp {P : Program} {cd : Code} {Q : Exit → Act → World → Prop} {w : World} {l : List Value} (h : ∀ cc : Nat → Value, (cc = fun k => l.getD k undef) → cd.wp P Q (actD cc cc) w) (he : actD (fun k => l.getD k undef) (fun k => l.getD k undef) = ⟨l.toArray, []⟩) : cd.wp P Q ⟨l.toArray, []⟩ w := by
  rw [← he]; exact h _ rfl
structure DoI (C : Cfg) (S : Sst) (w : World) (St : Sst) (wr : World) : Prop where
  sc : SC C St wr
  fp : DoneP C.l C.B C.st (lastN C.l C.B) S.p St.p
  wt : St.want ≤ 1000000
  lo : St.O.length = S.O.length
  lt : St.T.length + St.L.length ≤ S.T.length + S.L.length
  fr : Fr (fun k => ¬ C.K k) w wr
set_option maxRecDepth 100000 in
set_option maxHeartbeats 8000000 in
theorem done_spec (C : Cfg) (S : Sst) (w : World) (va : Option Addr) (vc : Nat) (hvs : C.vs = .slice va (cnt C.l.length C.B) vc) (hml : C.l.length ≤ 131072) (hB : isB C.B) (hst : C.st ≤ 32) (h : SC C S w) (hov : S.over = false) (hwt : S.want ≤ 1000000) (hO : S.O.length ≤ 300000) (hT : S.T.length + S.L.length ≤ 10000) :
    Calls Try.prog 13 #[.pointer (some ⟨C.sc, 0, none⟩)] w fun e w' => ∃ v S', e = .returned v ∧ DoneP C.l C.B C.st (lastN C.l C.B) S.p S'.p ∧ S'.L = [] ∧ S'.O.length ≤ S.O.length + 2 ∧ OpsIn w' v (S'.O ++ tellO S') ∧ Fr (fun k => ¬ C.K k) w w' := by
  have HLS := Lib.hid (fun Sx wx (hx : SC C Sx wx) => last_spec C Sx wx va vc hvs hml hB hx)
  have HS := Lib.hid h
  have c11 := h.blk.cell 11 (v := .bool S.over) rfl
  have f11 := h.blk.free 11
  rw [hov] at c11
  obtain ⟨sc, hsc⟩ : ∃ sc, sc = C.sc := ⟨_, rfl⟩
  rw [← hsc] at c11 f11 ⊢
  have HSC := Lib.hid hsc
  have g1 : Fr (fun k => k = C.sc) w (w.setCell ⟨sc, 11, none⟩ (.bool true)) := (Fr.refl (fun k => k = C.sc) w).setCell (p := ⟨sc, 11, none⟩) (fun _ => hsc) _
  have h1 : SC C { S with over := true } (w.setCell ⟨sc, 11, none⟩ (.bool true)) := by
    refine h.self g1 ?_ rfl rfl rfl rfl rfl rfl
    have := h.blk.set 11 (.bool true)
    rw [hsc] at *; exact this
  have HLL := Lib.hid (HLS.out _ _ h1)
  have H1 := Lib.hid h1
  have HG1 := Lib.hid (show Fr (fun k => ¬ C.K k) w (w.setCell ⟨sc, 11, none⟩ (.bool true)) from g1.mono fun k _ q => by rw [q]; exact h.ls)
  have HML := Lib.hid hml
  have HB := Lib.hid hB
  have HST := Lib.hid hst
  have HO := Lib.hid hO
  have HT := Lib.hid hT
  have HWT := Lib.hid hwt
  rw [← HSC.out] at HLL
  obtain ⟨ln, hln⟩ : ∃ ln, ln = lastN C.l C.B := ⟨_, rfl⟩
  have hln2 : ln ≤ 64 := by
    rw [hln]; unfold lastN; rw [blk_length]; rcases hB with e | e | e <;> omega
  rw [← hln] at HLL
  have HLN := Lib.hid hln
  clear h h1 g1 hsc hvs hml hB hst hov hwt hO hT hln HLS
  go_enter Try.func13, Try.ntmps13
  go_wp2_with (first
    | (go_at_call 28; (refine HLL.out.mono ?_); rintro e w1 ⟨rfl, hf1⟩; have HF1 := Lib.hid hf1; clear hf1)
    | fail)
  have HFI0 := Lib.hid (show DoI C S w { S with over := true } w1 from ⟨H1.out.frF HF1.out, .nil, HWT.out, rfl, Nat.le_refl _, HG1.out.trans HF1.out (fun _ _ x => x.elim)⟩)
  clear HLL H1 HG1 HF1 HS
  go_loopg [] (S.L.length) (fun gk wr => ∃ (St : Sst), Hid (gk = St.L.length) ∧ Hid (DoI C S w St wr))
  case atStart => exact ⟨{ S with over := true }, Lib.hid rfl, HFI0⟩
  case round =>
    obtain ⟨St, HG, HF⟩ := hrel
    obtain ⟨la, lc, hlv, _, _⟩ := Sl.slice HF.out.sc.lft
    have c0 := HF.out.sc.blk.cell 0 (v := St.lv) rfl
    obtain ⟨m, hm⟩ : ∃ m, m = St.L.length := ⟨_, rfl⟩
    rw [← hm] at hlv
    rw [hlv, ← HSC.out] at c0
    have HM := Lib.hid hm
    clear c11 f11 hlv hm HFI0
    by_cases hm0 : m = 0
    · subst hm0
      have HOP := Lib.hid (ops_spec C St wr HF.out.sc (by have := HF.out.lo; have := HO.out; omega))
      rw [← HSC.out] at HOP
      go_wp2_with (first
        | (go_at_call 26; (refine HOP.out.mono ?_); rintro e w9 ⟨v, tv', rfl, h1, h2, h3, _⟩; have H1 := Lib.hid h1; have H3 := Lib.hid h3; clear h1 h2 h3)
        | fail)
      go_ret
      have hF := HF.out
      exact ⟨_, St, rfl, hF.fp, List.eq_nil_of_length_eq_zero HM.out.symm, by rw [hF.lo]; omega, H1.out, hF.fr.trans H3.out (fun _ _ x => x)⟩
    · have m0 : 0 < (m : Int) := by omega
      obtain ⟨h0, r, hhr⟩ : ∃ h0 r, St.L = h0 :: r := by
        cases hq : St.L with
        | nil => have h1 := HM.out; rw [hq] at h1; simp at h1; omega
        | cons a b => exact ⟨a, b, rfl⟩
      have HNE := Lib.hid (show St.L ≠ [] by rw [hhr]; exact List.cons_ne_nil _ _)
      have HHR := Lib.hid hhr
      have HSH := Lib.hid (fun wx (hx : SC C St wx) => shift_spec C St h0 r wx hx hhr (by have := HF.out.lt; have := HT.out; rw [hhr] at *; simp at *; omega))
      obtain ⟨ta, tc, htv, _, _⟩ := Sl.slice HF.out.sc.tld
      obtain ⟨tn, htn⟩ : ∃ tn, tn = St.T.length := ⟨_, rfl⟩
      rw [← htn] at htv
      have HTV := Lib.hid htv
      have HTB := Lib.hid (show St.T.length ≤ 100000 by have := HF.out.lt; have := HT.out; omega)
      clear hhr htv htn
      by_cases hml : m = ln
      · have HMLN := Lib.hid (show St.L.length = lastN C.l C.B by rw [← HM.out, hml, HLN.out])
        have HTK := Lib.hid (tk24_spec C St wr HML.out HB.out HST.out HF.out.sc (by have := HF.out.lt; have := HT.out; omega) (by have := HF.out.lo; have := HO.out; omega) HF.out.wt)
        rw [← HSC.out] at HTK
        subst hml
        go_wp2_with (fail)
        go_at_call 24
        refine HTK.out.mono ?_
        rintro e w3 ⟨S3, ob, rfl, ht3, h3, hf3⟩
        have HT3 := Lib.hid ht3
        have HSD3 := Lib.hid h3
        have HF3 := Lib.hid hf3
        clear ht3 h3 hf3 HTK
        cases ob with
        | some i =>
          obtain ⟨p1, p2, p3, p4, p5, p6, p7, p8⟩ := HT3.out.someP
          have P1 := Lib.hid p1
          have P2 := Lib.hid p2
          have P6 := Lib.hid p6
          have P7 := Lib.hid p7
          clear p1 p2 p3 p4 p5 p6 p7 p8
          have HOP := Lib.hid (ops_spec C S3 w3 HSD3.out (by have := HF.out.lo; have := HO.out; have := P7.out; omega))
          rw [← HSC.out] at HOP
          go_wp2_with (first
            | (go_at_call 26; (refine HOP.out.mono ?_); rintro e w9 ⟨v, tv', rfl, h1, h2, h3, _⟩; have H1 := Lib.hid h1; have H3 := Lib.hid h3; clear h1 h2 h3)
            | fail)
          go_ret
          have hF := HF.out
          refine ⟨_, S3, rfl, ?_, P6.out, by have := P7.out; rw [← hF.lo]; exact this, H1.out, (hF.fr.trans HF3.out (fun _ _ x => x)).trans H3.out (fun _ _ x => x)⟩
          rw [P2.out]
          exact .took St.p i hF.fp HNE.out HMLN.out P1.out
        | none =>
          obtain ⟨e3, hnf⟩ := HT3.out.noneP
          subst e3
          have HNF := Lib.hid (show S3.L.length = lastN C.l C.B → NoFit C.l C.B C.st S3.L from fun _ => hnf)
          clear hnf
          go_wp2_with (fail)
          have HSDD := Lib.hid (HSD3.out.frF ((Fr.refl (fun _ => False) w3).drew))
          have HG0 := Lib.hid (HF3.out.drew)
          obtain ⟨IV, hIV⟩ : ∃ IV : (Nat → Bool) → (Nat → Value) → World → Prop, IV = fun L u w' => QI C S3 h0 r 36 sc w3.drew L u w' := ⟨_, rfl⟩
          have HIV := Lib.hid hIV
          clear hIV
          refine actD_wp (fun cc hcc => ?_) rfl
          have q0 : cc 0 = .pointer (some ⟨sc, 0, none⟩) := by rw [hcc]; rfl
          refine wp_region_cl (by kernel_rfl) [[], [], [1], [2], [3], [], [5], [6], [7], [8], [4, 9, 8], [0, 0, 1, 2, 3, 4, 5, 6, 7, 8, 9, 10], [11, 0, 1, 2, 3, 4, 5, 6, 7, 8, 9, 10], [12, 10, 10, 0, 1, 2, 3, 4, 5, 6, 7, 8, 9, 10]] (by kernel_rfl) (by decide) (fun L a w' => ∃ u, a = actD cc u ∧ IV L u w') ?_ ?_ ?_
          · refine ⟨_, rfl, ?_⟩
            rw [HIV.out]
            exact QI.start HSDD.out (Fr.refl _ _)
          · intro jj hj L a w' hI hcl h00 hd2
            obtain ⟨u, rfl, hP⟩ := hI
            rw [HIV.out] at hP
            have hc : jj = 0 ∨ jj = 1 ∨ jj = 2 ∨ jj = 3 ∨ jj = 4 ∨ jj = 5 ∨ jj = 6 ∨ jj = 7 ∨ jj = 8 ∨ jj = 9 ∨ jj = 10 ∨ jj = 11 ∨ jj = 12 ∨ jj = 13 := by have : jj < 14 := hj; omega
            have n13 : jj < 13 → L 13 = false := fun hjj => by
              cases h : L 13 with
              | false => rfl
              | true =>
                have h12 := hcl 13 12 h (by decide)
                have h11 := hcl 12 11 h12 (by decide)
                have : L jj = true := by
                  obtain rfl | rfl | rfl | rfl | rfl | rfl | rfl | rfl | rfl | rfl | rfl | rfl | rfl : jj = 0 ∨ jj = 1 ∨ jj = 2 ∨ jj = 3 ∨ jj = 4 ∨ jj = 5 ∨ jj = 6 ∨ jj = 7 ∨ jj = 8 ∨ jj = 9 ∨ jj = 10 ∨ jj = 11 ∨ jj = 12 := by omega
                  all_goals first | exact h12 | exact h11 | exact hcl 11 _ h11 (by decide)
                exact absurd this (by rw [h00]; decide)
            have n10 : jj = 4 ∨ jj = 8 ∨ jj = 9 → L 10 = false := fun hjj => by
              cases h : L 10 with
              | false => rfl
              | true =>
                rcases hjj with rfl | rfl | rfl
                · exact absurd (hcl 10 4 h (by decide)) (by rw [h00]; decide)
                · exact absurd (hcl 10 8 h (by decide)) (by rw [h00]; decide)
                · exact absurd (hcl 10 9 h (by decide)) (by rw [h00]; decide)
            have n9 : jj = 8 → L 9 = false := fun hjj => by
              cases h : L 9 with
              | false => rfl
              | true => subst hjj; exact absurd (hcl 9 8 h (by decide)) (by rw [h00]; decide)
            clear hj
            rcases hc with rfl | rfl | rfl | rfl | rfl | rfl | rfl | rfl | rfl | rfl | rfl | rfl | rfl | rfl
            · have HH := Lib.hid hP
              have r0 : (actD cc u).eval (.tmp 0) = (.pointer (some ⟨sc, 0, none⟩)) := q0
              refine wpOp_run rfl rfl (v := (.pointer (some ⟨sc, 0, none⟩))) (w' := w') ?_ ⟨updU u 36 (.pointer (some ⟨sc, 0, none⟩)), rfl, (by rw [HIV.out]; exact QL.up HH.out 0 (by decide) (by decide) (by decide) (by decide) (.pointer (some ⟨sc, 0, none⟩)) rfl)⟩
              generalize (actD cc u).eval = ev at r0 ⊢
              clear hd2 h00 hcl hP n13 n10 n9 HH
              go_simp
            · have HH := Lib.hid hP
              have r0 : (actD cc u).eval (.tmp 0) = (.pointer (some ⟨sc, 0, none⟩)) := q0
              refine wpOp_run rfl rfl (v := (.pointer (some ⟨sc, 0, none⟩))) (w' := w') ?_ ⟨updU u 37 (.pointer (some ⟨sc, 0, none⟩)), rfl, (by rw [HIV.out]; exact QL.up HH.out 1 (by decide) (by decide) (by decide) (by decide) (.pointer (some ⟨sc, 0, none⟩)) rfl)⟩
              generalize (actD cc u).eval = ev at r0 ⊢
              clear hd2 h00 hcl hP n13 n10 n9 HH
              go_simp
            · have HH := Lib.hid hP
              have e37 : (actD cc u).eval (.tmp 37) = (.pointer (some ⟨sc, 0, none⟩)) := hP.fp 1 (by decide) (by decide) (by decide) (by decide) (hd2 1 (by decide))
              refine wpOp_run rfl rfl (v := (.pointer (some ⟨sc, 0, none⟩))) (w' := w') ?_ ⟨updU u 38 (.pointer (some ⟨sc, 0, none⟩)), rfl, (by rw [HIV.out]; exact QL.up HH.out 2 (by decide) (by decide) (by decide) (by decide) (.pointer (some ⟨sc, 0, none⟩)) rfl)⟩
              generalize (actD cc u).eval = ev at e37 ⊢
              clear hd2 h00 hcl hP n13 n10 n9 HH
              go_simp
            · have HH := Lib.hid hP
              have e38 : (actD cc u).eval (.tmp 38) = (.pointer (some ⟨sc, 0, none⟩)) := hP.fp 2 (by decide) (by decide) (by decide) (by decide) (hd2 2 (by decide))
              refine wpOp_run rfl rfl (v := (.pointer (some ⟨sc, 9, none⟩))) (w' := w') ?_ ⟨updU u 39 (.pointer (some ⟨sc, 9, none⟩)), rfl, (by rw [HIV.out]; exact QL.up HH.out 3 (by decide) (by decide) (by decide) (by decide) (.pointer (some ⟨sc, 9, none⟩)) rfl)⟩
              generalize (actD cc u).eval = ev at e38 ⊢
              clear hd2 h00 hcl hP n13 n10 n9 HH
              go_simp
            · have HH := Lib.hid hP
              have e39 : (actD cc u).eval (.tmp 39) = (.pointer (some ⟨sc, 9, none⟩)) := hP.fp 3 (by decide) (by decide) (by decide) (by decide) (hd2 3 (by decide))
              have cx : w'.cell? ⟨sc, 9, none⟩ = some (.slice ta tn tc) := by rw [← HTV.out]; exact QI.tvc hP HSC.out (n10 (by decide))
              refine wpOp_run rfl rfl (v := (.slice ta tn tc)) (w' := w') ?_ ⟨updU u 40 (.slice ta tn tc), rfl, (by rw [HIV.out]; exact QL.up HH.out 4 (by decide) (by decide) (by decide) (by decide) (.slice ta tn tc) (by rw [← HTV.out]; rfl))⟩
              generalize (actD cc u).eval = ev at e39 ⊢
              clear hd2 h00 hcl hP n13 n10 n9 HH
              go_simp
            · have HH := Lib.hid hP
              have r0 : (actD cc u).eval (.tmp 0) = (.pointer (some ⟨sc, 0, none⟩)) := q0
              refine wpOp_run rfl rfl (v := (.pointer (some ⟨sc, 0, none⟩))) (w' := w') ?_ ⟨updU u 41 (.pointer (some ⟨sc, 0, none⟩)), rfl, (by rw [HIV.out]; exact QL.up HH.out 5 (by decide) (by decide) (by decide) (by decide) (.pointer (some ⟨sc, 0, none⟩)) rfl)⟩
              generalize (actD cc u).eval = ev at r0 ⊢
              clear hd2 h00 hcl hP n13 n10 n9 HH
              go_simp
            · have HH := Lib.hid hP
              have e41 : (actD cc u).eval (.tmp 41) = (.pointer (some ⟨sc, 0, none⟩)) := hP.fp 5 (by decide) (by decide) (by decide) (by decide) (hd2 5 (by decide))
              refine wpOp_run rfl rfl (v := (.pointer (some ⟨sc, 0, none⟩))) (w' := w') ?_ ⟨updU u 42 (.pointer (some ⟨sc, 0, none⟩)), rfl, (by rw [HIV.out]; exact QL.up HH.out 6 (by decide) (by decide) (by decide) (by decide) (.pointer (some ⟨sc, 0, none⟩)) rfl)⟩
              generalize (actD cc u).eval = ev at e41 ⊢
              clear hd2 h00 hcl hP n13 n10 n9 HH
              go_simp
            · have HH := Lib.hid hP
              have e42 : (actD cc u).eval (.tmp 42) = (.pointer (some ⟨sc, 0, none⟩)) := hP.fp 6 (by decide) (by decide) (by decide) (by decide) (hd2 6 (by decide))
              refine wpOp_run rfl rfl (v := (.pointer (some ⟨sc, 0, none⟩))) (w' := w') ?_ ⟨updU u 43 (.pointer (some ⟨sc, 0, none⟩)), rfl, (by rw [HIV.out]; exact QL.up HH.out 7 (by decide) (by decide) (by decide) (by decide) (.pointer (some ⟨sc, 0, none⟩)) rfl)⟩
              generalize (actD cc u).eval = ev at e42 ⊢
              clear hd2 h00 hcl hP n13 n10 n9 HH
              go_simp
            · refine wpOp_one rfl ?_
              have e7 : (actD cc u).eval (.tmp 43) = (.pointer (some ⟨sc, 0, none⟩)) := hP.fp 7 (by decide) (by decide) (by decide) (by decide) (hd2 7 (by decide))
              have HCALL := HSH.out w' (hP.n0 h00).1
              have HH := Lib.hid (fun (lv' : Value) (wz : World) (ha : SC C (shS S3 lv' r) wz) (hf : Fr (fun k => ¬ C.K k) w' wz) => QI.shift hP h00 (n9 rfl) (n10 (by decide)) (n13 (by decide)) lv' ha hf)
              have e66 : u 43 = (.pointer (some ⟨sc, 0, none⟩)) := e7
              rw [← HSC.out] at HCALL
              have HCALL := Lib.hid HCALL
              clear hd2 h00 hcl hP n13 n10 n9 e7
              unfold actD
              go_wp2_with (go_at_call 25; (refine HCALL.out.mono ?_); rintro e w2 ⟨lv2, rfl, ha, hf⟩; have HA := Lib.hid ha; have HFC := Lib.hid hf; clear ha hf)
              exact ⟨updU u 44 (.int .u8 (h0.toNat : Int)), by simp [updU, e66, hcc], (by rw [HIV.out]; exact HH.out lv2 _ HA.out HFC.out)⟩
            · have e8 : (actD cc u).eval (.tmp 44) = .int .u8 (h0.toNat : Int) := hP.f8 (hd2 8 (by decide))
              have HH := Lib.hid (QI.box hP (hd2 8 (by decide)) (n10 (by decide)) (n13 (by decide)))
              refine wpOp_run rfl rfl (v := .slice (some ⟨w'.heap.size, 0, none⟩) 1 1) (w' := w'.alloc (.cells #[.int .u8 (h0.toNat : Int)] 5)) ?_ ⟨updU u 45 (.slice (some ⟨w'.heap.size, 0, none⟩) 1 1), rfl, (by rw [HIV.out]; exact HH.out)⟩
              generalize (actD cc u).eval = ev at e8 ⊢
              clear hd2 h00 hcl hP n13 n10 n9 HH
              go_simp
            · refine wpOp_one rfl ?_
              have e4 : u 40 = S3.tv := hP.fp 4 (by decide) (by decide) (by decide) (by decide) (hd2 4 (by decide))
              obtain ⟨q, e9, hq⟩ := hP.f9 (hd2 9 (by decide))
              have hb9 := hq h00
              have hsl := QI.tvs hP (hd2 8 (by decide)) h00
              refine wpList_app rfl (.tmp 40) (.tmp 45) 22 22 rfl 5 (.int .u8 0) 1 1 Try.underlying22 Try.info5 rfl S3.tv S3.T.length (S3.T.map u8v) e4 hsl (.slice (some ⟨q, 0, none⟩) 1 1) 1 [u8v h0] e9 (src_one Try.underlying22 q 1 5 [u8v h0] rfl (fun u hu => by rw [List.mem_singleton] at hu; subst hu; rfl) hb9) (by have := HTB.out; unfold maxLen; omega) (by have := HTB.out; omega) ?_
              intro v' w9 q1 q2 q3
              exact ⟨updU u 46 v', by simp [actD, updU, Act.put], (by rw [HIV.out]; exact QI.join hP HSC.out (hd2 8 (by decide)) h00 (n13 (by decide)) q1 q2 q3)⟩
            · have HH := Lib.hid hP
              have e36 : (actD cc u).eval (.tmp 36) = (.pointer (some ⟨sc, 0, none⟩)) := hP.fp 0 (by decide) (by decide) (by decide) (by decide) (hd2 0 (by decide))
              refine wpOp_run rfl rfl (v := (.pointer (some ⟨sc, 0, none⟩))) (w' := w') ?_ ⟨updU u 47 (.pointer (some ⟨sc, 0, none⟩)), rfl, (by rw [HIV.out]; exact QL.up HH.out 11 (by decide) (by decide) (by decide) (by decide) (.pointer (some ⟨sc, 0, none⟩)) rfl)⟩
              generalize (actD cc u).eval = ev at e36 ⊢
              clear hd2 h00 hcl hP n13 n10 n9 HH
              go_simp
            · have HH := Lib.hid hP
              have e47 : (actD cc u).eval (.tmp 47) = (.pointer (some ⟨sc, 0, none⟩)) := hP.fp 11 (by decide) (by decide) (by decide) (by decide) (hd2 11 (by decide))
              refine wpOp_run rfl rfl (v := (.pointer (some ⟨sc, 9, none⟩))) (w' := w') ?_ ⟨updU u 48 (.pointer (some ⟨sc, 9, none⟩)), rfl, (by rw [HIV.out]; exact QL.up HH.out 12 (by decide) (by decide) (by decide) (by decide) (.pointer (some ⟨sc, 9, none⟩)) rfl)⟩
              generalize (actD cc u).eval = ev at e47 ⊢
              clear hd2 h00 hcl hP n13 n10 n9 HH
              go_simp
            · have e12 : (actD cc u).eval (.tmp 48) = (.pointer (some ⟨sc, 9, none⟩)) := hP.fp 12 (by decide) (by decide) (by decide) (by decide) (hd2 12 (by decide))
              have HH := Lib.hid (QI.store hP HSC.out (hcl 10 8 (hd2 10 (by decide)) (by decide)) (hd2 10 (by decide)) h00)
              obtain ⟨lv', w1, b1, b2, b3, b4, b5, b6⟩ := hP.n2 (hd2 10 (by decide)) h00
              obtain ⟨a2, p2, hy, _, _⟩ := b3.slice
              have e10 : (actD cc u).eval (.tmp 46) = .slice a2 (S3.T.length + 1) p2 := hy
              have cx := b5.cell 9 (v := S3.tv) rfl
              have fx := b5.free 9
              rw [hy] at HH
              refine wpOp_skip rfl rfl (w' := w'.setCell ⟨sc, 9, none⟩ (.slice a2 (S3.T.length + 1) p2)) ?_ ⟨u, rfl, (by rw [HIV.out]; exact HH.out)⟩
              generalize (actD cc u).eval = ev at e12 e10 ⊢
              clear hd2 h00 hcl hP n13 n10 n9 HH b1 b2 b3 b4 b5 b6 hy
              go_simp
          · intro L a w' hI hall
            obtain ⟨u, rfl, hP⟩ := hI
            rw [HIV.out] at hP
            obtain ⟨lv9, tv9, h9, f9⟩ := QI.done hP (hall 13 (by decide))
            have H9 := Lib.hid h9
            have F9 := Lib.hid f9
            clear hP hall h9 f9 HIV
            rw [hcc]
            unfold actD
            go_wp2_with (fail)
            have HFI := Lib.hid (show DoI C S w { shS S3 lv9 r with tv := tv9, T := S3.T ++ [h0] } w' by
              have hF := HF.out
              have hG := (HG0.out).trans F9.out (fun _ _ x => x)
              have hr := HHR.out
              refine ⟨H9.out, ?_, hF.wt, hF.lo, ?_, hF.fr.trans hG (fun _ _ x => x)⟩
              · exact DoneP.slid S3.p h0 r hF.fp HNF.out hr
              · have := hF.lt
                show (S3.T ++ [h0]).length + r.length ≤ _
                rw [hr] at this
                rw [List.length_append]; simp at *; omega)
            go_roundg r.length
            case measure => exact Hid.out (Lib.hid (by have h1 := HG.out; have h2 : S3.L.length = r.length + 1 := (by rw [HHR.out]; rfl); omega))
            case rel => exact ⟨_, Lib.hid rfl, HFI⟩
      · have HNF := Lib.hid (show St.L.length = lastN C.l C.B → NoFit C.l C.B C.st St.L from fun e => absurd (HM.out.trans (e.trans HLN.out.symm)) hml)
        have hml1 : ¬ (m : Int) = (ln : Int) := by omega
        clear hml
        go_wp2_with (fail)
        have HSDD := Lib.hid (HF.out.sc.frF ((Fr.refl (fun _ => False) wr).drew))
        have HG0 := Lib.hid ((Fr.refl (fun k => ¬ C.K k) wr).drew)
        obtain ⟨IV, hIV⟩ : ∃ IV : (Nat → Bool) → (Nat → Value) → World → Prop, IV = fun L u w' => QI C St h0 r 36 sc wr.drew L u w' := ⟨_, rfl⟩
        have HIV := Lib.hid hIV
        clear hIV
        refine actD_wp (fun cc hcc => ?_) rfl
        have q0 : cc 0 = .pointer (some ⟨sc, 0, none⟩) := by rw [hcc]; rfl
        refine wp_region_cl (by kernel_rfl) [[], [], [1], [2], [3], [], [5], [6], [7], [8], [4, 9, 8], [0, 0, 1, 2, 3, 4, 5, 6, 7, 8, 9, 10], [11, 0, 1, 2, 3, 4, 5, 6, 7, 8, 9, 10], [12, 10, 10, 0, 1, 2, 3, 4, 5, 6, 7, 8, 9, 10]] (by kernel_rfl) (by decide) (fun L a w' => ∃ u, a = actD cc u ∧ IV L u w') ?_ ?_ ?_
        · refine ⟨_, rfl, ?_⟩
          rw [HIV.out]
          exact QI.start HSDD.out (Fr.refl _ _)
        · intro jj hj L a w' hI hcl h00 hd2
          obtain ⟨u, rfl, hP⟩ := hI
          rw [HIV.out] at hP
          have hc : jj = 0 ∨ jj = 1 ∨ jj = 2 ∨ jj = 3 ∨ jj = 4 ∨ jj = 5 ∨ jj = 6 ∨ jj = 7 ∨ jj = 8 ∨ jj = 9 ∨ jj = 10 ∨ jj = 11 ∨ jj = 12 ∨ jj = 13 := by have : jj < 14 := hj; omega
          have n13 : jj < 13 → L 13 = false := fun hjj => by
            cases h : L 13 with
            | false => rfl
            | true =>
              have h12 := hcl 13 12 h (by decide)
              have h11 := hcl 12 11 h12 (by decide)
              have : L jj = true := by
                obtain rfl | rfl | rfl | rfl | rfl | rfl | rfl | rfl | rfl | rfl | rfl | rfl | rfl : jj = 0 ∨ jj = 1 ∨ jj = 2 ∨ jj = 3 ∨ jj = 4 ∨ jj = 5 ∨ jj = 6 ∨ jj = 7 ∨ jj = 8 ∨ jj = 9 ∨ jj = 10 ∨ jj = 11 ∨ jj = 12 := by omega
                all_goals first | exact h12 | exact h11 | exact hcl 11 _ h11 (by decide)
              exact absurd this (by rw [h00]; decide)
          have n10 : jj = 4 ∨ jj = 8 ∨ jj = 9 → L 10 = false := fun hjj => by
            cases h : L 10 with
            | false => rfl
            | true =>
              rcases hjj with rfl | rfl | rfl
              · exact absurd (hcl 10 4 h (by decide)) (by rw [h00]; decide)
              · exact absurd (hcl 10 8 h (by decide)) (by rw [h00]; decide)
              · exact absurd (hcl 10 9 h (by decide)) (by rw [h00]; decide)
          have n9 : jj = 8 → L 9 = false := fun hjj => by
            cases h : L 9 with
            | false => rfl
            | true => subst hjj; exact absurd (hcl 9 8 h (by decide)) (by rw [h00]; decide)
          clear hj
          rcases hc with rfl | rfl | rfl | rfl | rfl | rfl | rfl | rfl | rfl | rfl | rfl | rfl | rfl | rfl
          · have HH := Lib.hid hP
            have r0 : (actD cc u).eval (.tmp 0) = (.pointer (some ⟨sc, 0, none⟩)) := q0
            refine wpOp_run rfl rfl (v := (.pointer (some ⟨sc, 0, none⟩))) (w' := w') ?_ ⟨updU u 36 (.pointer (some ⟨sc, 0, none⟩)), rfl, (by rw [HIV.out]; exact QL.up HH.out 0 (by decide) (by decide) (by decide) (by decide) (.pointer (some ⟨sc, 0, none⟩)) rfl)⟩
            generalize (actD cc u).eval = ev at r0 ⊢
            clear hd2 h00 hcl hP n13 n10 n9 HH
            go_simp
          · have HH := Lib.hid hP
            have r0 : (actD cc u).eval (.tmp 0) = (.pointer (some ⟨sc, 0, none⟩)) := q0
            refine wpOp_run rfl rfl (v := (.pointer (some ⟨sc, 0, none⟩))) (w' := w') ?_ ⟨updU u 37 (.pointer (some ⟨sc, 0, none⟩)), rfl, (by rw [HIV.out]; exact QL.up HH.out 1 (by decide) (by decide) (by decide) (by decide) (.pointer (some ⟨sc, 0, none⟩)) rfl)⟩
            generalize (actD cc u).eval = ev at r0 ⊢
            clear hd2 h00 hcl hP n13 n10 n9 HH
            go_simp
          · have HH := Lib.hid hP
            have e37 : (actD cc u).eval (.tmp 37) = (.pointer (some ⟨sc, 0, none⟩)) := hP.fp 1 (by decide) (by decide) (by decide) (by decide) (hd2 1 (by decide))
            refine wpOp_run rfl rfl (v := (.pointer (some ⟨sc, 0, none⟩))) (w' := w') ?_ ⟨updU u 38 (.pointer (some ⟨sc, 0, none⟩)), rfl, (by rw [HIV.out]; exact QL.up HH.out 2 (by decide) (by decide) (by decide) (by decide) (.pointer (some ⟨sc, 0, none⟩)) rfl)⟩
            generalize (actD cc u).eval = ev at e37 ⊢
            clear hd2 h00 hcl hP n13 n10 n9 HH
            go_simp
          · have HH := Lib.hid hP
            have e38 : (actD cc u).eval (.tmp 38) = (.pointer (some ⟨sc, 0, none⟩)) := hP.fp 2 (by decide) (by decide) (by decide) (by decide) (hd2 2 (by decide))
            refine wpOp_run rfl rfl (v := (.pointer (some ⟨sc, 9, none⟩))) (w' := w') ?_ ⟨updU u 39 (.pointer (some ⟨sc, 9, none⟩)), rfl, (by rw [HIV.out]; exact QL.up HH.out 3 (by decide) (by decide) (by decide) (by decide) (.pointer (some ⟨sc, 9, none⟩)) rfl)⟩
            generalize (actD cc u).eval = ev at e38 ⊢
            clear hd2 h00 hcl hP n13 n10 n9 HH
            go_simp
          · have HH := Lib.hid hP
            have e39 : (actD cc u).eval (.tmp 39) = (.pointer (some ⟨sc, 9, none⟩)) := hP.fp 3 (by decide) (by decide) (by decide) (by decide) (hd2 3 (by decide))
            have cx : w'.cell? ⟨sc, 9, none⟩ = some (.slice ta tn tc) := by rw [← HTV.out]; exact QI.tvc hP HSC.out (n10 (by decide))
            refine wpOp_run rfl rfl (v := (.slice ta tn tc)) (w' := w') ?_ ⟨updU u 40 (.slice ta tn tc), rfl, (by rw [HIV.out]; exact QL.up HH.out 4 (by decide) (by decide) (by decide) (by decide) (.slice ta tn tc) (by rw [← HTV.out]; rfl))⟩
            generalize (actD cc u).eval = ev at e39 ⊢
            clear hd2 h00 hcl hP n13 n10 n9 HH
            go_simp
          · have HH := Lib.hid hP
            have r0 : (actD cc u).eval (.tmp 0) = (.pointer (some ⟨sc, 0, none⟩)) := q0
            refine wpOp_run rfl rfl (v := (.pointer (some ⟨sc, 0, none⟩))) (w' := w') ?_ ⟨updU u 41 (.pointer (some ⟨sc, 0, none⟩)), rfl, (by rw [HIV.out]; exact QL.up HH.out 5 (by decide) (by decide) (by decide) (by decide) (.pointer (some ⟨sc, 0, none⟩)) rfl)⟩
            generalize (actD cc u).eval = ev at r0 ⊢
            clear hd2 h00 hcl hP n13 n10 n9 HH
            go_simp
          · have HH := Lib.hid hP
            have e41 : (actD cc u).eval (.tmp 41) = (.pointer (some ⟨sc, 0, none⟩)) := hP.fp 5 (by decide) (by decide) (by decide) (by decide) (hd2 5 (by decide))
            refine wpOp_run rfl rfl (v := (.pointer (some ⟨sc, 0, none⟩))) (w' := w') ?_ ⟨updU u 42 (.pointer (some ⟨sc, 0, none⟩)), rfl, (by rw [HIV.out]; exact QL.up HH.out 6 (by decide) (by decide) (by decide) (by decide) (.pointer (some ⟨sc, 0, none⟩)) rfl)⟩
            generalize (actD cc u).eval = ev at e41 ⊢
            clear hd2 h00 hcl hP n13 n10 n9 HH
            go_simp
          · have HH := Lib.hid hP
            have e42 : (actD cc u).eval (.tmp 42) = (.pointer (some ⟨sc, 0, none⟩)) := hP.fp 6 (by decide) (by decide) (by decide) (by decide) (hd2 6 (by decide))
            refine wpOp_run rfl rfl (v := (.pointer (some ⟨sc, 0, none⟩))) (w' := w') ?_ ⟨updU u 43 (.pointer (some ⟨sc, 0, none⟩)), rfl, (by rw [HIV.out]; exact QL.up HH.out 7 (by decide) (by decide) (by decide) (by decide) (.pointer (some ⟨sc, 0, none⟩)) rfl)⟩
            generalize (actD cc u).eval = ev at e42 ⊢
            clear hd2 h00 hcl hP n13 n10 n9 HH
            go_simp
          · refine wpOp_one rfl ?_
            have e7 : (actD cc u).eval (.tmp 43) = (.pointer (some ⟨sc, 0, none⟩)) := hP.fp 7 (by decide) (by decide) (by decide) (by decide) (hd2 7 (by decide))
            have HCALL := HSH.out w' (hP.n0 h00).1
            have HH := Lib.hid (fun (lv' : Value) (wz : World) (ha : SC C (shS St lv' r) wz) (hf : Fr (fun k => ¬ C.K k) w' wz) => QI.shift hP h00 (n9 rfl) (n10 (by decide)) (n13 (by decide)) lv' ha hf)
            have e66 : u 43 = (.pointer (some ⟨sc, 0, none⟩)) := e7
            rw [← HSC.out] at HCALL
            have HCALL := Lib.hid HCALL
            clear hd2 h00 hcl hP n13 n10 n9 e7
            unfold actD
            go_wp2_with (go_at_call 25; (refine HCALL.out.mono ?_); rintro e w2 ⟨lv2, rfl, ha, hf⟩; have HA := Lib.hid ha; have HFC := Lib.hid hf; clear ha hf)
            exact ⟨updU u 44 (.int .u8 (h0.toNat : Int)), by simp [updU, e66, hcc], (by rw [HIV.out]; exact HH.out lv2 _ HA.out HFC.out)⟩
          · have e8 : (actD cc u).eval (.tmp 44) = .int .u8 (h0.toNat : Int) := hP.f8 (hd2 8 (by decide))
            have HH := Lib.hid (QI.box hP (hd2 8 (by decide)) (n10 (by decide)) (n13 (by decide)))
            refine wpOp_run rfl rfl (v := .slice (some ⟨w'.heap.size, 0, none⟩) 1 1) (w' := w'.alloc (.cells #[.int .u8 (h0.toNat : Int)] 5)) ?_ ⟨updU u 45 (.slice (some ⟨w'.heap.size, 0, none⟩) 1 1), rfl, (by rw [HIV.out]; exact HH.out)⟩
            generalize (actD cc u).eval = ev at e8 ⊢
            clear hd2 h00 hcl hP n13 n10 n9 HH
            go_simp
          · refine wpOp_one rfl ?_
            have e4 : u 40 = St.tv := hP.fp 4 (by decide) (by decide) (by decide) (by decide) (hd2 4 (by decide))
            obtain ⟨q, e9, hq⟩ := hP.f9 (hd2 9 (by decide))
            have hb9 := hq h00
            have hsl := QI.tvs hP (hd2 8 (by decide)) h00
            refine wpList_app rfl (.tmp 40) (.tmp 45) 22 22 rfl 5 (.int .u8 0) 1 1 Try.underlying22 Try.info5 rfl St.tv St.T.length (St.T.map u8v) e4 hsl (.slice (some ⟨q, 0, none⟩) 1 1) 1 [u8v h0] e9 (src_one Try.underlying22 q 1 5 [u8v h0] rfl (fun u hu => by rw [List.mem_singleton] at hu; subst hu; rfl) hb9) (by have := HTB.out; unfold maxLen; omega) (by have := HTB.out; omega) ?_
            intro v' w9 q1 q2 q3
            exact ⟨updU u 46 v', by simp [actD, updU, Act.put], (by rw [HIV.out]; exact QI.join hP HSC.out (hd2 8 (by decide)) h00 (n13 (by decide)) q1 q2 q3)⟩
          · have HH := Lib.hid hP
            have e36 : (actD cc u).eval (.tmp 36) = (.pointer (some ⟨sc, 0, none⟩)) := hP.fp 0 (by decide) (by decide) (by decide) (by decide) (hd2 0 (by decide))
            refine wpOp_run rfl rfl (v := (.pointer (some ⟨sc, 0, none⟩))) (w' := w') ?_ ⟨updU u 47 (.pointer (some ⟨sc, 0, none⟩)), rfl, (by rw [HIV.out]; exact QL.up HH.out 11 (by decide) (by decide) (by decide) (by decide) (.pointer (some ⟨sc, 0, none⟩)) rfl)⟩
            generalize (actD cc u).eval = ev at e36 ⊢
            clear hd2 h00 hcl hP n13 n10 n9 HH
            go_simp
          · have HH := Lib.hid hP
            have e47 : (actD cc u).eval (.tmp 47) = (.pointer (some ⟨sc, 0, none⟩)) := hP.fp 11 (by decide) (by decide) (by decide) (by decide) (hd2 11 (by decide))
            refine wpOp_run rfl rfl (v := (.pointer (some ⟨sc, 9, none⟩))) (w' := w') ?_ ⟨updU u 48 (.pointer (some ⟨sc, 9, none⟩)), rfl, (by rw [HIV.out]; exact QL.up HH.out 12 (by decide) (by decide) (by decide) (by decide) (.pointer (some ⟨sc, 9, none⟩)) rfl)⟩
            generalize (actD cc u).eval = ev at e47 ⊢
            clear hd2 h00 hcl hP n13 n10 n9 HH
            go_simp
          · have e12 : (actD cc u).eval (.tmp 48) = (.pointer (some ⟨sc, 9, none⟩)) := hP.fp 12 (by decide) (by decide) (by decide) (by decide) (hd2 12 (by decide))
            have HH := Lib.hid (QI.store hP HSC.out (hcl 10 8 (hd2 10 (by decide)) (by decide)) (hd2 10 (by decide)) h00)
            obtain ⟨lv', w1, b1, b2, b3, b4, b5, b6⟩ := hP.n2 (hd2 10 (by decide)) h00
            obtain ⟨a2, p2, hy, _, _⟩ := b3.slice
            have e10 : (actD cc u).eval (.tmp 46) = .slice a2 (St.T.length + 1) p2 := hy
            have cx := b5.cell 9 (v := St.tv) rfl
            have fx := b5.free 9
            rw [hy] at HH
            refine wpOp_skip rfl rfl (w' := w'.setCell ⟨sc, 9, none⟩ (.slice a2 (St.T.length + 1) p2)) ?_ ⟨u, rfl, (by rw [HIV.out]; exact HH.out)⟩
            generalize (actD cc u).eval = ev at e12 e10 ⊢
            clear hd2 h00 hcl hP n13 n10 n9 HH b1 b2 b3 b4 b5 b6 hy
            go_simp
        · intro L a w' hI hall
          obtain ⟨u, rfl, hP⟩ := hI
          rw [HIV.out] at hP
          obtain ⟨lv9, tv9, h9, f9⟩ := QI.done hP (hall 13 (by decide))
          have H9 := Lib.hid h9
          have F9 := Lib.hid f9
          clear hP hall h9 f9 HIV
          rw [hcc]
          unfold actD
          go_wp2_with (fail)
          have HFI := Lib.hid (show DoI C S w { shS St lv9 r with tv := tv9, T := St.T ++ [h0] } w' by
            have hF := HF.out
            have hG := (HG0.out).trans F9.out (fun _ _ x => x)
            have hr := HHR.out
            refine ⟨H9.out, ?_, hF.wt, hF.lo, ?_, hF.fr.trans hG (fun _ _ x => x)⟩
            · exact DoneP.slid St.p h0 r hF.fp HNF.out hr
            · have := hF.lt
              show (St.T ++ [h0]).length + r.length ≤ _
              rw [hr] at this
              rw [List.length_append]; simp at *; omega)
          go_roundg r.length
          case measure => exact Hid.out (Lib.hid (by have h1 := HG.out; have h2 : St.L.length = r.length + 1 := (by rw [HHR.out]; rfl); omega))
          case rel => exact ⟨_, Lib.hid rfl, HFI⟩
end Go.Proofs.Ytphjebbjhfnhoaa
