/- match: Feed. -/
import Derived.Test.YtphjebbjhfnhoaaQi
import Derived.Deep.CutRange
namespace Go.Proofs.Ytphjebbjhfnhoaa
open Go.RowKit
/-- Bytes that lie in blocks kept. -/
def BytK (K : Nat → Prop) (w : World) (ad : Option Addr) (l : List UInt8) : Prop := ∀ j c, l[j]? = some c → ∃ b o, ad = some ⟨b, o, none⟩ ∧ b < w.heap.size ∧ w.cell? ⟨b, o + j, none⟩ = some (.int .u8 (c.toNat : Int)) ∧ K b
theorem BytK.fr {K : Nat → Prop} {w w' : World} {ad : Option Addr} {l : List UInt8} (h : BytK K w ad l) (f : Fr (fun k => ¬ K k) w w') : BytK K w' ad l := by
  intro j c hj
  obtain ⟨b, o, e, hl, hc, hk⟩ := h j c hj
  refine ⟨b, o, e, Nat.lt_of_lt_of_le hl f.size, ?_, hk⟩
  rw [show w'.cell? ⟨b, o + j, none⟩ = w.cell? ⟨b, o + j, none⟩ from World.cell?_of_block (f.block b hl (fun q => q hk))]
  exact hc
theorem SC.rd1 {C : Cfg} {S : Sst} {w : World} (h : SC C S w) {sc : Nat} (hsc : sc = C.sc) {v : Value} (hv : S.lv = v) {b : Int} (hb : b = (C.B : Int)) : w.cell? ⟨sc, 0, none⟩ = some v ∧ w.cell? ⟨sc, 3, none⟩ = some (.int .i64 b) := by
  subst hsc; subst hv; subst hb
  exact ⟨h.blk.cell 0 rfl, h.blk.cell 3 rfl⟩
def actF (c u : Nat → Value) : Act := { tmps := [c 0, c 1, c 2, c 3, c 4, c 5, c 6, c 7, c 8, c 9, c 10, c 11, c 12, c 13, c 14, c 15, c 16, c 17, c 18, c 19,
  c 20, c 21, c 22, c 23, c 24, c 25, c 26, c 27, c 28, c 29, c 30, c 31, c 32, c 33, c 34, c 35, c 36, c 37, c 38, c 39,
  c 40, c 41, c 42, c 43, c 44, c 45, c 46, c 47, c 48, c 49, c 50, c 51, c 52, c 53, c 54, c 55, c 56, c 57, c 58, u 59,
  u 60, u 61, u 62, u 63, u 64, u 65, u 66, u 67, u 68, u 69, u 70, u 71, c 72, c 73, c 74].toArray, defers := [] }
theorem actF_wp {P : Program} {cd : Code} {Q : Exit → Act → World → Prop} {w : World} {l : List Value} (h : ∀ cc : Nat → Value, (cc = fun k => l.getD k undef) → cd.wp P Q (actF cc cc) w) (he : actF (fun k => l.getD k undef) (fun k => l.getD k undef) = ⟨l.toArray, []⟩) : cd.wp P Q ⟨l.toArray, []⟩ w := by
  rw [← he]; exact h _ rfl
structure FeI (C : Cfg) (S : Sst) (l : List UInt8) (ad : Option Addr) (w : World) (t : Nat) (St : Sst) (wr : World) : Prop where
  sc : SC C St wr
  fp : FeedP C.l C.B C.st S.p (l.take t) St.p
  ll : St.L.length < C.B
  ov : St.over = false
  sn : St.seen = S.seen + t
  wt : St.want ≤ 1000000
  lo : St.O.length ≤ S.O.length + 2 * t
  lt : St.T.length ≤ S.T.length + t
  fr : Fr (fun k => ¬ C.K k) w wr
  by' : BytK C.K wr ad l
set_option maxRecDepth 100000 in
set_option maxHeartbeats 8000000 in
theorem feed_spec (C : Cfg) (S : Sst) (l : List UInt8) (ad : Option Addr) (cap : Nat) (w : World) (hml : C.l.length ≤ 131072) (hB : isB C.B) (hst : C.st ≤ 32) (h : SC C S w) (hL : S.L.length < C.B) (hov : S.over = false) (hwt : S.want ≤ 1000000)
    (hsn : S.seen + l.length ≤ 65536) (hO : S.O.length ≤ 1000) (hT : S.T.length ≤ 1000) (hcap : l.length ≤ cap) (hb : BytK C.K w ad l) :
    Calls Try.prog 11 #[.pointer (some ⟨C.sc, 0, none⟩), .slice ad l.length cap] w fun e w' => ∃ v S' tv', e = .returned v ∧ FeedP C.l C.B C.st S.p l S'.p ∧ S'.over = false ∧ S'.want ≤ 1000000 ∧ S'.O.length ≤ 200000 ∧ S'.L.length < C.B ∧ OpsIn w' v (S'.O ++ tellO S') ∧
      SC (C.keep v (S'.O ++ tellO S')) { S' with ov := .slice none 0 0, O := [], tv := tv', T := [] } w' ∧ Fr (fun k => ¬ C.K k) w w' ∧ ∀ k, v.ownBlock = some k → ¬ C.K k := by
  have HI0 : FeI C S l ad w 0 S w := ⟨h, by rw [List.take_zero]; exact .nil, hL, hov, rfl, hwt, by omega, by omega, Fr.refl _ _, hb⟩
  have HI := Lib.hid HI0
  have c11 := h.blk.cell 11 (v := .bool S.over) rfl
  have c8 := h.blk.cell 8 (v := .int .i64 (S.seen : Int)) rfl
  rw [hov] at c11
  obtain ⟨sc, hsc⟩ : ∃ sc, sc = C.sc := ⟨_, rfl⟩
  rw [← hsc] at c11 c8 ⊢
  have HSC := Lib.hid hsc
  obtain ⟨n, hn⟩ : ∃ n, n = l.length := ⟨_, rfl⟩
  rw [← hn] at hsn hcap ⊢
  have HN := Lib.hid hn
  obtain ⟨s0, hs0⟩ : ∃ s0, s0 = S.seen := ⟨_, rfl⟩
  rw [← hs0] at hsn c8
  have HS0 := Lib.hid hs0
  have n1 : (n : Int) ≤ 65536 - (s0 : Int) := by omega
  have n2 : (s0 : Int) ≤ 65536 := by omega
  have n3 : (n : Int) ≤ 65536 := by omega
  have n4 : (n : Int) ≤ (cap : Int) := by omega
  have HML := Lib.hid hml
  have HB := Lib.hid hB
  have HST := Lib.hid hst
  have HO := Lib.hid hO
  have HT := Lib.hid hT
  have hmin : min (n : Int) (65536 - (s0 : Int)) = (n : Int) := by omega
  clear HI0 h hsc hn hs0 hml hB hst hL hov hwt hsn hO hT hcap hb
  go_enter Try.func11, Try.ntmps11
  go_wp2_with (fail)
  have hF0 : FeI C S l ad w 0 S w := HI.out
  go_loopg [26] n (fun gk x26 wr => ∃ (t : Nat) (St : Sst), t ≤ n ∧ Hid (gk = n - t) ∧ x26 = .int .i64 t ∧ Hid (FeI C S l ad w t St wr))
  case atStart => exact ⟨0, S, Nat.zero_le _, Lib.hid rfl, rfl, HI⟩
  case round =>
    obtain ⟨t, St, ht, HG, rfl, HF⟩ := hrel
    clear hF0 HI
    by_cases htn : t < n
    · have t1 : (t : Int) < (n : Int) := by omega
      obtain ⟨c, hx⟩ : ∃ c, l[t]? = some c := ⟨_, List.getElem?_eq_getElem (by rw [← HN.out]; exact htn)⟩
      obtain ⟨b, o, rfl, _, hc, _⟩ := HF.out.by' t c hx
      have HX := Lib.hid hx
      have HTN := Lib.hid htn
      have c8 : wr.cell? ⟨sc, 8, none⟩ = some (.int .i64 ((s0 : Int) + (t : Int))) := by
        rw [HSC.out]; refine (HF.out.sc.blk.cell 8 (v := .int .i64 (St.seen : Int)) rfl).trans ?_
        rw [HF.out.sn, HS0.out]; congr 2
      have f8 : wr.frozen? ⟨sc, 8, none⟩ = false := by rw [HSC.out]; exact HF.out.sc.blk.free 8
      have h1 : SC C { St with seen := S.seen + (t + 1) } (wr.setCell ⟨sc, 8, none⟩ (.int .i64 ((s0 : Int) + (t : Int) + 1))) := by
        have g : Fr (fun k => k = C.sc) wr (wr.setCell ⟨sc, 8, none⟩ (.int .i64 ((s0 : Int) + (t : Int) + 1))) := (Fr.refl (fun k => k = C.sc) wr).setCell (p := ⟨sc, 8, none⟩) (fun _ => HSC.out) _
        refine HF.out.sc.self g ?_ rfl rfl rfl rfl rfl rfl
        have := HF.out.sc.blk.set 8 (.int .i64 ((s0 : Int) + (t : Int) + 1))
        rw [HSC.out, show ((s0 : Int) + (t : Int) + 1) = ((S.seen + (t + 1) : Nat) : Int) by rw [HS0.out]; omega] at *
        exact this
      have HG1 := Lib.hid (show Fr (fun k => ¬ C.K k) wr (wr.setCell ⟨sc, 8, none⟩ (.int .i64 ((s0 : Int) + (t : Int) + 1))) from (Fr.refl (fun k => ¬ C.K k) wr).setCell (p := ⟨sc, 8, none⟩) (fun _ => by show ¬ C.K sc; rw [HSC.out]; exact HF.out.sc.ls) _)
      have HP := Lib.hid (push_spec C { St with seen := S.seen + (t + 1) } c _ h1 (by have := HF.out.ll; show St.L.length ≤ _; have : C.B ≤ 64 := by rcases HB.out with e | e | e <;> omega
                                                                                      omega))
      rw [← HSC.out] at HP
      clear ht htn hx h1
      go_wp2_with (first
        | (go_at_call 23; (refine HP.out.mono ?_); rintro e w1 ⟨lv1, rfl, h2, hf2⟩; have H2 := Lib.hid h2; have HF2 := Lib.hid hf2; clear h2 hf2)
        | fail)
      obtain ⟨S2, hS2⟩ : ∃ S2 : Sst, S2 = { St with seen := S.seen + (t + 1), lv := lv1, L := St.L ++ [c] } := ⟨_, rfl⟩
      have HS2 := Lib.hid hS2
      have HSC2 : Hid (SC C S2 w1) := Lib.hid (by rw [hS2]; exact H2.out)
      have HG2 := Lib.hid (HG1.out.trans HF2.out (fun _ _ x => x))
      clear H2 hS2 HP HG1 HF2
      have HSD := Lib.hid (HSC2.out.frF ((Fr.refl (fun _ => False) w1).drew))
      obtain ⟨nb, hnb⟩ : ∃ nb, nb = (C.B : Int) := ⟨_, rfl⟩
      have HNB := Lib.hid hnb
      obtain ⟨la, lc, hlv, _, _⟩ := Sl.slice HSC2.out.lft
      obtain ⟨m, hm⟩ : ∃ m, m = S2.L.length := ⟨_, rfl⟩
      rw [← hm] at hlv
      have HLV := Lib.hid hlv
      have HM := Lib.hid hm
      have hml : m = St.L.length + 1 := by rw [hm, HS2.out]; simp
      have HML2 := Lib.hid hml
      by_cases hb : m = C.B
      · have hb1 : (m : Int) = nb := by omega
        have HBE := Lib.hid hb
        have HTK := Lib.hid (fun wx hx => tk24_spec C S2 wx HML.out HB.out HST.out hx (by rw [← HM.out, hb]; rcases HB.out with e | e | e <;> omega) (by rw [HS2.out]; show St.O.length ≤ _; have := HF.out.lo; have := HO.out; have := HTN.out; omega) (by rw [HS2.out]; exact HF.out.wt))
        rw [← HSC.out] at HTK
        clear hnb hlv hm hml hb
        obtain ⟨d0, d3⟩ := HSD.out.rd1 HSC.out HLV.out HNB.out
        refine wp_region_still_tail 14 (by kernel_rfl) (by kernel_rfl) ?_
        simp only [List.take_succ_cons, List.take_zero, List.drop_succ_cons, List.drop_zero]
        change wpStill _ _ w1.drew (fun a' => wpList _ _ _ _ a' w1.drew) _ _
        have HFD := Lib.hid ((Fr.refl (fun _ => False) w1).drew)
        generalize w1.drew = wx at HSD d0 d3 HFD ⊢
        iterate 14 still_step
        refine wpStill_nil ?_
        clear d0 d3
        go_wp2_with (fail)
        go_at_call 24
        refine (HTK.out _ HSD.out).mono ?_
        rintro e w3 ⟨S3, ob, rfl, ht3, h3, hf3⟩
        have HT3 := Lib.hid ht3
        have HSD3 := Lib.hid h3
        have HF3 := Lib.hid hf3
        clear ht3 h3 hf3
        cases ob with
        | some i =>
          go_wp2_with (fail)
          have HFI := Lib.hid (show FeI C S l (some ⟨b, o, none⟩) w (t + 1) S3 w3 by
            have hF := HF.out
            have hG := (HG2.out.trans (HFD.out.mono (fun _ _ q => q.elim)) (fun _ _ x => x)).trans HF3.out (fun _ _ x => x)
            have hl2 : S2.L.length = St.L.length + 1 := HM.out ▸ HML2.out
            obtain ⟨q1, q2, q3, q4, q5, q6, q7, q8⟩ := HT3.out.someP
            have hi : i < cnt C.l.length C.B := q1.1
            refine ⟨HSD3.out, ?_, ?_, ?_, ?_, ?_, ?_, ?_, hF.fr.trans hG (fun _ _ x => x), hF.by'.fr hG⟩
            · rw [List.take_add_one, HX.out, q2, HS2.out]
              rw [HS2.out] at q1
              exact .took _ St.p c i hF.fp (by show St.L.length + 1 = _; rw [← hl2, ← HM.out]; exact HBE.out) q1
            · rw [q6]; rcases HB.out with e | e | e <;> rw [e] <;> decide
            · rw [q3, HS2.out]; exact hF.ov
            · rw [q4, HS2.out]
            · rw [q8]; have := cnt_le C.l.length C.B HB.out; have := HML.out; omega
            · rw [HS2.out] at q7; have := hF.lo; have : S3.O.length ≤ St.O.length + 2 := q7; omega
            · rw [q5]; exact Nat.zero_le _)
          go_roundg (n - (t + 1))
          case measure => have := HG.out; have := HTN.out; omega
          case rel => exact ⟨t + 1, S3, HTN.out, Lib.hid rfl, by go_num, HFI⟩
        | none =>
          go_wp2_with (fail)
          -- TOLD
          obtain ⟨e3, hnf⟩ := HT3.out.noneP
          subst e3
          have HNF := Lib.hid hnf
          obtain ⟨h0, r, hhr⟩ : ∃ h0 r, S3.L = h0 :: r := by
            cases hq : S3.L with
            | nil => have h1 := HM.out; have h2 := HML2.out; rw [h2, hq] at h1; simp at h1
            | cons a b => exact ⟨a, b, rfl⟩
          have HHR := Lib.hid hhr
          have HSH := Lib.hid (fun wx (hx : SC C S3 wx) => shift_spec C S3 h0 r wx hx hhr (by have := HM.out; have := HBE.out; rw [hhr] at *; simp at *; rcases HB.out with e | e | e <;> omega))
          have HSDD := Lib.hid (HSD3.out.frF ((Fr.refl (fun _ => False) w3).drew))
          obtain ⟨ta, tc, htv, _, _⟩ := Sl.slice HSD3.out.tld
          obtain ⟨tn, htn⟩ : ∃ tn, tn = S3.T.length := ⟨_, rfl⟩
          rw [← htn] at htv
          have HTV := Lib.hid htv
          have HTB := Lib.hid (show S3.T.length ≤ 100000 by rw [HS2.out]; have := HF.out.lt; have := HT.out; have := HTN.out; show St.T.length ≤ _; omega)
          clear hnf hhr htv htn
          obtain ⟨IV, hIV⟩ : ∃ IV : (Nat → Bool) → (Nat → Value) → World → Prop, IV = fun L u w' => QI C S3 h0 r 59 sc w3.drew L u w' := ⟨_, rfl⟩
          have HIV := Lib.hid hIV
          clear hIV
          refine actF_wp (fun cc hcc => ?_) rfl
          have q0 : cc 0 = .pointer (some ⟨sc, 0, none⟩) := by rw [hcc]; rfl
          refine wp_region_cl (by kernel_rfl) [[], [], [1], [2], [3], [], [5], [6], [7], [8], [4, 9, 8], [0, 0, 1, 2, 3, 4, 5, 6, 7, 8, 9, 10], [11, 0, 1, 2, 3, 4, 5, 6, 7, 8, 9, 10], [12, 10, 10, 0, 1, 2, 3, 4, 5, 6, 7, 8, 9, 10]] (by kernel_rfl) (by decide) (fun L a w' => ∃ u, a = actF cc u ∧ IV L u w') ?_ ?_ ?_
          · refine ⟨_, rfl, ?_⟩
            rw [HIV.out]
            exact QI.start HSDD.out (Fr.refl _ _)
          · intro jj hj L a w' hI hcl h00 hd2
            obtain ⟨u, rfl, hP⟩ := hI
            rw [HIV.out] at hP
            have hc : jj = 0 ∨ jj = 1 ∨ jj = 2 ∨ jj = 3 ∨ jj = 4 ∨ jj = 5 ∨ jj = 6 ∨ jj = 7 ∨ jj = 8 ∨ jj = 9 ∨ jj = 10 ∨ jj = 11 ∨ jj = 12 ∨ jj = 13 := by have : jj < 14 := hj; omega
            have n13 : jj < 13 → L 13 = false := fun hjj => by
              cases h : L 13 with
              | false => rfl
              | true =>
                have h12 := hcl 13 12 h (by decide)
                have h11 := hcl 12 11 h12 (by decide)
                have : L jj = true := by
                  obtain rfl | rfl | rfl | rfl | rfl | rfl | rfl | rfl | rfl | rfl | rfl | rfl | rfl : jj = 0 ∨ jj = 1 ∨ jj = 2 ∨ jj = 3 ∨ jj = 4 ∨ jj = 5 ∨ jj = 6 ∨ jj = 7 ∨ jj = 8 ∨ jj = 9 ∨ jj = 10 ∨ jj = 11 ∨ jj = 12 := by omega
                  all_goals first | exact h12 | exact h11 | exact hcl 11 _ h11 (by decide)
                exact absurd this (by rw [h00]; decide)
            have n10 : jj = 4 ∨ jj = 8 ∨ jj = 9 → L 10 = false := fun hjj => by
              cases h : L 10 with
              | false => rfl
              | true =>
                rcases hjj with rfl | rfl | rfl
                · exact absurd (hcl 10 4 h (by decide)) (by rw [h00]; decide)
                · exact absurd (hcl 10 8 h (by decide)) (by rw [h00]; decide)
                · exact absurd (hcl 10 9 h (by decide)) (by rw [h00]; decide)
            have n9 : jj = 8 → L 9 = false := fun hjj => by
              cases h : L 9 with
              | false => rfl
              | true => subst hjj; exact absurd (hcl 9 8 h (by decide)) (by rw [h00]; decide)
            clear hj
            rcases hc with rfl | rfl | rfl | rfl | rfl | rfl | rfl | rfl | rfl | rfl | rfl | rfl | rfl | rfl
            · have HH := Lib.hid hP
              have r0 : (actF cc u).eval (.tmp 0) = (.pointer (some ⟨sc, 0, none⟩)) := q0
              refine wpOp_run rfl rfl (v := (.pointer (some ⟨sc, 0, none⟩))) (w' := w') ?_ ⟨updU u 59 (.pointer (some ⟨sc, 0, none⟩)), rfl, (by rw [HIV.out]; exact QL.up HH.out 0 (by decide) (by decide) (by decide) (by decide) (.pointer (some ⟨sc, 0, none⟩)) rfl)⟩
              generalize (actF cc u).eval = ev at r0 ⊢
              clear hd2 h00 hcl hP n13 n10 n9 HH
              go_simp
            · have HH := Lib.hid hP
              have r0 : (actF cc u).eval (.tmp 0) = (.pointer (some ⟨sc, 0, none⟩)) := q0
              refine wpOp_run rfl rfl (v := (.pointer (some ⟨sc, 0, none⟩))) (w' := w') ?_ ⟨updU u 60 (.pointer (some ⟨sc, 0, none⟩)), rfl, (by rw [HIV.out]; exact QL.up HH.out 1 (by decide) (by decide) (by decide) (by decide) (.pointer (some ⟨sc, 0, none⟩)) rfl)⟩
              generalize (actF cc u).eval = ev at r0 ⊢
              clear hd2 h00 hcl hP n13 n10 n9 HH
              go_simp
            · have HH := Lib.hid hP
              have e60 : (actF cc u).eval (.tmp 60) = (.pointer (some ⟨sc, 0, none⟩)) := hP.fp 1 (by decide) (by decide) (by decide) (by decide) (hd2 1 (by decide))
              refine wpOp_run rfl rfl (v := (.pointer (some ⟨sc, 0, none⟩))) (w' := w') ?_ ⟨updU u 61 (.pointer (some ⟨sc, 0, none⟩)), rfl, (by rw [HIV.out]; exact QL.up HH.out 2 (by decide) (by decide) (by decide) (by decide) (.pointer (some ⟨sc, 0, none⟩)) rfl)⟩
              generalize (actF cc u).eval = ev at e60 ⊢
              clear hd2 h00 hcl hP n13 n10 n9 HH
              go_simp
            · have HH := Lib.hid hP
              have e61 : (actF cc u).eval (.tmp 61) = (.pointer (some ⟨sc, 0, none⟩)) := hP.fp 2 (by decide) (by decide) (by decide) (by decide) (hd2 2 (by decide))
              refine wpOp_run rfl rfl (v := (.pointer (some ⟨sc, 9, none⟩))) (w' := w') ?_ ⟨updU u 62 (.pointer (some ⟨sc, 9, none⟩)), rfl, (by rw [HIV.out]; exact QL.up HH.out 3 (by decide) (by decide) (by decide) (by decide) (.pointer (some ⟨sc, 9, none⟩)) rfl)⟩
              generalize (actF cc u).eval = ev at e61 ⊢
              clear hd2 h00 hcl hP n13 n10 n9 HH
              go_simp
            · have HH := Lib.hid hP
              have e62 : (actF cc u).eval (.tmp 62) = (.pointer (some ⟨sc, 9, none⟩)) := hP.fp 3 (by decide) (by decide) (by decide) (by decide) (hd2 3 (by decide))
              have cx : w'.cell? ⟨sc, 9, none⟩ = some (.slice ta tn tc) := by rw [← HTV.out]; exact QI.tvc hP HSC.out (n10 (by decide))
              refine wpOp_run rfl rfl (v := (.slice ta tn tc)) (w' := w') ?_ ⟨updU u 63 (.slice ta tn tc), rfl, (by rw [HIV.out]; exact QL.up HH.out 4 (by decide) (by decide) (by decide) (by decide) (.slice ta tn tc) (by rw [← HTV.out]; rfl))⟩
              generalize (actF cc u).eval = ev at e62 ⊢
              clear hd2 h00 hcl hP n13 n10 n9 HH
              go_simp
            · have HH := Lib.hid hP
              have r0 : (actF cc u).eval (.tmp 0) = (.pointer (some ⟨sc, 0, none⟩)) := q0
              refine wpOp_run rfl rfl (v := (.pointer (some ⟨sc, 0, none⟩))) (w' := w') ?_ ⟨updU u 64 (.pointer (some ⟨sc, 0, none⟩)), rfl, (by rw [HIV.out]; exact QL.up HH.out 5 (by decide) (by decide) (by decide) (by decide) (.pointer (some ⟨sc, 0, none⟩)) rfl)⟩
              generalize (actF cc u).eval = ev at r0 ⊢
              clear hd2 h00 hcl hP n13 n10 n9 HH
              go_simp
            · have HH := Lib.hid hP
              have e64 : (actF cc u).eval (.tmp 64) = (.pointer (some ⟨sc, 0, none⟩)) := hP.fp 5 (by decide) (by decide) (by decide) (by decide) (hd2 5 (by decide))
              refine wpOp_run rfl rfl (v := (.pointer (some ⟨sc, 0, none⟩))) (w' := w') ?_ ⟨updU u 65 (.pointer (some ⟨sc, 0, none⟩)), rfl, (by rw [HIV.out]; exact QL.up HH.out 6 (by decide) (by decide) (by decide) (by decide) (.pointer (some ⟨sc, 0, none⟩)) rfl)⟩
              generalize (actF cc u).eval = ev at e64 ⊢
              clear hd2 h00 hcl hP n13 n10 n9 HH
              go_simp
            · have HH := Lib.hid hP
              have e65 : (actF cc u).eval (.tmp 65) = (.pointer (some ⟨sc, 0, none⟩)) := hP.fp 6 (by decide) (by decide) (by decide) (by decide) (hd2 6 (by decide))
              refine wpOp_run rfl rfl (v := (.pointer (some ⟨sc, 0, none⟩))) (w' := w') ?_ ⟨updU u 66 (.pointer (some ⟨sc, 0, none⟩)), rfl, (by rw [HIV.out]; exact QL.up HH.out 7 (by decide) (by decide) (by decide) (by decide) (.pointer (some ⟨sc, 0, none⟩)) rfl)⟩
              generalize (actF cc u).eval = ev at e65 ⊢
              clear hd2 h00 hcl hP n13 n10 n9 HH
              go_simp
            · refine wpOp_one rfl ?_
              have e7 : (actF cc u).eval (.tmp 66) = (.pointer (some ⟨sc, 0, none⟩)) := hP.fp 7 (by decide) (by decide) (by decide) (by decide) (hd2 7 (by decide))
              have HCALL := HSH.out w' (hP.n0 h00).1
              have HH := Lib.hid (fun (lv' : Value) (wz : World) (ha : SC C (shS S3 lv' r) wz) (hf : Fr (fun k => ¬ C.K k) w' wz) => QI.shift hP h00 (n9 rfl) (n10 (by decide)) (n13 (by decide)) lv' ha hf)
              have e66 : u 66 = (.pointer (some ⟨sc, 0, none⟩)) := e7
              rw [← HSC.out] at HCALL
              have HCALL := Lib.hid HCALL
              clear hd2 h00 hcl hP n13 n10 n9 e7
              unfold actF
              go_wp2_with (go_at_call 25; (refine HCALL.out.mono ?_); rintro e w2 ⟨lv2, rfl, ha, hf⟩; have HA := Lib.hid ha; have HFC := Lib.hid hf; clear ha hf)
              exact ⟨updU u 67 (.int .u8 (h0.toNat : Int)), by simp [updU, e66, hcc], (by rw [HIV.out]; exact HH.out lv2 _ HA.out HFC.out)⟩
            · have e8 : (actF cc u).eval (.tmp 67) = .int .u8 (h0.toNat : Int) := hP.f8 (hd2 8 (by decide))
              have HH := Lib.hid (QI.box hP (hd2 8 (by decide)) (n10 (by decide)) (n13 (by decide)))
              refine wpOp_run rfl rfl (v := .slice (some ⟨w'.heap.size, 0, none⟩) 1 1) (w' := w'.alloc (.cells #[.int .u8 (h0.toNat : Int)] 5)) ?_ ⟨updU u 68 (.slice (some ⟨w'.heap.size, 0, none⟩) 1 1), rfl, (by rw [HIV.out]; exact HH.out)⟩
              generalize (actF cc u).eval = ev at e8 ⊢
              clear hd2 h00 hcl hP n13 n10 n9 HH
              go_simp
            · refine wpOp_one rfl ?_
              have e4 : u 63 = S3.tv := hP.fp 4 (by decide) (by decide) (by decide) (by decide) (hd2 4 (by decide))
              obtain ⟨q, e9, hq⟩ := hP.f9 (hd2 9 (by decide))
              have hb9 := hq h00
              have hsl := QI.tvs hP (hd2 8 (by decide)) h00
              refine wpList_app rfl (.tmp 63) (.tmp 68) 22 22 rfl 5 (.int .u8 0) 1 1 Try.underlying22 Try.info5 rfl S3.tv S3.T.length (S3.T.map u8v) e4 hsl (.slice (some ⟨q, 0, none⟩) 1 1) 1 [u8v h0] e9 (src_one Try.underlying22 q 1 5 [u8v h0] rfl (fun u hu => by rw [List.mem_singleton] at hu; subst hu; rfl) hb9) (by have := HTB.out; unfold maxLen; omega) (by have := HTB.out; omega) ?_
              intro v' w9 q1 q2 q3
              exact ⟨updU u 69 v', by simp [actF, updU, Act.put], (by rw [HIV.out]; exact QI.join hP HSC.out (hd2 8 (by decide)) h00 (n13 (by decide)) q1 q2 q3)⟩
            · have HH := Lib.hid hP
              have e59 : (actF cc u).eval (.tmp 59) = (.pointer (some ⟨sc, 0, none⟩)) := hP.fp 0 (by decide) (by decide) (by decide) (by decide) (hd2 0 (by decide))
              refine wpOp_run rfl rfl (v := (.pointer (some ⟨sc, 0, none⟩))) (w' := w') ?_ ⟨updU u 70 (.pointer (some ⟨sc, 0, none⟩)), rfl, (by rw [HIV.out]; exact QL.up HH.out 11 (by decide) (by decide) (by decide) (by decide) (.pointer (some ⟨sc, 0, none⟩)) rfl)⟩
              generalize (actF cc u).eval = ev at e59 ⊢
              clear hd2 h00 hcl hP n13 n10 n9 HH
              go_simp
            · have HH := Lib.hid hP
              have e70 : (actF cc u).eval (.tmp 70) = (.pointer (some ⟨sc, 0, none⟩)) := hP.fp 11 (by decide) (by decide) (by decide) (by decide) (hd2 11 (by decide))
              refine wpOp_run rfl rfl (v := (.pointer (some ⟨sc, 9, none⟩))) (w' := w') ?_ ⟨updU u 71 (.pointer (some ⟨sc, 9, none⟩)), rfl, (by rw [HIV.out]; exact QL.up HH.out 12 (by decide) (by decide) (by decide) (by decide) (.pointer (some ⟨sc, 9, none⟩)) rfl)⟩
              generalize (actF cc u).eval = ev at e70 ⊢
              clear hd2 h00 hcl hP n13 n10 n9 HH
              go_simp
            · have e12 : (actF cc u).eval (.tmp 71) = (.pointer (some ⟨sc, 9, none⟩)) := hP.fp 12 (by decide) (by decide) (by decide) (by decide) (hd2 12 (by decide))
              have HH := Lib.hid (QI.store hP HSC.out (hcl 10 8 (hd2 10 (by decide)) (by decide)) (hd2 10 (by decide)) h00)
              obtain ⟨lv', w1, b1, b2, b3, b4, b5, b6⟩ := hP.n2 (hd2 10 (by decide)) h00
              obtain ⟨a2, p2, hy, _, _⟩ := b3.slice
              have e10 : (actF cc u).eval (.tmp 69) = .slice a2 (S3.T.length + 1) p2 := hy
              have cx := b5.cell 9 (v := S3.tv) rfl
              have fx := b5.free 9
              rw [hy] at HH
              refine wpOp_skip rfl rfl (w' := w'.setCell ⟨sc, 9, none⟩ (.slice a2 (S3.T.length + 1) p2)) ?_ ⟨u, rfl, (by rw [HIV.out]; exact HH.out)⟩
              generalize (actF cc u).eval = ev at e12 e10 ⊢
              clear hd2 h00 hcl hP n13 n10 n9 HH b1 b2 b3 b4 b5 b6 hy
              go_simp
          · intro L a w' hI hall
            obtain ⟨u, rfl, hP⟩ := hI
            rw [HIV.out] at hP
            obtain ⟨lv9, tv9, h9, f9⟩ := QI.done hP (hall 13 (by decide))
            have H9 := Lib.hid h9
            have F9 := Lib.hid f9
            clear hP hall h9 f9 HIV
            rw [hcc]
            unfold actF
            go_wp2_with (fail)
            have HFI := Lib.hid (show FeI C S l (some ⟨b, o, none⟩) w (t + 1) { shS S3 lv9 r with tv := tv9, T := S3.T ++ [h0] } w' by
              have hF := HF.out
              have hG := (((HG2.out.trans (HFD.out.mono (fun _ _ q => q.elim)) (fun _ _ x => x)).trans HF3.out (fun _ _ x => x)).drew).trans F9.out (fun _ _ x => x)
              have hl2 : S3.L.length = St.L.length + 1 := HM.out ▸ HML2.out
              have hB : S3.L.length = C.B := by rw [← HM.out]; exact HBE.out
              have hr := HHR.out
              have hnf := HNF.out
              have hlr : r.length + 1 = C.B := by rw [← hB, hr]; rfl
              refine ⟨H9.out, ?_, ?_, ?_, ?_, ?_, ?_, ?_, hF.fr.trans hG (fun _ _ x => x), hF.by'.fr hG⟩
              · rw [List.take_add_one, HX.out]
                have e := FeedP.slid (l.take t) St.p c h0 r hF.fp (by show St.L.length + 1 = _; rw [← hl2]; exact hB) (by rw [HS2.out] at hnf; exact hnf) (by rw [HS2.out] at hr; exact hr)
                rw [HS2.out]; exact e
              · show r.length < _; omega
              · rw [HS2.out]; exact hF.ov
              · rw [HS2.out]; rfl
              · rw [HS2.out]; exact hF.wt
              · rw [HS2.out]; have := hF.lo; show St.O.length ≤ _; omega
              · rw [HS2.out]; have := hF.lt; show (St.T ++ [h0]).length ≤ _; rw [List.length_append]; simp; omega)
            go_roundg (n - (t + 1))
            case measure => have := HG.out; have := HTN.out; omega
            case rel => exact ⟨t + 1, _, HTN.out, Lib.hid rfl, by go_num, HFI⟩
          -- TOLDEND
      · have hb1 : ¬ (m : Int) = nb := by omega
        have HBE := Lib.hid hb
        clear hnb hlv hm hml hb
        obtain ⟨d0, d3⟩ := HSD.out.rd1 HSC.out HLV.out HNB.out
        refine wp_region_still_lit (by kernel_rfl) (by kernel_rfl) ?_
        change wpStill _ _ w1.drew (fun a' => Exit.then _ _ .normal a' w1.drew) _ _
        have HFD := Lib.hid ((Fr.refl (fun _ => False) w1).drew)
        generalize w1.drew = wx at HSD d0 d3 HFD ⊢
        iterate 17 still_step
        refine wpStill_nil ?_
        clear d0 d3
        go_wp2_with (fail)
        have HFI := Lib.hid (show FeI C S l (some ⟨b, o, none⟩) w (t + 1) S2 wx by
          have hF := HF.out
          have hG := HG2.out.trans (HFD.out.mono (fun _ _ q => q.elim)) (fun _ _ x => x)
          have hl2 : S2.L.length = St.L.length + 1 := HM.out ▸ HML2.out
          refine ⟨HSD.out, ?_, ?_, ?_, ?_, ?_, ?_, ?_, hF.fr.trans hG (fun _ _ x => x), hF.by'.fr hG⟩
          · rw [List.take_add_one, HX.out, HS2.out]
            exact .more _ St.p c hF.fp (by show St.L.length + 1 ≠ _; rw [← hl2, ← HM.out]; exact HBE.out)
          · rw [hl2]; have := hF.ll; have := HBE.out; have := HML2.out; omega
          · rw [HS2.out]; exact hF.ov
          · rw [HS2.out]
          · rw [HS2.out]; exact hF.wt
          · rw [HS2.out]; have := hF.lo; show St.O.length ≤ _; omega
          · rw [HS2.out]; have := hF.lt; show St.T.length ≤ _; omega)
        go_roundg (n - (t + 1))
        case measure => have := HG.out; have := HTN.out; omega
        case rel => exact ⟨t + 1, S2, HTN.out, Lib.hid rfl, by go_num, HFI⟩
    · obtain rfl : t = n := by omega
      have HOP := Lib.hid (ops_spec C St wr HF.out.sc (by have := HF.out.lo; have := HO.out; omega))
      rw [← HSC.out] at HOP
      clear htn ht
      go_wp2_with (first
        | (go_at_call 26; (refine HOP.out.mono ?_); rintro e w9 ⟨v, tv', rfl, h1, h2, h3, h4⟩; have H1 := Lib.hid h1; have H2 := Lib.hid h2; have H3 := Lib.hid h3; have H4 := Lib.hid h4; clear h1 h2 h3 h4)
        | fail)
      go_ret
      have hF := HF.out
      refine ⟨_, St, tv', rfl, ?_, hF.ov, hF.wt, by have := hF.lo; have := HO.out; omega, hF.ll, H1.out, H2.out, hF.fr.trans H3.out (fun _ _ x => x), H4.out⟩
      have := hF.fp
      rw [HN.out, List.take_length] at this
      exact this
end Go.Proofs.Ytphjebbjhfnhoaa
