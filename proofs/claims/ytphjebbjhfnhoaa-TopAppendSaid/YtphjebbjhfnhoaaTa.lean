/- match: take. -/
import Derived.Test.YtphjebbjhfnhoaaTe
import Derived.Deep.RegionHeld3
namespace Go.Proofs.Ytphjebbjhfnhoaa
open Go.RowKit
def tellO (S : Sst) : List OpV := if S.T = [] then [] else [⟨0, 0, S.tv, S.T⟩]
/-- A block taken, or none. -/
def TakeR (C : Cfg) (S : Sst) (o : Option Nat) (S' : Sst) : Prop :=
  match o with
  | none => S' = S ∧ ∀ i, i < cnt C.l.length C.B → ¬ Fit C.l C.B C.st i (weak S.L) (cutS S.L C.st) S.L.length
  | some i => i < cnt C.l.length C.B ∧ Fit C.l C.B C.st i (weak S.L) (cutS S.L C.st) S.L.length ∧ (S.want < cnt C.l.length C.B → Fit C.l C.B C.st S.want (weak S.L) (cutS S.L C.st) S.L.length → i = S.want) ∧
      ∃ tv ov, S' = { S with lv := .slice none 0 0, L := [], want := i + 1, tv := tv, T := [], ov := ov, O := S.O ++ tellO S ++ [⟨i * C.B, S.L.length, .slice none 0 0, []⟩] }
theorem SC.rd3 {C : Cfg} {S : Sst} {w : World} (h : SC C S w) {sc : Nat} (hsc : sc = C.sc) {v : Value} (hv : S.lv = v) : w.cell? ⟨sc, 0, none⟩ = some v ∧ w.cell? ⟨sc, 4, none⟩ = some (.int .i64 (C.st : Int)) := by
  subst hsc; subst hv
  exact ⟨h.blk.cell 0 rfl, h.blk.cell 4 rfl⟩
theorem SC.rd4 {C : Cfg} {S : Sst} {w : World} (h : SC C S w) {sc : Nat} (hsc : sc = C.sc) {v : Value} (hv : S.lv = v) : w.cell? ⟨sc, 0, none⟩ = some v ∧ w.cell? ⟨sc, 1, none⟩ = some (.int .u32 (weak S.L)) ∧ w.cell? ⟨sc, 6, none⟩ = some (.pointer (some ⟨C.x, 0, none⟩)) ∧ w.cell? ⟨sc, 7, none⟩ = some (.int .i64 (S.want : Int)) := by
  subst hsc; subst hv
  exact ⟨h.blk.cell 0 rfl, h.blk.cell 1 rfl, h.blk.cell 6 rfl, h.blk.cell 7 rfl⟩
theorem tell_spec2 (C : Cfg) (S : Sst) (w : World) (h : SC C S w) (hO : S.O.length ≤ 1000000) :
    Calls Try.prog 40 #[.pointer (some ⟨C.sc, 0, none⟩)] w fun e w' => ∃ ov' tv', e = .returned (.tuple #[]) ∧ SC C { S with ov := ov', O := S.O ++ tellO S, tv := tv', T := [] } w' ∧ Fr (fun k => ¬ C.K k) w w' := by
  refine (tell_spec C S w h hO).mono ?_
  rintro e w1 ⟨rfl, h1, hf⟩
  rcases h1 with ⟨h0, h1⟩ | ⟨h0, ov', h1⟩
  · refine ⟨S.ov, S.tv, rfl, ?_, hf⟩
    have : ({ S with ov := S.ov, O := S.O ++ tellO S, tv := S.tv, T := [] } : Sst) = S := by
      obtain ⟨a1, a2, a3, a4, a5, a6, a7, a8, a9⟩ := S
      simp only at h0
      subst h0
      simp [tellO]
    rw [this]; exact h1
  · refine ⟨ov', .slice none 0 0, rfl, ?_, hf⟩
    rw [tellO, if_neg h0]; exact h1
theorem SC.rd7 {C : Cfg} {S : Sst} {w : World} (h : SC C S w) {sc : Nat} (hsc : sc = C.sc) {a b : Int} (ha : a = (C.l.length : Int)) (hb : b = (C.B : Int)) : w.cell? ⟨sc, 2, none⟩ = some (.int .i64 a) ∧ w.cell? ⟨sc, 3, none⟩ = some (.int .i64 b) := by
  subst hsc; subst ha; subst hb
  exact ⟨h.blk.cell 2 rfl, h.blk.cell 3 rfl⟩
theorem SlB.bytAt {w : World} {ad : Option Addr} {n cap : Nat} {l : List UInt8} (h : SlB w (.slice ad n cap) l) : Byt w ad l := by
  obtain ⟨a, c, e, hb, _⟩ := SlB.byt h
  cases e; exact hb
set_option maxRecDepth 100000 in
set_option maxHeartbeats 8000000 in
theorem tk24_spec (C : Cfg) (S : Sst) (w : World) (hml : C.l.length ≤ 131072) (hB : isB C.B) (hst : C.st ≤ 32) (h : SC C S w) (hL : S.L.length ≤ 10000) (hO : S.O.length ≤ 900000) (hwt : S.want ≤ 1000000) :
    Calls Try.prog 24 #[.pointer (some ⟨C.sc, 0, none⟩)] w fun e w' => ∃ S' o, e = .returned (.bool o.isSome) ∧ TakeR C S o S' ∧ SC C S' w' ∧ Fr (fun k => ¬ C.K k) w w' := by
  have hcn := Nat.le_trans (cnt_le C.l.length C.B hB) hml
  have HS := Lib.hid h
  have HF := Lib.hid (fun wx hx => find_spec C.l C.B C.st C.x C.vm C.ch C.H C.al (weak S.L) wx hcn hx)
  have HP := Lib.hid (fun wx hx => pick_spec C.l C.B C.st C.x C.vm C.ch C.H C.al S.L.length S.want (weak S.L) (cutS S.L C.st) wx hml hB (by omega) hwt hx)
  have HR := Lib.hid (fun i (hi : i < cnt C.l.length C.B) wx => range_in C.l.length C.B i hml hB hi wx)
  have HT := Lib.hid (fun wx hx => tell_spec2 C S wx hx (by omega))
  obtain ⟨ad, cap, hlv, hcap, _⟩ := Sl.slice h.lft
  have HC := Lib.hid (fun wx (hx : SC C S wx) => cut_spec S.L ad cap C.st wx (by omega) hcap (SlB.bytAt (n := S.L.length) (cap := cap) (by rw [← hlv]; exact hx.lft)) hst)
  obtain ⟨sc, hsc⟩ : ∃ sc, sc = C.sc := ⟨_, rfl⟩
  rw [← hsc]
  have HSC := Lib.hid hsc
  have HLV := Lib.hid hlv
  obtain ⟨m, hm⟩ : ∃ m, m = S.L.length := ⟨_, rfl⟩
  rw [← hm] at HLV HC HP
  have HM := Lib.hid hm
  have m1 : (m : Int) ≤ 10000 := by omega
  have HCN := Lib.hid hcn
  have HBB := Lib.hid hB
  have HOO := Lib.hid hO
  have HMM := Lib.hid hml
  have n1 : (S.want : Int) ≤ 1000000 := by omega
  clear h hsc hlv hcap hm hml hcn hwt hB hst hL hO
  go_enter Try.func24, Try.ntmps24
  go_wp2_with (fail)
  have HSD := Lib.hid (HS.out.frF ((Fr.refl (fun _ => False) w).drew))
  have HFD := Lib.hid ((Fr.refl (fun _ => False) w).drew)
  have d6 := HSD.out.blk.cell 6 (v := .pointer (some ⟨C.x, 0, none⟩)) rfl
  have d1 := HSD.out.blk.cell 1 (v := .int .u32 (weak S.L)) rfl
  rw [← HSC.out] at d6 d1
  refine wp_region_still_tail 9 (by kernel_rfl) (by kernel_rfl) ?_
  simp only [List.take_succ_cons, List.take_zero, List.drop_succ_cons, List.drop_zero]
  change wpStill _ _ w.drew (fun a' => wpList _ _ _ _ a' w.drew) _ _
  generalize w.drew = wx at HSD d6 d1 HFD ⊢
  iterate 9 still_step
  refine wpStill_nil ?_
  clear d6 d1
  go_wp2_with (fail)
  go_at_call 38
  refine (HF.out _ HSD.out.idx).mono ?_
  rintro e w1 ⟨fa, fn, fc, rfl, hfn, hf1, hf2⟩
  have HFN := Lib.hid hfn
  have HS1 := Lib.hid (HSD.out.frF hf2)
  have HF1 := Lib.hid (HFD.out.trans hf2 (fun _ _ x => x))
  have fn1 : (fn : Int) ≤ 131072 := by omega
  clear hfn hf2 hf1 HSD HFD HS
  by_cases hz : fn = 0
  · subst hz
    go_wp2_with (fail)
    go_ret
    exact ⟨S, none, rfl, ⟨rfl, fun i hi hfit => by have := HFN.out.2 ⟨i, hi, hfit.2.1⟩; omega⟩, HS1.out, HF1.out.mono (fun _ _ q => q.elim)⟩
  · have hz1 : ¬ (fn : Int) = 0 := by omega
    clear hz HFN HF
    go_wp2_with (fail)
    have HSD := Lib.hid (HS1.out.frF ((Fr.refl (fun _ => False) w1).drew))
    have HFD := Lib.hid (HF1.out.drew)
    go_region_held3 (fun w' => w'.cell? ⟨sc, 0, none⟩ = some (.slice ad m cap) ∧ w'.cell? ⟨sc, 4, none⟩ = some (.int .i64 (C.st : Int)))
      (first | exact HSD.out.rd3 HSC.out HLV.out | exact HS2.out.rd3 HSC.out HLV.out)
      (first
        | (go_at_call 33; (refine (HC.out _ HSD.out).mono ?_); rintro e w2 ⟨rfl, hf2⟩; have HS2 := Lib.hid (HSD.out.frF hf2); have HF2 := Lib.hid (HFD.out.trans hf2 (fun _ _ x => x)); clear hf2))
    go_wp2_with (fail)
    clear HSD HFD HS1 HF1 HC
    have HSD := Lib.hid (HS2.out.frF ((Fr.refl (fun _ => False) w2).drew))
    have HFD := Lib.hid (HF2.out.drew)
    go_region_held3 (fun w' => w'.cell? ⟨sc, 0, none⟩ = some (.slice ad m cap) ∧ w'.cell? ⟨sc, 1, none⟩ = some (.int .u32 (weak S.L)) ∧ w'.cell? ⟨sc, 6, none⟩ = some (.pointer (some ⟨C.x, 0, none⟩)) ∧ w'.cell? ⟨sc, 7, none⟩ = some (.int .i64 (S.want : Int)))
      (first | exact HSD.out.rd4 HSC.out HLV.out | exact HS3.out.rd4 HSC.out HLV.out)
      (first
        | (go_at_call 39; (refine (HP.out _ HSD.out.idx).mono ?_); rintro e w3 ⟨r, o, rfl, ho1, ho2, hf3⟩; have HS3 := Lib.hid (HSD.out.frF hf3); have HF3 := Lib.hid (HFD.out.trans hf3 (fun _ _ x => x)); have HO1 := Lib.hid ho1; have HO2 := Lib.hid ho2; clear hf3 ho1 ho2))
    clear HSD HFD HS2 HF2 HP
    cases o with
    | none =>
      go_wp2_with (fail)
      go_ret
      exact ⟨S, none, rfl, ⟨rfl, fun i hi hfit => HO2.out (by first | rfl | trivial) i hi (by rw [HM.out]; exact hfit)⟩, HS3.out, HF3.out.mono (fun _ _ q => q.elim)⟩
    | some i =>
      obtain ⟨hri, hi1, hi2, hi3⟩ := HO1.out i rfl
      subst hri
      have HI2 := Lib.hid hi2
      have HI3 := Lib.hid hi3
      have HI1 := Lib.hid hi1
      obtain ⟨hle, hlen⟩ := blk_len C.l C.B r HBB.out hi1
      obtain ⟨lo, hlo⟩ : ∃ lo, lo = r * C.B := ⟨_, rfl⟩
      obtain ⟨hi, hhi⟩ : ∃ hi, hi = min C.l.length ((r + 1) * C.B) := ⟨_, rfl⟩
      have HRR := Lib.hid (HR.out r hi1)
      rw [← hlo, ← hhi] at hle hlen HRR
      have hsub : hi - lo = m := by rw [← hlen]; exact hi2.1
      have lo1 : (lo : Int) + m = (hi : Int) := by omega
      have hi9 : (hi : Int) ≤ 131072 := by have := HMM.out; omega
      have r1 : (r : Int) ≤ 131072 := by have := HCN.out; omega
      have HLO := Lib.hid hlo
      clear hi1 hi2 hi3 HO1 HO2 hle hlen hlo hhi hsub HR
      go_wp2_with (fail)
      have HSD := Lib.hid (HS3.out.frF ((Fr.refl (fun _ => False) w3).drew))
      have HFD := Lib.hid (HF3.out.drew)
      obtain ⟨nl, hnl⟩ : ∃ nl, nl = (C.l.length : Int) := ⟨_, rfl⟩
      obtain ⟨nb, hnb⟩ : ∃ nb, nb = (C.B : Int) := ⟨_, rfl⟩
      rw [← hnl, ← hnb] at HRR
      have HNL := Lib.hid hnl
      have HNB := Lib.hid hnb
      clear hnl hnb
      go_region_held3 (fun w' => w'.cell? ⟨sc, 2, none⟩ = some (.int .i64 nl) ∧ w'.cell? ⟨sc, 3, none⟩ = some (.int .i64 nb))
        (exact HSD.out.rd7 HSC.out HNL.out HNB.out)
        (first
          | (go_at_call 32; (refine (HRR.out _).mono ?_); rintro e w4 ⟨rfl, rfl⟩))
      go_wp2_with (fail)
      rw [HSC.out]
      refine (HT.out _ HSD.out).mono ?_
      rintro e w5 ⟨ov1, tv1, rfl, h5, hf5⟩
      rw [← HSC.out]
      have HF5 := Lib.hid ((HFD.out.mono (fun _ _ q => q.elim)).trans hf5 (fun _ _ x => x))
      clear HT hf5 HFD HSD HS3 HF3
      obtain ⟨S1, hS1⟩ : ∃ S1 : Sst, S1 = { S with ov := ov1, O := S.O ++ tellO S, tv := tv1, T := [] } := ⟨_, rfl⟩
      rw [← hS1] at h5
      have hO1 : S1.O.length ≤ 900001 := by
        rw [hS1]; show (S.O ++ tellO S).length ≤ _
        rw [List.length_append]; have := HOO.out; unfold tellO; split <;> simp <;> omega
      have HO1 := Lib.hid hO1
      have H5 := Lib.hid h5
      have HS1 := Lib.hid hS1
      obtain ⟨oa, oc, hov, _, _⟩ := h5.ops.slice
      obtain ⟨on, hon⟩ : ∃ on, on = S1.O.length := ⟨_, rfl⟩
      rw [← hon] at hov
      have HOV := Lib.hid hov
      have HON := Lib.hid hon
      have d10 := h5.blk.cell 10 (v := S1.ov) rfl
      rw [hov, ← HSC.out] at d10
      have d3 : w5.cell? ⟨sc, 7, none⟩ = some (.int .i64 (S1.want : Int)) := by rw [HSC.out]; exact h5.blk.cell 7 rfl
      have f10 := h5.blk.free 10
      rw [← HSC.out] at f10
      have HG := Lib.hid (((Fr.refl (fun _ => False) w5).alloc (.cells #[.int .i64 (lo : Int), .int .i64 (m : Int), .slice none 0 0] 48)))
      have HSRC := Lib.hid (src_one (P := Try.prog) (tx := 30) Try.underlying30 w5.heap.size 3 48 (opC ⟨lo, m, .slice none 0 0, []⟩) rfl (fun u hu => by
        simp only [opC, List.mem_cons, List.not_mem_nil, or_false] at hu
        rcases hu with rfl | rfl | rfl <;> rfl) (Blk.new w5 48 #[.int .i64 (lo : Int), .int .i64 (m : Int), .slice none 0 0]))
      have hsubv : (hi : Int) - (lo : Int) = (m : Int) := by omega
      clear hS1 h5 hov hon hO1
      go_wp2_with (first
        | (at_builtin; refine wpList_app rfl (.tmp 84) (.tmp 90) 30 30 rfl 48 (.agg #[.int .i64 0, .int .i64 0, .slice none 0 0]) 3 40 Try.underlying30 Try.info48 rfl (.slice oa on oc) on (opsC S1.O) rfl (by rw [← HOV.out, HON.out]; exact H5.out.ops.fr HG.out (fun _ _ x => x)) _ 1 (opC ⟨lo, m, .slice none 0 0, []⟩) rfl HSRC.out (by have := HO1.out; have := HON.out; unfold maxLen; omega) (by have := HO1.out; have := HON.out; omega) ?_; intro v' w9 q1 q2 q3; have Q1 := Lib.hid q1; have Q2 := Lib.hid q2; have Q3 := Lib.hid q3; have HB9 := Lib.hid (Blk.fr (H5.out.blk.fr HG.out (fun x => x)) q2 (fun e => H5.out.ops.ne H5.out.blk (by decide) C.sc (by rw [HOV.out]; exact e) rfl)); have c9 : w9.cell? ⟨sc, 10, none⟩ = some S1.ov := (by rw [HSC.out]; exact HB9.out.cell 10 rfl); have f9 : w9.frozen? ⟨sc, 10, none⟩ = false := (by rw [HSC.out]; exact HB9.out.free 10); have c97 : w9.cell? ⟨sc, 7, none⟩ = some (.int .i64 (S1.want : Int)) := (by rw [HSC.out]; exact HB9.out.cell 7 rfl); have f97 : w9.frozen? ⟨sc, 7, none⟩ = false := (by rw [HSC.out]; exact HB9.out.free 7); obtain ⟨ad9, cap9, hv9, _, _⟩ := q1.slice; subst hv9; clear q1 q2 q3)
        | fail)
      have HEND : ∀ wz, wz = (w9.setCell ⟨sc, 10, none⟩ (.slice ad9 (on + 1) cap9)).setCell ⟨sc, 7, none⟩ (.int .i64 ((r : Int) + 1)) →
          SC C { S1 with ov := .slice ad9 (on + 1) cap9, O := S1.O ++ [⟨lo, m, .slice none 0 0, []⟩], want := r + 1 } wz ∧ Fr (fun k => ¬ C.K k) w5 wz := by
        intro wz hz
        have own0 : ∀ k, (Value.slice oa on oc).ownBlock = some k → S1.ov.ownBlock = some k := fun k q => by rw [HOV.out]; exact q
        have g2 : Fr (fun k => k = sc) w9 (w9.setCell ⟨sc, 10, none⟩ (.slice ad9 (on + 1) cap9)) := (Fr.refl (fun k => k = sc) w9).setCell (p := ⟨sc, 10, none⟩) (fun _ => rfl) _
        have F : Fr (fun k => k = C.sc ∨ S1.ov.ownBlock = some k) w5 (w9.setCell ⟨sc, 10, none⟩ (.slice ad9 (on + 1) cap9)) :=
          ((HG.out.mono (fun _ _ q => q.elim)).trans Q2.out (fun k _ q => .inr (own0 k q))).trans g2 (fun k _ q => .inl (q.trans HSC.out))
        have q1 := Q1.out
        have hb1 : Blk (w9.setCell ⟨sc, 10, none⟩ (.slice ad9 (on + 1) cap9)) C.sc 67 (scA C { S1 with ov := .slice ad9 (on + 1) cap9, O := S1.O ++ [⟨lo, m, .slice none 0 0, []⟩], tv := S1.tv, T := S1.T }) := by
          have := HB9.out.set 10 (.slice ad9 (on + 1) cap9)
          rw [HSC.out]; exact this
        have h10 := H5.out.opd (.slice ad9 (on + 1) cap9) ⟨lo, m, .slice none 0 0, []⟩ S1.tv S1.T F hb1 (by
            rw [← HON.out]
            exact q1.fr g2 (fun k hk e => q1.ne HB9.out (by decide) k hk (e.trans HSC.out))) (fun k q => by
            rcases Q3.out with z | z
            · exact .inl (own0 k (by rw [← z]; exact q))
            · rw [z] at q; cases q
              exact .inr HG.out.size) (.inl ⟨rfl, rfl, rfl, rfl⟩)
        have g3 : Fr (fun k => k = C.sc) (w9.setCell ⟨sc, 10, none⟩ (.slice ad9 (on + 1) cap9)) wz := by
          rw [hz]; exact (Fr.refl (fun k => k = C.sc) _).setCell (p := ⟨sc, 7, none⟩) (fun _ => HSC.out) _
        refine ⟨h10.self g3 ?_ rfl rfl rfl rfl rfl rfl, (F.mono (fun k _ q => ?_)).trans g3 (fun k _ q => by rw [q]; exact H5.out.ls)⟩
        · have := h10.blk.set 7 (.int .i64 ((r : Int) + 1))
          rw [hz]; rw [HSC.out] at this ⊢; exact this
        · rcases q with q | q
          · rw [q]; exact H5.out.ls
          · exact H5.out.lo k q
      obtain ⟨e1, e2⟩ := HEND _ rfl
      rw [HSC.out] at e1 e2 ⊢
      refine (empty_spec C _ _ e1).mono ?_
      rintro e w11 ⟨rfl, h11, hf11⟩
      have H11 := Lib.hid h11
      have HF11 := Lib.hid ((HF5.out.trans e2 (fun _ _ x => x)).trans hf11 (fun _ _ x => x))
      clear HEND e1 e2 h11 hf11 c9 f9 c97 f97
      go_wp2_with (fail)
      go_ret
      refine ⟨_, some r, rfl, ⟨HI1.out, by rw [← HM.out]; exact HI2.out, fun a b => HI3.out a (by rw [HM.out]; exact b), tv1, .slice ad9 (on + 1) cap9, ?_⟩, H11.out, HF11.out⟩
      rw [HS1.out, HLO.out, HM.out]
end Go.Proofs.Ytphjebbjhfnhoaa
