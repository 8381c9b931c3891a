/- The reference's Print. -/
import Derived.Test.YtlfaeabbfejjcaaDoorPrint
import Derived.Test.YtlfaeabbfejjcaaDoorRByt
import Derived.Test.YtlfaeabbfejjcaaDoorRef1
import Derived.Test.YtlfaeabbfejjcaaDoorOf
import Derived.BigQuiet
namespace Go.Proofs.YtlfaeabbfejjcaaDoor
open Go.RowKit

theorem nrm_nf (f : Nat → Int) (i : Nat) : nrm f i = nf f i := by
  unfold nrm nf pbit oneI
  by_cases h : 2 ≤ i ∧ i ≤ 17
  · rw [if_pos h, if_pos h]
    by_cases h1 : f i = 1
    · rw [if_pos h1, h1]; rfl
    · rw [if_neg h1, show (f i == 1) = false by simpa using h1]; rfl
  · rw [if_neg h, if_neg h]

theorem setRow_first (w : World) (c c' : Array Value) (t : TypeId) (o : Obj) : ((w.alloc (.cells c t)).alloc o).setRow w.heap.size c' = (w.alloc (.cells c' t)).alloc o := by
  have h : ∀ (v : World) (o : Obj) (g : Nat) (cs : Array Value), g < v.heap.size → (v.alloc o).setRow g cs = (v.setRow g cs).alloc o := by
    intro v o g cs hg
    simp only [World.setRow, World.alloc]
    congr 1
    apply Array.ext_getElem?
    intro k
    simp only [Array.getElem?_modify, Array.getElem?_push, Array.size_modify]
    by_cases hk : k = v.heap.size
    · subst hk; simp [Nat.ne_of_lt hg]
    · simp [hk]
  rw [h _ _ _ _ (by simp), World.setRow_alloc_new]
theorem setRow_second (w : World) (c c' : Array Value) (t : TypeId) (o : Obj) : ((w.alloc o).alloc (.cells c t)).setRow (w.heap.size + 1) c' = (w.alloc o).alloc (.cells c' t) := by
  have h := World.setRow_alloc_new (w.alloc o) c c' t
  rwa [show (w.alloc o).heap.size = w.heap.size + 1 from Array.size_push ..] at h
theorem Blk.new2 (w : World) (o : Obj) (T : TypeId) (vs : Array Value) : Blk ((w.alloc o).alloc (.cells vs T)) (w.heap.size + 1) T vs := by
  have h := Blk.new (w.alloc o) T vs
  rwa [show (w.alloc o).heap.size = w.heap.size + 1 from Array.size_push ..] at h

set_option maxHeartbeats 8000000 in
theorem rprint_bad (f : Nat → Int) (w : World) (hok : okS f = false) :
    Calls Tryd.prog 9 #[.agg (ocells f)] w fun e w' => e = .returned (.tuple #[.slice none 0 0, .int .i64 2]) ∧ Fr (fun _ => False) w w' := by
  have hchk := fun wx => rcheck_spec f wx
  simp only [ckS, hok] at hchk
  have HCHK := Lib.hid hchk
  have HB := Lib.hid (Blk.new w 23 (ocells f))
  clear hchk hok
  go_enter Tryd.func9, Tryd.ntmps9
  go_wp2_with (first
    | (refine wpList_load_row rfl 23 _ rfl w.heap.size rfl 23 (ocells f) (0, 0) _ HB.out Tryd.underlying23 rfl Tryd.size23 ?_)
    | (go_at_call 12; refine (HCHK.out _).mono ?_; rintro e w6 ⟨rfl, hf6⟩))
  go_ret2
  exact ⟨rfl, ((Fr.refl _ _).alloc _).trans hf6 (fun _ _ h => h)⟩

/-- append of one word, as one step of a walk. -/
theorem wpList_app_str {ops : Array Oper} {rest : List Oper} {o : Oper} {a : Act} {Q : Exit → Act → World → Prop} (wx : World) (str : ByteArray) (hgd : o.guard = none) (s x : Operand)
    (ho : o.op = .call { callee := .builtin .append, args := #[s, x], argTypes := #[24, 24] })
    (B : Nat) (v : Value) (n : Nat) (xs : List Value) (hown : wx.ownsRow B 9 1 v n xs) (hs : a.eval s = v) (hx : a.eval x = .slice (some ⟨wx.heap.size, 0, none⟩) 1 1) (hn : n ≤ 1000) (hB : B ≤ wx.heap.size)
    (h : ∀ v' w', w'.ownsRow B 9 1 v' (n + 1) (xs ++ [.string str]) → (wx.alloc (.cells #[.string str] 9)).grownBy w' v.ownBlock → wpList Tryd.prog ops Q rest (a.put o.dst v') w') :
    wpList Tryd.prog ops Q (o :: rest) a (wx.alloc (.cells #[.string str] 9)) := by
  obtain ⟨i0, hi0, hz0, hz1, hz2⟩ := info_parts Tryd.info9
  exact wpList_append_own _ hgd s x 24 ho B 9 i0 (.string ⟨#[]⟩) 1 16 Tryd.underlying24 hi0 hz0 hz1 hz2 rfl (by decide) v n xs hs (hown.alloc _) ⟨wx.heap.size, 0, none⟩ 1 1 [.string str] hx rfl (one_new wx str) (one_cell str) (by unfold maxLen; omega) (by omega) (Nat.le_trans hB (by simp)) (fun v' w' h1 h2 _ => h v' w' h1 h2)

set_option maxRecDepth 100000 in
set_option maxHeartbeats 16000000 in
theorem rprint_spec (f : Nat → Int) (w : World) (hok : okS f = true) :
    Calls Tryd.prog 9 #[.agg (ocells f)] w fun e w' => ∃ ad cap, e = .returned (.tuple #[.slice ad (printL f 21).length cap, .int .i64 0]) ∧ Strs w' ad (printL f 21) ∧ Fr (fun _ => False) w w' := by
  obtain ⟨i0, hi0, hz0, hz1, hz2⟩ := info_parts Tryd.info9
  have hchk := fun wx => rcheck_spec f wx
  simp only [ckS, hok] at hchk
  have HCHK := Lib.hid hchk
  have HB := Lib.hid (Blk.new w 23 (ocells f))
  have HF := Lib.hid ((Fr.refl (fun _ => False) w).alloc (.cells (ocells f) 23))
  have HOK := Lib.hid hok
  clear hchk hok
  go_enter Tryd.func9, Tryd.ntmps9
  go_wp2_with (first
    | (refine wpList_load_row rfl 23 _ rfl w.heap.size rfl 23 (ocells f) (0, 0) _ HB.out Tryd.underlying23 rfl Tryd.size23 ?_)
    | (go_at_call 12; refine (HCHK.out _).mono ?_; rintro e w1 ⟨rfl, hf1⟩; have HB1 := Lib.hid (HB.out.fr hf1 (fun h => h)); have HF1 := Lib.hid (HF.out.trans hf1 (fun _ _ h => h)); clear hf1)
    | (refine wpList_load_row rfl 23 _ rfl w.heap.size rfl 23 (ocells f) (0, 0) _ HB1.out Tryd.underlying23 rfl Tryd.size23 ?_)
    | (go_at_call 21; ((with_reducible refine (rfields_spec f w1).mono ?_); rintro e w2 ⟨rfl, hf2⟩; have HF2 := Lib.hid (HF1.out.trans hf2 (fun _ _ h => h)); clear hf2))
    | (go_at_call 15; refine (rdefault_spec _).mono ?_; rintro e w3 ⟨rfl, hf3⟩; have HF3 := Lib.hid (HF2.out.trans hf3 (fun _ _ h => h)); clear hf3)
    | (go_at_call 21; ((with_reducible refine (rfields_spec dflt w3).mono ?_); rintro e w4 ⟨rfl, hf4⟩; have HF4 := Lib.hid (HF3.out.trans hf4 (fun _ _ h => h)); clear hf4))
    | (go_at_call 22; refine (names_spec _).mono ?_; rintro e w5 ⟨g, rfl, hb5, hf5⟩; have HF5 := Lib.hid (HF4.out.trans hf5 (fun _ _ h => h)); have HNM5 := Lib.hid hb5; have HS5 := Lib.hid hb5.lt; clear hf5 hb5)
    | (refine wpList_store_row rfl 51 _ _ rfl _ (acells (nrm f)) rfl rfl 51 (acells zf) ((Blk.new w5 51 (acells zf)).alloc _) Tryd.size51 rfl (acells_one _) ?_; rw [setRow_first])
    | (refine wpList_store_row rfl 51 _ _ rfl _ (acells (nrm dflt)) rfl rfl 51 (acells zf) (Blk.new2 w5 _ 51 (acells zf)) Tryd.size51 rfl (acells_one _) ?_; rw [setRow_second]; have HD := Lib.hid ((Blk.new w5 51 (acells (nrm f))).alloc (.cells (acells (nrm dflt)) 51)); have HE := Lib.hid (Blk.new2 w5 (.cells (acells (nrm f)) 51) 51 (acells (nrm dflt))); have HF6 := Lib.hid ((HF5.out.alloc (.cells (acells (nrm f)) 51)).alloc (.cells (acells (nrm dflt)) 51)); have HNM := Lib.hid ((HNM5.out.alloc (.cells (acells (nrm f)) 51)).alloc (.cells (acells (nrm dflt)) 51)); generalize (w5.alloc (.cells (acells (nrm f)) 51)).alloc (.cells (acells (nrm dflt)) 51) = w6 at HD HE HF6 HNM ⊢; generalize w5.heap.size + 1 = db at HE ⊢; generalize w5.heap.size = da at HD HS5 ⊢))
  clear HB HB1 HF HF1 HCHK HF2 HF3 HF4 HF5 HNM5 HS5
  go_loopg [4, 8] 21 (fun gk x4 x8 wr => ∃ i : Nat, i ≤ 21 ∧ gk = 21 - i ∧ x8 = .int .i64 i ∧ Hid (wr.ownsRow w6.heap.size 9 1 x4 (printL f i).length ((printL f i).map Value.string)) ∧ Hid (Below w6.heap.size w6 wr))
  case atStart => exact ⟨0, by omega, rfl, rfl, Lib.hid (World.ownsRow_nil _ _ _ _), Lib.hid (Below.refl _ _)⟩
  case round =>
    obtain ⟨i, hi, hgk, rfl, HOW, HBE⟩ := hrel
    have HG := Lib.hid hgk
    clear hgk
    by_cases hit : i < 21
    · have cn := (HD.out.bel HBE.out HD.out.lt).cell i (acells_at (nrm f) i hit)
      have cd := (HE.out.bel HBE.out HE.out.lt).cell i (acells_at (nrm dflt) i hit)
      have cl := (HNM.out.bel HBE.out HNM.out.lt).cell i (ncells_get i hit)
      rw [nrm_nf] at cn cd
      have z0 := nm_small i hit
      by_cases heq : nf f i = nf dflt i
      · have HPL := Lib.hid (printL_skip (f := f) heq)
        have b1 : (nf f i == nf dflt i) = true := by simpa using heq
        clear heq
        generalize nf f i = N at cn b1 ⊢
        generalize nf dflt i = M at cd b1 ⊢
        go_wp2_with (fail)
        go_quiet (fail)
        go_wp2_with (fail)
        go_roundg (21 - (i + 1))
        case measure => have := HG.out; omega
        case rel => exact ⟨i + 1, by omega, rfl, by go_num, Lib.hid (by rw [HPL.out]; exact own_fr HOW.out ((Fr.refl _ _).drewN _)), Lib.hid (HBE.out.trans (Below.of_fr ((Fr.refl _ _).drewN _) HBE.out.size))⟩
      · have HPL := Lib.hid (printL_take (f := f) heq)
        have b1 : (nf f i == nf dflt i) = false := by simpa using heq
        have hpl := printL_len f i
        have HLE := Lib.hid (show (printL f i).length ≤ 1000 by omega)
        rcases kd_three i hit with ⟨hk, _, hx⟩ | ⟨hk, hi00⟩ | ⟨hk, hsw⟩
        · obtain ⟨f0, f1⟩ := ok_bd HOK.out i hx
          obtain ⟨m, hm⟩ : ∃ m : Nat, f i = (m : Int) := ⟨(f i).toNat, by omega⟩
          have HW := Lib.hid (word_num (f := f) (i := i) hk hm)
          have HPW := Lib.hid (HPL.out.trans (congrArg (fun x => printL f i ++ [x]) HW.out))
          have hnf : nf f i = (m : Int) := by unfold nf; rw [if_neg (by omega), hm]
          rw [hnf] at cn b1
          have hm1 : m ≤ 2147483647 := by omega
          have z1 := digB_size m (by omega)
          have hne : ((i : Int) == 0) = false := by simpa using (show i ≠ 0 by omega)
          have hq : (((i : Int) == 1) = true) ∨ (((i : Int) == 1) = false ∧ (i : Int) > 17) := by
            rcases hx with h | h | h | h
            · left; subst h; rfl
            · right; subst h; exact ⟨rfl, by decide⟩
            · right; subst h; exact ⟨rfl, by decide⟩
            · right; subst h; exact ⟨rfl, by decide⟩
          clear heq hx hk hnf hm f0 f1
          generalize nf dflt i = M at cd b1
          go_wp2_with (fail)
          go_quiet (fail)
          have HOV := Lib.hid (own_fr HOW.out ((Fr.refl (fun _ => False) wr).drewN nq))
          have HBV := Lib.hid (HBE.out.trans (Below.of_fr ((Fr.refl (fun _ => False) wr).drewN nq) HBE.out.size))
          have cn1 : (wr.drewN nq).cell? ⟨da, i, none⟩ = some (.int .i64 (m : Int)) := cn
          have cl1 : (wr.drewN nq).cell? ⟨g, i, none⟩ = some (.string (nm i)) := cl
          clear cn cl cd b1
          generalize wr.drewN nq = wv at HOV HBV cn1 cl1 ⊢
          have k1 : ¬ 9223372036854775807 < 2 + (nm i).size := by omega
          have k2 : ¬ 9223372036854775807 < 2 + (nm i).size + 1 := by omega
          have k3 : ¬ 9223372036854775807 < 2 + (nm i).size + 1 + (digB m).size := by omega
          have k4 : 2 + (nm i).size ≤ 9223372036854775807 := by omega
          have k5 : 2 + (nm i).size ≤ 9223372036854775806 := by omega
          have k6 : 2 + (nm i).size + 1 + (digB m).size ≤ 9223372036854775807 := by omega
          have HQ := Lib.hid hq
          clear hq
          rcases HQ.out with hq1 | ⟨hq1, hq2⟩
          · go_wp2_with (first
              | (go_at_call 24; refine (digits_ref m (by omega) _).mono ?_; rintro e w7 ⟨rfl, hf7⟩; have HO7 := Lib.hid (own_fr HOV.out hf7); have HB7 := Lib.hid (HBV.out.trans (Below.of_fr hf7 HBV.out.size)); clear hf7)
              | (at_builtin; refine wpList_app_str w7 _ rfl (.tmp 67) (.tmp 69) rfl w6.heap.size _ _ _ HO7.out rfl rfl HLE.out HB7.out.size ?_; intro v' w8 hown8 hgrow8; have HO8 := Lib.hid (app_own HPW.out rfl hown8); have HB8 := Lib.hid (app_below HB7.out HO7.out hgrow8 HB7.out.size); clear hown8 hgrow8))
            go_roundg (21 - (i + 1))
            case measure => have := HG.out; omega
            case rel => exact ⟨i + 1, by omega, rfl, by go_num, HO8, HB8⟩
          · go_wp2_with (first
              | (go_at_call 24; refine (digits_ref m (by omega) _).mono ?_; rintro e w7 ⟨rfl, hf7⟩; have HO7 := Lib.hid (own_fr HOV.out hf7); have HB7 := Lib.hid (HBV.out.trans (Below.of_fr hf7 HBV.out.size)); clear hf7)
              | (at_builtin; refine wpList_app_str w7 _ rfl (.tmp 67) (.tmp 69) rfl w6.heap.size _ _ _ HO7.out rfl rfl HLE.out HB7.out.size ?_; intro v' w8 hown8 hgrow8; have HO8 := Lib.hid (app_own HPW.out rfl hown8); have HB8 := Lib.hid (app_below HB7.out HO7.out hgrow8 HB7.out.size); clear hown8 hgrow8))
            go_roundg (21 - (i + 1))
            case measure => have := HG.out; omega
            case rel => exact ⟨i + 1, by omega, rfl, by go_num, HO8, HB8⟩
        · obtain ⟨f0, f1, _⟩ := (okS_iff f).1 HOK.out
          rw [← hi00] at f0 f1
          obtain ⟨m, hm⟩ : ∃ m : Nat, f i = (m : Int) := ⟨(f i).toNat, by omega⟩
          have HW := Lib.hid (word_when (f := f) (i := i) hk hm)
          have HPW := Lib.hid (HPL.out.trans (congrArg (fun x => printL f i ++ [x]) HW.out))
          have hnf : nf f i = (m : Int) := by unfold nf; rw [if_neg (by omega), hm]
          rw [hnf] at cn b1
          have m1 : m < 4 := by omega
          have z1 := whn_size m
          have hne : ((i : Int) == 0) = true := by subst hi00; rfl
          clear heq hk hnf hm f0 f1 hi00
          generalize nf dflt i = M at cd b1
          go_wp2_with (fail)
          go_quiet (fail)
          have HOV := Lib.hid (own_fr HOW.out ((Fr.refl (fun _ => False) wr).drewN nq))
          have HBV := Lib.hid (HBE.out.trans (Below.of_fr ((Fr.refl (fun _ => False) wr).drewN nq) HBE.out.size))
          have cn1 : (wr.drewN nq).cell? ⟨da, i, none⟩ = some (.int .i64 (m : Int)) := cn
          have cl1 : (wr.drewN nq).cell? ⟨g, i, none⟩ = some (.string (nm i)) := cl
          clear cn cl cd b1
          generalize wr.drewN nq = wv at HOV HBV cn1 cl1 ⊢
          have m2 : (m : Int) < 4 := by omega
          have m3 : (0 : Int) ≤ m := by omega
          have k1 : ¬ 9223372036854775807 < 2 + (nm i).size := by omega
          have k2 : ¬ 9223372036854775807 < 2 + (nm i).size + 1 := by omega
          have k3 : ¬ 9223372036854775807 < 2 + (nm i).size + 1 + (whn m).size := by omega
          have k4 : 2 + (nm i).size ≤ 9223372036854775807 := by omega
          have k5 : 2 + (nm i).size ≤ 9223372036854775806 := by omega
          have k6 : 2 + (nm i).size + 1 + (whn m).size ≤ 9223372036854775807 := by omega
          go_wp2_with (fail)
          go_region_with (go_at_call 23; ((with_reducible refine (whens_spec _).mono ?_); rintro e w7 ⟨g2, rfl, hb7, hf7⟩; have q7 := hb7.cell m (wcells_get m m1); have cn7 := (hf7.cell (a := ⟨da, i, none⟩) (World.block_lt_of_cell? _ _ cn1) (fun h => h)).trans cn1; have HO7 := Lib.hid (own_fr HOV.out.drew hf7); have HB7 := Lib.hid (HBV.out.trans (Below.of_fr (((Fr.refl _ wv).drew).trans hf7 (fun _ _ h => h)) HBV.out.size)); clear hb7 hf7))
          all_goals
            go_wp2_with (at_builtin; refine wpList_app_str w7 _ rfl (.tmp 67) (.tmp 69) rfl w6.heap.size _ _ _ HO7.out rfl rfl HLE.out HB7.out.size ?_; intro v' w8 hown8 hgrow8; have HO8 := Lib.hid (app_own HPW.out rfl hown8); have HB8 := Lib.hid (app_below HB7.out HO7.out hgrow8 HB7.out.size); clear hown8 hgrow8)
            go_roundg (21 - (i + 1))
            case measure => have := HG.out; omega
            case rel => exact ⟨i + 1, by omega, rfl, by go_num, HO8, HB8⟩
        · have hnf : nf f i = pbit f i := by unfold nf; rw [if_pos hsw]
          have hne : ((i : Int) == 0) = false := by simpa using (show i ≠ 0 by omega)
          have hq1 : ((i : Int) == 1) = false := by
            have h : (i : Int) ≠ 1 := by omega
            simpa using h
          have hq2 : ¬ (i : Int) > 17 := by omega
          by_cases h1 : f i = 1
          · have HW := Lib.hid (word_on (f := f) (i := i) hk h1)
            have HPW := Lib.hid (HPL.out.trans (congrArg (fun x => printL f i ++ [x]) HW.out))
            have hN1 : nf f i = 1 := by rw [hnf]; unfold pbit; rw [if_pos h1]
            rw [hN1] at cn b1
            clear heq hk hnf h1 hN1 hsw
            generalize nf dflt i = M at cd b1
            go_wp2_with (fail)
            go_quiet (fail)
            have HOV := Lib.hid (own_fr HOW.out ((Fr.refl (fun _ => False) wr).drewN nq))
            have HBV := Lib.hid (HBE.out.trans (Below.of_fr ((Fr.refl (fun _ => False) wr).drewN nq) HBE.out.size))
            have cn1 : (wr.drewN nq).cell? ⟨da, i, none⟩ = some (.int .i64 1) := cn
            have cl1 : (wr.drewN nq).cell? ⟨g, i, none⟩ = some (.string (nm i)) := cl
            clear cn cl cd b1
            generalize wr.drewN nq = wv at HOV HBV cn1 cl1 ⊢
            go_wp2_with (at_builtin; refine wpList_app_str wv _ rfl (.tmp 67) (.tmp 69) rfl w6.heap.size _ _ _ HOV.out rfl rfl HLE.out HBV.out.size ?_; intro v' w8 hown8 hgrow8; have HO8 := Lib.hid (app_own HPW.out rfl hown8); have HB8 := Lib.hid (app_below HBV.out HOV.out hgrow8 HBV.out.size); clear hown8 hgrow8)
            go_roundg (21 - (i + 1))
            case measure => have := HG.out; omega
            case rel => exact ⟨i + 1, by omega, rfl, by go_num, HO8, HB8⟩
          · have HW := Lib.hid (word_off (f := f) (i := i) hk h1)
            have HPW := Lib.hid (HPL.out.trans (congrArg (fun x => printL f i ++ [x]) HW.out))
            have hN1 : nf f i = 0 := by rw [hnf]; unfold pbit; rw [if_neg h1]
            rw [hN1] at cn b1
            clear heq hk hnf h1 hN1 hsw
            generalize nf dflt i = M at cd b1
            go_wp2_with (fail)
            go_quiet (fail)
            have HOV := Lib.hid (own_fr HOW.out ((Fr.refl (fun _ => False) wr).drewN nq))
            have HBV := Lib.hid (HBE.out.trans (Below.of_fr ((Fr.refl (fun _ => False) wr).drewN nq) HBE.out.size))
            have cn1 : (wr.drewN nq).cell? ⟨da, i, none⟩ = some (.int .i64 0) := cn
            have cl1 : (wr.drewN nq).cell? ⟨g, i, none⟩ = some (.string (nm i)) := cl
            clear cn cl cd b1
            generalize wr.drewN nq = wv at HOV HBV cn1 cl1 ⊢
            go_wp2_with (at_builtin; refine wpList_app_str wv _ rfl (.tmp 67) (.tmp 69) rfl w6.heap.size _ _ _ HOV.out rfl rfl HLE.out HBV.out.size ?_; intro v' w8 hown8 hgrow8; have HO8 := Lib.hid (app_own HPW.out rfl hown8); have HB8 := Lib.hid (app_below HBV.out HOV.out hgrow8 HBV.out.size); clear hown8 hgrow8)
            go_roundg (21 - (i + 1))
            case measure => have := HG.out; omega
            case rel => exact ⟨i + 1, by omega, rfl, by go_num, HO8, HB8⟩
    · obtain rfl : i = 21 := by omega
      go_wp2_with (fail)
      obtain ⟨ad, cap, hv, hst⟩ := owns_strs HOW.out (Nat.le_trans (printL_len f 21) (by decide))
      go_ret2
      exact ⟨ad, cap, by rw [← hv]; rfl, hst, HF6.out.trans (Fr.ofBelow HBE.out _) (fun _ _ h => h)⟩
end Go.Proofs.YtlfaeabbfejjcaaDoor
