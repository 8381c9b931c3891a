/- The walk of Print. -/
import Derived.Test.YtlfaeabbfejjcaaDoorOwn
import Derived.Test.YtlfaeabbfejjcaaDoorPrintP
import Derived.Test.YtlfaeabbfejjcaaDoorGet
import Derived.Deep.RegionHeld3
import Derived.Deep.AppendLies
namespace Go.Proofs.YtlfaeabbfejjcaaDoor
open Go.RowKit

theorem boxT_sw : ∀ i, i < 21 → ((boxT i = 58) ↔ ¬ (2 ≤ i ∧ i ≤ 17)) := by decide
theorem numOf_nf (f : Nat → Int) (i : Nat) (hi : i < 21) : numOf f i = nf f i := by
  unfold numOf nf pbit
  by_cases h : 2 ≤ i ∧ i ≤ 17
  · rw [if_neg (fun e => (boxT_sw i hi).1 e h), if_pos h]
  · rw [if_pos ((boxT_sw i hi).2 h), if_neg h]
theorem gF_kd : ∀ i, i < 21 → (¬ (2 ≤ i ∧ i ≤ 17) → gF i = 57) ∧ (2 ≤ i ∧ i ≤ 17 → gF i = 59) := by decide

theorem word_on {f : Nat → Int} {i : Nat} (hk : kd i = 0) (h : f i = 1) : wordB f i = ⟨#[45, 45]⟩ ++ nm i := by
  apply ba_ext
  rw [pre_data2]
  show wordOf f i = _
  unfold wordOf
  rw [if_neg (by rw [hk]; decide), if_neg (by rw [hk]; decide), if_pos h]
theorem word_off {f : Nat → Int} {i : Nat} (hk : kd i = 0) (h : ¬ f i = 1) : wordB f i = ⟨#[45, 45, 110, 111, 45]⟩ ++ nm i := by
  apply ba_ext
  rw [pre_data2]
  show wordOf f i = _
  unfold wordOf
  rw [if_neg (by rw [hk]; decide), if_neg (by rw [hk]; decide), if_neg h]
theorem word_num {f : Nat → Int} {i m : Nat} (hk : kd i = 1) (h : f i = (m : Int)) : wordB f i = ⟨#[45, 45]⟩ ++ nm i ++ ⟨#[61]⟩ ++ digB m := by
  apply ba_ext
  rw [pre_data2, pre_data, digB_data]
  show wordOf f i = _
  unfold wordOf
  rw [if_pos hk, h, Int.toNat_natCast]; rfl
theorem word_when {f : Nat → Int} {i m : Nat} (hk : kd i = 2) (h : f i = (m : Int)) : wordB f i = ⟨#[45, 45]⟩ ++ nm i ++ ⟨#[61]⟩ ++ whn m := by
  apply ba_ext
  rw [pre_data2, pre_data]
  show wordOf f i = _
  unfold wordOf
  rw [if_neg (by rw [hk]; decide), if_pos hk, h, Int.toNat_natCast]; rfl
theorem whn_size (m : Nat) : (whn m).size ≤ 6 := by
  match m with
  | 0 => exact (by decide : 4 ≤ 6)
  | 1 => exact (by decide : 6 ≤ 6)
  | 2 => exact (by decide : 6 ≤ 6)
  | k + 3 => exact (by decide : 5 ≤ 6)
theorem when_fr (m : Nat) (hm : m < 4) (w : World) : Calls Tryd.prog 18 #[.int .i64 m] w fun e w' => e = .returned (.string (whn m)) ∧ Fr (fun _ => False) w w' :=
  (when_spec m hm w).mono fun _ _ ⟨h1, h2⟩ => ⟨h1, by rw [← h2]; exact Fr.refl _ _⟩
theorem lt_of_cell0 {w : World} {b : Nat} {v : Value} (h : w.cell? ⟨b, 0, none⟩ = some v) : b < w.heap.size := World.block_lt_of_cell? _ _ h

/-- append of one word, as one step of a region that draws. -/
theorem step_app_str {ops : Array Oper} {o : Oper} {a : Act} {K : Act → World → Prop} {Q : Exit → Act → World → Prop} {E : Prop} (wx : World) (str : ByteArray) (hgd : o.guard = none) (s x : Operand)
    (ho : o.op = .call { callee := .builtin .append, args := #[s, x], argTypes := #[24, 24] })
    (B : Nat) (v : Value) (n : Nat) (xs : List Value) (hown : wx.ownsRow B 9 1 v n xs) (hs : a.eval s = v) (hx : a.eval x = .slice (some ⟨wx.heap.size, 0, none⟩) 1 1) (hn : n ≤ 1000) (hB : B ≤ wx.heap.size)
    (h : ∀ g cap w', w'.ownsRow B 9 1 (.slice (some ⟨g, 0, none⟩) (n + 1) cap) (n + 1) (xs ++ [.string str]) → (wx.alloc (.cells #[.string str] 9)).grownBy w' v.ownBlock → K (a.put o.dst (.slice (some ⟨g, 0, none⟩) (n + 1) cap)) w') :
    if Region.wanted o (yielded ops a.tmps) = true then Oper.wp Tryd.prog o a (wx.alloc (.cells #[.string str] 9)) K Q else E := by
  obtain ⟨i0, hi0, hz0, hz1, hz2⟩ := info_parts Tryd.info9
  exact step_append_lies _ hgd s x 24 ho B 9 i0 (.string ⟨#[]⟩) 1 16 Tryd.underlying24 hi0 hz0 hz1 hz2 rfl (by decide) v n xs hs (hown.alloc _) ⟨wx.heap.size, 0, none⟩ 1 1 [.string str] hx rfl (one_new wx str) (one_cell str) (by decide) (by unfold maxLen; omega) (by omega) (Nat.le_trans hB (by simp)) (wx.heap.size + 1) (by simp) (fun g cap w' h1 h2 _ _ => h g cap w' h1 h2)

theorem keep_app {w6 w7 : World} {sb B : Nat} {v u : Value} {o : Obj} (hg : (w6.alloc o).grownBy w7 v.ownBlock) (hc : w6.cell? ⟨sb, 0, none⟩ = some u) (hlt : ∀ k, v.ownBlock = some k → B ≤ k ∧ k < sb) : w7.cell? ⟨sb, 0, none⟩ = some u :=
  hg.cell ((World.cell?_alloc_past _ _ _ (lt_of_cell0 hc)).trans hc) (fun e => by have := (hlt sb e.symm).2; omega)

set_option maxHeartbeats 8000000 in
theorem print_bad (f : Nat → Int) (w : World) (hok : okS f = false) :
    Calls Tryd.prog 6 #[.agg (ocells f)] w fun e w' => e = .returned (.tuple #[.slice none 0 0, .int .i64 2]) ∧ Fr (fun _ => False) w w' := by
  have hchk := fun wx => check_spec f wx
  simp only [ckS, hok] at hchk
  have HCHK := Lib.hid hchk
  have HB := Lib.hid (Blk.new w 23 (ocells f))
  clear hchk hok
  go_enter Tryd.func6, Tryd.ntmps6
  go_wp2_with (first
    | (refine wpList_load_row rfl 23 _ rfl w.heap.size rfl 23 (ocells f) (0, 0) _ HB.out Tryd.underlying23 rfl Tryd.size23 ?_)
    | (go_at_call 7; refine (HCHK.out _).mono ?_; rintro e w6 ⟨rfl, hf6⟩))
  go_ret2
  exact ⟨rfl, ((Fr.refl _ _).alloc _).trans hf6 (fun _ _ h => h)⟩

set_option maxRecDepth 100000 in
set_option maxHeartbeats 16000000 in
theorem print_spec (f : Nat → Int) (w : World) (hok : okS f = true) (hn : normP f) (ht : TB w) :
    Calls Tryd.prog 6 #[.agg (ocells f)] w fun e w' => ∃ ad cap, e = .returned (.tuple #[.slice ad (printL f 21).length cap, .int .i64 0]) ∧ Strs w' ad (printL f 21) ∧ Fr (fun _ => False) w w' := by
  obtain ⟨i0, hi0, hz0, hz1, hz2⟩ := info_parts Tryd.info9
  have hchk := fun wx => check_spec f wx
  simp only [ckS, hok] at hchk
  have HCHK := Lib.hid hchk
  have HB := Lib.hid (Blk.new w 23 (ocells f))
  have HF := Lib.hid ((Fr.refl (fun _ => False) w).alloc (.cells (ocells f) 23))
  have HOK := Lib.hid hok
  have HN := Lib.hid hn
  have HT := Lib.hid ht
  clear hchk hok hn ht
  go_enter Tryd.func6, Tryd.ntmps6
  go_wp2_with (first
    | (refine wpList_load_row rfl 23 _ rfl w.heap.size rfl 23 (ocells f) (0, 0) _ HB.out Tryd.underlying23 rfl Tryd.size23 ?_)
    | (go_at_call 7; refine (HCHK.out _).mono ?_; rintro e w1 ⟨rfl, hf1⟩; have HB1 := Lib.hid (HB.out.fr hf1 (fun h => h)); have HF1 := Lib.hid (HF.out.trans hf1 (fun _ _ h => h)); clear hf1)
    | (go_at_call 14; refine (default_spec _).mono ?_; rintro e w2 ⟨rfl, hf2⟩; have HB2 := Lib.hid ((HB1.out.fr hf2 (fun h => h)).alloc (.cells (ocells dflt) 23)); have HF2 := Lib.hid ((HF1.out.trans hf2 (fun _ _ h => h)).alloc (.cells (ocells dflt) 23)); have HD2 := Lib.hid (Blk.new w2 23 (ocells dflt)); clear hf2)
    | (refine wpList_store_row rfl 23 _ _ rfl _ (ocells dflt) rfl rfl 23 (ocells zf) (Blk.new _ _ _) Tryd.size23 rfl (ocells_one _) ?_; rw [World.setRow_alloc_new]; generalize w2.alloc (.cells (ocells dflt) 23) = w3 at HB2 HF2 HD2 ⊢; generalize w2.heap.size = d at HD2 ⊢)
    | (go_at_call 16; refine (fields_spec _).mono ?_; rintro e w4 ⟨g, bs, rfl, hfl, hf4⟩; have HO := Lib.hid (HB2.out.fr hf4 (fun h => h)); have HD := Lib.hid (HD2.out.fr hf4 (fun h => h)); have HF4 := Lib.hid (HF2.out.trans hf4 (fun _ _ h => h)); have HFL := Lib.hid hfl; clear hfl hf4))
  generalize w.heap.size = o at HO ⊢
  have HT4 := Lib.hid (HT.out.fr HF4.out)
  generalize w3.heap.size = fb at HFL
  clear HB HB1 HF HF1 HCHK HB2 HF2 HD2 HT
  go_loopg [6, 18] 21 (fun gk x6 x18 wr => ∃ i : Nat, i ≤ 21 ∧ gk = 21 - i ∧ x18 = .int .i64 i ∧ Hid (wr.ownsRow w4.heap.size 9 1 x6 (printL f i).length ((printL f i).map Value.string)) ∧ Hid (Below w4.heap.size w4 wr))
  case atStart => exact ⟨0, by omega, rfl, rfl, Lib.hid (World.ownsRow_nil _ _ _ _), Lib.hid (Below.refl _ _)⟩
  case round =>
    obtain ⟨i, hi, hgk, rfl, HOW, HBE⟩ := hrel
    have HG := Lib.hid hgk
    clear hgk
    by_cases hit : i < 21
    · have hrow := HFL.out.row.bel HBE.out HFL.out.row.lt
      have hbox := (HFL.out.box i hit).bel HBE.out (HFL.out.box i hit).lt
      have ho := HO.out.bel HBE.out HO.out.lt
      have hd := HD.out.bel HBE.out HD.out.lt
      have ht := HT4.out.below HBE.out
      have q0 := hrow.cell (i * 4) (v := .string (nm i)) (by rw [Nat.mul_comm]; exact fcells_0 bs i hit)
      have q1 := hrow.cell (i * 4 + 1) (v := .int .i64 (kd i)) (by rw [Nat.mul_comm]; exact fcells_1 bs i hit)
      have q2 := hrow.cell (i * 4 + 2) (v := .func (.func (gF i)) #[] #[.pointer (some ⟨bs i, 0, none⟩)]) (by rw [Nat.mul_comm]; exact fcells_2 bs i hit)
      have q3 := hrow.cell (i * 4 + 3) (v := .func (.func (sF i)) #[] #[.pointer (some ⟨bs i, 0, none⟩)]) (by rw [Nat.mul_comm]; exact fcells_3 bs i hit)
      have z0 := nm_small i hit
      have hgo := fun wx ho => fget_spec o f wx ho i hit (bs i)
      have hgd := fun wx hd => fget_spec d dflt wx hd i hit (bs i)
      rw [numOf_nf f i hit] at hgo
      rw [numOf_nf dflt i hit] at hgd
      have hpl := printL_len f i
      obtain ⟨hgA, hgB⟩ := gF_kd i hit
      by_cases hsw : 2 ≤ i ∧ i ≤ 17
      · rw [hgB hsw] at q2 hgo hgd
        by_cases heq : nf f i = nf dflt i
        ·
          have HPL := Lib.hid (printL_skip (f := f) heq)
          have b1 : (nf f i == nf dflt i) = true := by simpa using heq
          rw [← heq] at hgd
          have HGO := Lib.hid hgo
          have HGD := Lib.hid hgd
          have HOO := Lib.hid ho
          have HDD := Lib.hid hd
          have HBX := Lib.hid hbox
          clear hrow ho hd hbox hgA hgB hgo hgd heq b1 hsw ht z0
          generalize nf f i = N at HGO HGD ⊢
          go_wp2_with (first
            | (go_at_call 59; ((with_reducible refine (HGO.out _ (HOO.out.alloc _) (HBX.out.alloc _)).mono ?_); rintro e w5 ⟨rfl, rfl⟩))
            | (go_at_call 59; ((with_reducible refine (HGD.out _ (HDD.out.alloc _) (HBX.out.alloc _)).mono ?_); rintro e w5 ⟨rfl, rfl⟩)))
          go_roundg (21 - (i + 1))
          case measure => have := HG.out; omega
          case rel => exact ⟨i + 1, by omega, rfl, by go_num, Lib.hid (by rw [HPL.out]; exact HOW.out.alloc _), Lib.hid (HBE.out.alloc HBE.out.size _)⟩
        ·
          have HPL := Lib.hid (printL_take (f := f) heq)
          have b1 : (nf f i == nf dflt i) = false := by simpa using heq
          obtain ⟨hk, _⟩ : kd i = 0 ∧ True := by rcases kd_three i hit with h | h | h; · exact absurd hsw h.2.1
                                                 · exact absurd hsw (by rw [h.2]; omega)
                                                 · exact ⟨h.1, trivial⟩
          rw [hk] at q1
          have hnf : nf f i = pbit f i := by unfold nf; rw [if_pos hsw]
          have HK := Lib.hid hk
          by_cases h1 : f i = 1
          · have HW := Lib.hid (word_on (f := f) (i := i) hk h1)
            have hN1 : nf f i = 1 := by rw [hnf]; unfold pbit; rw [if_pos h1]
            rw [hN1] at hgo b1
            have HGO := Lib.hid hgo
            have HGD := Lib.hid hgd
            have HOO := Lib.hid ho
            have HDD := Lib.hid hd
            have HBX := Lib.hid hbox
            clear hrow ho hd hbox hgA hgB hgo hgd heq hsw ht hk hnf h1 hN1
            generalize nf dflt i = M at HGD b1 ⊢
            go_wp2_with (first
              | (go_at_call 59; ((with_reducible refine (HGO.out _ (HOO.out.alloc _) (HBX.out.alloc _)).mono ?_); rintro e w5 ⟨rfl, rfl⟩))
              | (go_at_call 59; ((with_reducible refine (HGD.out _ (HDD.out.alloc _) (HBX.out.alloc _)).mono ?_); rintro e w5 ⟨rfl, rfl⟩; have HOV := Lib.hid (HOW.out.alloc (.cells #[.string (nm i), .int .i64 0, .func (.func 59) #[] #[.pointer (some ⟨bs i, 0, none⟩)], .func (.func (sF i)) #[] #[.pointer (some ⟨bs i, 0, none⟩)]] 44)); have HBV := Lib.hid (HBE.out.alloc HBE.out.size (.cells #[.string (nm i), .int .i64 0, .func (.func 59) #[] #[.pointer (some ⟨bs i, 0, none⟩)], .func (.func (sF i)) #[] #[.pointer (some ⟨bs i, 0, none⟩)]] 44)); have HTV := Lib.hid (HT4.out.below HBV.out); have HSB := Lib.hid HOW.out.lt; have cs0 := (Blk.new wr 44 #[.string (nm i), .int .i64 0, .func (.func 59) #[] #[.pointer (some ⟨bs i, 0, none⟩)], .func (.func (sF i)) #[] #[.pointer (some ⟨bs i, 0, none⟩)]]).cell 0 (v := .string (nm i)) rfl; have cs1 := (Blk.new wr 44 #[.string (nm i), .int .i64 0, .func (.func 59) #[] #[.pointer (some ⟨bs i, 0, none⟩)], .func (.func (sF i)) #[] #[.pointer (some ⟨bs i, 0, none⟩)]]).cell 1 (v := .int .i64 0) rfl; clear q0 q1 q2 q3 HOO HDD HBX HGO HGD; generalize wr.alloc (.cells #[.string (nm i), .int .i64 0, .func (.func 59) #[] #[.pointer (some ⟨bs i, 0, none⟩)], .func (.func (sF i)) #[] #[.pointer (some ⟨bs i, 0, none⟩)]] 44) = wv at HOV HBV HTV cs0 cs1 ⊢; generalize wr.heap.size = sb at cs0 cs1 HSB ⊢))
              | (at_builtin; refine wpList_append_own _ rfl (.tmp 68) (.tmp 72) 24 rfl w4.heap.size 9 i0 (.string ⟨#[]⟩) 1 16 Tryd.underlying24 hi0 hz0 hz1 hz2 rfl (by decide) _ _ _ rfl (HOV.out.alloc _) ⟨wv.heap.size, 0, none⟩ 1 1 [.string (⟨#[45, 45]⟩ ++ nm i)] rfl rfl (one_new wv _) (one_cell _) (by unfold maxLen; omega) (by omega) (Nat.le_trans HBV.out.size (by simp)) ?_; intro v' w6 hown6 hgrow6 _; have HO6 := Lib.hid (app_own (HPL.out.trans (by rw [HW.out])) rfl hown6); have HB6 := Lib.hid (app_below HBV.out HOV.out hgrow6 HBV.out.size); clear hown6 hgrow6))
            go_roundg (21 - (i + 1))
            case measure => have := HG.out; omega
            case rel => exact ⟨i + 1, by omega, rfl, by go_num, HO6, HB6⟩
          · have HW := Lib.hid (word_off (f := f) (i := i) hk h1)
            have hN1 : nf f i = 0 := by rw [hnf]; unfold pbit; rw [if_neg h1]
            rw [hN1] at hgo b1
            have HGO := Lib.hid hgo
            have HGD := Lib.hid hgd
            have HOO := Lib.hid ho
            have HDD := Lib.hid hd
            have HBX := Lib.hid hbox
            clear hrow ho hd hbox hgA hgB hgo hgd heq hsw ht hk hnf h1 hN1
            generalize nf dflt i = M at HGD b1 ⊢
            go_wp2_with (first
              | (go_at_call 59; ((with_reducible refine (HGO.out _ (HOO.out.alloc _) (HBX.out.alloc _)).mono ?_); rintro e w5 ⟨rfl, rfl⟩))
              | (go_at_call 59; ((with_reducible refine (HGD.out _ (HDD.out.alloc _) (HBX.out.alloc _)).mono ?_); rintro e w5 ⟨rfl, rfl⟩; have HOV := Lib.hid (HOW.out.alloc (.cells #[.string (nm i), .int .i64 0, .func (.func 59) #[] #[.pointer (some ⟨bs i, 0, none⟩)], .func (.func (sF i)) #[] #[.pointer (some ⟨bs i, 0, none⟩)]] 44)); have HBV := Lib.hid (HBE.out.alloc HBE.out.size (.cells #[.string (nm i), .int .i64 0, .func (.func 59) #[] #[.pointer (some ⟨bs i, 0, none⟩)], .func (.func (sF i)) #[] #[.pointer (some ⟨bs i, 0, none⟩)]] 44)); have HTV := Lib.hid (HT4.out.below HBV.out); have HSB := Lib.hid HOW.out.lt; have cs0 := (Blk.new wr 44 #[.string (nm i), .int .i64 0, .func (.func 59) #[] #[.pointer (some ⟨bs i, 0, none⟩)], .func (.func (sF i)) #[] #[.pointer (some ⟨bs i, 0, none⟩)]]).cell 0 (v := .string (nm i)) rfl; have cs1 := (Blk.new wr 44 #[.string (nm i), .int .i64 0, .func (.func 59) #[] #[.pointer (some ⟨bs i, 0, none⟩)], .func (.func (sF i)) #[] #[.pointer (some ⟨bs i, 0, none⟩)]]).cell 1 (v := .int .i64 0) rfl; clear q0 q1 q2 q3 HOO HDD HBX HGO HGD; generalize wr.alloc (.cells #[.string (nm i), .int .i64 0, .func (.func 59) #[] #[.pointer (some ⟨bs i, 0, none⟩)], .func (.func (sF i)) #[] #[.pointer (some ⟨bs i, 0, none⟩)]] 44) = wv at HOV HBV HTV cs0 cs1 ⊢; generalize wr.heap.size = sb at cs0 cs1 HSB ⊢))
              | (at_builtin; refine wpList_append_own _ rfl (.tmp 25) (.tmp 29) 24 rfl w4.heap.size 9 i0 (.string ⟨#[]⟩) 1 16 Tryd.underlying24 hi0 hz0 hz1 hz2 rfl (by decide) _ _ _ rfl (HOV.out.alloc _) ⟨wv.heap.size, 0, none⟩ 1 1 [.string (⟨#[45, 45, 110, 111, 45]⟩ ++ nm i)] rfl rfl (one_new wv _) (one_cell _) (by unfold maxLen; omega) (by omega) (Nat.le_trans HBV.out.size (by simp)) ?_; intro v' w6 hown6 hgrow6 _; have HO6 := Lib.hid (app_own (HPL.out.trans (by rw [HW.out])) rfl hown6); have HB6 := Lib.hid (app_below HBV.out HOV.out hgrow6 HBV.out.size); clear hown6 hgrow6))
            go_roundg (21 - (i + 1))
            case measure => have := HG.out; omega
            case rel => exact ⟨i + 1, by omega, rfl, by go_num, HO6, HB6⟩
      · rw [hgA hsw] at q2 hgo hgd
        by_cases heq : nf f i = nf dflt i
        · have HPL := Lib.hid (printL_skip (f := f) heq)
          have b1 : (nf f i == nf dflt i) = true := by simpa using heq
          rw [← heq] at hgd
          have HGO := Lib.hid hgo
          have HGD := Lib.hid hgd
          have HOO := Lib.hid ho
          have HDD := Lib.hid hd
          have HBX := Lib.hid hbox
          clear hrow ho hd hbox hgA hgB hgo hgd heq b1 hsw ht z0
          generalize nf f i = N at HGO HGD ⊢
          go_wp2_with (first
            | (go_at_call 57; ((with_reducible refine (HGO.out _ (HOO.out.alloc _) (HBX.out.alloc _)).mono ?_); rintro e w5 ⟨rfl, rfl⟩))
            | (go_at_call 57; ((with_reducible refine (HGD.out _ (HDD.out.alloc _) (HBX.out.alloc _)).mono ?_); rintro e w5 ⟨rfl, rfl⟩)))
          go_roundg (21 - (i + 1))
          case measure => have := HG.out; omega
          case rel => exact ⟨i + 1, by omega, rfl, by go_num, Lib.hid (by rw [HPL.out]; exact HOW.out.alloc _), Lib.hid (HBE.out.alloc HBE.out.size _)⟩
        ·
          have HPL := Lib.hid (printL_take (f := f) heq)
          have b1 : (nf f i == nf dflt i) = false := by simpa using heq
          have hnf : nf f i = f i := by unfold nf; rw [if_neg hsw]
          rw [hnf] at hgo b1
          rcases kd_three i hit with ⟨hk, _, hx⟩ | ⟨hk, hi00⟩ | ⟨_, hx⟩
          · obtain ⟨f0, f1⟩ := ok_bd HOK.out i hx
            obtain ⟨m, hm⟩ : ∃ m : Nat, f i = (m : Int) := ⟨(f i).toNat, by omega⟩
            have HW := Lib.hid (word_num (f := f) (i := i) hk hm)
            rw [hk] at q1
            rw [hm] at hgo b1 f1
            have m1 : m ≤ 2147483647 := by omega
            have z1 := digB_size m (by omega)
            have HGO := Lib.hid hgo
            have HGD := Lib.hid hgd
            have HOO := Lib.hid ho
            have HDD := Lib.hid hd
            have HBX := Lib.hid hbox
            clear hrow ho hd hbox hgA hgB hgo hgd heq hsw ht hk hnf hm f0 f1
            generalize nf dflt i = M at HGD b1 ⊢
            go_wp2_with (first
              | (go_at_call 57; ((with_reducible refine (HGO.out _ (HOO.out.alloc _) (HBX.out.alloc _)).mono ?_); rintro e w5 ⟨rfl, rfl⟩))
              | (go_at_call 57; ((with_reducible refine (HGD.out _ (HDD.out.alloc _) (HBX.out.alloc _)).mono ?_); rintro e w5 ⟨rfl, rfl⟩; have HOV := Lib.hid (HOW.out.alloc (.cells #[.string (nm i), .int .i64 1, .func (.func 57) #[] #[.pointer (some ⟨bs i, 0, none⟩)], .func (.func (sF i)) #[] #[.pointer (some ⟨bs i, 0, none⟩)]] 44)); have HBV := Lib.hid (HBE.out.alloc HBE.out.size (.cells #[.string (nm i), .int .i64 1, .func (.func 57) #[] #[.pointer (some ⟨bs i, 0, none⟩)], .func (.func (sF i)) #[] #[.pointer (some ⟨bs i, 0, none⟩)]] 44)); have HTV := Lib.hid (HT4.out.below HBV.out); have HSB := Lib.hid HOW.out.lt; have cs0 := (Blk.new wr 44 #[.string (nm i), .int .i64 1, .func (.func 57) #[] #[.pointer (some ⟨bs i, 0, none⟩)], .func (.func (sF i)) #[] #[.pointer (some ⟨bs i, 0, none⟩)]]).cell 0 (v := .string (nm i)) rfl; have cs1 := (Blk.new wr 44 #[.string (nm i), .int .i64 1, .func (.func 57) #[] #[.pointer (some ⟨bs i, 0, none⟩)], .func (.func (sF i)) #[] #[.pointer (some ⟨bs i, 0, none⟩)]]).cell 1 (v := .int .i64 1) rfl; clear q0 q1 q2 q3 HOO HDD HBX HGO HGD; generalize wr.alloc (.cells #[.string (nm i), .int .i64 1, .func (.func 57) #[] #[.pointer (some ⟨bs i, 0, none⟩)], .func (.func (sF i)) #[] #[.pointer (some ⟨bs i, 0, none⟩)]] 44) = wv at HOV HBV HTV cs0 cs1 ⊢; generalize wr.heap.size = sb at cs0 cs1 HSB ⊢)))
            have k1 : ¬ 9223372036854775807 < 2 + (nm i).size := by omega
            have k2 : ¬ 9223372036854775807 < 2 + (nm i).size + 1 := by omega
            have k3 : ¬ 9223372036854775807 < 2 + (nm i).size + 1 + (digB m).size := by omega
            have k4 : 2 + (nm i).size ≤ 9223372036854775807 := by omega
            have k5 : 2 + (nm i).size ≤ 9223372036854775806 := by omega
            have k6 : 2 + (nm i).size + 1 + (digB m).size ≤ 9223372036854775807 := by omega
            go_region_held3 (fun w' => w'.cell? ⟨sb, 0, none⟩ = some (.string (nm i)))
              (first
                | go_keep
                | exact (hf6.cell (a := ⟨sb, 0, none⟩) (lt_of_cell0 cs0) (fun h => h)).trans cs0
                | exact keep_app hgrow8 ((hf6.cell (a := ⟨sb, 0, none⟩) (lt_of_cell0 cs0) (fun h => h)).trans cs0) HSB.out)
              (first
                | (go_at_call 17; (refine (itoa_spec m (by omega) _ HTV.out.drew).mono ?_; rintro e w6 ⟨rfl, hf6⟩; have HO6 := Lib.hid (own_fr HOV.out.drew hf6); have HB6 := Lib.hid (HBV.out.trans (Below.of_fr (((Fr.refl _ wv).drew).trans hf6 (fun _ _ h => h)) HBV.out.size))))
                | (refine step_app_str w6 _ rfl _ _ rfl w4.heap.size _ _ _ HO6.out rfl rfl (Nat.le_trans hpl (by omega)) HB6.out.size ?_; intro gg cap7 w7 hown7 hgrow7; have hgrow8 := hgrow7; have HO7 := Lib.hid (app_own (HPL.out.trans (by rw [HW.out])) rfl hown7); have HB7 := Lib.hid (app_below HB6.out HO6.out hgrow7 HB6.out.size); clear hown7 hgrow7))
            go_wp2_with (fail)
            go_roundg (21 - (i + 1))
            case measure => have := HG.out; omega
            case rel => exact ⟨i + 1, by omega, rfl, by go_num, HO7, HB7⟩
          · obtain ⟨f0, f1, _⟩ := (okS_iff f).1 HOK.out
            rw [← hi00] at f0 f1
            obtain ⟨m, hm⟩ : ∃ m : Nat, f i = (m : Int) := ⟨(f i).toNat, by omega⟩
            have HW := Lib.hid (word_when (f := f) (i := i) hk hm)
            rw [hk] at q1
            rw [hm] at hgo b1 f1
            have m1 : m < 4 := by omega
            have z1 := whn_size m
            have HGO := Lib.hid hgo
            have HGD := Lib.hid hgd
            have HOO := Lib.hid ho
            have HDD := Lib.hid hd
            have HBX := Lib.hid hbox
            clear hrow ho hd hbox hgA hgB hgo hgd heq hsw ht hk hnf hm f0 f1 hi00
            generalize nf dflt i = M at HGD b1 ⊢
            go_wp2_with (first
              | (go_at_call 57; ((with_reducible refine (HGO.out _ (HOO.out.alloc _) (HBX.out.alloc _)).mono ?_); rintro e w5 ⟨rfl, rfl⟩))
              | (go_at_call 57; ((with_reducible refine (HGD.out _ (HDD.out.alloc _) (HBX.out.alloc _)).mono ?_); rintro e w5 ⟨rfl, rfl⟩; have HOV := Lib.hid (HOW.out.alloc (.cells #[.string (nm i), .int .i64 2, .func (.func 57) #[] #[.pointer (some ⟨bs i, 0, none⟩)], .func (.func (sF i)) #[] #[.pointer (some ⟨bs i, 0, none⟩)]] 44)); have HBV := Lib.hid (HBE.out.alloc HBE.out.size (.cells #[.string (nm i), .int .i64 2, .func (.func 57) #[] #[.pointer (some ⟨bs i, 0, none⟩)], .func (.func (sF i)) #[] #[.pointer (some ⟨bs i, 0, none⟩)]] 44)); have HTV := Lib.hid (HT4.out.below HBV.out); have HSB := Lib.hid HOW.out.lt; have cs0 := (Blk.new wr 44 #[.string (nm i), .int .i64 2, .func (.func 57) #[] #[.pointer (some ⟨bs i, 0, none⟩)], .func (.func (sF i)) #[] #[.pointer (some ⟨bs i, 0, none⟩)]]).cell 0 (v := .string (nm i)) rfl; have cs1 := (Blk.new wr 44 #[.string (nm i), .int .i64 2, .func (.func 57) #[] #[.pointer (some ⟨bs i, 0, none⟩)], .func (.func (sF i)) #[] #[.pointer (some ⟨bs i, 0, none⟩)]]).cell 1 (v := .int .i64 2) rfl; clear q0 q1 q2 q3 HOO HDD HBX HGO HGD; generalize wr.alloc (.cells #[.string (nm i), .int .i64 2, .func (.func 57) #[] #[.pointer (some ⟨bs i, 0, none⟩)], .func (.func (sF i)) #[] #[.pointer (some ⟨bs i, 0, none⟩)]] 44) = wv at HOV HBV HTV cs0 cs1 ⊢; generalize wr.heap.size = sb at cs0 cs1 HSB ⊢)))
            have k1 : ¬ 9223372036854775807 < 2 + (nm i).size := by omega
            have k2 : ¬ 9223372036854775807 < 2 + (nm i).size + 1 := by omega
            have k3 : ¬ 9223372036854775807 < 2 + (nm i).size + 1 + (whn m).size := by omega
            have k4 : 2 + (nm i).size ≤ 9223372036854775807 := by omega
            have k5 : 2 + (nm i).size ≤ 9223372036854775806 := by omega
            have k6 : 2 + (nm i).size + 1 + (whn m).size ≤ 9223372036854775807 := by omega
            go_region_held3 (fun w' => w'.cell? ⟨sb, 0, none⟩ = some (.string (nm i)))
              (first
                | go_keep
                | exact (hf6.cell (a := ⟨sb, 0, none⟩) (lt_of_cell0 cs0) (fun h => h)).trans cs0
                | exact keep_app hgrow8 ((hf6.cell (a := ⟨sb, 0, none⟩) (lt_of_cell0 cs0) (fun h => h)).trans cs0) HSB.out)
              (first
                | (go_at_call 18; (refine (when_fr m m1 _).mono ?_; rintro e w6 ⟨rfl, hf6⟩; have HO6 := Lib.hid (own_fr HOV.out.drew hf6); have HB6 := Lib.hid (HBV.out.trans (Below.of_fr (((Fr.refl _ wv).drew).trans hf6 (fun _ _ h => h)) HBV.out.size))))
                | (refine step_app_str w6 _ rfl _ _ rfl w4.heap.size _ _ _ HO6.out rfl rfl (Nat.le_trans hpl (by omega)) HB6.out.size ?_; intro gg cap7 w7 hown7 hgrow7; have hgrow8 := hgrow7; have HO7 := Lib.hid (app_own (HPL.out.trans (by rw [HW.out])) rfl hown7); have HB7 := Lib.hid (app_below HB6.out HO6.out hgrow7 HB6.out.size); clear hown7 hgrow7))
            go_wp2_with (fail)
            go_roundg (21 - (i + 1))
            case measure => have := HG.out; omega
            case rel => exact ⟨i + 1, by omega, rfl, by go_num, HO7, HB7⟩
          · exact absurd hx hsw
    · obtain rfl : i = 21 := by omega
      obtain ⟨ad, cap, hv, hst⟩ := owns_strs HOW.out (by have := printL_len f 21; omega)
      subst hv
      have HST := Lib.hid hst
      have HFF := Lib.hid (HF4.out.trans (Fr.ofBelow HBE.out (fun _ => False)) (fun _ _ h => h))
      clear hst HG
      go_wp2_with (fail)
      go_ret2
      exact ⟨ad, cap, rfl, HST.out, HFF.out⟩
end Go.Proofs.YtlfaeabbfejjcaaDoor
