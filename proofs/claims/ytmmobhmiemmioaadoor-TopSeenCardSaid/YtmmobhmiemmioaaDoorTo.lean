/- The walk of TopSeen. -/
import Derived.Test.YtmmobhmiemmioaaDoorAl
import Derived.Test.YtmmobhmiemmioaaDoorRu
namespace Go.Proofs.YtmmobhmiemmioaaDoor
open Go.RowKit

/-- What is known of a path above. -/
structure UP (L : List R) (p : ByteArray) (up : ByteArray) : Prop where
  sz : up.size ≤ 250
  hd : hidQ L up true = true → ∀ dir, hidQ L p dir = true
  pre : splB up <+: splB p
  ln : (splB up).length < (splB p).length
theorem UP.start (L : List R) (p : ByteArray) (hp : p.size ≤ 250) (h0 : 0 < p.size) : UP L p (parB p) :=
  ⟨Nat.le_trans (par_size_le p) hp, fun h dir => hidQ_up L p dir h0 h, (splB_par p h0).1, (splB_par p h0).2⟩
theorem UP.next {L : List R} {p up : ByteArray} (h : UP L p up) (h0 : 0 < up.size) : UP L p (parB up) :=
  ⟨Nat.le_trans (par_size_le up) h.sz, fun hh dir => h.hd (hidQ_up L up true h0 hh) dir, (splB_par up h0).1.trans h.pre, Nat.lt_trans (splB_par up h0).2 h.ln⟩

set_option maxHeartbeats 8000000 in
theorem seen_spec (ad : Option Addr) (L : List R) (cap : Nat) (p : ByteArray) (dir : Bool) (w : World) (m : Int) (hL : L.length ≤ 9223372036854775807) (hps : p.size ≤ 9223372036854775807) (hr : RRow w ad L) (hp : ∀ r ∈ L, r.pat.size ≤ 9223372036854775807) (hm : w.cell? ⟨0, 0, none⟩ = some (.int .i64 m)) :
    Calls Tryd.prog 3 #[.slice ad L.length cap, .string p, .bool dir] w fun e w' => e = .returned (.bool true) ∧ Fr (fun _ => False) w w' := by
  have hlt0 : 0 < w.heap.size := World.block_lt_of_cell? w ⟨0, 0, none⟩ hm
  have hcell : ∀ wx, Fr (fun _ => False) w wx → wx.cell? ⟨0, 0, none⟩ = some (.int .i64 m) := fun wx hf => by
    rw [hf.cell (a := ⟨0, 0, none⟩) hlt0 (fun h => h)]; exact hm
  have HCELL := Lib.hid hcell
  have HAL := Lib.hid (fun wx (hf : Fr (fun _ => False) w wx) => alive_spec wx m (HCELL.out wx hf))
  have HF := Lib.hid (Fr.refl (fun _ => False) w)
  have HR := Lib.hid hr
  have HP := Lib.hid hp
  have HCK := Lib.hid (chkl_spec ad L cap w hL hr hp)
  clear hcell hm hr hp hlt0
  by_cases hL12 : L.length ≤ 12
  · by_cases hp250 : p.size ≤ 250
    · have HRT := Lib.hid (fun wx => right_spec p wx (by omega))
      have e12 : (L.length : Int) ≤ 12 := by omega
      have e250 : (p.size : Int) ≤ 250 := by omega
      have d1 : decide ((12 : Int) < (L.length : Int)) = false := by simp; omega
      have d2 : decide ((250 : Int) < (p.size : Int)) = false := by simp; omega
      by_cases hck : chkL L = 0
      · rw [hck] at HCK
        rcases hrt : rightB p with _ | _
        · rw [hrt] at HRT
          clear hck hrt hL12 hp250 hL hps
          generalize L.length = n at HCK e12 d1 ⊢
          go_enter Tryd.func3, Tryd.ntmps3
          go_wp2_with (first | (go_at_call 4; (refine HCK.out.mono ?_); rintro e w4 ⟨rfl, hf⟩; have HF := Lib.hid hf; clear hf) | (go_at_call 5; (refine (HRT.out _).mono ?_); rintro e w5 ⟨rfl, hf⟩; have HF := Lib.hid (HF.out.trans hf (fun _ _ h => h)); clear hf) | (go_at_call 6; (refine (HAL.out _ HF.out).mono ?_); rintro e w6 ⟨rfl, hf⟩; have HF := Lib.hid (HF.out.trans hf (fun _ _ h => h)); clear hf) | fail)
          go_ret
          exact ⟨rfl, HF.out⟩
        · rcases hpe : (p.toList == []) with _ | _
          · have hpe2 : ¬ p.toList = [] := by simpa using hpe
            have h0 : 0 < p.size := by
              have h3 := hpe
              rw [empty_size] at h3
              have : ¬ p.size = 0 := by simpa using h3
              omega
            have hrt' := hrt
            rw [hrt] at HRT
            have HPA := Lib.hid (fun wx => parent_spec p wx (by omega))
            have HU0 := Lib.hid (UP.start L p hp250 h0)
            have HCK0 := Lib.hid hck
            have HH := Lib.hid (fun q d wx (hx : RRow wx ad L) (hq : q.size ≤ 800) => hid_spec ad L cap q d wx (by omega) hx HP.out hq)
            have HHP := Lib.hid (fun wx (hx : RRow wx ad L) => hid_spec ad L cap p dir wx (by omega) hx HP.out (by omega))
            have HSP := Lib.hid (fun wx (hx : RRow wx ad L) => saf_spec ad L cap p dir wx (by omega) hx HP.out (by omega))
            have HH3 := Lib.hid (fun ad2 cap2 wx (hx : RRow wx ad2 L) => hid_spec ad2 L cap2 p dir wx (by omega) hx HP.out (by omega))
            have HS3 := Lib.hid (fun ad2 cap2 wx (hx : RRow wx ad2 L) => saf_spec ad2 L cap2 p dir wx (by omega) hx HP.out (by omega))
            have HH4 : Hid (∀ wx, Calls Tryd.prog 8 #[.slice none 0 0, .string p, .bool dir] wx fun e w' => e = .returned (.bool false) ∧ Fr (fun _ => False) wx w') := Lib.hid (fun wx => by
              have := hid_spec none [] 0 p dir wx (by decide) (RRow.nil wx none) (fun r h => by cases h) (by omega)
              rw [show hidS [] p dir = false by unfold hidS; rw [hidQ_none, Bool.and_false]] at this
              exact this)
            have HTX := Lib.hid (fun wx (hx : RRow wx ad L) => txt_spec ad L cap wx HCK0.out hx)
            have HLN := Lib.hid (fun wx (hf : Fr (fun _ => False) w wx) => lin_spec L wx m HCK0.out (HCELL.out wx hf))
            have HDP := Lib.hid (fun wx => depth_spec p wx (by omega))
            have HUN := Lib.hid (fun q wx (h1 : UP L p q) (h2 : 0 < q.size) => under_spec p q wx (by omega) (by have := h1.sz; omega) h2 h1.pre)
            have HHID := Lib.hid (fun q (h1 : UP L p q) (h2 : hidS L q true = true) => (show hidS L p dir = true by
              unfold hidS at h2 ⊢
              rw [hrt']
              have h3 : hidQ L q true = true := by
                cases hq : hidQ L q true
                · rw [hq, Bool.and_false] at h2; exact h2
                · rfl
              rw [h1.hd h3 dir]; rfl))
            have hdb := splB_len p
            obtain ⟨D, hD⟩ : ∃ D, D = (splB p).length := ⟨_, rfl⟩
            obtain ⟨hv, hhv⟩ : ∃ hv, hv = hidS L p dir := ⟨_, rfl⟩
            obtain ⟨sv, hsv⟩ : ∃ sv, sv = safS L p dir := ⟨_, rfl⟩
            rw [← hhv] at HHP HH3 HHID
            rw [← hsv] at HSP HS3
            rw [← hD] at HDP hdb
            have HD := Lib.hid hD
            have D2 : (D : Int) ≤ 1000 := by omega
            clear hrt' hrt hck hL12 hp250 hL hps h0 hhv hsv hD hdb
            generalize L.length = n at HCK e12 d1 HH HHP HSP HH3 HS3 HTX HLN ⊢
            generalize mkB (txL L) = tx at HTX HLN
            go_enter Tryd.func3, Tryd.ntmps3
            go_wp2_with (first | (go_at_call 4; (refine HCK.out.mono ?_); rintro e w4 ⟨rfl, hf⟩; have HF := Lib.hid hf; clear hf) | (go_at_call 5; (refine (HRT.out _).mono ?_); rintro e w5 ⟨rfl, hf⟩; have HF := Lib.hid (HF.out.trans hf (fun _ _ h => h)); clear hf) | (go_at_call 7; (refine (HPA.out _).mono ?_); rintro e w7 ⟨rfl, rfl⟩) | fail)
            go_loopg [7] (parB p).size (fun gk x7 wr => ∃ up : ByteArray, Hid (gk = up.size) ∧ x7 = .string up ∧ Hid (UP L p up) ∧ Hid (Fr (fun _ => False) w wr))
            case atStart => exact ⟨parB p, Lib.hid rfl, rfl, HU0, HF⟩
            case round =>
              obtain ⟨up, HG, rfl, HUX, HF⟩ := hrel
              rcases hue : (up.toList == []) with _ | _
              · have hue2 : ¬ up.toList = [] := by simpa using hue
                have hu0 : 0 < up.size := by
                  have h3 := hue
                  rw [empty_size] at h3
                  have : ¬ up.size = 0 := by simpa using h3
                  omega
                have husz := HUX.out.sz
                have HU1 := Lib.hid (fun wx (hx : RRow wx ad L) => HH.out up true wx hx (by omega))
                have HUD := Lib.hid (fun wx => depth_spec up wx (by omega))
                have HUU := Lib.hid (fun wx => HUN.out up wx HUX.out hu0)
                have HUP := Lib.hid (fun wx => parent_spec up wx (by omega))
                have HNX := Lib.hid (HUX.out.next hu0)
                have HSZ := Lib.hid (par_size up hu0)
                have hln := HUX.out.ln
                rw [← HD.out] at hln
                have HHI := Lib.hid (HHID.out up HUX.out)
                obtain ⟨E, hE⟩ : ∃ E, E = (splB up).length := ⟨_, rfl⟩
                rw [← hE] at HUD hln
                have g1 : (E : Int) < (D : Int) := by omega
                have g2 : decide ((D : Int) ≤ (E : Int)) = false := by simp; omega
                obtain ⟨hu, hhu⟩ : ∃ hu, hu = hidS L up true := ⟨_, rfl⟩
                rw [← hhu] at HU1 HHI
                clear hE hln husz hu0 hhu
                rcases hu with _ | _
                · skip
                  go_wp2_with (first | (go_at_call 8; (with_reducible refine (HU1.out _ (HR.out.fr HF.out)).mono ?_); rintro e w8 ⟨rfl, hf⟩; have HF := Lib.hid (HF.out.trans hf (fun _ _ h => h)); clear hf) | (go_at_call 9; (with_reducible refine (HUD.out _).mono ?_); rintro e wa ⟨rfl, hf⟩; have HF := Lib.hid (HF.out.trans hf (fun _ _ h => h)); clear hf) | (go_at_call 9; (with_reducible refine (HDP.out _).mono ?_); rintro e wb ⟨rfl, hf⟩; have HF := Lib.hid (HF.out.trans hf (fun _ _ h => h)); clear hf) | (go_at_call 10; (refine (HUU.out _).mono ?_); rintro e wc ⟨rfl, hf⟩; have HF := Lib.hid (HF.out.trans hf (fun _ _ h => h)); clear hf) | (go_at_call 7; (refine (HUP.out _).mono ?_); rintro e wd ⟨rfl, rfl⟩) | fail)
                  go_roundg (parB up).size
                  case measure => have := HG.out; have := HSZ.out; omega
                  case rel => exact ⟨parB up, Lib.hid rfl, rfl, HNX, HF⟩
                · obtain rfl := HHI.out rfl
                  go_wp2_with (first | (go_at_call 8; (with_reducible refine (HU1.out _ (HR.out.fr HF.out)).mono ?_); rintro e w8 ⟨rfl, hf⟩; have HF := Lib.hid (HF.out.trans hf (fun _ _ h => h)); clear hf) | (go_at_call 8; (with_reducible refine (HHP.out _ (HR.out.fr HF.out)).mono ?_); rintro e w9 ⟨rfl, hf⟩; have HF := Lib.hid (HF.out.trans hf (fun _ _ h => h)); clear hf) | (go_at_call 9; (with_reducible refine (HUD.out _).mono ?_); rintro e wa ⟨rfl, hf⟩; have HF := Lib.hid (HF.out.trans hf (fun _ _ h => h)); clear hf) | (go_at_call 9; (with_reducible refine (HDP.out _).mono ?_); rintro e wb ⟨rfl, hf⟩; have HF := Lib.hid (HF.out.trans hf (fun _ _ h => h)); clear hf) | (go_at_call 10; (refine (HUU.out _).mono ?_); rintro e wc ⟨rfl, hf⟩; have HF := Lib.hid (HF.out.trans hf (fun _ _ h => h)); clear hf) | (go_at_call 7; (refine (HUP.out _).mono ?_); rintro e wd ⟨rfl, rfl⟩) | fail)
                  go_roundg (parB up).size
                  case measure => have := HG.out; have := HSZ.out; omega
                  case rel => exact ⟨parB up, Lib.hid rfl, rfl, HNX, HF⟩
              · have hue2 : up.toList = [] := by simpa using hue
                go_wp2_with (first | (go_at_call 11; (refine (HTX.out _ (HR.out.fr HF.out)).mono ?_); rintro e we ⟨rfl, hf⟩; have HF := Lib.hid (HF.out.trans hf (fun _ _ h => h)); clear hf) | (go_at_call 12; (refine (HLN.out _ HF.out).mono ?_); rintro e wf ⟨ad2, cap2, rfl, hr2, hf⟩; have HR2 := Lib.hid hr2; have HF := Lib.hid (HF.out.trans hf (fun _ _ h => h)); clear hf; clear hr2) | (go_at_call 8; (with_reducible refine (HH3.out ad2 cap2 _ HR2.out).mono ?_); rintro e wg ⟨rfl, hf⟩; have HR2 := Lib.hid (HR2.out.fr hf); have HF := Lib.hid (HF.out.trans hf (fun _ _ h => h)); clear hf) | (go_at_call 8; (with_reducible refine (HHP.out _ (HR.out.fr HF.out)).mono ?_); rintro e wh ⟨rfl, hf⟩; have HR2 := Lib.hid (HR2.out.fr hf); have HF := Lib.hid (HF.out.trans hf (fun _ _ h => h)); clear hf) | (go_at_call 13; (with_reducible refine (HS3.out ad2 cap2 _ HR2.out).mono ?_); rintro e wi ⟨rfl, hf⟩; have HR2 := Lib.hid (HR2.out.fr hf); have HF := Lib.hid (HF.out.trans hf (fun _ _ h => h)); clear hf) | (go_at_call 13; (with_reducible refine (HSP.out _ (HR.out.fr HF.out)).mono ?_); rintro e wj ⟨rfl, hf⟩; have HR2 := Lib.hid (HR2.out.fr hf); have HF := Lib.hid (HF.out.trans hf (fun _ _ h => h)); clear hf) | (go_at_call 8; (with_reducible refine (HH4.out _).mono ?_); rintro e wk ⟨rfl, hf⟩; have HR2 := Lib.hid (HR2.out.fr hf); have HF := Lib.hid (HF.out.trans hf (fun _ _ h => h)); clear hf) | (go_at_call 6; (refine (HAL.out _ HF.out).mono ?_); rintro e w6 ⟨rfl, hf⟩; have HF := Lib.hid (HF.out.trans hf (fun _ _ h => h)); clear hf) | fail)
                go_ret
                exact ⟨rfl, HF.out⟩
          · have hpe2 : p.toList = [] := by simpa using hpe
            rw [hrt] at HRT
            clear hck hrt hL12 hp250 hL hps
            generalize L.length = n at HCK e12 d1 ⊢
            go_enter Tryd.func3, Tryd.ntmps3
            go_wp2_with (first | (go_at_call 4; (refine HCK.out.mono ?_); rintro e w4 ⟨rfl, hf⟩; have HF := Lib.hid hf; clear hf) | (go_at_call 5; (refine (HRT.out _).mono ?_); rintro e w5 ⟨rfl, hf⟩; have HF := Lib.hid (HF.out.trans hf (fun _ _ h => h)); clear hf) | (go_at_call 6; (refine (HAL.out _ HF.out).mono ?_); rintro e w6 ⟨rfl, hf⟩; have HF := Lib.hid (HF.out.trans hf (fun _ _ h => h)); clear hf) | fail)
            go_ret
            exact ⟨rfl, HF.out⟩
      · have k1 : (chkL L == 0) = false := by simpa using hck
        obtain ⟨z, hz⟩ : ∃ z, z = chkL L := ⟨_, rfl⟩
        rw [← hz] at HCK hck k1
        clear hz hL12 hp250 hL hps
        generalize L.length = n at HCK e12 d1 ⊢
        go_enter Tryd.func3, Tryd.ntmps3
        go_wp2_with (first | (go_at_call 4; (refine HCK.out.mono ?_); rintro e w4 ⟨rfl, hf⟩; have HF := Lib.hid hf; clear hf) | (go_at_call 6; (refine (HAL.out _ HF.out).mono ?_); rintro e w6 ⟨rfl, hf⟩; have HF := Lib.hid (HF.out.trans hf (fun _ _ h => h)); clear hf) | fail)
        go_ret
        exact ⟨rfl, HF.out⟩
    · have e12 : (L.length : Int) ≤ 12 := by omega
      have e250 : (250 : Int) < (p.size : Int) := by omega
      have d1 : decide ((12 : Int) < (L.length : Int)) = false := by simp; omega
      have d2 : decide ((250 : Int) < (p.size : Int)) = true := by simp; omega
      clear hL12 hp250 hL hps
      generalize L.length = n at HCK e12 d1 ⊢
      go_enter Tryd.func3, Tryd.ntmps3
      go_wp2_with (first | (go_at_call 6; (refine (HAL.out _ HF.out).mono ?_); rintro e w6 ⟨rfl, hf⟩; have HF := Lib.hid (HF.out.trans hf (fun _ _ h => h)); clear hf) | fail)
      go_ret
      exact ⟨rfl, HF.out⟩
  · have e12 : (12 : Int) < (L.length : Int) := by omega
    have d1 : decide ((12 : Int) < (L.length : Int)) = true := by simp; omega
    clear hL12 hL hps
    generalize L.length = n at HCK e12 d1 ⊢
    go_enter Tryd.func3, Tryd.ntmps3
    go_wp2_with (first | (go_at_call 6; (refine (HAL.out _ HF.out).mono ?_); rintro e w6 ⟨rfl, hf⟩; have HF := Lib.hid (HF.out.trans hf (fun _ _ h => h)); clear hf) | fail)
    go_ret
    exact ⟨rfl, HF.out⟩
end Go.Proofs.YtmmobhmiemmioaaDoor
