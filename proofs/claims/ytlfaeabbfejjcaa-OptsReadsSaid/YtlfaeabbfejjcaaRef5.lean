/- The walk of the reference's word. -/
import Derived.Test.YtlfaeabbfejjcaaRef1
import Derived.Test.YtlfaeabbfejjcaaRef4
import Derived.Deep.LoopGhost
namespace Go.Proofs.Ytlfaeabbfejjcaa
open Go.RowKit

section
variable {w : List UInt8} {k : Nat}
theorem wl_step (hk : k < 21) : 21 - k = (20 - k) + 1 ∧ 20 - (20 - k) = k ∧ 21 - (k + 1) = 20 - k := by omega
theorem wl_sw1 (hk : k < 21) (h : 2 ≤ k ∧ k ≤ 17) (e : w = [45, 45] ++ (nm k).data.toList) : wordL w (21 - k) = ((k : Int), 1) := by
  obtain ⟨h1, h2, _⟩ := wl_step hk
  rw [h1, wordL, h2, if_pos h, if_pos e]
theorem wl_sw0 (hk : k < 21) (h : 2 ≤ k ∧ k ≤ 17) (e : ¬ w = [45, 45] ++ (nm k).data.toList) (e0 : w = [45, 45, 110, 111, 45] ++ (nm k).data.toList) : wordL w (21 - k) = ((k : Int), 0) := by
  obtain ⟨h1, h2, _⟩ := wl_step hk
  rw [h1, wordL, h2, if_pos h, if_neg e, if_pos e0]
theorem wl_swn (hk : k < 21) (h : 2 ≤ k ∧ k ≤ 17) (e : ¬ w = [45, 45] ++ (nm k).data.toList) (e0 : ¬ w = [45, 45, 110, 111, 45] ++ (nm k).data.toList) : wordL w (21 - k) = wordL w (21 - (k + 1)) := by
  obtain ⟨h1, h2, h3⟩ := wl_step hk
  rw [h1, wordL, h2, if_pos h, if_neg e, if_neg e0, h3]
theorem wl_no (hk : k < 21) (h : ¬ (2 ≤ k ∧ k ≤ 17)) (e : Lib.hasPrefix w (pf k) = false) : wordL w (21 - k) = wordL w (21 - (k + 1)) := by
  obtain ⟨h1, h2, h3⟩ := wl_step hk
  rw [h1, wordL, h2, if_neg h, if_neg (by rw [e]; simp), h3]
theorem wl_num (hk : k < 21) (h : ¬ (2 ≤ k ∧ k ≤ 17)) (e : Lib.hasPrefix w (pf k) = true) (h0 : 0 < k) : wordL w (21 - k) = if numS (Lib.trimPrefix w (pf k)) < 0 then (-1, 0) else ((k : Int), numS (Lib.trimPrefix w (pf k))) := by
  obtain ⟨h1, h2, _⟩ := wl_step hk
  rw [h1, wordL, h2, if_neg h, if_pos e, if_pos h0]
theorem wl_when (e : Lib.hasPrefix w (pf 0) = true) : wordL w 21 = if (whenS (Lib.trimPrefix w (pf 0))).2 = true then (0, (whenS (Lib.trimPrefix w (pf 0))).1) else (-1, 0) := by
  rw [wordL, if_neg (by decide), if_pos e, if_neg (by decide)]
end

theorem Fr.mono0 {a b c : World} (h : Fr (fun _ => False) a b) (k : Fr (fun _ => False) b c) : Fr (fun _ => False) a c := h.trans k (fun _ _ h => h)
theorem Blk.fr0 {w w' : World} {b : Nat} {T : TypeId} {vs : Array Value} (h : Blk w b T vs) (f : Fr (fun _ => False) w w') : Blk w' b T vs := h.fr f (fun h => h)

set_option maxHeartbeats 16000000 in
theorem word_spec (s : ByteArray) (w : World) :
    Calls Try.prog 21 #[.string s] w fun e w' => e = .returned (.tuple #[.int .i64 (wordL s.data.toList 21).1, .int .i64 (wordL s.data.toList 21).2]) ∧ Fr (fun _ => False) w w' := by
  go_enter Try.func21, Try.ntmps21
  go_wp2_with (go_at_call 52; refine (names_spec _).mono ?_; rintro e w1 ⟨g, rfl, hb1, hf1⟩)
  have HB1 := Lib.hid hb1
  have HF1 := Lib.hid hf1
  clear hb1 hf1
  go_loopg [5] 21 (fun gk x wr => ∃ k : Nat, k ≤ 21 ∧ gk = 21 - k ∧ x = .int .i64 k ∧ Hid (wordL s.data.toList 21 = wordL s.data.toList (21 - k)) ∧ Hid (Blk wr g 9 ncells) ∧ Hid (Fr (fun _ => False) w wr))
  case atStart => exact ⟨0, by omega, rfl, rfl, Lib.hid rfl, HB1, HF1⟩
  case round =>
    obtain ⟨k, hk, hgk, rfl, HW, HB, HF⟩ := hrel
    by_cases hlt : k < 21
    · have q0 := HB.out.cell k (ncells_get k hlt)
      have z0 := nm_small k hlt
      by_cases hs : 2 ≤ k ∧ k ≤ 17
      · obtain ⟨hs1, hs2⟩ := hs
        have t1 : decide (2 ≤ k) = true := by simpa using hs1
        have t2 : decide (k ≤ 17) = true := by simpa using hs2
        have b1 : (s.toList == ((⟨#[45, 45]⟩ : ByteArray) ++ nm k).toList) = decide (s.data.toList = [45, 45] ++ (nm k).data.toList) := by rw [ba_eq, pre_data2]
        have b2 : (s.toList == ((⟨#[45, 45, 110, 111, 45]⟩ : ByteArray) ++ nm k).toList) = decide (s.data.toList = [45, 45, 110, 111, 45] ++ (nm k).data.toList) := by rw [ba_eq, pre_data2]
        by_cases e1 : s.data.toList = [45, 45] ++ (nm k).data.toList
        · have hr := HW.out.trans (wl_sw1 hlt ⟨hs1, hs2⟩ e1)
          rw [decide_eq_true e1] at b1
          have HR := Lib.hid hr
          clear b2 e1 hr hgk
          go_wp2_with (fail)
          have hx := HR.out
          go_ret2
          exact ⟨by rw [hx]; rfl, HF.out⟩
        · rw [decide_eq_false e1] at b1
          by_cases e2 : s.data.toList = [45, 45, 110, 111, 45] ++ (nm k).data.toList
          · have hr := HW.out.trans (wl_sw0 hlt ⟨hs1, hs2⟩ e1 e2)
            rw [decide_eq_true e2] at b2
            have HR := Lib.hid hr
            clear e1 e2 hr hgk
            go_wp2_with (fail)
            have hx := HR.out
            go_ret2
            exact ⟨by rw [hx]; rfl, HF.out⟩
          · have hr := HW.out.trans (wl_swn hlt ⟨hs1, hs2⟩ e1 e2)
            rw [decide_eq_false e2] at b2
            have HR := Lib.hid hr
            have HG := Lib.hid hgk
            clear e1 e2 hr hgk
            go_wp2_with (fail)
            go_roundg (21 - (k + 1))
            case measure => have := HG.out; omega
            case rel => exact ⟨k + 1, by omega, rfl, by go_num, HR, HB, HF⟩
      · have hpd : ((⟨#[45, 45]⟩ : ByteArray) ++ nm k ++ ⟨#[61]⟩).data.toList = pf k := by rw [pre_data]; rfl
        rcases hp : Lib.hasPrefix s.data.toList (pf k) with _ | _
        · have hc := fun wx => front_no s (⟨#[45, 45]⟩ ++ nm k ++ ⟨#[61]⟩) (by rw [hpd]; exact hp) wx
          have hr := HW.out.trans (wl_no hlt hs hp)
          have HC := Lib.hid hc
          have HR := Lib.hid hr
          have HG := Lib.hid hgk
          clear hc hr hgk hp hpd
          by_cases h2 : 2 ≤ k
          · have h17 : 17 < k := by omega
            have t1 : decide (2 ≤ k) = true := by simpa using h2
            have t2 : decide (k ≤ 17) = false := by simpa using h17
            clear hs
            go_wp2_with (go_at_call 53; refine (HC.out _).mono ?_; rintro e w2 ⟨rfl, rfl⟩)
            go_roundg (21 - (k + 1))
            case measure => have := HG.out; omega
            case rel => exact ⟨k + 1, by omega, rfl, by go_num, HR, HB, HF⟩
          · have t1 : decide (2 ≤ k) = false := by simpa using h2
            clear hs
            go_wp2_with (go_at_call 53; refine (HC.out _).mono ?_; rintro e w2 ⟨rfl, rfl⟩)
            go_roundg (21 - (k + 1))
            case measure => have := HG.out; omega
            case rel => exact ⟨k + 1, by omega, rfl, by go_num, HR, HB, HF⟩
        · have hc := fun wx => front_yes s (⟨#[45, 45]⟩ ++ nm k ++ ⟨#[61]⟩) (by rw [hpd]; exact hp) wx
          rw [hpd] at hc
          obtain ⟨r, hrr⟩ : ∃ r : ByteArray, r = ⟨(Lib.trimPrefix s.data.toList (pf k)).toArray⟩ := ⟨_, rfl⟩
          have hrd : Lib.trimPrefix s.data.toList (pf k) = r.data.toList := by rw [hrr]
          rw [← hrr] at hc
          have HC := Lib.hid hc
          by_cases h0 : 0 < k
          · have hr := HW.out.trans (wl_num hlt hs hp h0)
            rw [hrd] at hr
            have hn := fun wx => rnumber_spec r wx
            obtain ⟨n, hnn⟩ : ∃ n, n = numS r.data.toList := ⟨_, rfl⟩
            rw [← hnn] at hr hn
            have HN := Lib.hid hn
            have HR := Lib.hid hr
            have HK := Lib.hid hs
            clear hc hr hgk hp hpd hnn hn hrr hrd hs
            by_cases h2 : 2 ≤ k
            · have h17 : 17 < k := by have := HK.out; omega
              have t1 : decide (2 ≤ k) = true := by simpa using h2
              have t2 : decide (k ≤ 17) = false := by simpa using h17
              by_cases hneg : n < 0
              · go_wp2_with (first | (go_at_call 53; refine (HC.out _).mono ?_; rintro e w2 ⟨rfl, rfl⟩) | (go_at_call 54; refine (HN.out _).mono ?_; rintro e w3 ⟨rfl, hf3⟩))
                have hx := HR.out
                rw [if_pos hneg] at hx
                go_ret2
                exact ⟨by rw [hx]; rfl, HF.out.mono0 hf3⟩
              · go_wp2_with (first | (go_at_call 53; refine (HC.out _).mono ?_; rintro e w2 ⟨rfl, rfl⟩) | (go_at_call 54; refine (HN.out _).mono ?_; rintro e w3 ⟨rfl, hf3⟩; have HF := Lib.hid (HF.out.mono0 hf3); clear hf3))
                have hx := HR.out
                rw [if_neg (show ¬ n < 0 by omega)] at hx
                go_ret2
                exact ⟨by rw [hx]; rfl, HF.out⟩
            · have t1 : decide (2 ≤ k) = false := by simpa using h2
              by_cases hneg : n < 0
              · go_wp2_with (first | (go_at_call 53; refine (HC.out _).mono ?_; rintro e w2 ⟨rfl, rfl⟩) | (go_at_call 54; refine (HN.out _).mono ?_; rintro e w3 ⟨rfl, hf3⟩))
                have hx := HR.out
                rw [if_pos hneg] at hx
                go_ret2
                exact ⟨by rw [hx]; rfl, HF.out.mono0 hf3⟩
              · go_wp2_with (first | (go_at_call 53; refine (HC.out _).mono ?_; rintro e w2 ⟨rfl, rfl⟩) | (go_at_call 54; refine (HN.out _).mono ?_; rintro e w3 ⟨rfl, hf3⟩; have HF := Lib.hid (HF.out.mono0 hf3); clear hf3))
                have hx := HR.out
                rw [if_neg (show ¬ n < 0 by omega)] at hx
                go_ret2
                exact ⟨by rw [hx]; rfl, HF.out⟩
          · obtain rfl : k = 0 := by omega
            have hr := wl_when hp
            rw [hrd] at hr
            have HR := Lib.hid hr
            clear hc hr hgk hp hpd hrr hrd hs h0 HW
            go_wp2_with (first | (go_at_call 53; refine (HC.out _).mono ?_; rintro e w2 ⟨rfl, rfl⟩))
            go_loopg [8] 4 (fun gq x wi => ∃ q : Nat, q ≤ 4 ∧ gq = 4 - q ∧ x = .int .i64 q ∧ Hid (∀ j, j < q → r.data.toList ≠ (whn j).data.toList) ∧ Hid (Fr (fun _ => False) w wi))
            case atStart => exact ⟨0, by omega, rfl, rfl, Lib.hid (fun j hj => by omega), HF⟩
            case round =>
              obtain ⟨q, hq, hgq, rfl, HM, HI⟩ := hrel
              have HG := Lib.hid hgq
              clear hgq
              by_cases hq4 : q < 4
              · have b1 : ((whn q).toList == r.toList) = decide ((whn q).data.toList = r.data.toList) := ba_eq _ _
                by_cases e1 : (whn q).data.toList = r.data.toList
                · rw [decide_eq_true e1] at b1
                  have hx := HR.out
                  rw [whenS_hit hq4 e1.symm] at hx
                  have HX := Lib.hid hx
                  clear hx e1
                  go_wp2_with (go_at_call 55; refine (whens_spec _).mono ?_; rintro e w2 ⟨g2, rfl, hb2, hf2⟩; have q2 := hb2.cell q (wcells_get q hq4); have HF2 := Lib.hid hf2; clear hb2 hf2)
                  have hx := HX.out
                  go_ret2
                  exact ⟨by rw [hx]; rfl, HI.out.mono0 HF2.out⟩
                · rw [decide_eq_false e1] at b1
                  have hm : ∀ j, j < q + 1 → r.data.toList ≠ (whn j).data.toList := fun j hj => by
                    rcases Nat.lt_or_ge j q with h | h
                    · exact HM.out j h
                    · obtain rfl : j = q := by omega
                      exact fun e => e1 e.symm
                  have HM2 := Lib.hid hm
                  clear hm e1
                  go_wp2_with (go_at_call 55; refine (whens_spec _).mono ?_; rintro e w2 ⟨g2, rfl, hb2, hf2⟩; have q2 := hb2.cell q (wcells_get q hq4); have HF2 := Lib.hid (HI.out.mono0 hf2); clear hb2 hf2)
                  go_roundg (4 - (q + 1))
                  case measure => have := HG.out; omega
                  case rel => exact ⟨q + 1, by omega, rfl, by go_num, HM2, HF2⟩
              · obtain rfl : q = 4 := by omega
                have hx := HR.out
                rw [whenS_miss HM.out] at hx
                have HX := Lib.hid hx
                clear hx
                go_wp2_with (fail)
                have hx := HX.out
                go_ret2
                exact ⟨by rw [hx]; rfl, HI.out⟩
    · obtain rfl : k = 21 := by omega
      have hr := HW.out
      have HR := Lib.hid hr
      clear hr hgk
      go_wp2_with (fail)
      have hx := HR.out
      go_ret2
      exact ⟨by rw [hx]; rfl, HF.out⟩
end Go.Proofs.Ytlfaeabbfejjcaa
