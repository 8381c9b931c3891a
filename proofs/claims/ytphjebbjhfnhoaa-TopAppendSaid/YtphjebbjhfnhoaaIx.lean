/- index: what an index in memory gives; Find. -/
import Derived.Test.YtphjebbjhfnhoaaNw
namespace Go.Proofs.Ytphjebbjhfnhoaa
open Go.RowKit
theorem IX.fr {l : List UInt8} {B st x : Nat} {vm : Value} {ch H al : Nat} {w w' : World} {S : Nat → Prop} (h : IX l B st x vm ch H al w) (f : Fr S w w') (hx : ¬ S x) (hm : ∀ k, vm.ownBlock = some k → ¬ S k) (hc : ¬ S ch) (ha : ¬ S al) : IX l B st x vm ch H al w' :=
  ⟨h.H1, h.H2, h.xb.fr f hx, h.mks.fr f hm, h.chb.fr f hc, h.alb.fr f ha⟩
theorem IX.frF {l : List UInt8} {B st x : Nat} {vm : Value} {ch H al : Nat} {w w' : World} (h : IX l B st x vm ch H al w) (f : Fr (fun _ => False) w w') : IX l B st x vm ch H al w' := h.fr f (fun x => x) (fun _ _ x => x) (fun x => x) (fun x => x)
/-- The entry at t of a chain. -/
def enH (l : List UInt8) (B H h t : Nat) : Nat := (gH (hdF l B H) (cnt l.length B) (cnt l.length B) (eH (hdF l B H) (cnt l.length B) h + t)).toNat
theorem enH_int (l : List UInt8) (B H h t : Nat) (ht : t < cH (hdF l B H) (cnt l.length B) h) : gH (hdF l B H) (cnt l.length B) (cnt l.length B) (eH (hdF l B H) (cnt l.length B) h + t) = (enH l B H h t : Int) ∧ enH l B H h t < cnt l.length B := by
  have h0 : 0 < cnt l.length B := by have := cH_le (hdF l B H) (cnt l.length B) h; omega
  obtain ⟨b1, b2⟩ := gH_bound (hdF l B H) (cnt l.length B) h0 (cnt l.length B) (eH (hdF l B H) (cnt l.length B) h + t) (Nat.le_refl _)
  unfold enH
  omega
theorem enH_cover (l : List UInt8) (B H i : Nat) (hi : i < cnt l.length B) : ∃ t, t < cH (hdF l B H) (cnt l.length B) (hdF l B H i) ∧ enH l B H (hdF l B H i) t = i := by
  refine ⟨cH (hdF l B H) i (hdF l B H i), cH_lt _ _ _ hi, ?_⟩
  unfold enH
  have := gH_at (hdF l B H) (cnt l.length B) (cnt l.length B) i hi (Nat.le_refl _)
  unfold posH at this
  rw [this]; rfl
theorem enH_lt (l : List UInt8) (B H h t : Nat) (ht : t < cH (hdF l B H) (cnt l.length B) h) : eH (hdF l B H) (cnt l.length B) h + t < cnt l.length B := by
  have := eH_succ (hdF l B H) (cnt l.length B) h
  have := eH_le (hdF l B H) (cnt l.length B) (h + 1)
  omega
/-- A chain as it lies. -/
theorem IX.chain {l : List UInt8} {B st x : Nat} {vm : Value} {ch H al : Nat} {w : World} (hx : IX l B st x vm ch H al w) (h : Nat) (hh : h < H) : ∃ ad, w.cell? ⟨ch, h, none⟩ = some (.slice (some ad) (cH (hdF l B H) (cnt l.length B) h) (cH (hdF l B H) (cnt l.length B) h)) ∧
    (0 < cH (hdF l B H) (cnt l.length B) h → ad = ⟨al, eH (hdF l B H) (cnt l.length B) h, none⟩) := by
  have := hx.chb.cell h (rowV_at _ _ _ hh)
  unfold chV at this
  exact ⟨_, this, fun hp => by rw [if_neg (by omega)]⟩
theorem IX.entry {l : List UInt8} {B st x : Nat} {vm : Value} {ch H al : Nat} {w : World} (hx : IX l B st x vm ch H al w) (h t : Nat) (ht : t < cH (hdF l B H) (cnt l.length B) h) : w.cell? ⟨al, eH (hdF l B H) (cnt l.length B) h + t, none⟩ = some (.int .i64 (enH l B H h t : Int)) := by
  have := hx.alb.cell (eH (hdF l B H) (cnt l.length B) h + t) (rowK_at _ _ _ _ (enH_lt l B H h t ht))
  rw [(enH_int l B H h t ht).1] at this
  exact this
set_option maxRecDepth 100000 in
set_option maxHeartbeats 4000000 in
theorem find_spec (l : List UInt8) (B st x : Nat) (vm : Value) (ch H al : Nat) (wk : Int) (w : World) (hN : cnt l.length B ≤ 131072) (hx : IX l B st x vm ch H al w) :
    Calls Try.prog 38 #[.pointer (some ⟨x, 0, none⟩), .int .u32 wk] w fun e w' => ∃ ad n cap, e = .returned (.slice ad n cap) ∧ (0 < n ↔ ∃ i, i < cnt l.length B ∧ weak (blk l B i) = wk) ∧ n ≤ 131072 ∧ Fr (fun _ => False) w w' := by
  obtain ⟨h, hh⟩ : ∃ h, h = hdN H wk := ⟨_, rfl⟩
  have hlt : h < H := by rw [hh]; exact hdN_lt H wk hx.H1
  obtain ⟨c, hc⟩ : ∃ c, c = cH (hdF l B H) (cnt l.length B) h := ⟨_, rfl⟩
  have hcN : c ≤ cnt l.length B := by rw [hc]; exact cH_le _ _ _
  have HX := Lib.hid hx
  have HH := Lib.hid hh
  have HHD := Lib.hid (fun wx (hb : Blk wx x 85 #[vm, .int .i64 (l.length : Int), .int .i64 (B : Int), .slice (some ⟨ch, 0, none⟩) H H]) => head_spec x _ _ _ _ H H wk wx hb hx.H1 hx.H2)
  rw [← hh] at HHD
  have HFIN := Lib.hid (show (∃ t, t < c ∧ weak (blk l B (enH l B H h t)) = wk) ↔ ∃ i, i < cnt l.length B ∧ weak (blk l B i) = wk by
    constructor
    · rintro ⟨t, ht, e⟩
      exact ⟨_, (enH_int l B H h t (by rw [← hc]; exact ht)).2, e⟩
    · rintro ⟨i, hi, e⟩
      obtain ⟨t, ht, e2⟩ := enH_cover l B H i hi
      have hd : hdF l B H i = h := by unfold hdF; rw [e, hh]
      rw [hd] at ht e2
      exact ⟨t, by rw [hc]; exact ht, by rw [e2]; exact e⟩)
  have hp := hx.H2
  have h1 : (h : Int) < (H : Int) := by omega
  have h2 : (H : Int) ≤ 1048576 := by omega
  have c1 : (c : Int) ≤ 131072 := by omega
  have HC := Lib.hid hc
  have HLT := Lib.hid hlt
  have HCN := Lib.hid (Nat.le_trans hcN hN)
  have HNN := Lib.hid hN
  clear hx hh hlt hc hcN hN hp
  go_enter Try.func38, Try.ntmps38
  go_wp2_with (fail)
  have HXD := Lib.hid (HX.out.frF ((Fr.refl (fun _ => False) w).drew))
  obtain ⟨adc, cc, hadc⟩ := HXD.out.chain h HLT.out
  rw [← HC.out] at cc hadc
  have cx := HXD.out.xb.cell 3 rfl
  have R36 : Hid (Calls Try.prog 36 #[.pointer (some ⟨x, 0, none⟩), .int .u32 wk] w.drew fun e w' => e = .returned (.int .i64 (h : Int)) ∧ w' = w.drew) := Lib.hid ((HHD.out w.drew HXD.out.xb).mono fun _ _ ⟨h1, h2⟩ => ⟨h1, h2.symm⟩)
  have HFD := Lib.hid ((Fr.refl (fun _ => False) w).drew)
  have HADC := Lib.hid hadc
  clear hadc HX
  refine wp_region_still_lit (by kernel_rfl) (by kernel_rfl) ?_
  change wpStill _ _ w.drew (fun a' => Exit.then _ _ .normal a' w.drew) _ _
  generalize w.drew = wx at HXD cc cx R36 HFD ⊢
  iterate 6 still_step
  still_call R36.out
  iterate 4 still_step
  refine wpStill_nil ?_
  clear cc cx R36
  go_wp2_with (fail)
  have HW0 := Lib.hid (Fr.refl (fun _ => False) wx)
  go_loopg [5, 20] c (fun gk x5 x20 wr => ∃ (t n : Nat) (xs : List Value), t ≤ c ∧ Hid (gk = c - t) ∧ x20 = .int .i64 t ∧ Hid (Sl wr 3 1 x5 n xs) ∧ n ≤ t ∧ Hid (0 < n ↔ ∃ t', t' < t ∧ weak (blk l B (enH l B H h t')) = wk) ∧ Hid (∀ k, x5.ownBlock = some k → wx.heap.size ≤ k) ∧ Hid (Fr (fun _ => False) wx wr))
  case atStart => exact ⟨0, 0, [], Nat.zero_le _, Lib.hid rfl, rfl, Lib.hid (Sl.nil _ _ _), Nat.le_refl _, Lib.hid ⟨fun q => absurd q (Nat.lt_irrefl _), fun ⟨t', q, _⟩ => absurd q (Nat.not_lt_zero _)⟩, Lib.hid (fun k q => by cases q), HW0⟩
  case round =>
    clear HW0
    obtain ⟨t, n, xs, ht, HG, rfl, HS, hn, HI, HO, HF⟩ := hrel
    have t1 : (t : Int) ≤ 131072 := by omega
    obtain ⟨adv, capv, hv, _, _⟩ := HS.out.slice
    subst hv
    by_cases htc : t < c
    · have t2 : (t : Int) < (c : Int) := by omega
      have ea := HADC.out (by omega)
      subst ea
      have HXR := HXD.out.frF HF.out
      have htc2 : t < cH (hdF l B H) (cnt l.length B) h := by rw [← HC.out]; exact htc
      have cen := HXR.entry h t htc2
      have hen := (enH_int l B H h t htc2).2
      have HEN := Lib.hid (show enH l B H h t = enH l B H h t from rfl)
      obtain ⟨g, o, capm, evm, cm, _⟩ := HXR.mks.mark (enH l B H h t) hen
      have cx := HXR.xb.cell 0 rfl
      rw [evm] at cx
      generalize hE : enH l B H h t = en at cen hen cm
      have e1 : (en : Int) < ((cnt l.length B : Nat) : Int) := by omega
      have e2 : (en : Int) ≤ 131072 := by have := HNN.out; omega
      generalize hy : weak (blk l B en) = y at cm
      have HTC := Lib.hid htc
      have HHE := Lib.hid hE
      have HHY := Lib.hid hy
      have HHN := Lib.hid hn
      clear hE hy htc htc2 ht HEN hn hen HXR
      by_cases hw : y = wk
      · subst hw
        go_wp2_with (first
          | (at_builtin; refine wpList_app rfl (.tmp 34) (.tmp 36) 86 86 rfl 3 (.int .i64 0) 1 8 Try.underlying86 Try.info3 rfl (.slice adv n capv) n xs rfl (HS.out.fr ((Fr.refl (fun _ => False) wr).alloc (.cells #[.int .i64 (en : Int)] 3)) (fun _ _ x => x)) _ 1 [.int .i64 (en : Int)] rfl (src_one Try.underlying86 wr.heap.size 1 3 [.int .i64 (en : Int)] rfl (fun u hu => by rw [List.mem_singleton] at hu; subst hu; rfl) (Blk.new wr 3 #[.int .i64 (en : Int)])) (by have := HHN.out; unfold maxLen; omega) (by have := HHN.out; omega) ?_; intro v' w9 q1 q2 q3; have Q1 := Lib.hid q1; have Q2 := Lib.hid q2; have Q3 := Lib.hid q3; clear q1 q2 q3)
          | fail)
        go_roundg (c - (t + 1))
        case measure => have := HG.out; have := HTC.out; omega
        case rel =>
          refine ⟨t + 1, n + 1, _, HTC.out, Lib.hid rfl, by go_num, Q1, by have := HHN.out; omega, Lib.hid ⟨fun _ => ⟨t, Nat.lt_succ_self t, by rw [HHE.out]; exact HHY.out⟩, fun _ => Nat.succ_pos n⟩, Lib.hid (fun k q => ?_), Lib.hid ((HF.out.alloc _).trans Q2.out (fun i hi q => ?_))⟩
          · rcases Q3.out with z | z
            · exact HO.out k (by rw [← z]; exact q)
            · rw [z] at q; cases q; exact Nat.le_trans HF.out.size (by simp)
          · exact absurd (HO.out i q) (by omega)
      · have hb : (y == wk) = false := by simpa using hw
        go_wp2_with (fail)
        go_roundg (c - (t + 1))
        case measure => have := HG.out; have := HTC.out; omega
        case rel =>
          refine ⟨t + 1, n, xs, HTC.out, Lib.hid rfl, by go_num, HS, by have := HHN.out; omega, Lib.hid (HI.out.trans ⟨fun ⟨t', q, e⟩ => ⟨t', Nat.lt_succ_of_lt q, e⟩, fun ⟨t', q, e⟩ => ⟨t', ?_, e⟩⟩), HO, HF⟩
          rcases Nat.lt_or_ge t' t with z | z
          · exact z
          · have : t' = t := by omega
            subst this
            exact absurd (by rw [← HHY.out, ← HHE.out]; exact e) hw
    · obtain rfl : t = c := by omega
      have HHN := Lib.hid (Nat.le_trans hn HCN.out)
      clear htc ht hn
      go_wp2_with (fail)
      go_ret
      exact ⟨_, _, _, rfl, HI.out.trans HFIN.out, HHN.out, HFD.out.trans HF.out (fun _ _ x => x)⟩
end Go.Proofs.Ytphjebbjhfnhoaa
