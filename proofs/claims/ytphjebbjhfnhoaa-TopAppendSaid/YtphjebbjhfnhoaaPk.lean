/- index: has, Pick. -/
import Derived.Test.YtphjebbjhfnhoaaIx
namespace Go.Proofs.Ytphjebbjhfnhoaa
open Go.RowKit
/-- A block that has both sums, and a length. -/
def Fit (l : List UInt8) (B st i : Nat) (wk : Int) (s : ByteArray) (n : Nat) : Prop := (blk l B i).length = n ∧ weak (blk l B i) = wk ∧ cutS (blk l B i) st = s
def fitB (l : List UInt8) (B st i : Nat) (wk : Int) (s : ByteArray) (n : Nat) : Bool := decide ((blk l B i).length = n) && decide (weak (blk l B i) = wk) && decide (cutS (blk l B i) st = s)
theorem fitB_iff (l : List UInt8) (B st i : Nat) (wk : Int) (s : ByteArray) (n : Nat) : fitB l B st i wk s n = true ↔ Fit l B st i wk s n := by
  unfold fitB Fit; simp [and_assoc]
theorem toList_ne {a b : ByteArray} (h : ¬ a = b) : (a.toList == b.toList) = false := by
  cases hq : (a.toList == b.toList) with
  | false => rfl
  | true =>
    exfalso
    have e : a.toList = b.toList := by simpa using hq
    rw [ByteArray.toList_eq, ByteArray.toList_eq] at e
    cases a; cases b
    exact h (congrArg ByteArray.mk (Array.ext' e))
theorem blk_len (l : List UInt8) (B i : Nat) (hB : isB B) (hi : i < cnt l.length B) : i * B ≤ min l.length ((i + 1) * B) ∧ (blk l B i).length = min l.length ((i + 1) * B) - i * B := by
  have hlo : i * B < l.length := by
    unfold cnt at hi
    rcases hB with rfl | rfl | rfl <;> omega
  rw [blk_length, Nat.add_mul]
  omega
set_option maxRecDepth 100000 in
set_option maxHeartbeats 4000000 in
theorem has_spec (l : List UInt8) (B st x : Nat) (vm : Value) (ch H al i n : Nat) (wk : Int) (s : ByteArray) (w : World) (hm : l.length ≤ 131072) (hB : isB B) (hi : i < cnt l.length B) (hn : n ≤ 1000000) (hx : IX l B st x vm ch H al w) :
    Calls Try.prog 53 #[.pointer (some ⟨x, 0, none⟩), .int .i64 (i : Int), .int .u32 wk, .string s, .int .i64 (n : Int)] w fun e w' => e = .returned (.bool (fitB l B st i wk s n)) ∧ Fr (fun _ => False) w w' := by
  have HR := Lib.hid (fun wx => range_in l.length B i hm hB hi wx)
  obtain ⟨hle, hlen⟩ := blk_len l B i hB hi
  have hcn := Nat.le_trans (cnt_le l.length B hB) hm
  obtain ⟨lo, hlo⟩ : ∃ lo, lo = i * B := ⟨_, rfl⟩
  obtain ⟨hi2, hhi⟩ : ∃ hi2, hi2 = min l.length ((i + 1) * B) := ⟨_, rfl⟩
  rw [← hlo, ← hhi] at hle hlen HR
  have hh2 : hi2 ≤ 131072 := by rw [hhi]; omega
  obtain ⟨bl, hbl⟩ : ∃ bl, bl = (blk l B i).length := ⟨_, rfl⟩
  obtain ⟨y, hy⟩ : ∃ y, y = weak (blk l B i) := ⟨_, rfl⟩
  obtain ⟨z, hz⟩ : ∃ z, z = cutS (blk l B i) st := ⟨_, rfl⟩
  obtain ⟨fb, hfb⟩ : ∃ fb, fb = fitB l B st i wk s n := ⟨_, rfl⟩
  have HFIT := Lib.hid (show fb = (decide (bl = n) && decide (y = wk) && decide (z = s)) by rw [hfb, hbl, hy, hz]; rfl)
  rw [← hfb]
  rw [← hbl] at hlen
  have s1 : (hi2 : Int) - (lo : Int) = (bl : Int) := by omega
  have s2 : (bl : Int) ≤ 131072 := by omega
  have s3 : (lo : Int) ≤ 131072 := by omega
  have s4 : (hi2 : Int) ≤ 131072 := by omega
  have s5 : (n : Int) ≤ 1000000 := by omega
  have i1 : (i : Int) ≤ 131072 := by omega
  have i2 : (i : Int) < ((cnt l.length B : Nat) : Int) := by omega
  have HXD := Lib.hid (hx.frF ((Fr.refl (fun _ => False) w).drew))
  have HFD := Lib.hid ((Fr.refl (fun _ => False) w).drew)
  obtain ⟨g, o, capm, evm, cw, cs⟩ := HXD.out.mks.mark i hi
  rw [← hy] at cw
  rw [← hz] at cs
  have cx0 := HXD.out.xb.cell 0 rfl
  rw [evm] at cx0
  have cx1 := HXD.out.xb.cell 1 rfl
  have cx2 := HXD.out.xb.cell 2 rfl
  generalize cnt l.length B = N at i2 cx0
  generalize l.length = m at cx1 HR
  clear hm hB hi hn hx hle hlen hcn hlo hhi hh2 hbl hy hz evm hfb
  go_enter Try.func53, Try.ntmps53
  go_wp2_with (fail)
  have R32 : Hid (Calls Try.prog 32 #[.int .i64 (m : Int), .int .i64 (B : Int), .int .i64 (i : Int)] w.drew fun e w' => e = .returned (.tuple #[.int .i64 (lo : Int), .int .i64 (hi2 : Int), .bool true]) ∧ w' = w.drew) := Lib.hid ((HR.out w.drew).mono fun _ _ ⟨h1, h2⟩ => ⟨h1, h2.symm⟩)
  clear HR HXD
  refine wp_region_still_lit (by kernel_rfl) (by kernel_rfl) ?_
  change wpStill _ _ w.drew (fun a' => Exit.then _ _ .normal a' w.drew) _ _
  generalize w.drew = wx at cw cs cx0 cx1 cx2 R32 HFD ⊢
  iterate 9 still_step
  still_call R32.out
  iterate 7 still_step
  refine wpStill_nil ?_
  clear R32 cx1 cx2
  by_cases h1 : bl = n
  · subst h1
    by_cases h2 : y = wk
    · subst h2
      by_cases h3 : z = s
      · subst h3
        go_wp2_with (fail)
        go_ret
        exact ⟨by rw [HFIT.out]; simp, HFD.out⟩
      · have hb := toList_ne h3
        go_wp2_with (fail)
        go_ret
        exact ⟨by rw [HFIT.out]; simp [h3], HFD.out⟩
    · have hb : (y == wk) = false := by simpa using h2
      go_wp2_with (fail)
      go_ret
      exact ⟨by rw [HFIT.out]; simp [h2], HFD.out⟩
  · have hb : ((bl : Int) == (n : Int)) = false := by simp; omega
    have hb2 : ¬ (bl : Int) = (n : Int) := by omega
    go_wp2_with (fail)
    go_ret
    exact ⟨by rw [HFIT.out]; simp [h1], HFD.out⟩
set_option maxRecDepth 100000 in
set_option maxHeartbeats 4000000 in
theorem pick_spec (l : List UInt8) (B st x : Nat) (vm : Value) (ch H al n want : Nat) (wk : Int) (s : ByteArray) (w : World) (hm : l.length ≤ 131072) (hB : isB B) (hn : n ≤ 1000000) (hwant : want ≤ 1000000) (hx : IX l B st x vm ch H al w) :
    Calls Try.prog 39 #[.pointer (some ⟨x, 0, none⟩), .int .u32 wk, .string s, .int .i64 (n : Int), .int .i64 (want : Int)] w fun e w' => ∃ (r : Nat) (o : Option Nat), e = .returned (.tuple #[.int .i64 (r : Int), .bool o.isSome]) ∧ (∀ i, o = some i → r = i ∧ i < cnt l.length B ∧ Fit l B st i wk s n ∧ (want < cnt l.length B → Fit l B st want wk s n → i = want)) ∧
      (o = none → ∀ i, i < cnt l.length B → ¬ Fit l B st i wk s n) ∧ Fr (fun _ => False) w w' := by
  have HHAS := Lib.hid (fun i wx (hi : i < cnt l.length B) hxx => has_spec l B st x vm ch H al i n wk s wx hm hB hi hn hxx)
  have hN := Nat.le_trans (cnt_le l.length B hB) hm
  obtain ⟨h, hh⟩ : ∃ h, h = hdN H wk := ⟨_, rfl⟩
  have hlt : h < H := by rw [hh]; exact hdN_lt H wk hx.H1
  obtain ⟨c, hc⟩ : ∃ c, c = cH (hdF l B H) (cnt l.length B) h := ⟨_, rfl⟩
  have hcN : c ≤ cnt l.length B := by rw [hc]; exact cH_le _ _ _
  have HX := Lib.hid hx
  have HHD := Lib.hid (fun wx (hb : Blk wx x 85 #[vm, .int .i64 (l.length : Int), .int .i64 (B : Int), .slice (some ⟨ch, 0, none⟩) H H]) => head_spec x _ _ _ _ H H wk wx hb hx.H1 hx.H2)
  rw [← hh] at HHD
  have HFIN := Lib.hid (show (∀ t, t < c → ¬ Fit l B st (enH l B H h t) wk s n) → ∀ i, i < cnt l.length B → ¬ Fit l B st i wk s n by
    intro hall i hi hf
    obtain ⟨t, ht, e2⟩ := enH_cover l B H i hi
    have hd : hdF l B H i = h := by unfold hdF; rw [hf.2.1, hh]
    rw [hd] at ht e2
    exact hall t (by rw [hc]; exact ht) (by rw [e2]; exact hf))
  have hp := hx.H2
  obtain ⟨adm, capm, hvm, hcapm, _⟩ := hx.mks.slice
  have h1 : (h : Int) < (H : Int) := by omega
  have h2 : (H : Int) ≤ 1048576 := by omega
  have c1 : (c : Int) ≤ 131072 := by omega
  have w1 : (0 : Int) ≤ (want : Int) := by omega
  have cx0 := hx.xb.cell 0 rfl
  rw [hvm] at cx0
  have HC := Lib.hid hc
  have HLT := Lib.hid hlt
  have HNN := Lib.hid hN
  have HVM := Lib.hid hvm
  have HIFF := Lib.hid (fun i => fitB_iff l B st i wk s n)
  clear hx hh hlt hc hcN hN hp hcapm hm hB hn hwant hvm
  have key : ∀ (wr : World), Fr (fun _ => False) w wr → True := fun _ _ => trivial
  clear key
  by_cases hw : want < cnt l.length B
  · have i1 : (want : Int) < ((cnt l.length B : Nat) : Int) := by omega
    have HHW := Lib.hid (HHAS.out want w hw HX.out)
    cases hf : fitB l B st want wk s n with
    | true =>
      have HF := Lib.hid ((HIFF.out want).1 hf)
      rw [hf] at HHW
      have HW := Lib.hid hw
      clear hf hw HFIN HIFF HHAS HHD
      generalize cnt l.length B = N at *
      go_enter Try.func39, Try.ntmps39
      go_wp2_with (first
        | (go_at_call 53; (refine HHW.out.mono ?_); rintro e w2 ⟨rfl, hf⟩; have HF2 := Lib.hid hf; clear hf)
        | fail)
      go_ret2
      exact ⟨want, some want, rfl, fun i e => by cases e; exact ⟨rfl, HW.out, HF.out, fun _ _ => rfl⟩, (fun e => by cases e), HF2.out⟩
    | false =>
      rw [hf] at HHW
      have HNW := Lib.hid (show want < cnt l.length B → ¬ Fit l B st want wk s n from fun _ q => by have := (HIFF.out want).2 q; rw [hf] at this; cases this)
      clear hf hw
      go_enter Try.func39, Try.ntmps39
      go_wp2_with (first
        | (go_at_call 53; (refine HHW.out.mono ?_); rintro e w2 ⟨rfl, hf⟩; have HF9 := Lib.hid hf; clear hf)
        | fail)
      have HXD := Lib.hid (HX.out.frF ((HF9.out).drew))
      have HFD := Lib.hid ((HF9.out).drew)
      obtain ⟨adc, cc, hadc⟩ := HXD.out.chain h HLT.out
      rw [← HC.out] at cc hadc
      have cx := HXD.out.xb.cell 3 rfl
      have R36 : Hid (Calls Try.prog 36 #[.pointer (some ⟨x, 0, none⟩), .int .u32 wk] w2.drew fun e w' => e = .returned (.int .i64 (h : Int)) ∧ w' = w2.drew) := Lib.hid ((HHD.out w2.drew HXD.out.xb).mono fun _ _ ⟨h1, h2⟩ => ⟨h1, h2.symm⟩)
      have HADC := Lib.hid hadc
      clear hadc
      refine wp_region_still_lit (by kernel_rfl) (by kernel_rfl) ?_
      change wpStill _ _ w2.drew (fun a' => Exit.then _ _ .normal a' w2.drew) _ _
      generalize w2.drew = wx at HXD cc cx R36 HFD ⊢
      iterate 6 still_step
      still_call R36.out
      iterate 4 still_step
      refine wpStill_nil ?_
      clear cc cx R36
      go_wp2_with (fail)
      have Hw2 := Lib.hid (Fr.refl (fun _ => False) wx)
      go_loopg [46] c (fun gk x46 wr => ∃ (t : Nat), t ≤ c ∧ Hid (gk = c - t) ∧ x46 = .int .i64 t ∧ Hid (∀ t', t' < t → ¬ Fit l B st (enH l B H h t') wk s n) ∧ Hid (Fr (fun _ => False) wx wr))
      case atStart => exact ⟨0, Nat.zero_le _, Lib.hid rfl, rfl, Lib.hid (fun t' q => absurd q (Nat.not_lt_zero _)), Hw2⟩
      case round =>
        clear Hw2
        obtain ⟨t, ht, HG, rfl, HI, HF⟩ := hrel
        have t1 : (t : Int) ≤ 131072 := by omega
        by_cases htc : t < c
        · have t2 : (t : Int) < (c : Int) := by omega
          have ea := HADC.out (by omega)
          subst ea
          have HXR := HXD.out.frF HF.out
          have htc2 : t < cH (hdF l B H) (cnt l.length B) h := by rw [← HC.out]; exact htc
          have cen := HXR.entry h t htc2
          have hen := (enH_int l B H h t htc2).2
          have HHW := Lib.hid (HHAS.out (enH l B H h t) wr hen HXR)
          generalize hE : enH l B H h t = en at cen hen HHW
          have HHE := Lib.hid hE
          have HTC := Lib.hid htc
          have HEN := Lib.hid hen
          have e2 : (en : Int) ≤ 131072 := by have := HNN.out; omega
          clear hE htc htc2 ht HXR hen
          cases hf : fitB l B st en wk s n with
          | true =>
            rw [hf] at HHW
            have HFT := Lib.hid ((HIFF.out en).1 hf)
            clear hf
            go_wp2_with (first
              | (go_at_call 53; (refine HHW.out.mono ?_); rintro e w2 ⟨rfl, hf⟩; have HF2 := Lib.hid hf; clear hf)
              | fail)
            go_ret2
            exact ⟨en, some en, rfl, fun i e => by cases e; exact ⟨rfl, HEN.out, HFT.out, fun q1 q2 => absurd q2 (HNW.out q1)⟩, (fun e => by cases e), (HFD.out.trans HF.out (fun _ _ x => x)).trans HF2.out (fun _ _ x => x)⟩
          | false =>
            rw [hf] at HHW
            have HFT := Lib.hid (show ¬ Fit l B st en wk s n from fun q => by have := (HIFF.out en).2 q; rw [hf] at this; cases this)
            clear hf
            go_wp2_with (first
              | (go_at_call 53; (refine HHW.out.mono ?_); rintro e w2 ⟨rfl, hf⟩; have HF2 := Lib.hid hf; clear hf)
              | fail)
            go_roundg (c - (t + 1))
            case measure => have := HG.out; have := HTC.out; omega
            case rel =>
              refine ⟨t + 1, HTC.out, Lib.hid rfl, by go_num, Lib.hid (fun t' q => ?_), Lib.hid (HF.out.trans HF2.out (fun _ _ x => x))⟩
              rcases Nat.lt_or_ge t' t with z | z
              · exact HI.out t' z
              · have : t' = t := by omega
                subst this
                rw [HHE.out]; exact HFT.out
        · obtain rfl : t = c := by omega
          clear htc ht
          go_wp2_with (fail)
          go_ret2
          exact ⟨0, none, rfl, (fun i e => by cases e), fun _ => HFIN.out HI.out, HFD.out.trans HF.out (fun _ _ x => x)⟩
  · have i1 : ¬ (want : Int) < ((cnt l.length B : Nat) : Int) := by omega
    have HNW := Lib.hid (show want < cnt l.length B → ¬ Fit l B st want wk s n from fun q => absurd q hw)
    clear hw
    have HF9 := Lib.hid (Fr.refl (fun _ => False) w)
    go_enter Try.func39, Try.ntmps39
    go_wp2_with (fail)
    have HXD := Lib.hid (HX.out.frF ((HF9.out).drew))
    have HFD := Lib.hid ((HF9.out).drew)
    obtain ⟨adc, cc, hadc⟩ := HXD.out.chain h HLT.out
    rw [← HC.out] at cc hadc
    have cx := HXD.out.xb.cell 3 rfl
    have R36 : Hid (Calls Try.prog 36 #[.pointer (some ⟨x, 0, none⟩), .int .u32 wk] w.drew fun e w' => e = .returned (.int .i64 (h : Int)) ∧ w' = w.drew) := Lib.hid ((HHD.out w.drew HXD.out.xb).mono fun _ _ ⟨h1, h2⟩ => ⟨h1, h2.symm⟩)
    have HADC := Lib.hid hadc
    clear hadc
    refine wp_region_still_lit (by kernel_rfl) (by kernel_rfl) ?_
    change wpStill _ _ w.drew (fun a' => Exit.then _ _ .normal a' w.drew) _ _
    generalize w.drew = wx at HXD cc cx R36 HFD ⊢
    iterate 6 still_step
    still_call R36.out
    iterate 4 still_step
    refine wpStill_nil ?_
    clear cc cx R36
    go_wp2_with (fail)
    have Hw := Lib.hid (Fr.refl (fun _ => False) wx)
    go_loopg [46] c (fun gk x46 wr => ∃ (t : Nat), t ≤ c ∧ Hid (gk = c - t) ∧ x46 = .int .i64 t ∧ Hid (∀ t', t' < t → ¬ Fit l B st (enH l B H h t') wk s n) ∧ Hid (Fr (fun _ => False) wx wr))
    case atStart => exact ⟨0, Nat.zero_le _, Lib.hid rfl, rfl, Lib.hid (fun t' q => absurd q (Nat.not_lt_zero _)), Hw⟩
    case round =>
      clear Hw
      obtain ⟨t, ht, HG, rfl, HI, HF⟩ := hrel
      have t1 : (t : Int) ≤ 131072 := by omega
      by_cases htc : t < c
      · have t2 : (t : Int) < (c : Int) := by omega
        have ea := HADC.out (by omega)
        subst ea
        have HXR := HXD.out.frF HF.out
        have htc2 : t < cH (hdF l B H) (cnt l.length B) h := by rw [← HC.out]; exact htc
        have cen := HXR.entry h t htc2
        have hen := (enH_int l B H h t htc2).2
        have HHW := Lib.hid (HHAS.out (enH l B H h t) wr hen HXR)
        generalize hE : enH l B H h t = en at cen hen HHW
        have HHE := Lib.hid hE
        have HTC := Lib.hid htc
        have HEN := Lib.hid hen
        have e2 : (en : Int) ≤ 131072 := by have := HNN.out; omega
        clear hE htc htc2 ht HXR hen
        cases hf : fitB l B st en wk s n with
        | true =>
          rw [hf] at HHW
          have HFT := Lib.hid ((HIFF.out en).1 hf)
          clear hf
          go_wp2_with (first
            | (go_at_call 53; (refine HHW.out.mono ?_); rintro e w2 ⟨rfl, hf⟩; have HF2 := Lib.hid hf; clear hf)
            | fail)
          go_ret2
          exact ⟨en, some en, rfl, fun i e => by cases e; exact ⟨rfl, HEN.out, HFT.out, fun q1 q2 => absurd q2 (HNW.out q1)⟩, (fun e => by cases e), (HFD.out.trans HF.out (fun _ _ x => x)).trans HF2.out (fun _ _ x => x)⟩
        | false =>
          rw [hf] at HHW
          have HFT := Lib.hid (show ¬ Fit l B st en wk s n from fun q => by have := (HIFF.out en).2 q; rw [hf] at this; cases this)
          clear hf
          go_wp2_with (first
            | (go_at_call 53; (refine HHW.out.mono ?_); rintro e w2 ⟨rfl, hf⟩; have HF2 := Lib.hid hf; clear hf)
            | fail)
          go_roundg (c - (t + 1))
          case measure => have := HG.out; have := HTC.out; omega
          case rel =>
            refine ⟨t + 1, HTC.out, Lib.hid rfl, by go_num, Lib.hid (fun t' q => ?_), Lib.hid (HF.out.trans HF2.out (fun _ _ x => x))⟩
            rcases Nat.lt_or_ge t' t with z | z
            · exact HI.out t' z
            · have : t' = t := by omega
              subst this
              rw [HHE.out]; exact HFT.out
      · obtain rfl : t = c := by omega
        clear htc ht
        go_wp2_with (fail)
        go_ret2
        exact ⟨0, none, rfl, (fun i e => by cases e), fun _ => HFIN.out HI.out, HFD.out.trans HF.out (fun _ _ x => x)⟩
end Go.Proofs.Ytphjebbjhfnhoaa
