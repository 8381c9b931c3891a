/- sha: bytes taken in, in plain Lean · sha: Write. -/
import Derived.Test.YtphjebbjhfnhoaaTk
import Derived.Test.YtphjebbjhfnhoaaEd
namespace Go.Proofs.Ytphjebbjhfnhoaa
open Go.RowKit
/-- Bytes laid into a block from hv on. -/
def wrB (bl : Nat → Int) (hv : Nat) : List UInt8 → (Nat → Int)
  | [] => bl
  | c :: l => wrB (updN bl hv (c.toNat : Int)) (hv + 1) l
theorem wrB_at : ∀ (l : List UInt8) (bl : Nat → Int) (hv i : Nat), wrB bl hv l i = if hv ≤ i ∧ i < hv + l.length then ((l.getD (i - hv) 0).toNat : Int) else bl i
  | [], bl, hv, i => by
    rw [if_neg (show ¬ (hv ≤ i ∧ i < hv + ([] : List UInt8).length) by rw [List.length_nil]; omega)]; rfl
  | c :: l, bl, hv, i => by
    rw [wrB, wrB_at l, List.length_cons]
    by_cases h : i = hv
    · subst h
      rw [if_neg (by omega), if_pos (by omega), Nat.sub_self]
      unfold updN; rw [if_pos rfl]; rfl
    · by_cases h2 : hv ≤ i ∧ i < hv + (l.length + 1)
      · rw [if_pos (by omega), if_pos h2, show i - hv = (i - (hv + 1)) + 1 by omega, List.getD_cons_succ]
      · rw [if_neg (by omega), if_neg h2]
        unfold updN; rw [if_neg h]
abbrev St := (Nat → Int) × (Nat → Int) × Nat
def ab1 (s : St) (c : UInt8) : St := if s.2.2 + 1 = 64 then (cmp s.1 (updN s.2.1 s.2.2 (c.toNat : Int)), updN s.2.1 s.2.2 (c.toNat : Int), 0) else (s.1, updN s.2.1 s.2.2 (c.toNat : Int), s.2.2 + 1)
/-- Bytes taken in. -/
def ab (s : St) (l : List UInt8) : St := l.foldl ab1 s
theorem ab_lt (l : List UInt8) : ∀ (s : St), s.2.2 < 64 → (ab s l).2.2 < 64 := by
  induction l with
  | nil => intro s h; exact h
  | cons c l ih =>
    intro s h
    refine ih (ab1 s c) ?_
    unfold ab1
    split
    · exact Nat.zero_lt_succ _
    · show s.2.2 + 1 < 64; omega
theorem ab_append (s : St) (a b : List UInt8) : ab s (a ++ b) = ab (ab s a) b := List.foldl_append
theorem ab_chunk : ∀ (l : List UInt8) (h bl : Nat → Int) (hv : Nat), l ≠ [] → hv + l.length ≤ 64 →
    ab (h, bl, hv) l = if hv + l.length = 64 then (cmp h (wrB bl hv l), wrB bl hv l, 0) else (h, wrB bl hv l, hv + l.length)
  | [], _, _, _, h, _ => absurd rfl h
  | [c], h, bl, hv, _, _ => rfl
  | c :: d :: r, h, bl, hv, _, hl => by
    have e : ab1 (h, bl, hv) c = (h, updN bl hv (c.toNat : Int), hv + 1) := by
      unfold ab1
      simp only [List.length_cons] at hl
      rw [if_neg (show ¬ hv + 1 = 64 by omega)]
    show ab (ab1 (h, bl, hv) c) (d :: r) = _
    rw [e, ab_chunk (d :: r) h _ (hv + 1) (by simp) (by simp only [List.length_cons] at hl ⊢; omega)]
    rw [show wrB bl hv (c :: d :: r) = wrB (updN bl hv (c.toNat : Int)) (hv + 1) (d :: r) from rfl]
    simp only [List.length_cons]
    rw [show hv + 1 + (r.length + 1) = hv + (r.length + 1 + 1) by omega]
theorem splice_at {α : Type} (L : List α) (off : Nat) (cs : List α) (hf : off + cs.length ≤ L.length) (j : Nat) : (splice L off cs)[j]? = if j < off then L[j]? else if j < off + cs.length then cs[j - off]? else L[j]? := by
  unfold splice
  by_cases h1 : j < off
  · rw [if_pos h1, List.getElem?_append_left (by rw [List.length_take]; omega), List.getElem?_take_of_lt h1]
  · rw [if_neg h1, List.getElem?_append_right (by rw [List.length_take]; omega), List.length_take, show min off L.length = off by omega]
    by_cases h2 : j < off + cs.length
    · rw [if_pos h2, List.getElem?_append_left (by omega)]
    · rw [if_neg h2, List.getElem?_append_right (by omega), List.getElem?_drop]
      congr 1; omega
theorem stA_splice (h bl : Nat → Int) (v n : Int) (hv : Nat) (l : List UInt8) (hl : hv + l.length ≤ 64) : (splice (stA h bl v n).toList (8 + hv) (l.map u8v)).toArray = stA h (wrB bl hv l) v n := by
  apply Array.ext_getElem?
  intro j
  have hf : 8 + hv + (l.map u8v).length ≤ (stA h bl v n).toList.length := by simp [stA_size]; omega
  rw [List.getElem?_toArray, splice_at _ _ _ hf, List.length_map, Array.getElem?_toList]
  by_cases hj : j < 74
  · rw [stA_at _ _ _ _ _ hj, stA_at _ _ _ _ _ hj]
    by_cases h1 : j < 8 + hv
    · rw [if_pos h1]
      by_cases h8 : j < 8
      · rw [if_pos h8, if_pos h8]
      · rw [if_neg h8, if_neg h8]
        have h72 : j < 72 := by omega
        rw [if_pos h72, if_pos h72, wrB_at, if_neg (show ¬ (hv ≤ j - 8 ∧ j - 8 < hv + l.length) by omega)]
    · rw [if_neg h1]
      by_cases h2 : j < 8 + hv + l.length
      · rw [if_pos h2, if_neg (by omega), if_pos (by omega), wrB_at, if_pos (by omega), List.getElem?_map]
        obtain ⟨c, hc⟩ : ∃ c, l[j - (8 + hv)]? = some c := ⟨_, List.getElem?_eq_getElem (by omega)⟩
        rw [show j - 8 - hv = j - (8 + hv) by omega, List.getD_eq_getElem?_getD, hc]
        rfl
      · rw [if_neg h2, wrB_at, if_neg (show ¬ (hv ≤ j - 8 ∧ j - 8 < hv + l.length) by omega)]
  · rw [if_neg (by omega), if_neg (by omega), Array.getElem?_eq_none (by rw [stA_size]; omega), Array.getElem?_eq_none (by rw [stA_size]; omega)]
end Go.Proofs.Ytphjebbjhfnhoaa

namespace Go.Proofs.Ytphjebbjhfnhoaa
open Go.RowKit
/-- Bytes in a row that do not lie in block s. -/
def BytA (w : World) (s : Nat) (ad : Option Addr) (l : List UInt8) : Prop := ∀ j c, l[j]? = some c → ∃ b o, ad = some ⟨b, o, none⟩ ∧ b < w.heap.size ∧ w.cell? ⟨b, o + j, none⟩ = some (.int .u8 (c.toNat : Int)) ∧ b ≠ s
theorem BytA.fr {w w' : World} {s : Nat} {ad : Option Addr} {l : List UInt8} (h : BytA w s ad l) (f : Fr (fun k => k = s) w w') : BytA w' s ad l := by
  intro j c hj
  obtain ⟨g, o, e, hl, hc, hg⟩ := h j c hj
  refine ⟨g, o, e, Nat.lt_of_lt_of_le hl f.size, ?_, hg⟩
  rw [show w'.cell? ⟨g, o + j, none⟩ = w.cell? ⟨g, o + j, none⟩ from World.cell?_of_block (f.block g hl hg)]
  exact hc
theorem BytA.drop {w : World} {s g o : Nat} {l : List UInt8} (h : BytA w s (some ⟨g, o, none⟩) l) (k : Nat) : BytA w s (some ⟨g, o + k, none⟩) (l.drop k) := by
  intro j c hj
  rw [List.getElem?_drop] at hj
  obtain ⟨g', o', e, hl, hc, hg⟩ := h (k + j) c hj
  cases e
  exact ⟨g, o + k, rfl, hl, by rw [Nat.add_assoc]; exact hc, hg⟩
theorem Byt.apart {w w' : World} {s : Nat} {ad : Option Addr} {l : List UInt8} (h : Byt w ad l) (f : Fr (fun _ => False) w w') (hs : w.heap.size ≤ s) : BytA w' s ad l := by
  intro j c hj
  obtain ⟨g, o, e, hl, hc⟩ := h j c hj
  obtain ⟨g2, o2, e2, hl2, hc2⟩ := h.fr f j c hj
  rw [e] at e2
  cases e2
  exact ⟨g, o, e, hl2, hc2, by omega⟩
theorem Try.len112 : Try.prog.arrayLen 112 = 64 := by kernel_rfl
theorem Try.arr112 : Try.prog.underlying 112 = some (.array (Try.prog.arrayLen 112) (Try.prog.elem 112)) := by kernel_rfl
theorem Try.elem112 (w : World) : (sizeOf (Try.prog.elem 112)).run Try.prog w = .ok 1 w := by kernel_rfl
theorem slice112 (s hv : Nat) (h : hv < 64) (w : World) : (Instr.sliceAt 112 (.pointer (some ⟨s, 8, none⟩)) (some (.int .i64 (hv : Int))) none none).run Try.prog w = .ok (.slice (some ⟨s, 8 + hv, none⟩) (64 - hv) (64 - hv)) w := by
  rw [run_sliceAt_array_l w 112 _ Try.arr112 .i64 hv (by omega) (by rw [Try.len112]; omega), Try.elem112, Try.len112]
  show Result.ok (slicedAt ⟨s, 8, none⟩ (hv : Int).toNat 64 64 1) w = _
  unfold slicedAt
  rw [Int.toNat_natCast, if_neg (by omega), Nat.mul_one, Addr.add_mid]
theorem Try.size5 : (Try.prog.info? 5).map (·.size) = some 1 := by kernel_rfl
set_option maxRecDepth 100000 in
set_option maxHeartbeats 8000000 in
theorem write_spec (s : Nat) (hh bl : Nat → Int) (hv n : Nat) (l : List UInt8) (ad : Option Addr) (cap : Nat) (w : World) (hs : Blk w s 114 (stA hh bl hv n)) (hhv : hv < 64) (hn : n ≤ 1000000) (hl : l.length ≤ 1000000)
    (hcap : l.length ≤ cap) (hb : BytA w s ad l) :
    Calls Try.prog 57 #[.pointer (some ⟨s, 0, none⟩), .slice ad l.length cap] w fun e w' => e = .returned (.tuple #[]) ∧ Blk w' s 114 (stA (ab (hh, bl, hv) l).1 (ab (hh, bl, hv) l).2.1 (ab (hh, bl, hv) l).2.2 (n + l.length : Nat)) ∧ Fr (fun k => k = s) w w' := by
  obtain ⟨m, hm⟩ : ∃ m, m = l.length := ⟨_, rfl⟩
  rw [← hm] at hcap hl ⊢
  have n1 : (n : Int) ≤ 1000000 := by omega
  have m1 : (m : Int) ≤ 1000000 := by omega
  have HB := Lib.hid hs
  have HY := Lib.hid hb
  have HM := Lib.hid hm
  have HV := Lib.hid hhv
  have HC := Lib.hid hcap
  obtain ⟨fin, hfin⟩ : ∃ fin, fin = ab (hh, bl, hv) l := ⟨_, rfl⟩
  rw [← hfin]
  have HFIN := Lib.hid hfin
  have c73 := hs.cell 73 (stA_n _ _ _ _)
  have f73 := hs.free 73
  clear hs hb hm hhv hn hl hcap hfin
  go_enter Try.func57, Try.ntmps57
  go_wp2_with (fail)
  have HS0 := Lib.hid (show Blk _ s 114 (stA hh bl hv (n + m : Nat)) by have := HB.out.set 73 (.int .i64 ((n : Int) + m)); rw [stA_set_n] at this; rw [show (((n + m : Nat) : Int)) = (n : Int) + m by omega]; exact this)
  have HF0 := Lib.hid ((Fr.refl (fun k => k = s) w).setCell (p := ⟨s, 73, none⟩) (fun _ => rfl) (.int .i64 ((n : Int) + m)))
  have HY0 := Lib.hid (HY.out.fr HF0.out)
  have HM1 := HM
  clear c73 f73 HB HY
  go_loopg [1] m (fun gk x1 wr => ∃ (l' : List UInt8) (ad' : Option Addr) (cap' : Nat) (h' bl' : Nat → Int) (hv' m' : Nat), Hid (gk = m') ∧ m' ≤ m ∧ x1 = .slice ad' m' cap' ∧ Hid (m' = l'.length) ∧ m' ≤ cap' ∧ hv' < 64 ∧ Hid (ab (h', bl', hv') l' = fin) ∧ Hid (BytA wr s ad' l') ∧ Hid (Blk wr s 114 (stA h' bl' hv' (n + m : Nat))) ∧ Hid (Fr (fun k => k = s) w wr))
  case atStart => exact ⟨l, ad, cap, hh, bl, hv, m, Lib.hid rfl, Nat.le_refl _, rfl, HM, HC.out, HV.out, Lib.hid HFIN.out.symm, HY0, HS0, HF0⟩
  case round =>
    clear HS0 HF0 HY0 HFIN HM HV HC
    obtain ⟨l', ad', cap', h', bl', hv', m', HG, hm', rfl, HL, hcap', hv64, HA, HY, HS, HF⟩ := hrel
    by_cases h0 : m' = 0
    · subst h0
      have HE := Lib.hid (show fin = (h', bl', hv') by rw [← HA.out, List.eq_nil_of_length_eq_zero HL.out.symm]; rfl)
      clear hm' hcap' hv64 HA HY HG HL
      go_wp2_with (fail)
      go_end0
      rw [HE.out]
      exact ⟨rfl, HS.out, HF.out⟩
    · obtain ⟨g, o, rfl, hne⟩ : ∃ g o, ad' = some ⟨g, o, none⟩ ∧ g ≠ s := by
        have hlt : 0 < l'.length := by have := HL.out; omega
        obtain ⟨g, o, e, _, _, hg⟩ := HY.out 0 _ (List.getElem?_eq_getElem hlt)
        exact ⟨g, o, e, hg⟩
      have m2 : (0 : Int) < (m' : Int) := by omega
      have m3 : (m' : Int) ≤ 1000000 := by omega
      have v1 : (hv' : Int) < 64 := by omega
      obtain ⟨k, hk⟩ : ∃ k, k = Nat.min m' (64 - hv') := ⟨_, rfl⟩
      have hk1 : k ≤ m' := by rw [hk]; exact Nat.min_le_left _ _
      have hk2 : k ≤ 64 - hv' := by rw [hk]; exact Nat.min_le_right _ _
      have hk0 : 0 < k := by rw [hk]; show 0 < min m' (64 - hv'); omega
      have HK := Lib.hid hk
      have hlen : ((l'.take k).map u8v).length = k := by have := HL.out; simp; omega
      have HLEN := Lib.hid hlen
      clear hk hlen
      go_wp2_with (fail)
      have HSD := Lib.hid (show Blk wr.drew s 114 (stA h' bl' hv' (n + m : Nat)) from HS.out.drew)
      have HFD := Lib.hid (show Fr (fun k => k = s) w wr.drew from HF.out.drew)
      have HYD := Lib.hid (HY.out.fr ((Fr.refl (fun k => k = s) wr).drew))
      have c72 := HSD.out.cell 72 (stA_v _ _ _ _)
      have hsl := slice112 s hv' hv64 wr.drew
      clear HS HF HY
      refine wp_region_still_tail 9 (by kernel_rfl) (by kernel_rfl) ?_
      simp only [List.take_succ_cons, List.take_zero, List.drop_succ_cons, List.drop_zero]
      change wpStill _ _ wr.drew (fun a' => wpList _ _ _ _ a' wr.drew) _ _
      generalize wr.drew = wx at HSD HFD HYD c72 hsl ⊢
      iterate 9 still_step
      refine wpStill_nil ?_
      obtain ⟨cur, hcur⟩ : ∃ cur, cur = (stA h' bl' hv' (n + m : Nat)).toList := ⟨_, rfl⟩
      have hg : Blk wx s 114 cur.toArray := by rw [hcur, Array.toArray_toList]; exact HSD.out
      have hsrc : ∀ j v, ((l'.take k).map u8v)[j]? = some v → wx.cell? (Addr.add ⟨g, o, none⟩ j) = some v := by
        intro j v hj
        rw [List.getElem?_map] at hj
        obtain ⟨c, hc, rfl⟩ := Option.map_eq_some_iff.1 hj
        have hjk : j < k := by
          have := (List.getElem?_eq_some_iff.1 hc).1
          rw [List.length_take] at this; omega
        rw [List.getElem?_take_of_lt hjk] at hc
        obtain ⟨g', o', e, _, hcell, _⟩ := HYD.out j c hc
        cases e
        rw [Addr.add_mid]; exact hcell
      have hfit : 8 + hv' + ((l'.take k).map u8v).length ≤ cur.length := by rw [HLEN.out, hcur, Array.length_toList, stA_size]; omega
      have h1 : ∀ v ∈ (l'.take k).map u8v, v.oneCell' = true := fun v hv => by obtain ⟨c, _, rfl⟩ := List.mem_map.1 hv; rfl
      have hn : ((l'.take k).map u8v).length = Nat.min m' (64 - hv') := by rw [HLEN.out]; exact HK.out
      have hsp : (splice cur (8 + hv') ((l'.take k).map u8v)).toArray = stA h' (wrB bl' hv' (l'.take k)) hv' (n + m : Nat) := by
        rw [hcur]; exact stA_splice _ _ _ _ _ _ (by have := HLEN.out; rw [List.length_map] at this; omega)
      clear hcur
      generalize hcs : (l'.take k).map u8v = cs at hsrc hfit h1 hn hsp HLEN
      refine wpList_step fun K hK => step_copy_blk rfl (.tmp 26) (.tmp 27) 22 22 rfl 5 Try.underlying22 Try.size5 s (8 + hv') (64 - hv') (64 - hv') ⟨g, o, none⟩ m' cap' rfl rfl cur 114 hg cs hn hsrc hfit h1 ?_
      intro w' hb' hf'
      rw [hsp] at hb'
      rw [HLEN.out]
      refine hK _ _ ?_
      clear hK K hg hsrc hfit h1 hn hsp hcs hsl c72
      go_wp2_with (fail)
      have HSW := Lib.hid (show Blk w'.drew s 114 (stA h' (wrB bl' hv' (l'.take k)) hv' (n + m : Nat)) from hb')
      have HFW := Lib.hid (show Fr (fun k => k = s) w w'.drew from (HFD.out.trans hf' (fun _ _ e => e)).drew)
      have HYW := Lib.hid (show BytA w'.drew s (some ⟨g, o, none⟩) l' from (HYD.out.fr hf').fr (Fr.refl _ _).drew)
      have c72 := HSW.out.cell 72 (stA_v _ _ _ _)
      have f72 := HSW.out.free 72
      clear hb' hf' HSD HFD HYD
      have k0 : (0 : Int) ≤ (k : Int) := by omega
      have k1 : (k : Int) ≤ (m' : Int) := by omega
      have k2 : (hv' : Int) + (k : Int) ≤ 64 := by omega
      have k3 : (m' : Int) ≤ (cap' : Int) := by omega
      go_region
      have HSN := Lib.hid (show Blk (w'.setCell ⟨s, 72, none⟩ (.int .i64 ((hv' : Int) + k))).drew s 114 (stA h' (wrB bl' hv' (l'.take k)) (hv' + k : Nat) (n + m : Nat)) by
        have := HSW.out.set 72 (.int .i64 ((hv' : Int) + k)); rw [stA_set_v] at this; rw [show (((hv' + k : Nat) : Int)) = (hv' : Int) + k by omega]; exact this)
      have HFC := Lib.hid (show Fr (fun k => k = s) w' (w'.setCell ⟨s, 72, none⟩ (.int .i64 ((hv' : Int) + k))).drew from ((Fr.refl (fun k => k = s) w').setCell (p := ⟨s, 72, none⟩) (fun _ => rfl) _).drew)
      have HFN := Lib.hid (show Fr (fun k => k = s) w (w'.setCell ⟨s, 72, none⟩ (.int .i64 ((hv' : Int) + k))).drew from (show Fr (fun k => k = s) w w' from ⟨HFW.out.os, HFW.out.tape, HFW.out.output, HFW.out.size, HFW.out.block⟩).trans HFC.out (fun _ _ e => e))
      have HYN := Lib.hid (show BytA (w'.setCell ⟨s, 72, none⟩ (.int .i64 ((hv' : Int) + k))).drew s (if cap' = k then some ⟨g, o, none⟩ else some ⟨g, o + k, none⟩) (l'.drop k) by
        have hy := BytA.fr (show BytA w' s (some ⟨g, o, none⟩) l' from HYW.out) HFC.out
        by_cases hck : cap' = k
        · rw [if_pos hck]
          intro j c hj
          rw [List.getElem?_drop, List.getElem?_eq_none (by have := HL.out; omega)] at hj
          cases hj
        · rw [if_neg hck]; exact hy.drop k)
      clear HSW HFW HYW c72 f72 HFC
      generalize (if cap' = k then some (⟨g, o, none⟩ : Addr) else some ⟨g, o + k, none⟩) = adN at HYN ⊢
      generalize (w'.setCell ⟨s, 72, none⟩ (.int .i64 ((hv' : Int) + k))).drew = wz at HSN HFN HYN ⊢
      have HAC := Lib.hid (show ab (ab (h', bl', hv') (l'.take k)) (l'.drop k) = fin by rw [← ab_append, List.take_append_drop]; exact HA.out)
      have hch := ab_chunk (l'.take k) h' bl' hv' (by intro e; have e2 := congrArg List.length e; rw [List.length_take, List.length_nil] at e2; have e3 := HL.out; omega) (by rw [List.length_take]; omega)
      rw [show (l'.take k).length = k by rw [List.length_take]; have := HL.out; omega] at hch
      have HLN := Lib.hid (show m' - k = (l'.drop k).length by rw [List.length_drop, HL.out])
      have HCN := Lib.hid (show m' - k ≤ cap' - k by omega)
      have HMN := Lib.hid (show m' - k ≤ m ∧ m' - k < m' by omega)
      have c72 : wz.cell? ⟨s, 72, none⟩ = some (.int .i64 ((hv' : Int) + k)) := by rw [HSN.out.cell 72 (stA_v _ _ _ _)]; congr 2
      by_cases hfull : hv' + k = 64
      · have t1 : (hv' : Int) + (k : Int) = 64 := by omega
        rw [if_pos hfull] at hch
        rw [hch] at HAC
        have HT := Lib.hid (take_spec s h' (wrB bl' hv' (l'.take k)) (n + m : Nat) wz (by have := HSN.out; rw [hfull] at this; exact this))
        clear hch hfull HK HLEN HA HL HSN
        go_wp2_with (first
          | (go_at_call 61; (refine HT.out.mono ?_); rintro e w9 ⟨rfl, hb9, hf9⟩; have HB9 := Lib.hid hb9; have HF9 := Lib.hid hf9; clear hb9 hf9)
          | fail)
        go_roundg (m' - k)
        case measure => have := HG.out; have := HMN.out.2; omega
        case rel => exact ⟨l'.drop k, adN, cap' - k, _, _, 0, m' - k, Lib.hid rfl, Nat.le_of_lt (Nat.lt_of_lt_of_le HMN.out.2 hm'), rfl, HLN, HCN.out, by omega, HAC, Lib.hid (HYN.out.fr HF9.out), HB9, Lib.hid (HFN.out.trans HF9.out (fun _ _ e => e))⟩
      · have t1 : ¬ (hv' : Int) + (k : Int) = 64 := by omega
        rw [if_neg hfull] at hch
        rw [hch] at HAC
        have HLT := Lib.hid (show hv' + k < 64 by omega)
        clear hch hfull HK HLEN HA HL
        go_wp2_with (fail)
        go_roundg (m' - k)
        case measure => have := HG.out; have := HMN.out.2; omega
        case rel => exact ⟨l'.drop k, adN, cap' - k, _, _, hv' + k, m' - k, Lib.hid rfl, Nat.le_of_lt (Nat.lt_of_lt_of_le HMN.out.2 hm'), rfl, HLN, HCN.out, HLT.out, HAC, HYN, HSN, HFN⟩
end Go.Proofs.Ytphjebbjhfnhoaa
