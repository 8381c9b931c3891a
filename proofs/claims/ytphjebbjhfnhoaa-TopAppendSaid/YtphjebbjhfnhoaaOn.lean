/- delta: Cost · delta: one, Check. -/
import Derived.Test.YtphjebbjhfnhoaaJn
import Derived.Deep.LoopGhost
import Derived.Deep.CutRange
namespace Go.Proofs.Ytphjebbjhfnhoaa
open Go.RowKit
theorem OpsIn.at' {w : World} {ad : Option Addr} {n cap : Nat} {O : List OpV} (h : OpsIn w (.slice ad n cap) O) (t : Nat) (o : OpV) (ho : O[t]? = some o) : ∃ g oo, ad = some ⟨g, oo, none⟩ ∧ g < w.heap.size ∧
    w.cell? ⟨g, oo + t * 3, none⟩ = some (.int .i64 (o.off : Int)) ∧ w.cell? ⟨g, oo + t * 3 + 1, none⟩ = some (.int .i64 (o.len : Int)) ∧ w.cell? ⟨g, oo + t * 3 + 2, none⟩ = some o.dv := by
  obtain ⟨ht, _⟩ := List.getElem?_eq_some_iff.1 ho
  obtain ⟨g, oo, c, cur, e, hb, _⟩ := h.1.pos (by omega)
  cases e
  have h1 := h.1
  have hO : O = O.take t ++ o :: O.drop (t + 1) := by
    have h3 := List.drop_eq_getElem_cons ht
    rw [(List.getElem?_eq_some_iff.1 ho).2] at h3
    rw [← h3, List.take_append_drop]
  have hl : (O.take t).length = t := by rw [List.length_take]; omega
  have k := fun i hi u hu => (h1.cellAt (t * 3 + i) u (by rw [hO]; have := opsC_at (O.take t) o (O.drop (t + 1)) i hi; rw [hl] at this; rw [this]; exact hu)).1
  exact ⟨g, oo, rfl, hb.lt, k 0 (by decide) _ rfl, k 1 (by decide) _ rfl, k 2 (by decide) _ rfl⟩
/-- How much ops tell, and copy. -/
def toldV (O : List OpV) : Nat := (O.map (fun o => if o.d.length = 0 then 0 else o.d.length)).sum
def copyV (O : List OpV) : Nat := (O.map (fun o => if o.d.length = 0 then o.len else 0)).sum
theorem sum_snoc (f : OpV → Nat) (O : List OpV) (t : Nat) (o : OpV) (ho : O[t]? = some o) : ((O.take (t + 1)).map f).sum = ((O.take t).map f).sum + f o := by
  rw [List.take_add_one, ho]
  simp
theorem sum_take_le (f : OpV → Nat) (O : List OpV) (t : Nat) : ((O.take t).map f).sum ≤ (O.map f).sum := by
  have h : (O.map f).sum = ((O.take t).map f).sum + ((O.drop t).map f).sum := by
    rw [← List.sum_append, ← List.map_append, List.take_append_drop]
  omega
theorem toldV_eq (O : List OpV) : toldV O = toldS (O.map OpV.p) := by
  unfold toldV toldS
  rw [List.map_map]
  congr 1
  refine List.map_congr_left fun o _ => ?_
  show (if o.d.length = 0 then 0 else o.d.length) = o.d.length
  split <;> omega
/-- One op in a block of its own. -/
structure OneW (w0 : World) (b : Nat) (a c : Int) (v : Value) (w' : World) : Prop where
  bx : Blk w' b 48 #[.int .i64 a, .int .i64 c, v]
  fr : Fr (fun _ => False) w0 w'
theorem OneW.frF {w0 w1 w2 : World} {b : Nat} {a c : Int} {v : Value} (h : OneW w0 b a c v w1) (f : Fr (fun _ => False) w1 w2) : OneW w0 b a c v w2 := ⟨h.bx.fr f (fun x => x), h.fr.trans f (fun _ _ x => x)⟩
theorem OneW.cells {w0 w1 : World} {b : Nat} {a c : Int} {v : Value} (h : OneW w0 b a c v w1) : w1.cell? ⟨b, 0, none⟩ = some (.int .i64 a) ∧ w1.cell? ⟨b, 1, none⟩ = some (.int .i64 c) ∧ w1.cell? ⟨b, 2, none⟩ = some v := ⟨h.bx.cell 0 rfl, h.bx.cell 1 rfl, h.bx.cell 2 rfl⟩
theorem OneW.new (w : World) (a c : Int) (v : Value) : OneW w w.heap.size a c v (w.alloc (.cells #[.int .i64 a, .int .i64 c, v] 48)) := ⟨Blk.new w 48 _, (Fr.refl (fun _ => False) w).alloc _⟩
set_option maxRecDepth 100000 in
set_option maxHeartbeats 8000000 in
theorem cost_spec (v : Value) (O : List OpV) (w : World) (h : OpsIn w v O) (hO : O.length ≤ 500000) (ht : toldV O ≤ 1000000) (hc : copyV O ≤ 1000000) (hlb : ∀ o ∈ O, o.len ≤ 1000000) :
    Calls Try.prog 7 #[v] w fun e w' => e = .returned (.tuple #[.int .i64 (toldV O : Int), .int .i64 (copyV O : Int)]) ∧ Fr (fun _ => False) w w' := by
  obtain ⟨ad, cap, rfl, hcap, _⟩ := h.1.slice
  obtain ⟨n, hn⟩ : ∃ n, n = O.length := ⟨_, rfl⟩
  rw [← hn] at h hcap ⊢
  have HN := Lib.hid hn
  have HI0 := Lib.hid (show OpsIn w (.slice ad n cap) O ∧ Fr (fun _ => False) w w from ⟨h, Fr.refl _ _⟩)
  have HT := Lib.hid ht
  have HC := Lib.hid hc
  have HLB := Lib.hid hlb
  have n1 : (n : Int) ≤ 500000 := by omega
  have n2 : (n : Int) ≤ (cap : Int) := by omega
  clear h hO ht hc hn hcap hlb
  go_enter Try.func7, Try.ntmps7
  go_wp2_with (fail)
  go_loopg [4, 5, 10] n (fun gk x4 x5 x10 wr => ∃ t a b : Nat, t ≤ n ∧ Hid (gk = n - t) ∧ x10 = .int .i64 t ∧ x4 = .int .i64 a ∧ x5 = .int .i64 b ∧ Hid (a = toldV (O.take t)) ∧ Hid (b = copyV (O.take t)) ∧ Hid (OpsIn wr (.slice ad n cap) O ∧ Fr (fun _ => False) w wr))
  case atStart => exact ⟨0, 0, 0, Nat.zero_le _, Lib.hid rfl, rfl, rfl, rfl, Lib.hid rfl, Lib.hid rfl, HI0⟩
  case round =>
    obtain ⟨t, a, b, htn, HG, rfl, rfl, rfl, HA, HB, HI⟩ := hrel
    clear HI0
    have a1 : (a : Int) ≤ 1000000 := by have h1 := HA.out; have h2 := HT.out; have h3 : toldV (O.take t) ≤ toldV O := sum_take_le _ O t; omega
    have b1 : (b : Int) ≤ 1000000 := by have h1 := HB.out; have h2 := HC.out; have h3 : copyV (O.take t) ≤ copyV O := sum_take_le _ O t; omega
    by_cases htl : t < n
    · have t1 : (t : Int) < (n : Int) := by omega
      obtain ⟨o, hx⟩ : ∃ o, O[t]? = some o := ⟨_, List.getElem?_eq_getElem (by rw [← HN.out]; exact htl)⟩
      obtain ⟨g, oo, rfl, _, d0, d1, d2⟩ := HI.out.1.at' t o hx
      have hA : toldV (O.take (t + 1)) = toldV (O.take t) + (if o.d.length = 0 then 0 else o.d.length) := sum_snoc _ O t o hx
      have hB : copyV (O.take (t + 1)) = copyV (O.take t) + (if o.d.length = 0 then o.len else 0) := sum_snoc _ O t o hx
      have h3 : toldV (O.take (t + 1)) ≤ toldV O := sum_take_le _ O (t + 1)
      have h4 : copyV (O.take (t + 1)) ≤ copyV O := sum_take_le _ O (t + 1)
      obtain ⟨pa, pc, hpv, _, _⟩ := Sl.slice (HI.out.1.2 o (List.mem_of_getElem? hx))
      obtain ⟨pn, hpn⟩ : ∃ pn, pn = o.d.length := ⟨_, rfl⟩
      obtain ⟨po, hpo⟩ : ∃ po, po = o.off := ⟨_, rfl⟩
      obtain ⟨pl, hpl⟩ : ∃ pl, pl = o.len := ⟨_, rfl⟩
      rw [hpv] at d2
      rw [← hpn] at hpv d2 hA hB
      rw [← hpo] at d0
      rw [← hpl] at d1 hB
      have hpn6 : pn ≤ 1000000 := by
        have := HT.out
        split at hA <;> omega
      have hpl6 : pn = 0 → pl ≤ 1000000 := by
        intro e
        have := HC.out
        rw [if_pos e] at hB; omega
      have hs1 : (a : Int) + ((if pn = 0 then 0 else pn : Nat) : Int) ≤ 1000000 := by have := HA.out; have := HT.out; omega
      have hs2 : (b : Int) + ((if pn = 0 then pl else 0 : Nat) : Int) ≤ 1000000 := by have := HB.out; have := HC.out; omega
      have HN1 := Lib.hid (OneW.new wr (po : Int) (pl : Int) (.slice pa pn pc))
      have HTO := Lib.hid (fun wx => told_spec (po : Int) (pl : Int) pa pn pc wx hpn6)
      have HX := Lib.hid hx
      have HTN := Lib.hid htl
      rw [← HA.out] at hA
      rw [← HB.out] at hB
      have HA2 := Lib.hid hA
      have HB2 := Lib.hid hB
      by_cases hz : pn = 0
      · subst hz
        rw [if_pos rfl] at hs2
        have HLS := Lib.hid (fun wx => length_spec (po : Int) pl pa 0 pc wx hpn6 (hpl6 rfl))
        rw [decide_eq_false (Nat.lt_irrefl 0)] at HTO
        rw [show lenV 0 pl = pl from if_neg (Nat.lt_irrefl 0)] at HLS
        clear hpn hpv hpo hpl hx htl hA hB h3 h4 hpn6 hpl6 hs1 htn
        go_upto_region 5 with (fail)
        generalize hw5 : World.alloc _ _ = w5
        have HW : Hid (OneW wr wr.heap.size (po : Int) (pl : Int) (.slice pa 0 pc) w5) := Lib.hid (by rw [← hw5]; exact HN1.out)
        clear hw5 d0 d1 d2 HN1
        obtain ⟨c0, c1, c2⟩ := HW.out.cells
        have e1 : IntKind.i64.wrap ((b : Int) + (pl : Int)) = (b : Int) + (pl : Int) := IntWalk.i64_in _ (by omega)
        go_wp2_with (first
          | (go_at_call 14; (refine (HTO.out _).mono ?_); rintro e w6 ⟨rfl, hf⟩; replace HW := Lib.hid (HW.out.frF hf); obtain ⟨c0, c1, c2⟩ := HW.out.cells; clear hf)
          | (go_at_call 15; (refine (HLS.out _).mono ?_); rintro e w7 ⟨rfl, hf⟩; replace HW := Lib.hid (HW.out.frF hf); clear hf)
          | fail)
        go_roundg (n - (t + 1))
        case measure => have := HG.out; have := HTN.out; omega
        case rel => exact ⟨t + 1, a, b + pl, HTN.out, Lib.hid rfl, by go_num, rfl, by go_num, Lib.hid (by have := HA2.out; simpa using this.symm), Lib.hid (by have := HB2.out; simpa using this.symm), Lib.hid ⟨HI.out.1.fr HW.out.fr (fun _ _ x => x), HI.out.2.trans HW.out.fr (fun _ _ x => x)⟩⟩
      · have hz1 : 0 < pn := by omega
        have HZ := Lib.hid hz
        rw [if_neg hz] at hs1
        have hz2 : (0 : Int) < (pn : Int) := by omega
        have hpl7 : pl ≤ 1000000 := by rw [hpl]; exact HLB.out o (List.mem_of_getElem? HX.out)
        have HLS := Lib.hid (fun wx => length_spec (po : Int) pl pa pn pc wx hpn6 hpl7)
        rw [decide_eq_true hz1] at HTO
        rw [show lenV pn pl = pn from if_pos hz1] at HLS
        clear hpn hpv hpo hpl hx htl hA hB h3 h4 hpn6 hpl6 hs2 htn hz hz1 hpl7
        go_upto_region 5 with (fail)
        generalize hw5 : World.alloc _ _ = w5
        have HW : Hid (OneW wr wr.heap.size (po : Int) (pl : Int) (.slice pa pn pc) w5) := Lib.hid (by rw [← hw5]; exact HN1.out)
        clear hw5 d0 d1 d2 HN1
        obtain ⟨c0, c1, c2⟩ := HW.out.cells
        have e1 : IntKind.i64.wrap ((a : Int) + (pn : Int)) = (a : Int) + (pn : Int) := IntWalk.i64_in _ (by omega)
        go_wp2_with (first
          | (go_at_call 14; (refine (HTO.out _).mono ?_); rintro e w6 ⟨rfl, hf⟩; replace HW := Lib.hid (HW.out.frF hf); obtain ⟨c0, c1, c2⟩ := HW.out.cells; clear hf)
          | (go_at_call 15; (refine (HLS.out _).mono ?_); rintro e w7 ⟨rfl, hf⟩; replace HW := Lib.hid (HW.out.frF hf); clear hf)
          | fail)
        go_roundg (n - (t + 1))
        case measure => have := HG.out; have := HTN.out; omega
        case rel => exact ⟨t + 1, a + pn, b, HTN.out, Lib.hid rfl, by go_num, by go_num, rfl, Lib.hid (by rw [HA2.out, if_neg HZ.out]), Lib.hid (by rw [HB2.out, if_neg HZ.out]; rfl), Lib.hid ⟨HI.out.1.fr HW.out.fr (fun _ _ x => x), HI.out.2.trans HW.out.fr (fun _ _ x => x)⟩⟩
    · obtain rfl : t = n := by omega
      have HE1 := Lib.hid (show a = toldV O by rw [HA.out, HN.out, List.take_length])
      have HE2 := Lib.hid (show b = copyV O by rw [HB.out, HN.out, List.take_length])
      clear htn htl
      go_wp2_with (fail)
      go_ret2
      refine ⟨?_, HI.out.2⟩
      rw [← HE1.out, ← HE2.out]; rfl
end Go.Proofs.Ytphjebbjhfnhoaa

namespace Go.Proofs.Ytphjebbjhfnhoaa
open Go.RowKit
/-- An op that may be, over so many bytes. -/
def GoodO (base : Nat) (o : OpV) : Prop := (0 < o.d.length ∧ o.off = 0 ∧ o.len = 0) ∨ (o.d.length = 0 ∧ 1 ≤ o.len ∧ o.off + o.len ≤ base)
def lenO (o : OpV) : Nat := lenV o.d.length o.len
theorem one_spec (o : OpV) (base : Nat) (ad : Option Addr) (n cap : Nat) (w : World) (hn : n = o.d.length) (hn6 : n ≤ 1000000) (hb : base ≤ 131072) (hg : GoodO base o) :
    Calls Try.prog 29 #[.agg #[.int .i64 (o.off : Int), .int .i64 (o.len : Int), .slice ad n cap], .int .i64 (base : Int)] w fun e w' => e = .returned (.int .i64 0) ∧ Fr (fun _ => False) w w' := by
  have HT := Lib.hid (fun wx => told_spec (o.off : Int) (o.len : Int) ad n cap wx hn6)
  obtain ⟨po, hpo⟩ : ∃ po, po = o.off := ⟨_, rfl⟩
  obtain ⟨pl, hpl⟩ : ∃ pl, pl = o.len := ⟨_, rfl⟩
  unfold GoodO at hg
  rw [← hpo, ← hpl] at HT hg ⊢
  rw [← hn] at hg
  have HW := Lib.hid (show OneW w w.heap.size (po : Int) (pl : Int) (.slice ad n cap) (w.alloc (.cells #[.int .i64 (po : Int), .int .i64 (pl : Int), .slice ad n cap] 48)) from OneW.new w _ _ _)
  rcases hg with ⟨h1, h2, h3⟩ | ⟨h1, h2, h3⟩
  · subst h2
    subst h3
    rw [decide_eq_true h1] at HT
    clear hn hn6 hb hpo hpl h1
    go_enter Try.func29, Try.ntmps29
    go_wp2_with (first
      | (go_at_call 14; (refine (HT.out _).mono ?_); rintro e w6 ⟨rfl, hf⟩; replace HW := Lib.hid (HW.out.frF hf); obtain ⟨c0, c1, c2⟩ := HW.out.cells; clear hf)
      | fail)
    go_ret
    exact ⟨rfl, HW.out.fr⟩
  · subst h1
    rw [decide_eq_false (Nat.lt_irrefl 0)] at HT
    have l1 : ¬ (pl : Int) < 1 := by omega
    have l2 : ¬ (po : Int) < 0 := by omega
    have l3 : ¬ (base : Int) < (po : Int) := by omega
    have l4 : ¬ (base : Int) - (po : Int) < (pl : Int) := by omega
    have e1 : IntKind.i64.wrap ((base : Int) - (po : Int)) = (base : Int) - (po : Int) := IntWalk.i64_in _ (by omega)
    clear hn hn6 hb hpo hpl h2 h3
    go_enter Try.func29, Try.ntmps29
    go_wp2_with (first
      | (go_at_call 14; (refine (HT.out _).mono ?_); rintro e w6 ⟨rfl, hf⟩; replace HW := Lib.hid (HW.out.frF hf); obtain ⟨c0, c1, c2⟩ := HW.out.cells; clear hf)
      | fail)
    go_ret
    exact ⟨rfl, HW.out.fr⟩
set_option maxRecDepth 100000 in
set_option maxHeartbeats 8000000 in
theorem dcheck_spec (v : Value) (O : List OpV) (base : Nat) (w : World) (h : OpsIn w v O) (hO : O.length ≤ 8192) (hb : base ≤ 131072) (hg : ∀ o ∈ O, GoodO base o) (ht : (O.map lenO).sum ≤ 65536) :
    Calls Try.prog 16 #[v, .int .i64 (base : Int)] w fun e w' => e = .returned (.int .i64 0) ∧ Fr (fun _ => False) w w' := by
  obtain ⟨ad, cap, rfl, hcap, _⟩ := h.1.slice
  obtain ⟨n, hn⟩ : ∃ n, n = O.length := ⟨_, rfl⟩
  rw [← hn] at h hcap ⊢
  have HN := Lib.hid hn
  have HI0 := Lib.hid (show OpsIn w (.slice ad n cap) O ∧ Fr (fun _ => False) w w from ⟨h, Fr.refl _ _⟩)
  have HT := Lib.hid ht
  have HG := Lib.hid hg
  have HB := Lib.hid hb
  have n1 : (n : Int) ≤ 8192 := by omega
  have n2 : (n : Int) ≤ (cap : Int) := by omega
  have n3 : (base : Int) ≤ 131072 := by omega
  clear h hO ht hn hcap hg hb
  go_enter Try.func16, Try.ntmps16
  go_wp2_with (fail)
  go_loopg [5, 17] n (fun gk x5 x17 wr => ∃ t a : Nat, t ≤ n ∧ Hid (gk = n - t) ∧ x17 = .int .i64 t ∧ x5 = .int .i64 a ∧ Hid (a = ((O.take t).map lenO).sum) ∧ Hid (OpsIn wr (.slice ad n cap) O ∧ Fr (fun _ => False) w wr))
  case atStart => exact ⟨0, 0, Nat.zero_le _, Lib.hid rfl, rfl, rfl, Lib.hid rfl, HI0⟩
  case round =>
    obtain ⟨t, a, htn, HK, rfl, rfl, HA, HI⟩ := hrel
    clear HI0
    have a1 : (a : Int) ≤ 65536 := by have h1 := HA.out; have h2 := HT.out; have h3 : ((O.take t).map lenO).sum ≤ (O.map lenO).sum := sum_take_le _ O t; omega
    by_cases htl : t < n
    · have t1 : (t : Int) < (n : Int) := by omega
      obtain ⟨o, hx⟩ : ∃ o, O[t]? = some o := ⟨_, List.getElem?_eq_getElem (by rw [← HN.out]; exact htl)⟩
      obtain ⟨g, oo, rfl, _, d0, d1, d2⟩ := HI.out.1.at' t o hx
      have hA : ((O.take (t + 1)).map lenO).sum = ((O.take t).map lenO).sum + lenO o := sum_snoc _ O t o hx
      have h3 : ((O.take (t + 1)).map lenO).sum ≤ (O.map lenO).sum := sum_take_le _ O (t + 1)
      obtain ⟨pa, pc, hpv, _, _⟩ := Sl.slice (HI.out.1.2 o (List.mem_of_getElem? hx))
      have hgo := HG.out o (List.mem_of_getElem? hx)
      obtain ⟨pn, hpn⟩ : ∃ pn, pn = o.d.length := ⟨_, rfl⟩
      have hlo : lenO o = lenV pn o.len := by rw [hpn]; rfl
      have hl6 : lenO o ≤ 65536 := by have := HT.out; omega
      have hpn6 : pn ≤ 1000000 := by
        rw [hlo] at hl6; unfold lenV at hl6
        split at hl6 <;> omega
      have hpl6 : o.len ≤ 1000000 := by
        rcases hgo with ⟨_, _, e⟩ | ⟨_, _, e⟩
        · omega
        · have := HB.out; omega
      have HO1 := Lib.hid (fun wx => one_spec o base pa pn pc wx hpn hpn6 HB.out hgo)
      have HLS := Lib.hid (fun wx => length_spec (o.off : Int) o.len pa pn pc wx hpn6 hpl6)
      rw [← hlo] at HLS
      obtain ⟨po, hpo⟩ : ∃ po, po = o.off := ⟨_, rfl⟩
      obtain ⟨pl, hpl⟩ : ∃ pl, pl = o.len := ⟨_, rfl⟩
      obtain ⟨ln, hln⟩ : ∃ ln, ln = lenO o := ⟨_, rfl⟩
      rw [← hln] at HLS hA hl6
      rw [hpv] at d2
      rw [← hpn] at hpv d2
      rw [← hpo] at d0 HO1 HLS
      rw [← hpl] at d1 HO1 HLS
      have e1 : IntKind.i64.wrap ((a : Int) + (ln : Int)) = (a : Int) + (ln : Int) := IntWalk.i64_in _ (by omega)
      have HN1 := Lib.hid (OneW.new wr (po : Int) (pl : Int) (.slice pa pn pc))
      have HTN := Lib.hid htl
      rw [← HA.out] at hA
      have HA2 := Lib.hid hA
      clear hpn hpv hpo hpl hx htl hA h3 hpn6 hpl6 htn hln hlo hl6 hgo
      go_upto_region 7 with (fail)
      generalize hw5 : World.alloc _ _ = w5
      have HW : Hid (OneW wr wr.heap.size (po : Int) (pl : Int) (.slice pa pn pc) w5) := Lib.hid (by rw [← hw5]; exact HN1.out)
      clear hw5 d0 d1 d2 HN1
      obtain ⟨c0, c1, c2⟩ := HW.out.cells
      go_wp2_with (first
        | (go_at_call 29; (refine (HO1.out _).mono ?_); rintro e w6 ⟨rfl, hf⟩; replace HW := Lib.hid (HW.out.frF hf); obtain ⟨c0, c1, c2⟩ := HW.out.cells; clear hf)
        | (go_at_call 15; (refine (HLS.out _).mono ?_); rintro e w7 ⟨rfl, hf⟩; replace HW := Lib.hid (HW.out.frF hf); clear hf)
        | fail)
      go_roundg (n - (t + 1))
      case measure => have := HK.out; have := HTN.out; omega
      case rel => exact ⟨t + 1, a + ln, HTN.out, Lib.hid rfl, by go_num, by go_num, Lib.hid HA2.out.symm, Lib.hid ⟨HI.out.1.fr HW.out.fr (fun _ _ x => x), HI.out.2.trans HW.out.fr (fun _ _ x => x)⟩⟩
    · obtain rfl : t = n := by omega
      clear htn htl
      go_wp2_with (fail)
      go_ret
      exact ⟨rfl, HI.out.2⟩
end Go.Proofs.Ytphjebbjhfnhoaa
