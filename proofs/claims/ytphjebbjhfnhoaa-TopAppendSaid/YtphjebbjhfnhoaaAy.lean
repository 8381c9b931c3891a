/- delta: Apply. -/
import Derived.Test.YtphjebbjhfnhoaaOn
import Derived.Test.YtphjebbjhfnhoaaEa
namespace Go.Proofs.Ytphjebbjhfnhoaa
open Go.RowKit
/-- What an op makes. -/
def makeO (base : List UInt8) (o : OpV) : List UInt8 := if o.d.length = 0 then (base.drop o.off).take o.len else o.d
theorem makeO_length (base : List UInt8) (o : OpV) (h : GoodO base.length o) : (makeO base o).length = lenO o := by
  unfold makeO lenO lenV
  rcases h with ⟨h1, _, _⟩ | ⟨h1, h2, h3⟩
  · rw [if_neg (by omega), if_pos h1]
  · rw [if_pos h1, if_neg (by omega), List.length_take, List.length_drop]; omega
theorem Byt.cut {w : World} {g o : Nat} {l : List UInt8} (h : Byt w (some ⟨g, o, none⟩) l) (lo len : Nat) : Byt w (some ⟨g, o + lo, none⟩) ((l.drop lo).take len) := by
  intro j c hj
  have hj2 : j < len := by have := (List.getElem?_eq_some_iff.1 hj).1; rw [List.length_take] at this; omega
  rw [List.getElem?_take_of_lt hj2, List.getElem?_drop] at hj
  obtain ⟨b, o', e, hlt, hc⟩ := h _ _ hj
  cases e
  exact ⟨g, o + lo, rfl, hlt, by rw [Nat.add_assoc]; exact hc⟩
theorem Byt.old {w w' : World} {ad : Option Addr} {l : List UInt8} (h : Byt w ad l) (f : Fr (fun k => w.heap.size ≤ k) w w') : Byt w' ad l := fun j c hj => by
  obtain ⟨b, o, e, hb, hc⟩ := h j c hj
  exact ⟨b, o, e, Nat.lt_of_lt_of_le hb f.size, (World.cell?_of_block (f.block b hb (Nat.not_le.2 hb))).trans hc⟩
theorem flat_length (base : List UInt8) : ∀ (O : List OpV), (∀ o ∈ O, GoodO base.length o) → (O.flatMap (makeO base)).length = (O.map lenO).sum
  | [], _ => rfl
  | o :: O, h => by
    rw [List.flatMap_cons, List.length_append, flat_length base O (fun o ho => h o (List.mem_cons_of_mem _ ho)), makeO_length base o (h o (List.mem_cons_self ..))]
    rfl
set_option maxRecDepth 100000 in
set_option maxHeartbeats 8000000 in
theorem apply_spec (g o0 bcap : Nat) (base : List UInt8) (v : Value) (O : List OpV) (w : World) (hbs : Byt w (some ⟨g, o0, none⟩) base) (hbc : base.length ≤ bcap) (h : OpsIn w v O) (hO : O.length ≤ 8192) (hb : base.length ≤ 131072) (hg : ∀ o ∈ O, GoodO base.length o) (ht : (O.map lenO).sum ≤ 65536) :
    Calls Try.prog 8 #[.slice (some ⟨g, o0, none⟩) base.length bcap, v] w fun e w' => ∃ v', e = .returned (.tuple #[v', .int .i64 0]) ∧ SlB w' v' (O.flatMap (makeO base)) ∧ Fr (fun _ => False) w w' := by
  obtain ⟨ad, cap, rfl, hcap, _⟩ := h.1.slice
  have HCK := Lib.hid (dcheck_spec _ O base.length w h hO hb hg ht)
  obtain ⟨n, hn⟩ : ∃ n, n = O.length := ⟨_, rfl⟩
  obtain ⟨bn, hbn⟩ : ∃ bn, bn = base.length := ⟨_, rfl⟩
  rw [← hbn] at hbc HCK hb hg ⊢
  rw [← hn] at h hcap HCK ⊢
  have HN := Lib.hid hn
  have HBN := Lib.hid hbn
  obtain ⟨h0, hh0⟩ : ∃ h0, h0 = w.heap.size := ⟨_, rfl⟩
  have HH0 := Lib.hid hh0
  have HOW := Lib.hid (show ∀ k, OwnO (.slice ad n cap) O k → k < w.heap.size from fun k hk => by
    rcases hk with q | ⟨o, ho, q⟩
    · exact h.1.lt k q
    · exact Sl.lt (h.2 o ho) k q)
  have HBY := Lib.hid hbs
  have HI0 := Lib.hid (show OpsIn w (.slice ad n cap) O ∧ Fr (fun k => h0 ≤ k) w w from ⟨h, Fr.refl _ _⟩)
  have HT := Lib.hid ht
  have HG := Lib.hid hg
  have HB := Lib.hid hb
  have n1 : (n : Int) ≤ 8192 := by omega
  have n2 : (n : Int) ≤ (cap : Int) := by omega
  have n3 : (bn : Int) ≤ 131072 := by omega
  have n4 : (bn : Int) ≤ (bcap : Int) := by omega
  have HBC := Lib.hid hbc
  have HS0 := Lib.hid (Sl.nil w 5 1)
  clear h hO ht hn hcap hg hb hbs hbc hbn hh0
  go_enter Try.func8, Try.ntmps8
  go_upto_region 4 with (first
    | (go_at_call 16; (refine HCK.out.mono ?_); rintro e w1 ⟨rfl, hf⟩; replace HI0 := Lib.hid (show OpsIn w1 (.slice ad n cap) O ∧ Fr (fun k => h0 ≤ k) w w1 from ⟨HI0.out.1.fr hf (fun _ _ x => x), hf.mono (fun _ _ x => x.elim)⟩); clear hf)
    | fail)
  go_wp2_with (fail)
  go_loopg [7, 19] n (fun gk x7 x19 wr => ∃ (t : Nat) (a7 : Option Addr) (m c7 : Nat), t ≤ n ∧ Hid (gk = n - t) ∧ x19 = .int .i64 t ∧ x7 = .slice a7 m c7 ∧ Hid (m = ((O.take t).flatMap (makeO base)).length) ∧ Hid (SlB wr (.slice a7 m c7) ((O.take t).flatMap (makeO base)) ∧ (∀ k, (Value.slice a7 m c7).ownBlock = some k → h0 ≤ k)) ∧ Hid (OpsIn wr (.slice ad n cap) O ∧ Fr (fun k => h0 ≤ k) w wr))
  case atStart => exact ⟨0, none, 0, 0, Nat.zero_le _, Lib.hid rfl, rfl, rfl, Lib.hid rfl, Lib.hid ⟨Sl.nil _ _ _, fun k hk => (by cases hk)⟩, HI0⟩
  case round =>
    obtain ⟨t, a7, m, c7, htn, HK, rfl, rfl, HM0, HA, HI⟩ := hrel
    clear HI0
    by_cases htl : t < n
    · have t1 : (t : Int) < (n : Int) := by omega
      obtain ⟨o, hx⟩ : ∃ o, O[t]? = some o := ⟨_, List.getElem?_eq_getElem (by rw [← HN.out]; exact htl)⟩
      obtain ⟨gg, oo, rfl, _, d0, d1, d2⟩ := HI.out.1.at' t o hx
      obtain ⟨pa, pc, hpv, _, _⟩ := Sl.slice (HI.out.1.2 o (List.mem_of_getElem? hx))
      have HSD := Lib.hid (HI.out.1.2 o (List.mem_of_getElem? hx))
      have hgo := HG.out o (List.mem_of_getElem? hx)
      have hA : (O.take (t + 1)).flatMap (makeO base) = (O.take t).flatMap (makeO base) ++ makeO base o := by
        rw [List.take_add_one, hx, List.flatMap_append]; simp
      have hl1 : ((O.take (t + 1)).flatMap (makeO base)).length ≤ 65536 := by
        rw [flat_length base _ (fun o ho => by rw [← HBN.out]; exact HG.out o (List.mem_of_mem_take ho))]
        exact Nat.le_trans (sum_take_le _ O (t + 1)) HT.out
      obtain ⟨cur, hcur⟩ : ∃ cur, cur = (O.take t).flatMap (makeO base) := ⟨_, rfl⟩
      rw [← hcur] at HA hA
      rw [hA] at hl1
      have HA2 := Lib.hid hA
      have hm : m = cur.length := by rw [hcur]; exact HM0.out
      have HMM := Lib.hid hm
      have HL1 := Lib.hid hl1
      obtain ⟨pn, hpn⟩ : ∃ pn, pn = o.d.length := ⟨_, rfl⟩
      obtain ⟨po, hpo⟩ : ∃ po, po = o.off := ⟨_, rfl⟩
      obtain ⟨pl, hpl⟩ : ∃ pl, pl = o.len := ⟨_, rfl⟩
      rw [hpv] at d2 HSD
      unfold GoodO at hgo
      rw [← hpn] at hpv d2 hgo HSD
      rw [← hpo] at d0 hgo
      rw [← hpl] at d1 hgo
      have hpn6 : pn ≤ 1000000 := by
        rcases hgo with ⟨e, _, _⟩ | ⟨e, _, _⟩
        · have : (makeO base o).length = pn := by unfold makeO; rw [if_neg (by omega), hpn]
          rw [List.length_append] at hl1; omega
        · omega
      have HTO := Lib.hid (fun wx => told_spec (po : Int) (pl : Int) pa pn pc wx hpn6)
      have HN1 := Lib.hid (OneW.new wr (po : Int) (pl : Int) (.slice pa pn pc))
      have HTN := Lib.hid htl
      have HPN := Lib.hid hpn
      have HPO := Lib.hid hpo
      have HPL := Lib.hid hpl
      clear hpn hpv hpo hpl hx htl hA hpn6 htn hl1 hm hcur
      rcases hgo with ⟨q1, q2, q3⟩ | ⟨q1, q2, q3⟩
      · rw [decide_eq_true q1] at HTO
        have HQ1 := Lib.hid q1
        have hmk : makeO base o = o.d := if_neg (by have := HPN.out; omega)
        have HMK := Lib.hid hmk
        clear q1 q2 q3 hmk
        go_upto_region 8 with (fail)
        generalize hw5 : World.alloc _ _ = w5
        have HW : Hid (OneW wr wr.heap.size (po : Int) (pl : Int) (.slice pa pn pc) w5) := Lib.hid (by rw [← hw5]; exact HN1.out)
        clear hw5 d0 d1 d2 HN1
        obtain ⟨c0, c1, c2⟩ := HW.out.cells
        go_upto_region 9 with (first
          | (go_at_call 14; (refine (HTO.out _).mono ?_); rintro e w6 ⟨rfl, hf⟩; replace HW := Lib.hid (HW.out.frF hf); clear hf)
          | fail)
        clear c0 c1 c2
        obtain ⟨c0, c1, c2⟩ := HW.out.cells
        have HX7 := Lib.hid (show Sl w6 5 1 (.slice a7 m c7) m (cur.map u8v) from by have h1 := Sl.fr HA.out.1 HW.out.fr (fun _ _ x => x); rw [← HMM.out] at h1; exact h1)
        have HSRC := Lib.hid (src_byt (P := Try.prog) (tx := 22) Try.underlying22 (cap := pc) (SlB.bytAt (n := pn) (cap := pc) (Sl.fr HSD.out HW.out.fr (fun _ _ x => x))))
        rw [← HPN.out] at HSRC
        have HLL := Lib.hid (show m + pn ≤ 65536 from by have := HL1.out; rw [HMK.out, List.length_append, ← HMM.out, ← HPN.out] at this; exact this)
        go_wp2_with (first
          | (at_builtin; refine wpList_app rfl (.tmp 25) (.tmp 27) 22 22 rfl 5 (.int .u8 0) 1 1 Try.underlying22 Try.info5 rfl (.slice a7 m c7) m (cur.map u8v) rfl HX7.out _ pn (o.d.map u8v) rfl HSRC.out (by have := HLL.out; unfold maxLen; omega) (by have := HLL.out; omega) ?_; intro v' w9 q1 q2 q3; have Q1 := Lib.hid q1; have Q2 := Lib.hid q2; have Q3 := Lib.hid q3; obtain ⟨ad9, cap9, hv9, _, _⟩ := q1.slice; subst hv9; clear q1 q2 q3)
          | fail)
        go_roundg (n - (t + 1))
        case measure => have := HK.out; have := HTN.out; omega
        case rel =>
          have hF : Fr (fun k => h0 ≤ k) wr w9 := (HW.out.fr.mono (fun _ _ x => x.elim)).trans Q2.out (fun k _ q => HA.out.2 k q)
          refine ⟨t + 1, ad9, m + pn, cap9, HTN.out, Lib.hid rfl, by go_num, rfl, Lib.hid ?_, Lib.hid ⟨?_, fun k hk => ?_⟩, Lib.hid ⟨HI.out.1.fr hF (fun k hk q => absurd (HOW.out k hk) (by have := HH0.out; omega)), HI.out.2.trans hF (fun _ _ x => x)⟩⟩
          · rw [HA2.out, HMK.out, List.length_append, ← HMM.out, ← HPN.out]
          · rw [HA2.out, HMK.out]
            unfold SlB
            rw [List.length_append, List.map_append, ← HMM.out, ← HPN.out]
            exact Q1.out
          · rcases Q3.out with e | e
            · exact HA.out.2 k (e.symm.trans hk)
            · have h2 := e.symm.trans hk
              cases h2
              have := HI.out.2.size; have := HW.out.fr.size; have := HH0.out; omega
      · subst q1
        rw [decide_eq_false (Nat.lt_irrefl 0)] at HTO
        have hmk : makeO base o = (base.drop po).take pl := by unfold makeO; rw [if_pos HPN.out.symm, ← HPO.out, ← HPL.out]
        have HMK := Lib.hid hmk
        have HQ3 := Lib.hid q3
        have hlen : ((base.drop po).take pl).length = pl := by rw [List.length_take, List.length_drop, ← HBN.out]; omega
        have HLE := Lib.hid hlen
        have e1 : IntKind.i64.wrap ((po : Int) + (pl : Int)) = (po : Int) + (pl : Int) := IntWalk.i64_in _ (by omega)
        have hsl : ∀ wx, (Instr.slice 22 (.slice (some ⟨g, o0, none⟩) bn bcap) (some (.int .i64 (po : Int))) (some (.int .i64 ((po : Int) + (pl : Int)))) none).run Try.prog wx = .ok (.slice (some ⟨g, o0 + po, none⟩) pl (bcap - po)) wx := fun wx => by
          have := slice22 g o0 bn bcap po (po + pl) (by omega) (by have := HBC.out; omega) (by have := HBC.out; omega) wx
          rw [show po + pl - po = pl by omega, Int.natCast_add] at this
          exact this
        clear q2 q3 hmk hlen
        go_upto_region 8 with (fail)
        generalize hw5 : World.alloc _ _ = w5
        have HW : Hid (OneW wr wr.heap.size (po : Int) (pl : Int) (.slice pa 0 pc) w5) := Lib.hid (by rw [← hw5]; exact HN1.out)
        clear hw5 d0 d1 d2 HN1
        obtain ⟨c0, c1, c2⟩ := HW.out.cells
        go_upto_region 10 with (first
          | (go_at_call 14; (refine (HTO.out _).mono ?_); rintro e w6 ⟨rfl, hf⟩; replace HW := Lib.hid (HW.out.frF hf); clear hf)
          | fail)
        clear c0 c1 c2
        obtain ⟨c0, c1, c2⟩ := HW.out.cells
        have HX7 := Lib.hid (show Sl w6 5 1 (.slice a7 m c7) m (cur.map u8v) from by have h1 := Sl.fr HA.out.1 HW.out.fr (fun _ _ x => x); rw [← HMM.out] at h1; exact h1)
        have HSRC := Lib.hid (src_byt (P := Try.prog) (tx := 22) Try.underlying22 (cap := bcap - po) (Byt.cut (HBY.out.old ((HI.out.2.mono (fun k _ q => by rw [← HH0.out]; exact q)).trans (HW.out.fr.mono (fun _ _ x => x.elim)) (fun _ _ x => x))) po pl))
        rw [HLE.out] at HSRC
        have HLL := Lib.hid (show m + pl ≤ 65536 from by have := HL1.out; rw [HMK.out, List.length_append, ← HMM.out, HLE.out] at this; exact this)
        go_wp2_with (first
          | (at_builtin; refine wpList_app rfl (.tmp 29) (.tmp 38) 22 22 rfl 5 (.int .u8 0) 1 1 Try.underlying22 Try.info5 rfl (.slice a7 m c7) m (cur.map u8v) rfl HX7.out _ pl (((base.drop po).take pl).map u8v) rfl HSRC.out (by have := HLL.out; unfold maxLen; omega) (by have := HLL.out; omega) ?_; intro v' w9 q1 q2 q3; have Q1 := Lib.hid q1; have Q2 := Lib.hid q2; have Q3 := Lib.hid q3; obtain ⟨ad9, cap9, hv9, _, _⟩ := q1.slice; subst hv9; clear q1 q2 q3)
          | fail)
        go_roundg (n - (t + 1))
        case measure => have := HK.out; have := HTN.out; omega
        case rel =>
          have hF : Fr (fun k => h0 ≤ k) wr w9 := (HW.out.fr.mono (fun _ _ x => x.elim)).trans Q2.out (fun k _ q => HA.out.2 k q)
          refine ⟨t + 1, ad9, m + pl, cap9, HTN.out, Lib.hid rfl, by go_num, rfl, Lib.hid ?_, Lib.hid ⟨?_, fun k hk => ?_⟩, Lib.hid ⟨HI.out.1.fr hF (fun k hk q => absurd (HOW.out k hk) (by have := HH0.out; omega)), HI.out.2.trans hF (fun _ _ x => x)⟩⟩
          · rw [HA2.out, HMK.out, List.length_append, ← HMM.out, HLE.out]
          · rw [HA2.out, HMK.out]
            unfold SlB
            rw [List.length_append, List.map_append, ← HMM.out, HLE.out]
            exact Q1.out
          · rcases Q3.out with e | e
            · exact HA.out.2 k (e.symm.trans hk)
            · have h2 := e.symm.trans hk
              cases h2
              have := HI.out.2.size; have := HW.out.fr.size; have := HH0.out; omega
    · obtain rfl : t = n := by omega
      clear htn htl
      go_wp2_with (fail)
      go_ret2
      refine ⟨_, rfl, ?_, HI.out.2.mono (fun k hk q => absurd hk (by have := HH0.out; omega))⟩
      have := HA.out.1
      rw [HN.out, List.take_length] at this
      exact this
end Go.Proofs.Ytphjebbjhfnhoaa
