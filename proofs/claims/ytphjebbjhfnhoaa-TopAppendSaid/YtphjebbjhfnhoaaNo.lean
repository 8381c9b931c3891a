/- delta: joiner, Norm. -/
import Derived.Test.YtphjebbjhfnhoaaAh
import Derived.Test.YtphjebbjhfnhoaaOn
namespace Go.Proofs.Ytphjebbjhfnhoaa
open Go.RowKit
theorem joiner_spec (w : World) : Calls Try.prog 27 #[] w fun e w' => e = .returned (.tuple #[.func (.func 43) #[] #[.pointer (some ⟨w.heap.size, 0, none⟩)], .func (.func 45) #[] #[.pointer (some ⟨w.heap.size, 0, none⟩)]]) ∧ w' = w.alloc (.cells #[.slice none 0 0] 30) := by
  have hmf : ∀ (fn : Fn) (first cap : Array Value) (w : World), (Instr.makeFunc fn first cap).run Try.prog w = .ok (.func fn first cap) w := fun _ _ _ _ => rfl
  go_enter Try.func27, Try.ntmps27
  go_wp2_with (fail)
  go_ret2
  exact ⟨rfl, rfl⟩
theorem all_spec (jb : Nat) (v : Value) (w : World) (h : w.cell? ⟨jb, 0, none⟩ = some v) : Calls Try.prog 45 #[.pointer (some ⟨jb, 0, none⟩)] w fun e w' => e = .returned v ∧ w' = w := by
  go_enter Try.func45, Try.ntmps45
  go_wp2_with (fail)
  go_ret
  exact ⟨rfl, rfl⟩
theorem toldS_take (O : List OpV) (t : Nat) (o : OpV) (ho : O[t]? = some o) : toldS ((O.take t).map OpV.p) + o.d.length ≤ toldS (O.map OpV.p) := by
  have h1 := sum_snoc (fun o => o.d.length) O t o ho
  have h2 := sum_take_le (fun o => o.d.length) O (t + 1)
  unfold toldS
  rw [List.map_map, List.map_map]
  show ((O.take t).map (fun o : OpV => o.d.length)).sum + _ ≤ (O.map (fun o : OpV => o.d.length)).sum
  omega
set_option maxRecDepth 100000 in
set_option maxHeartbeats 8000000 in
theorem norm_spec (v : Value) (O : List OpV) (w : World) (h : OpsIn w v O) (hO : O.length ≤ 500000) (ht : toldS (O.map OpV.p) ≤ 1000000) (hb : ∀ o ∈ O, o.off + o.len ≤ 131072) :
    Calls Try.prog 12 #[v] w fun e w' => ∃ v' O', e = .returned v' ∧ NormR (O.map OpV.p) (O'.map OpV.p) ∧ OpsIn w' v' O' ∧ O'.length ≤ O.length ∧ (∀ o ∈ O', o.off + o.len ≤ 131072) ∧ Fr (fun _ => False) w w' := by
  obtain ⟨ad, cap, rfl, hcap, _⟩ := h.1.slice
  obtain ⟨n, hn⟩ : ∃ n, n = O.length := ⟨_, rfl⟩
  rw [← hn] at h hcap ⊢
  have HN := Lib.hid hn
  have HOW := Lib.hid (show ∀ k, OwnO (.slice ad n cap) O k → k < w.heap.size from fun k hk => by
    rcases hk with q | ⟨o, ho, q⟩
    · exact h.1.lt k q
    · exact Sl.lt (h.2 o ho) k q)
  have HT := Lib.hid ht
  have HB := Lib.hid hb
  have HO := Lib.hid hO
  have n1 : (n : Int) ≤ 500000 := by omega
  have n2 : (n : Int) ≤ (cap : Int) := by omega
  obtain ⟨h0, hh0⟩ : ∃ h0, h0 = w.heap.size := ⟨_, rfl⟩
  have HJ0 := Lib.hid (show OpsIn (w.alloc (.cells #[.slice none 0 0] 30)) (.slice ad n cap) O ∧ JN h0 h0 (.slice none 0 0) [] (w.alloc (.cells #[.slice none 0 0] 30)) ∧ Fr (fun k => h0 ≤ k) w (w.alloc (.cells #[.slice none 0 0] 30)) from by
    have f : ∀ Q, Fr Q w (w.alloc (.cells #[.slice none 0 0] 30)) := fun Q => (Fr.refl Q w).alloc _
    refine ⟨h.fr (f (fun _ => False)) (fun _ _ x => x), ⟨by rw [hh0]; exact Blk.new w 30 _, Sl.nil _ _ _, fun o ho => (by cases ho), Nat.le_refl _, fun k hk => (by cases hk), fun I p e => ?_, fun o ho => (by cases ho)⟩, f _⟩
    have := congrArg List.length e
    simp at this)
  have HH0 := Lib.hid hh0
  clear h hO ht hn hcap hb hh0
  go_enter Try.func12, Try.ntmps12
  go_upto_region 2 with (first
    | (go_at_call 27; (refine (joiner_spec w).mono ?_); rintro e w1 ⟨rfl, rfl⟩)
    | fail)
  rw [← HH0.out]
  generalize w.alloc (.cells #[.slice none 0 0] 30) = w1 at HJ0 ⊢
  go_wp2_with (fail)
  go_loopg [13] n (fun gk x13 wr => ∃ (t : Nat) (ov : Value) (O' : List OpV), t ≤ n ∧ Hid (gk = n - t) ∧ x13 = .int .i64 t ∧ Hid (NormR ((O.take t).map OpV.p) (O'.map OpV.p)) ∧ Hid (O'.length ≤ t) ∧ Hid (OpsIn wr (.slice ad n cap) O ∧ JN h0 h0 ov O' wr ∧ Fr (fun k => h0 ≤ k) w wr))
  case atStart => exact ⟨0, _, [], Nat.zero_le _, Lib.hid rfl, rfl, Lib.hid .nil, Lib.hid (Nat.le_refl _), HJ0⟩
  case round =>
    obtain ⟨t, ov, O', htn, HG, rfl, HR, HL, HI⟩ := hrel
    clear HJ0
    by_cases htl : t < n
    · have t1 : (t : Int) < (n : Int) := by omega
      obtain ⟨o, hx⟩ : ∃ o, O[t]? = some o := ⟨_, List.getElem?_eq_getElem (by rw [← HN.out]; exact htl)⟩
      obtain ⟨g, oo, rfl, _, d0, d1, d2⟩ := HI.out.1.at' t o hx
      have HAD := Lib.hid (fun w5 (hf : Fr (fun _ => False) wr w5) => add_spec h0 h0 ov O' o w5 (HI.out.2.1.frF hf) (by have := HI.out.2.2.size; have := hf.size; have := HH0.out; omega) (Sl.fr (HI.out.1.2 o (List.mem_of_getElem? hx)) hf (fun _ _ x => x)) (HB.out o (List.mem_of_getElem? hx)) (by have := HL.out; have := HO.out; omega)
        (by rw [HR.out.told_eq]; have := toldS_take O t o hx; have := HT.out; omega))
      obtain ⟨pa, pc, hpv, _, _⟩ := Sl.slice (HI.out.1.2 o (List.mem_of_getElem? hx))
      obtain ⟨pn, hpn⟩ : ∃ pn, pn = o.d.length := ⟨_, rfl⟩
      obtain ⟨po, hpo⟩ : ∃ po, po = o.off := ⟨_, rfl⟩
      obtain ⟨pl, hpl⟩ : ∃ pl, pl = o.len := ⟨_, rfl⟩
      rw [hpv] at d2
      rw [← hpn] at hpv d2
      rw [← hpo] at d0
      rw [← hpl] at d1
      rw [hpv, ← hpo, ← hpl] at HAD
      have HN1 := Lib.hid (OneW.new wr (po : Int) (pl : Int) (.slice pa pn pc))
      have HX := Lib.hid hx
      have HTN := Lib.hid htl
      clear hpn hpv hpo hpl hx htl htn
      go_upto_region 5 with (fail)
      generalize hw5 : World.alloc _ _ = w5
      have HW : Hid (OneW wr wr.heap.size (po : Int) (pl : Int) (.slice pa pn pc) w5) := Lib.hid (by rw [← hw5]; exact HN1.out)
      clear hw5 d0 d1 d2 HN1
      obtain ⟨c0, c1, c2⟩ := HW.out.cells
      go_wp2_with (first
        | (go_at_call 43; (refine (HAD.out _ HW.out.fr).mono ?_); rintro e w6 ⟨ov', O'', rfl, hr, hj, hl, hf⟩; have HR2 := Lib.hid hr; have HJ2 := Lib.hid hj; have HL2 := Lib.hid hl; have HF2 := Lib.hid hf; clear hr hj hl hf)
        | fail)
      go_roundg (n - (t + 1))
      case measure => have := HG.out; have := HTN.out; omega
      case rel =>
        have hF : Fr (fun k => h0 ≤ k) wr w6 := (HW.out.fr.mono (fun _ _ x => x.elim)).trans HF2.out (fun _ _ x => x)
        refine ⟨t + 1, ov', O'', HTN.out, Lib.hid rfl, by go_num, Lib.hid ?_, Lib.hid (by have := HL.out; have := HL2.out; omega), Lib.hid ⟨HI.out.1.fr hF (fun k hk q => absurd (HOW.out k hk) (by have := HH0.out; omega)), HJ2.out, HI.out.2.2.trans hF (fun _ _ x => x)⟩⟩
        rw [List.take_add_one, HX.out, List.map_append]
        exact .snoc _ _ _ _ HR.out HR2.out
    · obtain rfl : t = n := by omega
      have cj := HI.out.2.1.box.cell 0 (v := ov) rfl
      have HALL := Lib.hid (all_spec h0 ov wr cj)
      clear htn htl
      go_wp2_with (first
        | (go_at_call 45; (refine HALL.out.mono ?_); rintro e w6 ⟨rfl, rfl⟩)
        | fail)
      go_ret
      refine ⟨_, O', rfl, ?_, ⟨HI.out.2.1.ops, HI.out.2.1.dat⟩, HL.out, HI.out.2.1.bd, HI.out.2.2.mono (fun k hk q => absurd hk (by have := HH0.out; omega))⟩
      have := HR.out
      rw [HN.out, List.take_length] at this
      exact this
end Go.Proofs.Ytphjebbjhfnhoaa
