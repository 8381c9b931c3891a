/- Under, where the second stands above the first. -/
import Derived.Test.YtmmobhmiemmioaaDoorPlP
namespace Go.Proofs.YtmmobhmiemmioaaDoor
open Go.RowKit

theorem splB_ne (p : ByteArray) (h : 0 < p.size) : 0 < (splB p).length := by
  have := (splB_par p h).2; omega
theorem equal_pre (w : World) (ad ad2 : Option Addr) (P Q : List ByteArray) (m c1 c2 : Nat) (h1 : Strs w ad P) (h2 : Strs w ad2 Q) (hm : m = Q.length) (hm0 : 0 < m) (hmb : m ≤ 1000) (hpre : Q <+: P) :
    Calls Tryd.prog 19 #[.slice ad m c1, .slice ad2 m c2] w fun e w' => e = .returned (.bool true) ∧ Fr (fun _ => False) w w' := by
  have hl := hpre.length_le
  have key : ∀ (L : List ByteArray) (a : Option Addr), 0 < L.length → Strs w a L → ∃ x, a = some ⟨x, 0, none⟩ ∧ ∀ j, j < L.length → w.cell? ⟨x, 0 + j, none⟩ = some (.string (L.getD j ByteArray.empty)) := by
    intro L a h0 hs
    obtain ⟨x, hx, _, _⟩ := hs 0 _ (List.getElem?_eq_getElem h0)
    refine ⟨x, hx, fun j hj => ?_⟩
    obtain ⟨y, hy, _, hc⟩ := hs j _ (List.getElem?_eq_getElem hj)
    rw [hx] at hy
    injection hy with hy
    injection hy with hy
    subst hy
    rw [Nat.zero_add, hc, List.getD_eq_getElem?_getD, List.getElem?_eq_getElem hj]; rfl
  obtain ⟨x, rfl, hx⟩ := key P ad (by omega) h1
  obtain ⟨y, rfl, hy⟩ := key Q ad2 (by omega) h2
  refine (Tryd.slices_Equal_string x 0 m c1 y 0 m c2 P Q w (by omega) (by omega) (by omega) (by omega) hx hy).mono ?_
  rintro e w' ⟨rfl, k, rfl⟩
  refine ⟨?_, (Fr.refl _ _).drewN k⟩
  have : P.take m = Q.take m := by
    rw [hm, List.take_length]
    exact (List.prefix_iff_eq_take.1 hpre).symm
  rw [decide_eq_true this]
set_option maxHeartbeats 2000000 in
theorem under_spec (p q : ByteArray) (w : World) (hp : p.size ≤ 800) (hq : q.size ≤ 800) (hq0 : 0 < q.size) (hpre : splB q <+: splB p) :
    Calls Tryd.prog 10 #[.string p, .string q] w fun e w' => e = .returned (.bool true) ∧ Fr (fun _ => False) w w' := by
  have HP := Lib.hid (fun wx => split_spec2 p wx (by omega))
  have HQ := Lib.hid (fun wx => split_spec2 q wx (by omega))
  have hl := hpre.length_le
  have hne := splB_ne q hq0
  have hlp := splB_len p
  obtain ⟨P, hP⟩ : ∃ P, P = splB p := ⟨_, rfl⟩
  obtain ⟨Q, hQ⟩ : ∃ Q, Q = splB q := ⟨_, rfl⟩
  rw [← hP] at HP hl hpre hlp
  rw [← hQ] at HQ hl hpre hne
  obtain ⟨n, hn⟩ : ∃ n, n = P.length := ⟨_, rfl⟩
  obtain ⟨m, hm⟩ : ∃ m, m = Q.length := ⟨_, rfl⟩
  rw [← hn] at HP hl hlp
  rw [← hm] at HQ hl hne
  have HN := Lib.hid hn
  have HM := Lib.hid hm
  have HPRE := Lib.hid hpre
  have h1 : (m : Int) ≤ (n : Int) := by omega
  have h2 : (n : Int) ≤ 1000 := by omega
  have HL := Lib.hid hl
  have HB := Lib.hid (show n ≤ 1000 by omega)
  have HNE := Lib.hid hne
  clear hP hQ hn hm hpre hl hlp hne hp hq hq0
  go_enter Tryd.func10, Tryd.ntmps10
  go_wp2_with (first
    | (go_at_call 15; (with_reducible refine (HP.out _).mono ?_); rintro e w1 ⟨ad, cap, rfl, hst, hf, hc⟩; have HST1 := Lib.hid hst; have HF1 := Lib.hid hf; have hc0 : (m : Int) ≤ (cap : Int) := (by have := HL.out; omega); clear hst hf hc)
    | (go_at_call 15; (with_reducible refine (HQ.out _).mono ?_); rintro e w2 ⟨ad2, cap2, rfl, hst, hf, hc⟩; have HST2 := Lib.hid hst; have HF2 := Lib.hid hf; clear hst hf hc)
    | (go_at_call 19; (refine (equal_pre w2 ad ad2 P Q m cap cap2 (HST1.out.fr HF2.out) HST2.out HM.out HNE.out (by have := HB.out; have := HL.out; omega) HPRE.out).mono ?_); rintro e w3 ⟨rfl, hf⟩; have HF3 := Lib.hid hf; clear hf)
    | fail)
  go_ret
  exact ⟨rfl, (HF1.out.trans HF2.out (fun _ _ h => h)).trans HF3.out (fun _ _ h => h)⟩
end Go.Proofs.YtmmobhmiemmioaaDoor
