/- Rules: Hidden, Safe. -/
import Derived.Test.YtmmobhmiemmioaaDoorRa
import Derived.Test.YtmmobhmiemmioaaDoorPlP
namespace Go.Proofs.YtmmobhmiemmioaaDoor
open Go.RowKit

def hidF (L : List R) : Nat → ByteArray → Bool → Bool
  | 0, _, _ => false
  | n + 1, p, dir => if p.toList == [] then false else if actS p dir false L == 2 then true else hidF L n (parB p) true
theorem empty_size {p : ByteArray} : (p.toList == []) = decide (p.size = 0) := by
  by_cases h : p.size = 0
  · obtain rfl := empty_of h; rw [ByteArray.toList_eq]; rfl
  · rw [tl_ne (by omega)]; simp [h]
theorem hidF_fuel (L : List R) : ∀ (n m : Nat) (p : ByteArray) (dir : Bool), p.size < n → p.size < m → hidF L n p dir = hidF L m p dir := by
  intro n
  induction n with
  | zero => intro m p dir h; omega
  | succ n ih =>
    intro m p dir h1 h2
    obtain ⟨m, rfl⟩ : ∃ k, m = k + 1 := ⟨m - 1, by omega⟩
    rw [hidF, hidF, empty_size]
    by_cases h0 : p.size = 0
    · rw [decide_eq_true h0]; rfl
    · have := par_size p (by omega)
      rw [decide_eq_false h0]
      rw [ih m (parB p) true (by omega) (by omega)]
def hidQ (L : List R) (p : ByteArray) (dir : Bool) : Bool := hidF L (p.size + 1) p dir
def hidS (L : List R) (p : ByteArray) (dir : Bool) : Bool := rightB p && hidQ L p dir
def safS (L : List R) (p : ByteArray) (dir : Bool) : Bool := actS p dir true L == 3
theorem hidQ_nil (L : List R) (p : ByteArray) (dir : Bool) (h : p.size = 0) : hidQ L p dir = false := by
  unfold hidQ; rw [hidF, empty_size, decide_eq_true h]; rfl
theorem hidQ_step (L : List R) (p : ByteArray) (dir : Bool) (h : 0 < p.size) : hidQ L p dir = (actS p dir false L == 2 || hidQ L (parB p) true) := by
  unfold hidQ
  rw [hidF, empty_size, decide_eq_false (by omega), hidF_fuel L p.size ((parB p).size + 1) (parB p) true (par_size p h) (Nat.lt_succ_self _)]
  cases actS p dir false L == 2 <;> rfl
theorem hidQ_up (L : List R) (p : ByteArray) (dir : Bool) (h : 0 < p.size) (hh : hidQ L (parB p) true = true) : hidQ L p dir = true := by
  rw [hidQ_step L p dir h, hh, Bool.or_true]
theorem actS_empty (p : ByteArray) (dir drop : Bool) : actS p dir drop [] = 0 := rfl
theorem hidQ_none (p : ByteArray) (dir : Bool) : hidQ [] p dir = false := by
  have key : ∀ n p dir, hidF [] n p dir = false := by
    intro n
    induction n with
    | zero => intros; rfl
    | succ n ih => intro p dir; rw [hidF, ih]; cases (p.toList == []) <;> rfl
  exact key _ _ _

set_option maxHeartbeats 4000000 in
theorem hid_spec (ad : Option Addr) (L : List R) (cap : Nat) (p : ByteArray) (dir : Bool) (w : World) (hL : L.length ≤ 64) (hr : RRow w ad L) (hp : ∀ r ∈ L, r.pat.size ≤ 9223372036854775807) (hs : p.size ≤ 800) :
    Calls Tryd.prog 8 #[.slice ad L.length cap, .string p, .bool dir] w fun e w' => e = .returned (.bool (hidS L p dir)) ∧ Fr (fun _ => False) w w' := by
  have HRT := Lib.hid (fun wx => right_spec p wx hs)
  have HA := Lib.hid (fun q d wx (hx : RRow wx ad L) (hq : q.size ≤ 800) => acts_spec ad L cap q d false wx hL hx hp hq)
  have HR := Lib.hid hr
  have HS := Lib.hid hs
  have HP := Lib.hid (fun q wx (hq : q.size ≤ 900) => parent_spec q wx hq)
  clear hr hp hL hs
  generalize L.length = n at HA ⊢
  rcases hrb : rightB p with _ | _
  · have HE := Lib.hid (show hidS L p dir = false by unfold hidS; rw [hrb]; rfl)
    rw [hrb] at HRT
    clear hrb
    go_enter Tryd.func8, Tryd.ntmps8
    go_wp2_with (first | (go_at_call 5; (refine (HRT.out _).mono ?_); rintro e w1 ⟨rfl, hf⟩; have HF := Lib.hid hf; clear hf) | fail)
    have he := HE.out
    go_ret
    exact ⟨by rw [he]; rfl, HF.out⟩
  · have HE := Lib.hid (show hidS L p dir = hidQ L p dir by unfold hidS; rw [hrb]; rfl)
    rw [hrb] at HRT
    clear hrb
    go_enter Tryd.func8, Tryd.ntmps8
    go_wp2_with (first | (go_at_call 5; (refine (HRT.out _).mono ?_); rintro e w1 ⟨rfl, hf⟩; have HF1 := Lib.hid hf; clear hf) | fail)
    go_loopg [1, 2] p.size (fun gk x1 x2 wr => ∃ (q : ByteArray) (d : Bool), Hid (gk = q.size) ∧ x1 = .string q ∧ x2 = .bool d ∧ Hid (q.size ≤ 800) ∧ Hid (hidQ L p dir = hidQ L q d) ∧ Hid (Fr (fun _ => False) w wr))
    case atStart => exact ⟨p, dir, Lib.hid rfl, rfl, rfl, HS, Lib.hid rfl, HF1⟩
    case round =>
      obtain ⟨q, d, HG, rfl, rfl, HQ, HQE, HF⟩ := hrel
      rcases hpe : (q.toList == []) with _ | _
      · have hpe2 : ¬ q.toList = [] := by simpa using hpe
        have hq0 : 0 < q.size := by
          rw [empty_size] at hpe
          have : ¬ q.size = 0 := by simpa using hpe
          omega
        have HAA := Lib.hid (HA.out q d _ (HR.out.fr HF.out) HQ.out)
        have HPP := Lib.hid (fun wx => HP.out q wx (by have := HQ.out; omega))
        have HST := Lib.hid (hidQ_step L q d hq0)
        have HSZ := Lib.hid (par_size q hq0)
        clear hq0
        obtain ⟨z, hz⟩ : ∃ z, z = actS q d false L := ⟨_, rfl⟩
        rw [← hz] at HAA HST
        clear hz
        rcases hz2 : (z == 2) with _ | _
        · have hz3 : ¬ z = 2 := by simpa using hz2
          have HN := Lib.hid (show hidQ L p dir = hidQ L (parB q) true by rw [HQE.out, HST.out, hz2]; rfl)
          go_wp2_with (first
            | (go_at_call 18; (refine HAA.out.mono ?_); rintro e w2 ⟨rfl, hf⟩; have HF2 := Lib.hid (HF.out.trans hf (fun _ _ h => h)); clear hf)
            | (go_at_call 7; (refine (HPP.out _).mono ?_); rintro e w3 ⟨rfl, rfl⟩)
            | fail)
          go_roundg (parB q).size
          case measure => have := HG.out; have := HSZ.out; omega
          case rel => exact ⟨parB q, true, Lib.hid rfl, rfl, rfl, Lib.hid (by have := HQ.out; have := HSZ.out; omega), HN, HF2⟩
        · have hz3 : z = 2 := by simpa using hz2
          have HN := Lib.hid (show hidS L p dir = true by rw [HE.out, HQE.out, HST.out, hz2]; rfl)
          go_wp2_with (first
            | (go_at_call 18; (refine HAA.out.mono ?_); rintro e w2 ⟨rfl, hf⟩; have HF2 := Lib.hid (HF.out.trans hf (fun _ _ h => h)); clear hf)
            | fail)
          have he := HN.out
          go_ret
          exact ⟨by rw [he]; rfl, HF2.out⟩
      · have hpe2 : q.toList = [] := by simpa using hpe
        have HN := Lib.hid (show hidS L p dir = false by
          rw [HE.out, HQE.out]; exact hidQ_nil L q d (by rw [empty_size] at hpe; simpa using hpe))
        go_wp2_with (fail)
        have he := HN.out
        go_ret
        exact ⟨by rw [he]; rfl, HF.out⟩

theorem saf_spec (ad : Option Addr) (L : List R) (cap : Nat) (p : ByteArray) (dir : Bool) (w : World) (hL : L.length ≤ 64) (hr : RRow w ad L) (hp : ∀ r ∈ L, r.pat.size ≤ 9223372036854775807) (hs : p.size ≤ 800) :
    Calls Tryd.prog 13 #[.slice ad L.length cap, .string p, .bool dir] w fun e w' => e = .returned (.bool (safS L p dir)) ∧ Fr (fun _ => False) w w' := by
  have HA := Lib.hid (acts_spec ad L cap p dir true w hL hr hp hs)
  have HE := Lib.hid (show safS L p dir = (actS p dir true L == 3) from rfl)
  generalize safS L p dir = res at HE ⊢
  generalize L.length = n at HA ⊢
  generalize actS p dir true L = z at HA HE
  go_enter Tryd.func13, Tryd.ntmps13
  go_wp2_with (first
    | (go_at_call 18; (refine HA.out.mono ?_); rintro e w2 ⟨rfl, hf⟩; have HF2 := Lib.hid hf; clear hf)
    | fail)
  have he := HE.out
  go_ret
  exact ⟨by rw [he]; rfl, HF2.out⟩
end Go.Proofs.YtmmobhmiemmioaaDoor
