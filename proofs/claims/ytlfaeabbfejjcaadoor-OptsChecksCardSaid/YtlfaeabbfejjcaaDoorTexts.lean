/- texts: lists of the same words are the same. -/
import Derived.Test.YtlfaeabbfejjcaaDoorRPrint
namespace Go.Proofs.YtlfaeabbfejjcaaDoor
open Go.RowKit

theorem texts_spec (a b : Option Addr) (L : List ByteArray) (c d : Nat) (w : World) (ha : Strs w a L) (hb : Strs w b L) (hl : L.length ≤ 1000) :
    Calls Tryd.prog 13 #[.slice a L.length c, .slice b L.length d] w fun e w' => e = .returned (.bool true) ∧ Fr (fun _ => False) w w' := by
  have HA := Lib.hid ha
  have HB := Lib.hid hb
  clear ha hb
  obtain ⟨n, hn⟩ : ∃ n, n = L.length := ⟨_, rfl⟩
  rw [← hn] at hl ⊢
  have HN := Lib.hid hn
  clear hn
  go_enter Tryd.func13, Tryd.ntmps13
  go_wp2
  go_loopg [5] n (fun gk x5 wr => ∃ i : Nat, i ≤ n ∧ gk = n - i ∧ x5 = .int .i64 i ∧ Hid (Fr (fun _ => False) w wr))
  case atStart => exact ⟨0, by omega, rfl, rfl, Lib.hid (Fr.refl _ _)⟩
  case round =>
    obtain ⟨i, hi, hgk, rfl, HF⟩ := hrel
    have HG := Lib.hid hgk
    clear hgk
    by_cases hit : i < n
    · have hiL : i < L.length := by rw [← HN.out]; exact hit
      obtain ⟨xa, hxa, la, ca⟩ := HA.out.2 i (L[i]'hiL) (List.getElem?_eq_getElem hiL)
      obtain ⟨xb, hxb, lb, cb⟩ := HB.out.2 i (L[i]'hiL) (List.getElem?_eq_getElem hiL)
      have ca2 := (HF.out.cell (a := xa.add i) (by rw [show (xa.add i).block = xa.block by unfold Addr.add; split <;> rfl]; exact la) (fun h => h)).trans ca
      have cb2 := (HF.out.cell (a := xb.add i) (by rw [show (xb.add i).block = xb.block by unfold Addr.add; split <;> rfl]; exact lb) (fun h => h)).trans cb
      generalize L[i]'hiL = str at ca2 cb2
      subst hxa hxb
      clear ca cb la lb hiL
      go_wp2_with (fail)
      go_quiet (fail)
      go_wp2_with (fail)
      go_roundg (n - (i + 1))
      case measure => have := HG.out; omega
      case rel => exact ⟨i + 1, by omega, rfl, by go_num, Lib.hid (HF.out.drewN _)⟩
    · obtain rfl : i = n := by omega
      go_wp2_with (fail)
      go_ret
      exact ⟨rfl, HF.out⟩
end Go.Proofs.YtlfaeabbfejjcaaDoor
