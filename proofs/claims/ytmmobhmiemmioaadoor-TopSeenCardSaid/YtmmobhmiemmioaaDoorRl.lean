/- Rules: sign, act, check. -/
import Derived.Test.YtmmobhmiemmioaaDoorPth
namespace Go.Proofs.YtmmobhmiemmioaaDoor
open Go.RowKit

structure R where
  act : Int
  pat : ByteArray
  dir : Bool
  anc : Bool
def R.cs (r : R) : List Value := [.int .i64 r.act, .string r.pat, .bool r.dir, .bool r.anc]
def sgnR (a : Int) : Int := if a = 1 then 43 else if a = 2 then 45 else if a = 3 then 80 else if a = 4 then 82 else 0
def actR (c : UInt8) : Int := if c = 43 then 1 else if c = 45 then 2 else if c = 80 then 3 else if c = 82 then 4 else 0

theorem idx54_1 (w : World) : (Instr.index 54 (.agg #[.int .u8 0, .int .u8 43, .int .u8 45, .int .u8 80, .int .u8 82]) (.int .i64 1)).run Tryd.prog w = .ok (.int .u8 43) w := by kernel_rfl
theorem idx54_2 (w : World) : (Instr.index 54 (.agg #[.int .u8 0, .int .u8 43, .int .u8 45, .int .u8 80, .int .u8 82]) (.int .i64 2)).run Tryd.prog w = .ok (.int .u8 45) w := by kernel_rfl
theorem idx54_3 (w : World) : (Instr.index 54 (.agg #[.int .u8 0, .int .u8 43, .int .u8 45, .int .u8 80, .int .u8 82]) (.int .i64 3)).run Tryd.prog w = .ok (.int .u8 80) w := by kernel_rfl
theorem idx54_4 (w : World) : (Instr.index 54 (.agg #[.int .u8 0, .int .u8 43, .int .u8 45, .int .u8 80, .int .u8 82]) (.int .i64 4)).run Tryd.prog w = .ok (.int .u8 82) w := by kernel_rfl
attribute [local go_sem] idx54_1 idx54_2 idx54_3 idx54_4
theorem sgn_spec (a : Int) (w : World) : Calls Tryd.prog 23 #[.int .i64 a] w fun e w' => e = .returned (.int .u8 (sgnR a)) ∧ w = w' := by
  by_cases h0 : a ≤ 0
  · have HE := Lib.hid (show sgnR a = 0 by unfold sgnR; rw [if_neg (by omega), if_neg (by omega), if_neg (by omega), if_neg (by omega)])
    go_enter Tryd.func23, Tryd.ntmps23
    go_wp2_with (fail)
    have he := HE.out
    go_ret
    exact ⟨by rw [he]; rfl, rfl⟩
  · by_cases h4 : 4 < a
    · have HE := Lib.hid (show sgnR a = 0 by unfold sgnR; rw [if_neg (by omega), if_neg (by omega), if_neg (by omega), if_neg (by omega)])
      go_enter Tryd.func23, Tryd.ntmps23
      go_wp2_with (fail)
      have he := HE.out
      go_ret
      exact ⟨by rw [he]; rfl, rfl⟩
    · have h : a = 1 ∨ a = 2 ∨ a = 3 ∨ a = 4 := by omega
      clear h0 h4
      rcases h with rfl | rfl | rfl | rfl <;>
      · go_enter Tryd.func23, Tryd.ntmps23
        go_wp2_with (fail)
        go_ret
        exact ⟨rfl, rfl⟩

theorem act_spec (c : UInt8) (w : World) : Calls Tryd.prog 30 #[.int .u8 (c.toNat : Int)] w fun e w' => e = .returned (.int .i64 (actR c)) ∧ w = w' := by
  have HS := Lib.hid (fun a => sgn_spec a w)
  have key : ∀ k : Int, (k = 1 ∨ k = 2 ∨ k = 3 ∨ k = 4) → ((sgnR k == (c.toNat : Int)) = true → actR c = k) := by
    intro k hk h
    have h2 : sgnR k = (c.toNat : Int) := by simpa using h
    rcases hk with rfl | rfl | rfl | rfl
    · have : c = 43 := UInt8.toNat_inj.1 (by have : sgnR 1 = 43 := rfl; show c.toNat = 43; omega)
      subst this; rfl
    · have : c = 45 := UInt8.toNat_inj.1 (by have : sgnR 2 = 45 := rfl; show c.toNat = 45; omega)
      subst this; rfl
    · have : c = 80 := UInt8.toNat_inj.1 (by have : sgnR 3 = 80 := rfl; show c.toNat = 80; omega)
      subst this; rfl
    · have : c = 82 := UInt8.toNat_inj.1 (by have : sgnR 4 = 82 := rfl; show c.toNat = 82; omega)
      subst this; rfl
  have zero : (∀ k : Int, (k = 1 ∨ k = 2 ∨ k = 3 ∨ k = 4) → (sgnR k == (c.toNat : Int)) = false) → actR c = 0 := by
    intro h
    have e1 : c ≠ 43 := by rintro rfl; exact absurd (h 1 (by simp)) (by decide)
    have e2 : c ≠ 45 := by rintro rfl; exact absurd (h 2 (by simp)) (by decide)
    have e3 : c ≠ 80 := by rintro rfl; exact absurd (h 3 (by simp)) (by decide)
    have e4 : c ≠ 82 := by rintro rfl; exact absurd (h 4 (by simp)) (by decide)
    unfold actR; rw [if_neg e1, if_neg e2, if_neg e3, if_neg e4]
  have KEY := Lib.hid key
  have ZERO := Lib.hid zero
  clear key zero
  obtain ⟨d, hd⟩ : ∃ d : Int, d = (c.toNat : Int) := ⟨_, rfl⟩
  rw [← hd] at KEY ZERO ⊢
  clear hd
  go_enter Tryd.func30, Tryd.ntmps30
  go_wp2_with (fail)
  go_loopg [3] 4 (fun gk x3 wr => ∃ k : Nat, 1 ≤ k ∧ k ≤ 5 ∧ Hid (gk = 5 - k) ∧ x3 = .int .i64 k ∧ wr = w ∧ Hid (∀ j : Int, 1 ≤ j → j < k → (sgnR j == d) = false))
  case atStart => exact ⟨1, Nat.le_refl _, by omega, Lib.hid rfl, rfl, rfl, Lib.hid (fun j h1 h2 => by omega)⟩
  case round =>
    obtain ⟨k, hk1, hk5, HG, rfl, rfl, HA⟩ := hrel
    by_cases h4 : k ≤ 4
    · have h42 : (k : Int) ≤ 4 := by omega
      obtain ⟨z, hz⟩ : ∃ z, z = sgnR (k : Int) := ⟨_, rfl⟩
      have HSK := Lib.hid (HS.out (k : Int))
      rw [← hz] at HSK
      rcases ht : (z == d) with _ | _
      · have HT := Lib.hid ht
        have HZ := Lib.hid hz
        have H4 := Lib.hid h4
        clear hz
        go_wp2_with (go_at_call 23; (refine HSK.out.mono ?_); rintro e w2 ⟨rfl, rfl⟩)
        go_roundg (5 - (k + 1))
        case measure => have := HG.out; have := H4.out; omega
        case rel =>
          refine ⟨k + 1, by omega, by have := H4.out; omega, Lib.hid rfl, by go_num, rfl, Lib.hid (fun j h1 h2 => ?_)⟩
          by_cases hj : j < k
          · exact HA.out j h1 hj
          · have : j = k := by omega
            rw [this, ← HZ.out]; exact HT.out
      · have HE := Lib.hid (KEY.out k (by omega) (by rw [← hz]; exact ht))
        clear hz
        go_wp2_with (go_at_call 23; (refine HSK.out.mono ?_); rintro e w2 ⟨rfl, rfl⟩)
        have he := HE.out
        go_ret
        exact ⟨by rw [he]; rfl, rfl⟩
    · obtain rfl : k = 5 := by omega
      have HE := Lib.hid (ZERO.out (fun j hj => HA.out j (by omega) (by omega)))
      go_wp2_with (fail)
      have he := HE.out
      go_ret
      exact ⟨by rw [he]; rfl, rfl⟩

end Go.Proofs.YtmmobhmiemmioaaDoor
