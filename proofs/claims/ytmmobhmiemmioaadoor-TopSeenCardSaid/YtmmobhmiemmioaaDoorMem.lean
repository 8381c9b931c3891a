/- The walk of member. -/
import Derived.Test.YtmmobhmiemmioaaDoorProg
import Derived.Test.YtmmobhmiemmioaaDoorGlobP
import Derived.Test.YtmmobhmiemmioaaDoorShelf
import Derived.KernelRfl
import Derived.Lib.Hide
import Derived.IntWalk
namespace Go.Proofs.YtmmobhmiemmioaaDoor
open Go.RowKit

theorem drop_cons {l : List UInt8} {i : Nat} {c : UInt8} {t : List UInt8} (h : l.drop i = c :: t) : i < l.length ∧ l[i]? = some c ∧ l.drop (i + 1) = t := by
  have hi : i < l.length := by
    rcases Nat.lt_or_ge i l.length with h1 | h1
    · exact h1
    · rw [List.drop_of_length_le h1] at h; cases h
  rw [List.drop_eq_getElem_cons hi] at h
  injection h with h1 h2
  exact ⟨hi, by rw [List.getElem?_eq_getElem hi, h1], h2⟩
theorem drop_nil {l : List UInt8} {i : Nat} (h : l.drop i = []) : l.length ≤ i := List.drop_eq_nil_iff.1 h
theorem size_len (s : ByteArray) : s.size = s.data.toList.length := by simp
theorem get_of {s : ByteArray} {i : Nat} {c : UInt8} (h : s.data.toList[i]? = some c) (hi : i < s.size) : s[i]'hi = c := by
  have h2 : s.data.toList[i]? = some (s[i]'hi) := by
    rw [List.getElem?_eq_getElem (by simpa using hi)]; rfl
  rw [h] at h2
  exact (Option.some.inj h2).symm
/-- The byte that stands at a place, as the walk reads it. -/
theorem at_cons {s : ByteArray} {i : Nat} {c : UInt8} {t : List UInt8} (h : s.data.toList.drop i = c :: t) : ∃ hi : i < s.size, s[i]'hi = c ∧ s.data.toList.drop (i + 1) = t := by
  obtain ⟨h1, h2, h3⟩ := drop_cons h
  have hi : i < s.size := by rw [size_len]; exact h1
  exact ⟨hi, get_of h2 hi, h3⟩
theorem len_drop {s : ByteArray} {i : Nat} {r : List UInt8} (h : s.data.toList.drop i = r) (hi : i ≤ s.size) : s.size = i + r.length := by
  rw [← h, List.length_drop, ← size_len]; omega

set_option maxHeartbeats 1000000 in
theorem member_some (s : ByteArray) (i : Nat) (r r1 : List UInt8) (c : UInt8) (w : World) (hs : s.size ≤ 100) (hr : s.data.toList.drop i = r) (hm : memS r = some (c, r1)) :
    Calls Tryd.prog 55 #[.string s, .int .i64 i] w fun e w' => e = .returned (.tuple #[.int .u8 (c.toNat : Int), .int .i64 (s.size - r1.length : Nat), .bool true]) ∧ w = w' := by
  rcases r with _ | ⟨x, t⟩
  · cases hm
  obtain ⟨hi, hx, ht⟩ := at_cons hr
  have hl := len_drop hr (Nat.le_of_lt hi)
  simp only [memS] at hm
  have i1 : (i : Int) < (s.size : Int) := by omega
  have i2 : (s.size : Int) ≤ 100 := by omega
  by_cases h92 : x = 92
  · rw [if_pos h92] at hm
    rcases t with _ | ⟨d, u⟩
    · cases hm
    injection hm with hm
    injection hm with h1 h2
    subst h1 h2
    obtain ⟨hi2, hd, hu⟩ := at_cons ht
    have b1 : ((s[i]'hi).toNat : Int) = 92 := by rw [hx, h92]; rfl
    have b2 : (((s[i]'hi).toNat : Int) == 92) = true := by rw [b1]; rfl
    have i3 : (i : Int) + 1 < (s.size : Int) := by omega
    have hd2 : ((s[i + 1]'hi2).toNat : Int) = (d.toNat : Int) := by rw [hd]
    have HE := Lib.hid (show ((s.size - u.length : Nat) : Int) = (i : Int) + 1 + 1 by simp only [List.length_cons] at hl; omega)
    have HD := Lib.hid hd2
    clear hd hd2 hx h92 hl hr ht hu b1 hs
    go_enter Tryd.func55, Tryd.ntmps55
    go_wp2_with (fail)
    have he := HE.out
    have hd := HD.out
    refine bodyPost_ret (v := .tuple #[.int .u8 (d.toNat : Int), .int .i64 (s.size - u.length : Nat), .bool true]) ?_ rfl ⟨rfl, rfl⟩
    rw [he, ← hd]
    simp [results, Tryd.results55, go_sem]
  · rw [if_neg h92] at hm
    injection hm with hm
    injection hm with h1 h2
    subst h1 h2
    have b2 : (((s[i]'hi).toNat : Int) == 92) = false := by
      rw [hx]
      have : x.toNat ≠ 92 := fun e => h92 (UInt8.toNat_inj.1 (by rw [e]; rfl))
      simp; omega
    have HE := Lib.hid (show ((s.size - t.length : Nat) : Int) = (i : Int) + 1 by simp only [List.length_cons] at hl; omega)
    have HD := Lib.hid (show ((s[i]'hi).toNat : Int) = (x.toNat : Int) by rw [hx])
    clear hx h92 hl hr ht hs
    go_enter Tryd.func55, Tryd.ntmps55
    go_wp2_with (fail)
    have he := HE.out
    have hd := HD.out
    refine bodyPost_ret (v := .tuple #[.int .u8 (x.toNat : Int), .int .i64 (s.size - t.length : Nat), .bool true]) ?_ rfl ⟨rfl, rfl⟩
    rw [he, ← hd]
    simp [results, Tryd.results55, go_sem]

set_option maxHeartbeats 1000000 in
theorem member_none (s : ByteArray) (i : Nat) (r : List UInt8) (w : World) (hi0 : i ≤ s.size) (hs : s.size ≤ 100) (hr : s.data.toList.drop i = r) (hm : memS r = none) :
    Calls Tryd.prog 55 #[.string s, .int .i64 i] w fun e w' => e = .returned (.tuple #[.int .u8 0, .int .i64 0, .bool false]) ∧ w = w' := by
  rcases r with _ | ⟨x, t⟩
  · have hl := len_drop hr hi0
    have i1 : (s.size : Int) ≤ (i : Int) := by simp at hl; omega
    clear hl hr hm hi0
    go_enter Tryd.func55, Tryd.ntmps55
    go_wp2_with (fail)
    go_ret3
    exact ⟨rfl, rfl⟩
  obtain ⟨hi, hx, ht⟩ := at_cons hr
  simp only [memS] at hm
  by_cases h92 : x = 92
  · rw [if_pos h92] at hm
    rcases t with _ | ⟨d, u⟩
    · have hl := len_drop hr hi0
      have b2 : (((s[i]'hi).toNat : Int) == 92) = true := by rw [hx, h92]; rfl
      have i1 : (i : Int) < (s.size : Int) := by omega
      have i2 : (s.size : Int) ≤ (i : Int) + 1 := by simp at hl; omega
      have i3 : (s.size : Int) ≤ 100 := by omega
      clear hx h92 hl hr ht hs hi0 hm
      go_enter Tryd.func55, Tryd.ntmps55
      go_wp2_with (fail)
      go_ret3
      exact ⟨rfl, rfl⟩
    · cases hm
  · rw [if_neg h92] at hm; cases hm
end Go.Proofs.YtmmobhmiemmioaaDoor
