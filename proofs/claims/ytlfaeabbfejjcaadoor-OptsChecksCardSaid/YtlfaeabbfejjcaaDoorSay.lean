/- The walks of the fields' readers: value, says. -/
import Derived.Test.YtlfaeabbfejjcaaDoorDig
import Derived.Test.YtlfaeabbfejjcaaDoorShelf
namespace Go.Proofs.YtlfaeabbfejjcaaDoor
open Go.RowKit

/-- Which word of delete it is. -/
def whenS (l : List UInt8) : Int × Bool :=
  if l = (whn 0).data.toList then (0, true) else if l = (whn 1).data.toList then (1, true) else if l = (whn 2).data.toList then (2, true) else if l = (whn 3).data.toList then (3, true) else (0, false)

/-- What 'value' answers of a name, a kind and a word. -/
def valS (nm : List UInt8) (k : Int) (w : List UInt8) : Int × Bool :=
  if Lib.hasPrefix w ([45, 45] ++ nm ++ [61]) = true then (if k = 1 then digS (Lib.trimPrefix w ([45, 45] ++ nm ++ [61])) else whenS (Lib.trimPrefix w ([45, 45] ++ nm ++ [61]))) else (0, false)

/-- What 'says' answers. -/
def sayS (nm : List UInt8) (k : Int) (w : List UInt8) : Int × Bool :=
  if k ≠ 0 then valS nm k w else if w = [45, 45] ++ nm then (1, true) else if w = [45, 45, 110, 111, 45] ++ nm then (0, true) else (0, false)

theorem pre_data (a b c : ByteArray) : (a ++ b ++ c).data.toList = a.data.toList ++ b.data.toList ++ c.data.toList := by simp
theorem pre_data2 (a b : ByteArray) : (a ++ b).data.toList = a.data.toList ++ b.data.toList := by simp
theorem ba_ext {a b : ByteArray} (h : a.data.toList = b.data.toList) : a = b := by
  rcases a with ⟨⟨a⟩⟩; rcases b with ⟨⟨b⟩⟩
  have : a = b := h
  rw [this]
theorem ba_eq (a b : ByteArray) : (a.toList == b.toList) = decide (a.data.toList = b.data.toList) := by
  rw [Lib.toList_data, Lib.toList_data]; by_cases h : a.data.toList = b.data.toList
  · simp [h]
  · rw [decide_eq_false h]; simpa using h

theorem whenS_hit {l : List UInt8} {k : Nat} (hk : k < 4) (h : l = (whn k).data.toList) : whenS l = ((k : Int), true) := by
  subst h
  obtain rfl | rfl | rfl | rfl : k = 0 ∨ k = 1 ∨ k = 2 ∨ k = 3 := by omega
  all_goals decide
theorem whenS_miss {l : List UInt8} (h : ∀ j, j < 4 → l ≠ (whn j).data.toList) : whenS l = (0, false) := by
  rw [whenS, if_neg (h 0 (by omega)), if_neg (h 1 (by omega)), if_neg (h 2 (by omega)), if_neg (h 3 (by omega))]

set_option maxHeartbeats 8000000 in
theorem value_spec (nm s : ByteArray) (kd : Int) (g1 g2 : Value) (w : World) (hn : nm.size ≤ 100) :
    Calls Tryd.prog 51 #[.agg #[.string nm, .int .i64 kd, g1, g2], .string s] w fun e w' => e = .returned (.tuple #[.int .i64 (valS nm.data.toList kd s.data.toList).1, .bool (valS nm.data.toList kd s.data.toList).2]) ∧ Fr (fun _ => False) w w' := by
  have hc := fun wx => Tryd.strings_CutPrefix s (⟨#[45, 45]⟩ ++ nm ++ ⟨#[61]⟩) wx
  rw [pre_data] at hc
  obtain ⟨pr, hpr⟩ : ∃ pr, pr = [45, 45] ++ nm.data.toList ++ [61] := ⟨_, rfl⟩
  have hpr' : (⟨#[45, 45]⟩ : ByteArray).data.toList ++ nm.data.toList ++ (⟨#[61]⟩ : ByteArray).data.toList = pr := hpr.symm
  rw [hpr'] at hc
  have hv : ∀ b, Lib.hasPrefix s.data.toList pr = b → valS nm.data.toList kd s.data.toList = if b = true then (if kd = 1 then digS (Lib.trimPrefix s.data.toList pr) else whenS (Lib.trimPrefix s.data.toList pr)) else (0, false) := by
    intro b hb
    rw [valS, ← hpr, hb]
  obtain ⟨t, ht⟩ : ∃ t : ByteArray, t = ⟨(Lib.trimPrefix s.data.toList pr).toArray⟩ := ⟨_, rfl⟩
  have htl : Lib.trimPrefix s.data.toList pr = t.data.toList := by rw [ht]
  rw [← ht] at hc
  rw [htl] at hv
  rcases hb : Lib.hasPrefix s.data.toList pr with _ | _
  · have hv1 := hv _ hb
    rw [hb] at hc
    have HV := Lib.hid hv1
    clear hv hv1 hb htl ht hpr hpr'
    have HC := Lib.hid hc
    clear hc
    go_enter Tryd.func51, Tryd.ntmps51
    go_wp2_with (go_at_call 62; refine (HC.out _).mono ?_; rintro e w' ⟨rfl, hw⟩; rw [hw])
    have h := HV.out
    go_ret2
    refine ⟨ret2_ib ?_ ?_, (Fr.refl _ _).alloc _⟩ <;> rw [h] <;> rfl
  · have hv1 := hv _ hb
    rw [hb] at hc
    rw [if_pos rfl] at hv1
    clear hv hb htl ht hpr hpr'
    have HC := Lib.hid hc
    clear hc
    by_cases hk : kd = 1
    · subst hk
      rw [if_pos rfl] at hv1
      have HV := Lib.hid hv1
      clear hv1
      go_enter Tryd.func51, Tryd.ntmps51
      go_wp2_with (first | (go_at_call 62; refine (HC.out _).mono ?_; rintro e w' ⟨rfl, hw⟩; rw [hw]) | (go_at_call 63; refine (digits_spec _ _).mono ?_; rintro e w' ⟨rfl, rfl⟩))
      have h := HV.out
      go_ret2
      refine ⟨ret2_ib ?_ ?_, (Fr.refl _ _).alloc _⟩ <;> rw [h]
    · rw [if_neg hk] at hv1
      have hk' : (kd == 1) = false := by simpa using hk
      have HV := Lib.hid hv1
      clear hv1 hk
      go_enter Tryd.func51, Tryd.ntmps51
      go_wp2_with (first | (go_at_call 62; refine (HC.out _).mono ?_; rintro e w' ⟨rfl, hw⟩; rw [hw]))
      go_loop [27] (fun x => ∃ k : Nat, k ≤ 4 ∧ x = .int .i64 k ∧ Hid (∀ j, j < k → t.data.toList ≠ (whn j).data.toList)) (fun x => 4 - (intOf x).toNat)
      case atStart => exact ⟨0, by omega, rfl, Lib.hid (fun j hj => absurd hj (by omega))⟩
      case round =>
        obtain ⟨k, hk, rfl, HJ⟩ := hrel
        by_cases hlt : k < 4
        · have hwk : ∀ wx, Calls Tryd.prog 18 #[.int .i64 k] wx fun e w' => e = .returned (.string (whn k)) ∧ wx = w' := fun wx => when_spec k hlt wx
          by_cases he : t.data.toList = (whn k).data.toList
          · have heq : (t.toList == (whn k).toList) = true := by rw [ba_eq]; exact decide_eq_true he
            have hh := Lib.hid (whenS_hit hlt he)
            have HW := Lib.hid hwk
            clear hwk he
            go_wp2_with (go_at_call 18; refine (HW.out _).mono ?_; rintro e w' ⟨rfl, rfl⟩)
            have h := HV.out.trans hh.out
            go_ret2
            refine ⟨ret2_ib ?_ ?_, (Fr.refl _ _).alloc _⟩ <;> rw [h]
          · have heq : (t.toList == (whn k).toList) = false := by rw [ba_eq]; exact decide_eq_false he
            have hj2 : ∀ j, j < k + 1 → t.data.toList ≠ (whn j).data.toList := by
              intro j hj
              rcases Nat.lt_or_ge j k with h | h
              · exact HJ.out j h
              · obtain rfl : j = k := by omega
                exact he
            have HJ2 := Lib.hid hj2
            have HW := Lib.hid hwk
            clear hwk he hj2 HJ
            go_wp2_with (go_at_call 18; refine (HW.out _).mono ?_; rintro e w' ⟨rfl, rfl⟩)
            exact ⟨⟨k + 1, by omega, by go_num, HJ2⟩, by simp [intOf]; omega⟩
        · obtain rfl : k = 4 := by omega
          go_wp2_with (fail)
          have h := HV.out.trans (whenS_miss HJ.out)
          go_ret2
          refine ⟨ret2_ib ?_ ?_, (Fr.refl _ _).alloc _⟩ <;> rw [h]

set_option maxHeartbeats 8000000 in
theorem says_spec (nm s : ByteArray) (kd : Int) (g1 g2 : Value) (w : World) (hn : nm.size ≤ 100) :
    Calls Tryd.prog 20 #[.agg #[.string nm, .int .i64 kd, g1, g2], .string s] w fun e w' => e = .returned (.tuple #[.int .i64 (sayS nm.data.toList kd s.data.toList).1, .bool (sayS nm.data.toList kd s.data.toList).2]) ∧ Fr (fun _ => False) w w' := by
  have e1 : (s.toList == (⟨#[45, 45]⟩ ++ nm : ByteArray).toList) = decide (s.data.toList = [45, 45] ++ nm.data.toList) := by rw [ba_eq, pre_data2]
  have e2 : (s.toList == (⟨#[45, 45, 110, 111, 45]⟩ ++ nm : ByteArray).toList) = decide (s.data.toList = [45, 45, 110, 111, 45] ++ nm.data.toList) := by rw [ba_eq, pre_data2]
  by_cases hk : kd = 0
  · subst hk
    by_cases h1 : s.data.toList = [45, 45] ++ nm.data.toList
    · have hv : sayS nm.data.toList 0 s.data.toList = (1, true) := by rw [sayS, if_neg (by decide), if_pos h1]
      rw [decide_eq_true h1] at e1
      have HV := Lib.hid hv
      clear hv h1 e2
      go_enter Tryd.func20, Tryd.ntmps20
      go_wp2_with (fail)
      have h := HV.out
      go_ret2
      refine ⟨ret2_ib ?_ ?_, (Fr.refl _ _).alloc _⟩ <;> rw [h]
    · rw [decide_eq_false h1] at e1
      by_cases h2 : s.data.toList = [45, 45, 110, 111, 45] ++ nm.data.toList
      · have hv : sayS nm.data.toList 0 s.data.toList = (0, true) := by rw [sayS, if_neg (by decide), if_neg h1, if_pos h2]
        rw [decide_eq_true h2] at e2
        have HV := Lib.hid hv
        clear hv h1 h2
        go_enter Tryd.func20, Tryd.ntmps20
        go_wp2_with (fail)
        have h := HV.out
        go_ret2
        refine ⟨ret2_ib ?_ ?_, (Fr.refl _ _).alloc _⟩ <;> rw [h]
      · have hv : sayS nm.data.toList 0 s.data.toList = (0, false) := by rw [sayS, if_neg (by decide), if_neg h1, if_neg h2]
        rw [decide_eq_false h2] at e2
        have HV := Lib.hid hv
        clear hv h1 h2
        go_enter Tryd.func20, Tryd.ntmps20
        go_wp2_with (fail)
        have h := HV.out
        go_ret2
        refine ⟨ret2_ib ?_ ?_, (Fr.refl _ _).alloc _⟩ <;> rw [h]
  · have hv : sayS nm.data.toList kd s.data.toList = valS nm.data.toList kd s.data.toList := by rw [sayS, if_pos hk]
    have hk' : (kd == 0) = false := by simpa using hk
    have HV := Lib.hid hv
    clear hv hk e1 e2
    go_enter Tryd.func20, Tryd.ntmps20
    go_wp2_with (go_at_call 51; refine (value_spec nm s kd g1 g2 _ hn).mono ?_; rintro e w' ⟨rfl, hf⟩)
    have h := HV.out
    go_ret2
    refine ⟨ret2_ib ?_ ?_, ((Fr.refl _ _).alloc _).trans hf (fun _ _ h => h)⟩ <;> rw [h]
end Go.Proofs.YtlfaeabbfejjcaaDoor
