/- The walks of the words' readers: digits, when. -/
import Derived.Test.YtlfaeabbfejjcaaDoorProg
import Derived.Test.YtlfaeabbfejjcaaDoorFr
import Derived.KernelRfl
import Derived.Lib.Hide
import Derived.Lib.Strings
import Derived.WalkLawsBesides
import Derived.Deep.Light
import Derived.Deep.QuietTactic
import Derived.BigQuiet
namespace Go.Proofs.YtlfaeabbfejjcaaDoor
open Go.RowKit

/-- The number of digits, read on from n; none: a sign that is no digit. -/
def digL : List UInt8 → Int → Option Int
  | [], n => some n
  | c :: t, n => if c.toNat < 48 ∨ 57 < c.toNat then none else digL t (10 * n + ((c.toNat : Int) - 48))

/-- What 'digits' answers. -/
def digS (l : List UInt8) : Int × Bool :=
  if l.length = 0 ∨ 10 < l.length ∨ (1 < l.length ∧ l.head? = some 48) then (0, false) else match digL l 0 with
    | none => (0, false)
    | some n => (n, true)

def bd : Nat → Int
  | 0 => 1
  | k + 1 => 10 * bd k
theorem bd_pos (k : Nat) : 0 < bd k := by induction k with
  | zero => decide
  | succ k ih => simp only [bd]; omega
theorem bd_le {k : Nat} (h : k ≤ 9) : bd k ≤ 1000000000 := by
  rcases k with _ | _ | _ | _ | _ | _ | _ | _ | _ | _ | k <;> first | decide | omega

theorem digS_bad {l : List UInt8} (h : l.length = 0 ∨ 10 < l.length ∨ (1 < l.length ∧ l.head? = some 48)) : digS l = (0, false) := by
  rw [digS, if_pos h]
theorem digS_none {l : List UInt8} (h : digL l 0 = none) : digS l = (0, false) := by
  rw [digS, h]; split <;> rfl
theorem digS_some {l : List UInt8} (h : ¬ (l.length = 0 ∨ 10 < l.length ∨ (1 < l.length ∧ l.head? = some 48))) {n : Int} (hn : digL l 0 = some n) : digS l = (n, true) := by
  rw [digS, if_neg h, hn]

theorem drop_get (s : ByteArray) (k : Nat) (h : k < s.size) : s.data.toList.drop k = s[k] :: s.data.toList.drop (k + 1) := by
  rw [List.drop_eq_getElem_cons (by simpa using h)]
  simp [ByteArray.getElem_eq_getElem_data]

theorem head_get (s : ByteArray) (h : 0 < s.size) : s.data.toList.head? = some s[0] := by
  have := drop_get s 0 h
  rw [List.drop_zero] at this
  rw [this]; rfl

set_option maxHeartbeats 8000000 in
theorem digits_loop (s : ByteArray) (w : World) (h0 : 0 < s.size) (h10 : s.size ≤ 10) (h1 : 1 < s.size → s[0].toNat ≠ 48) :
    Calls Tryd.prog 63 #[.string s] w fun e w' => e = .returned (.tuple #[.int .i64 (digS s.data.toList).1, .bool (digS s.data.toList).2]) ∧ w = w' := by
  have e0 : (s.toList == []) = false := by
    rcases s with ⟨⟨l⟩⟩
    rw [Lib.toList_data]
    rcases l with _ | ⟨c, l⟩
    · simp [ByteArray.size] at h0
    · rfl
  have e10 : decide (10 < (s.size : Int)) = false := by simp; omega
  have hok : ¬ (s.data.toList.length = 0 ∨ 10 < s.data.toList.length ∨ (1 < s.data.toList.length ∧ s.data.toList.head? = some 48)) := by
    have hl : s.data.toList.length = s.size := rfl
    rw [hl, head_get s h0]
    rintro (h | h | ⟨h, k⟩)
    · omega
    · omega
    · exact h1 h (by rw [Option.some.inj k]; rfl)
  have HOK := Lib.hid hok
  clear hok
  have H : ∀ (a : Act), True := fun _ => trivial
  clear H
  by_cases hz : 1 < s.size
  · have ez : decide (1 < (s.size : Int)) = true := by simp; omega
    have ea : ((s[0].toNat : Int) == 48) = false := by
      have := h1 hz
      simp; omega
    go_enter Tryd.func63, Tryd.ntmps63
    go_wp2_with (fail)
    go_loop [4, 25] (fun x4 x25 => ∃ (k : Nat) (n : Int), k ≤ s.size ∧ x4 = .int .i64 n ∧ x25 = .int .i64 k ∧ 0 ≤ n ∧ n < bd k ∧ Hid (digL s.data.toList 0 = digL (s.data.toList.drop k) n))
      (fun _ x => s.size - (intOf x).toNat)
    case atStart => exact ⟨0, 0, by omega, rfl, rfl, by omega, by decide, Lib.hid rfl⟩
    case round =>
      obtain ⟨k, n, hk, rfl, rfl, n0, n1, HD⟩ := hrel
      by_cases hlt : k < s.size
      · have hb : n < 1000000000 := Int.lt_of_lt_of_le n1 (bd_le (by omega))
        have hd := HD.out
        rw [drop_get s k hlt] at hd
        have c255 : s[k].toNat < 256 := UInt8.toNat_lt _
        have hsucc : bd (k + 1) = 10 * bd k := rfl
        have hbad : s[k].toNat < 48 ∨ 57 < s[k].toNat → digS s.data.toList = (0, false) := fun hc => digS_none (hd.trans (by rw [digL, if_pos hc]))
        have hgood : 48 ≤ s[k].toNat → s[k].toNat ≤ 57 → digL s.data.toList 0 = digL (s.data.toList.drop (k + 1)) (10 * n + ((s[k].toNat : Int) - 48)) := fun h1 h2 => hd.trans (by rw [digL, if_neg (by omega)])
        have HB := Lib.hid hbad
        have HG := Lib.hid hgood
        clear hd HD e0 hbad hgood
        go_wp2_with (fail)
        all_goals first
          | (have hbb := HB.out (by omega); go_ret2; refine ⟨ret2_ib ?_ ?_, rfl⟩ <;> rw [hbb])
          | exact ⟨⟨k + 1, _, by omega, rfl, by go_num, by omega, by omega, Lib.hid (HG.out (by omega) (by omega))⟩, by simp [intOf]; omega⟩
      · have ek : k = s.size := by omega
        subst ek
        have hn := digS_some HOK.out (HD.out.trans (by rw [List.drop_of_length_le (show s.data.toList.length ≤ s.size from Nat.le_refl _)]; rfl))
        have HN := Lib.hid hn
        clear HD HOK e0 hn
        go_wp2_with (fail)
        go_ret2
        exact ⟨by rw [HN.out]; rfl, rfl⟩
  · have ez : decide (1 < (s.size : Int)) = false := by simp; omega
    go_enter Tryd.func63, Tryd.ntmps63
    go_wp2_with (fail)
    go_loop [4, 25] (fun x4 x25 => ∃ (k : Nat) (n : Int), k ≤ s.size ∧ x4 = .int .i64 n ∧ x25 = .int .i64 k ∧ 0 ≤ n ∧ n < bd k ∧ Hid (digL s.data.toList 0 = digL (s.data.toList.drop k) n))
      (fun _ x => s.size - (intOf x).toNat)
    case atStart => exact ⟨0, 0, by omega, rfl, rfl, by omega, by decide, Lib.hid rfl⟩
    case round =>
      obtain ⟨k, n, hk, rfl, rfl, n0, n1, HD⟩ := hrel
      by_cases hlt : k < s.size
      · have hb : n < 1000000000 := Int.lt_of_lt_of_le n1 (bd_le (by omega))
        have hd := HD.out
        rw [drop_get s k hlt] at hd
        have c255 : s[k].toNat < 256 := UInt8.toNat_lt _
        have hsucc : bd (k + 1) = 10 * bd k := rfl
        have hbad : s[k].toNat < 48 ∨ 57 < s[k].toNat → digS s.data.toList = (0, false) := fun hc => digS_none (hd.trans (by rw [digL, if_pos hc]))
        have hgood : 48 ≤ s[k].toNat → s[k].toNat ≤ 57 → digL s.data.toList 0 = digL (s.data.toList.drop (k + 1)) (10 * n + ((s[k].toNat : Int) - 48)) := fun h1 h2 => hd.trans (by rw [digL, if_neg (by omega)])
        have HB := Lib.hid hbad
        have HG := Lib.hid hgood
        clear hd HD e0 hbad hgood
        go_wp2_with (fail)
        all_goals first
          | (have hbb := HB.out (by omega); go_ret2; refine ⟨ret2_ib ?_ ?_, rfl⟩ <;> rw [hbb])
          | exact ⟨⟨k + 1, _, by omega, rfl, by go_num, by omega, by omega, Lib.hid (HG.out (by omega) (by omega))⟩, by simp [intOf]; omega⟩
      · have ek : k = s.size := by omega
        subst ek
        have hn := digS_some HOK.out (HD.out.trans (by rw [List.drop_of_length_le (show s.data.toList.length ≤ s.size from Nat.le_refl _)]; rfl))
        have HN := Lib.hid hn
        clear HD HOK e0 hn
        go_wp2_with (fail)
        go_ret2
        exact ⟨by rw [HN.out]; rfl, rfl⟩

set_option maxHeartbeats 8000000 in
theorem digits_spec (s : ByteArray) (w : World) :
    Calls Tryd.prog 63 #[.string s] w fun e w' => e = .returned (.tuple #[.int .i64 (digS s.data.toList).1, .bool (digS s.data.toList).2]) ∧ w = w' := by
  have hl : s.data.toList.length = s.size := rfl
  by_cases h0 : s.size = 0
  · have e0 : s = ⟨#[]⟩ := by
      rcases s with ⟨⟨l⟩⟩
      have : l = [] := by simpa [ByteArray.size] using h0
      rw [this]
    rw [e0]
    go_enter Tryd.func63, Tryd.ntmps63
    go_wp2
    go_ret2
    exact ⟨rfl, rfl⟩
  by_cases h10 : s.size ≤ 10
  · by_cases h1 : 1 < s.size ∧ s[0].toNat = 48
    · obtain ⟨hz, ha⟩ := h1
      have hb := digS_bad (l := s.data.toList) (.inr (.inr ⟨by rw [hl]; exact hz, by rw [head_get s (by omega)]; exact congrArg some (UInt8.toNat_inj.mp ha)⟩))
      have HB := Lib.hid hb
      have e0 : (s.toList == []) = false := by
        rcases s with ⟨⟨l⟩⟩
        rw [Lib.toList_data]
        rcases l with _ | ⟨c, l⟩
        · simp [ByteArray.size] at h0
        · rfl
      have e10 : decide (10 < (s.size : Int)) = false := by simp; omega
      have ez : decide (1 < (s.size : Int)) = true := by simp; omega
      have ea : ((s[0].toNat : Int) == 48) = true := by simp; omega
      clear hb
      go_enter Tryd.func63, Tryd.ntmps63
      go_wp2_with (fail)
      have hbb := HB.out
      go_ret2
      refine ⟨ret2_ib ?_ ?_, rfl⟩ <;> rw [hbb]
    · exact digits_loop s w (by omega) h10 (fun hz ha => h1 ⟨hz, ha⟩)
  · have hb := digS_bad (l := s.data.toList) (.inr (.inl (by rw [hl]; omega)))
    have HB := Lib.hid hb
    have e0 : (s.toList == []) = false := by
      rcases s with ⟨⟨l⟩⟩
      rw [Lib.toList_data]
      rcases l with _ | ⟨c, l⟩
      · simp [ByteArray.size] at h0
      · rfl
    have e10 : decide (10 < (s.size : Int)) = true := by simp; omega
    clear hb
    go_enter Tryd.func63, Tryd.ntmps63
    go_wp2_with (fail)
    have hbb := HB.out
    go_ret2
    refine ⟨ret2_ib ?_ ?_, rfl⟩ <;> rw [hbb]

/-- The words of delete. -/
def whn : Nat → ByteArray
  | 0 => ⟨#[107, 101, 101, 112]⟩
  | 1 => ⟨#[98, 101, 102, 111, 114, 101]⟩
  | 2 => ⟨#[100, 117, 114, 105, 110, 103]⟩
  | _ => ⟨#[97, 102, 116, 101, 114]⟩

theorem when_spec (k : Nat) (hk : k < 4) (w : World) :
    Calls Tryd.prog 18 #[.int .i64 k] w fun e w' => e = .returned (.string (whn k)) ∧ w = w' := by
  obtain rfl | rfl | rfl | rfl : k = 0 ∨ k = 1 ∨ k = 2 ∨ k = 3 := by omega
  · show Calls Tryd.prog 18 #[.int .i64 0] w _
    have ix : ∀ w, (Instr.index 62 (.agg #[.string ⟨#[107, 101, 101, 112]⟩, .string ⟨#[98, 101, 102, 111, 114, 101]⟩, .string ⟨#[100, 117, 114, 105, 110, 103]⟩, .string ⟨#[97, 102, 116, 101, 114]⟩]) (.int .i64 0)).run Tryd.prog w = .ok (.string (whn 0)) w := fun _ => by kernel_rfl
    go_enter Tryd.func18, Tryd.ntmps18
    go_wp2
    go_ret
    exact ⟨rfl, rfl⟩
  · show Calls Tryd.prog 18 #[.int .i64 1] w _
    have ix : ∀ w, (Instr.index 62 (.agg #[.string ⟨#[107, 101, 101, 112]⟩, .string ⟨#[98, 101, 102, 111, 114, 101]⟩, .string ⟨#[100, 117, 114, 105, 110, 103]⟩, .string ⟨#[97, 102, 116, 101, 114]⟩]) (.int .i64 1)).run Tryd.prog w = .ok (.string (whn 1)) w := fun _ => by kernel_rfl
    go_enter Tryd.func18, Tryd.ntmps18
    go_wp2
    go_ret
    exact ⟨rfl, rfl⟩
  · show Calls Tryd.prog 18 #[.int .i64 2] w _
    have ix : ∀ w, (Instr.index 62 (.agg #[.string ⟨#[107, 101, 101, 112]⟩, .string ⟨#[98, 101, 102, 111, 114, 101]⟩, .string ⟨#[100, 117, 114, 105, 110, 103]⟩, .string ⟨#[97, 102, 116, 101, 114]⟩]) (.int .i64 2)).run Tryd.prog w = .ok (.string (whn 2)) w := fun _ => by kernel_rfl
    go_enter Tryd.func18, Tryd.ntmps18
    go_wp2
    go_ret
    exact ⟨rfl, rfl⟩
  · show Calls Tryd.prog 18 #[.int .i64 3] w _
    have ix : ∀ w, (Instr.index 62 (.agg #[.string ⟨#[107, 101, 101, 112]⟩, .string ⟨#[98, 101, 102, 111, 114, 101]⟩, .string ⟨#[100, 117, 114, 105, 110, 103]⟩, .string ⟨#[97, 102, 116, 101, 114]⟩]) (.int .i64 3)).run Tryd.prog w = .ok (.string (whn 3)) w := fun _ => by kernel_rfl
    go_enter Tryd.func18, Tryd.ntmps18
    go_wp2
    go_ret
    exact ⟨rfl, rfl⟩
end Go.Proofs.YtlfaeabbfejjcaaDoor
