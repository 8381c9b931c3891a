/- The walk of the reference's number. -/
import Derived.Test.YtlfaeabbfejjcaaRef2
import Derived.Laws.BytesArg
namespace Go.Proofs.Ytlfaeabbfejjcaa
open Go.RowKit

theorem numS_len {l : List UInt8} (h : l.length < 1 ∨ 10 < l.length) : numS l = -1 := by rw [numS, if_pos h]
theorem numS_none {l : List UInt8} (h : digL l 0 = none) : numS l = -1 := by rw [numS, h]; split <;> rfl
theorem numS_some {l : List UInt8} (h : ¬ (l.length < 1 ∨ 10 < l.length)) {n : Int} (hn : digL l 0 = some n) : numS l = if Lib.decDigits n.toNat = l then n else -1 := by rw [numS, if_neg h, hn]

set_option maxHeartbeats 8000000 in
theorem number_loop (s : ByteArray) (w : World) (h0 : 0 < s.size) (h10 : s.size ≤ 10) :
    Calls Try.prog 54 #[.string s] w fun e w' => e = .returned (.int .i64 (numS s.data.toList)) ∧ Fr (fun _ => False) w w' := by
  have e1 : decide ((s.size : Int) < 1) = false := by simp; omega
  have e1b : decide (s.size = 0) = false := decide_eq_false (by omega)
  have e1c : (s.size == 0) = false := by rw [beq_eq_false_iff_ne]; omega
  have e10 : decide (10 < (s.size : Int)) = false := by simp; omega
  have hok : ¬ (s.data.toList.length < 1 ∨ 10 < s.data.toList.length) := by
    have hl : s.data.toList.length = s.size := rfl
    omega
  have HOK := Lib.hid hok
  clear hok
  go_enter Try.func54, Try.ntmps54
  go_wp2_with (fail)
  go_loopw [3, 4] (fun x3 x4 wr => ∃ (k : Nat) (n : Int), k ≤ s.size ∧ x3 = .int .i64 n ∧ x4 = .int .i64 k ∧ 0 ≤ n ∧ n < bd k ∧ Hid (digL s.data.toList 0 = digL (s.data.toList.drop k) n) ∧ wr = w)
    (fun _ x _ => s.size - (intOf x).toNat)
  case atStart => exact ⟨0, 0, by omega, rfl, rfl, by omega, by decide, Lib.hid rfl, rfl⟩
  case round =>
    obtain ⟨k, n, hk, rfl, rfl, n0, n1, HD, rfl⟩ := hrel
    by_cases hlt : k < s.size
    · have hb : n < 1000000000 := Int.lt_of_lt_of_le n1 (bd_le (by omega))
      have hd := HD.out
      rw [drop_get s k hlt] at hd
      have c255 : s[k].toNat < 256 := UInt8.toNat_lt _
      have hsucc : bd (k + 1) = 10 * bd k := rfl
      have hbad : s[k].toNat < 48 ∨ 57 < s[k].toNat → numS s.data.toList = -1 := fun hc => numS_none (hd.trans (by rw [digL, if_pos hc]))
      have hgood : 48 ≤ s[k].toNat → s[k].toNat ≤ 57 → digL s.data.toList 0 = digL (s.data.toList.drop (k + 1)) (10 * n + ((s[k].toNat : Int) - 48)) := fun h1 h2 => hd.trans (by rw [digL, if_neg (by omega)])
      have HB := Lib.hid hbad
      have HG := Lib.hid hgood
      have HSU := Lib.hid hsucc
      clear hd HD hbad hgood hsucc
      go_wp2_with (fail)
      all_goals first
        | (have hbb := HB.out (by omega); go_ret; exact ⟨by rw [hbb]; rfl, Fr.refl _ _⟩)
        | (go_roundw
           case rel => exact ⟨k + 1, _, by omega, rfl, by go_num, by omega, by rw [HSU.out]; omega, Lib.hid (by rw [show 10 * n + (s[k].toNat : Int) - 48 = 10 * n + ((s[k].toNat : Int) - 48) by omega]; exact HG.out (by omega) (by omega)), trivial⟩
           case measure => simp [intOf]; omega)
    · have ek : k = s.size := by omega
      subst ek
      have hn := numS_some HOK.out (HD.out.trans (by rw [List.drop_of_length_le (show s.data.toList.length ≤ s.size from Nat.le_refl _)]; rfl))
      have HN := Lib.hid hn
      obtain ⟨m, rfl⟩ : ∃ m : Nat, n = (m : Int) := ⟨n.toNat, by omega⟩
      have hm : m < 10000000000 := by
        have : bd s.size ≤ 10000000000 := by
          obtain ⟨j, hj⟩ : ∃ j, s.size = j + 1 := ⟨s.size - 1, by omega⟩
          rw [hj]; have := bd_le (k := j) (by omega); simp only [bd]; omega
        omega
      have hq : ((digB m).toList == s.toList) = decide (Lib.decDigits m = s.data.toList) := by rw [ba_eq, digB_data]
      clear HD HOK hn n1
      have HC := Lib.hid (digits_ref m (by omega))
      by_cases hmm : Lib.decDigits m = s.data.toList
      · rw [decide_eq_true hmm] at hq
        have hr : numS s.data.toList = (m : Int) := by rw [HN.out, Int.toNat_natCast, if_pos hmm]
        have HR := Lib.hid hr
        clear hmm hr HN
        go_wp2_with (go_at_call 64; refine (HC.out _).mono ?_; rintro e w1 ⟨rfl, hf1⟩)
        have hx := HR.out
        go_ret
        exact ⟨by rw [hx]; rfl, hf1⟩
      · rw [decide_eq_false hmm] at hq
        have hr : numS s.data.toList = -1 := by rw [HN.out, Int.toNat_natCast, if_neg hmm]
        have HR := Lib.hid hr
        clear hmm hr HN
        go_wp2_with (go_at_call 64; refine (HC.out _).mono ?_; rintro e w1 ⟨rfl, hf1⟩)
        have hx := HR.out
        go_ret
        exact ⟨by rw [hx]; rfl, hf1⟩

set_option maxHeartbeats 8000000 in
theorem rnumber_spec (s : ByteArray) (w : World) :
    Calls Try.prog 54 #[.string s] w fun e w' => e = .returned (.int .i64 (numS s.data.toList)) ∧ Fr (fun _ => False) w w' := by
  have hl : s.data.toList.length = s.size := rfl
  by_cases h0 : s.size = 0
  · have e0 : s = ⟨#[]⟩ := by
      rcases s with ⟨⟨l⟩⟩
      have : l = [] := by simpa [ByteArray.size] using h0
      rw [this]
    rw [e0]
    go_enter Try.func54, Try.ntmps54
    go_wp2
    go_ret
    exact ⟨rfl, Fr.refl _ _⟩
  by_cases h10 : s.size ≤ 10
  · exact number_loop s w (by omega) h10
  · have hb := numS_len (l := s.data.toList) (.inr (by rw [hl]; omega))
    have HB := Lib.hid hb
    have e1 : decide ((s.size : Int) < 1) = false := by simp; omega
    have e1b : decide (s.size = 0) = false := decide_eq_false (by omega)
    have e10 : decide (10 < (s.size : Int)) = true := by simp; omega
    clear hb
    go_enter Try.func54, Try.ntmps54
    go_wp2_with (fail)
    have hbb := HB.out
    go_ret
    exact ⟨by rw [hbb]; rfl, Fr.refl _ _⟩
end Go.Proofs.Ytlfaeabbfejjcaa
