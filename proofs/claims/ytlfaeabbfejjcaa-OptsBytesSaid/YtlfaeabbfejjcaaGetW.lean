/- The walk of num.Get. -/
import Derived.Test.YtlfaeabbfejjcaaProg
import Derived.Test.YtlfaeabbfejjcaaGetP
import Derived.Test.YtlfaeabbfejjcaaFld
import Derived.Deep.LoopGhost
import Derived.Laws.BitsLemmas
import Derived.Laws.BitsAllLaws
namespace Go.Proofs.Ytlfaeabbfejjcaa
open Go.RowKit

/-- A slice of bytes that came in. -/
def Byts (w : World) (a : Option Addr) (l : List UInt8) : Prop :=
  l.length ≤ 140737488355328 ∧ ∀ j, j < l.length → ∃ x, a = some x ∧ x.block < w.heap.size ∧ w.cell? (x.add j) = some (.int .u8 ((l.getD j 0).toNat : Int))

theorem wrap_small (n : Int) (h0 : 0 ≤ n) (h : n < 9223372036854775808) : wrap64 n = n := by unfold wrap64; omega

theorem or_group (g c k : Nat) (hk : k ≤ 8) (hg : g < 128 ^ k) (hc : c < 256) :
    bits BinOp.or IntKind.i64 (g : Int) (wrap64 (wrap64 (bits BinOp.and IntKind.u8 (c : Int) 127) * 2 ^ (7 * k))) = ((g + 128 ^ k * (c % 128) : Nat) : Int) := by
  have hm : bits BinOp.and IntKind.u8 (c : Int) 127 = ((c % 128 : Nat) : Int) := by
    have h := bits_mask .u8 8 (by decide) wraps_u8 7 (by decide) (c : Int) (by omega) (by omega)
    rw [show ((2 : Int) ^ 7 - 1) = 127 from rfl] at h
    rw [h]; omega
  rw [hm, wrap_small ((c % 128 : Nat) : Int) (by omega) (by omega)]
  have h2 : (2 : Int) ^ (7 * k) = ((128 ^ k : Nat) : Int) := by
    rw [Int.pow_mul, Int.natCast_pow]; rfl
  rw [h2]
  have h3 : ((c % 128 : Nat) : Int) * ((128 ^ k : Nat) : Int) = ((128 ^ k * (c % 128) : Nat) : Int) := by rw [← Int.natCast_mul, Nat.mul_comm]
  rw [h3]
  have hp : 128 ^ k ≤ 128 ^ 8 := Nat.pow_le_pow_right (by decide) hk
  have h4 : 128 ^ k * (c % 128) < 9223372036854775808 := by
    have h5 : c % 128 < 128 := Nat.mod_lt _ (by decide)
    have h6 : 128 ^ k * (c % 128) ≤ 128 ^ 8 * 127 := Nat.mul_le_mul hp (by omega)
    exact Nat.lt_of_le_of_lt h6 (by decide)
  rw [wrap_small ((128 ^ k * (c % 128) : Nat) : Int) (by omega) (by omega)]
  have h7 : g < 9223372036854775808 := Nat.lt_of_lt_of_le hg (Nat.le_trans hp (by decide))
  rw [(bits_nat .i64 63 (by decide) (fun n h0 h1 => by rw [IntKind.wrap_i64]; have : n < 9223372036854775808 := h1; omega) g (128 ^ k * (c % 128)) h7 h4).2]
  rw [Nat.or_comm, show 128 ^ k = 2 ^ (7 * k) by rw [Nat.pow_mul], ← Nat.two_pow_add_eq_or_of_lt (by rw [Nat.pow_mul]; exact hg), Nat.add_comm]

set_option maxHeartbeats 8000000 in
theorem get_in (a : Option Addr) (l : List UInt8) (cap p : Nat) (w : World) (hb : Byts w a l) (hp : p ≤ l.length) :
    Calls Try.prog 14 #[.slice a l.length cap, .int .i64 p] w fun e w' => e = .returned (.tuple #[.int .i64 (getS (l.drop p) p).1, .int .i64 (getS (l.drop p) p).2.1, .int .i64 (getS (l.drop p) p).2.2]) ∧ w = w' := by
  have hl := hb.1
  have h1 : decide ((p : Int) < 0) = false := by simp
  have h2 : decide (l.length < p) = false := by simp; omega
  have HB := Lib.hid hb.2
  clear hb
  go_enter Try.func14, Try.ntmps14
  go_wp2_with (fail)
  go_loopg [7, 18] 9 (fun gk x7 x18 wr => ∃ k : Nat, k ≤ 9 ∧ gk = 9 - k ∧ x18 = .int .i64 k ∧ p + k ≤ l.length ∧ x7 = .int .i64 (gval ((l.drop p).take k)) ∧ Hid (∀ j, j < k → 127 < ((l.drop p).getD j 0).toNat) ∧ wr = w)
  case atStart => exact ⟨0, by omega, rfl, rfl, by omega, rfl, Lib.hid (fun j hj => by omega), rfl⟩
  case round =>
    obtain ⟨k, hk, hgk, rfl, hpk, rfl, HM, rfl⟩ := hrel
    have HG := Lib.hid hgk
    clear hgk
    by_cases hk9 : k < 9
    · by_cases hlt : p + k < l.length
      · obtain ⟨x, hx, hxl, hxc⟩ := HB.out (p + k) hlt
        subst hx
        obtain ⟨c, hc⟩ : ∃ c, c = l.getD (p + k) 0 := ⟨_, rfl⟩
        rw [← hc] at hxc
        have HC := Lib.hid hc
        have c255 : c.toNat < 256 := UInt8.toNat_lt _
        have hdl : k < (l.drop p).length := by simp; omega
        have hgd : (l.drop p).getD k 0 = c := by rw [getD_drop, hc]
        have hgl : gval ((l.drop p).take k) < 128 ^ k := by
          have := gval_lt ((l.drop p).take k)
          rwa [List.length_take, Nat.min_eq_left (by omega)] at this
        have hst : gval ((l.drop p).take (k + 1)) = gval ((l.drop p).take k) + 128 ^ k * (c.toNat % 128) := by rw [gval_step hdl, hgd]
        have E := or_group (gval ((l.drop p).take k)) c.toNat k (by omega) hgl c255
        rw [← hst] at E
        have hnum := fun (h1 : c.toNat ≤ 127) (h2 : ¬ (c.toNat = 0 ∧ 0 < k)) => getS_num (p := p) hk9 hdl HM.out (by rw [hgd]; exact h1) (by rw [hgd]; exact h2)
        have hze := fun (h1 : c.toNat = 0) (h2 : 0 < k) => getS_zero (p := p) hk9 hdl HM.out (by rw [hgd]; exact h1) h2
        have hmo := fun (h1 : 127 < c.toNat) => (show ∀ j, j < k + 1 → 127 < ((l.drop p).getD j 0).toNat from fun j hj => by
          rcases Nat.lt_or_ge j k with h | h
          · exact HM.out j h
          · obtain rfl : j = k := by omega
            rw [hgd]; exact h1)
        have HN := Lib.hid hnum
        have HZ := Lib.hid hze
        have HO := Lib.hid hmo
        obtain ⟨N, hN⟩ : ∃ N, N = gval ((l.drop p).take (k + 1)) := ⟨_, rfl⟩
        rw [← hN] at E
        have HNN := Lib.hid hN
        clear hc hgd hst hgl hnum hze hmo hN HC HM hdl
        by_cases hc127 : 127 < c.toNat
        · have b1 : decide (127 < (c.toNat : Int)) = true := by simp; omega
          go_wp2_with (fail)
          go_roundg (9 - (k + 1))
          case measure => have := HG.out; omega
          case rel => exact ⟨k + 1, by omega, rfl, by go_num, by omega, by rw [← HNN.out], Lib.hid (HO.out hc127), rfl⟩
        · have b1 : decide (127 < (c.toNat : Int)) = false := by simp; omega
          by_cases hz : c.toNat = 0
          · have b2 : ((c.toNat : Int) == 0) = true := by simp [hz]
            by_cases hk0 : 0 < k
            · have b3 : decide (0 < k) = true := by simpa using hk0
              have hx := HZ.out hz hk0
              have HX := Lib.hid hx
              clear hx hz HZ HN HO HNN
              go_wp2_with (fail)
              have hx := HX.out
              go_ret3
              exact ⟨by rw [hx]; rfl, rfl⟩
            · have b3 : decide (0 < k) = false := by simpa using hk0
              have hx := HN.out (by omega) (fun h => hk0 h.2)
              rw [← HNN.out] at hx
              by_cases hbig : maxNum < N
              · rw [if_pos hbig] at hx
                have b4 : decide (4611686018427387903 < (N : Int)) = true := by unfold maxNum at hbig; simp; omega
                have HX := Lib.hid hx
                clear hx hz HZ HN HO HNN hbig
                go_wp2_with (fail)
                have hx := HX.out
                go_ret3
                exact ⟨by rw [hx]; rfl, rfl⟩
              · rw [if_neg hbig] at hx
                have b4 : decide (4611686018427387903 < (N : Int)) = false := by unfold maxNum at hbig; simp; omega
                have HX := Lib.hid hx
                clear hx hz HZ HN HO HNN hbig
                go_wp2_with (fail)
                have hx := HX.out
                go_ret3
                exact ⟨by rw [hx]; rfl, rfl⟩
          · have b2 : ((c.toNat : Int) == 0) = false := by simpa using hz
            have hx := HN.out (by omega) (fun h => hz h.1)
            rw [← HNN.out] at hx
            by_cases hbig : maxNum < N
            · rw [if_pos hbig] at hx
              have b4 : decide (4611686018427387903 < (N : Int)) = true := by unfold maxNum at hbig; simp; omega
              have HX := Lib.hid hx
              clear hx hz HZ HN HO HNN hbig
              go_wp2_with (fail)
              have hx := HX.out
              go_ret3
              exact ⟨by rw [hx]; rfl, rfl⟩
            · rw [if_neg hbig] at hx
              have b4 : decide (4611686018427387903 < (N : Int)) = false := by unfold maxNum at hbig; simp; omega
              have HX := Lib.hid hx
              clear hx hz HZ HN HO HNN hbig
              go_wp2_with (fail)
              have hx := HX.out
              go_ret3
              exact ⟨by rw [hx]; rfl, rfl⟩
      · have hx := getS_end (l := l.drop p) (p := p) (by simp; omega) (fun j hj => HM.out j (by simp at hj; omega))
        have HX := Lib.hid hx
        clear hx HM
        have hlt2 : l.length ≤ p + k := by omega
        go_wp2_with (fail)
        have hx := HX.out
        go_ret3
        exact ⟨by rw [hx]; rfl, rfl⟩
    · obtain rfl : k = 9 := by omega
      have hx := getS_nine (l := l.drop p) (p := p) (by simp; omega) HM.out
      have HX := Lib.hid hx
      clear hx HM
      go_wp2_with (fail)
      have hx := HX.out
      go_ret3
      exact ⟨by rw [hx]; rfl, rfl⟩
end Go.Proofs.Ytlfaeabbfejjcaa
