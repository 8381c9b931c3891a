/- The walk of the reference's Get; both at any place. -/
import Derived.Test.YtlfaeabbfejjcaaGetW
namespace Go.Proofs.Ytlfaeabbfejjcaa
open Go.RowKit

theorem gval_drop_le : ∀ (j : Nat) (l : List UInt8), 128 ^ j * gval (l.drop j) ≤ gval l := by
  intro j
  induction j with
  | zero => intro l; simp
  | succ j ih =>
    intro l
    cases l with
    | nil => simp [gval]
    | cons c t =>
      rw [List.drop_succ_cons, gval, Nat.pow_succ]
      have := ih t
      have e : 128 ^ j * 128 * gval (t.drop j) = 128 * (128 ^ j * gval (t.drop j)) := by rw [Nat.mul_comm (128 ^ j) 128, Nat.mul_assoc]
      omega

theorem gval_big {j : Nat} {l : List UInt8} (hj : 0 < j) (h : 36028797018963967 < gval (l.drop j)) : maxNum < gval l := by
  have h1 := gval_drop_le j l
  obtain ⟨q, rfl⟩ : ∃ q, j = q + 1 := ⟨j - 1, by omega⟩
  have h2 : 128 ≤ 128 ^ (q + 1) := by rw [Nat.pow_succ]; have := Nat.one_le_pow q 128 (by decide); omega
  have h3 : 128 * gval (l.drop (q + 1)) ≤ 128 ^ (q + 1) * gval (l.drop (q + 1)) := Nat.mul_le_mul_right _ h2
  unfold maxNum
  omega

theorem byts_at {w : World} {a : Option Addr} {l : List UInt8} (hb : Byts w a l) (j : Nat) (hj : j < l.length) : ∃ x c, a = some x ∧ w.cell? (x.add j) = some (.int .u8 ((c : UInt8).toNat : Int)) ∧ l.getD j 0 = c := by
  obtain ⟨x, hx, _, hc⟩ := hb.2 j hj
  exact ⟨x, _, hx, hc, rfl⟩

theorem back3 (p q : Nat) : (q = 0 ∧ Value.int .i64 ((p : Int) + (q : Int) - 1) = .int .i64 ((p : Int) - 1)) ∨ ∃ r : Nat, q = r + 1 ∧ Value.int .i64 ((p : Int) + (q : Int) - 1) = .int .i64 ((p : Int) + (r : Int)) := by
  rcases q with _ | r
  · left; exact ⟨rfl, by go_num⟩
  · right; exact ⟨r, rfl, by go_num⟩

set_option maxHeartbeats 8000000 in
theorem getr_in (a : Option Addr) (l : List UInt8) (cap p : Nat) (w : World) (hb : Byts w a l) (hp : p ≤ l.length) :
    Calls Try.prog 24 #[.slice a l.length cap, .int .i64 p] w fun e w' => e = .returned (.tuple #[.int .i64 (getS (l.drop p) p).1, .int .i64 (getS (l.drop p) p).2.1, .int .i64 (getS (l.drop p) p).2.2]) ∧ w = w' := by
  have hl := hb.1
  have h1 : decide ((p : Int) < 0) = false := by simp
  have h2 : decide (l.length < p) = false := by simp; omega
  have HB := Lib.hid hb.2
  clear hb
  go_enter Try.func24, Try.ntmps24
  go_wp2_with (fail)
  go_loopg [7] 9 (fun gk x7 wr => ∃ m : Nat, m ≤ 9 ∧ gk = 9 - m ∧ p + m ≤ l.length ∧ x7 = .int .i64 ((p : Int) + (m : Int)) ∧ Hid (∀ j, j < m → 127 < ((l.drop p).getD j 0).toNat) ∧ wr = w)
  case atStart => exact ⟨0, by omega, rfl, by omega, by go_num, Lib.hid (fun j hj => by omega), rfl⟩
  case round =>
    obtain ⟨m, hm, hgk, hpm, rfl, HM, rfl⟩ := hrel
    have HG := Lib.hid hgk
    clear hgk
    by_cases hm9 : m < 9
    · by_cases hlt : p + m < l.length
      · obtain ⟨x, hx, hxl, hxc⟩ := HB.out (p + m) hlt
        subst hx
        obtain ⟨c, hc⟩ : ∃ c, c = l.getD (p + m) 0 := ⟨_, rfl⟩
        rw [← hc] at hxc
        have c255 : c.toNat < 256 := UInt8.toNat_lt _
        have hdl : m < (l.drop p).length := by simp; omega
        have hgd : (l.drop p).getD m 0 = c := by rw [getD_drop, hc]
        by_cases hc127 : 127 < c.toNat
        · have hmo : ∀ j, j < m + 1 → 127 < ((l.drop p).getD j 0).toNat := fun j hj => by
            rcases Nat.lt_or_ge j m with h | h
            · exact HM.out j h
            · obtain rfl : j = m := by omega
              rw [hgd]; exact hc127
          have HO := Lib.hid hmo
          have b1 : decide (127 < (c.toNat : Int)) = true := by simp; omega
          clear hmo hgd hc hdl HM
          go_wp2_with (fail)
          go_roundg (9 - (m + 1))
          case measure => have := HG.out; omega
          case rel => exact ⟨m + 1, by omega, rfl, by omega, by go_num, HO, rfl⟩
        · have b1 : decide (127 < (c.toNat : Int)) = false := by simp; omega
          have hnum := fun (h1 : c.toNat ≤ 127) (h2 : ¬ (c.toNat = 0 ∧ 0 < m)) => getS_num (p := p) hm9 hdl HM.out (by rw [hgd]; exact h1) (by rw [hgd]; exact h2)
          have hze := fun (h1 : c.toNat = 0) (h2 : 0 < m) => getS_zero (p := p) hm9 hdl HM.out (by rw [hgd]; exact h1) h2
          have HN := Lib.hid hnum
          have HZ := Lib.hid hze
          have HC := Lib.hid hc
          clear hnum hze hgd hc hdl HM
          by_cases hzz : c.toNat = 0 ∧ 0 < m
          · have hx := HZ.out hzz.1 hzz.2
            have b2 : ((c.toNat : Int) == 0) = true := by simp [hzz.1]
            have b3 : decide ((p : Int) < (p : Int) + m) = true := by have := hzz.2; simp; omega
            have HX := Lib.hid hx
            clear hx hzz HZ HN
            go_wp2_with (fail)
            have hx := HX.out
            go_ret3
            exact ⟨by rw [hx]; rfl, rfl⟩
          · have hx := HN.out (by omega) hzz
            obtain ⟨T, hT⟩ : ∃ T, T = (l.drop p).take (m + 1) := ⟨_, rfl⟩
            rw [← hT] at hx
            have hTl : T.length = m + 1 := by rw [hT]; simp; omega
            have hTg : ∀ q, q < m + 1 → T.getD q 0 = l.getD (p + q) 0 := fun q hq => by
              rw [hT, List.getD_eq_getElem?_getD, List.getElem?_take_of_lt hq, ← List.getD_eq_getElem?_getD, getD_drop]
            have HTL := Lib.hid hTl
            have HTG := Lib.hid hTg
            have HX := Lib.hid hx
            clear hx HZ HN hT hTl hTg HC
            have hsp : (((c.toNat : Int) == 0) = true ∧ decide ((p : Int) < (p : Int) + m) = false) ∨ ((c.toNat : Int) == 0) = false := by
              by_cases hz : c.toNat = 0
              · left; exact ⟨by simp [hz], by simp; omega⟩
              · right; simpa using hz
            clear hzz
            rcases hsp with ⟨b2, b3⟩ | b2
            all_goals
              go_wp2_with (fail)
              go_loopg [8, 9] (m + 1) (fun gj x8 x9 wi => ∃ j : Nat, j ≤ m + 1 ∧ gj = j ∧ ((j = 0 ∧ x9 = .int .i64 ((p : Int) - 1)) ∨ ∃ q : Nat, j = q + 1 ∧ x9 = .int .i64 ((p : Int) + (q : Int))) ∧ x8 = .int .i64 (gval (T.drop j)) ∧ wi = wr)
              case atStart => exact ⟨m + 1, Nat.le_refl _, rfl, .inr ⟨m, rfl, rfl⟩, by rw [List.drop_of_length_le (by rw [HTL.out]; exact Nat.le_refl _)]; rfl, rfl⟩
              case round =>
                obtain ⟨j, hj, hgj, hx9, rfl, rfl⟩ := hrel
                rcases hx9 with ⟨rfl, rfl⟩ | ⟨q, rfl, rfl⟩
                · have hx := HX.out
                  rw [List.drop_zero]
                  obtain ⟨V, hV⟩ : ∃ V, V = gval T := ⟨_, rfl⟩
                  rw [← hV] at hx ⊢
                  clear hV hgj
                  by_cases hbig : maxNum < V
                  · rw [if_pos hbig] at hx
                    have b4 : decide (4611686018427387903 < (V : Int)) = true := by unfold maxNum at hbig; simp; omega
                    have HX2 := Lib.hid hx
                    clear hx hbig
                    go_wp2_with (fail)
                    have hx := HX2.out
                    go_ret3
                    exact ⟨by rw [hx]; rfl, rfl⟩
                  · rw [if_neg hbig] at hx
                    have b4 : decide (4611686018427387903 < (V : Int)) = false := by unfold maxNum at hbig; simp; omega
                    have HX2 := Lib.hid hx
                    clear hx hbig
                    go_wp2_with (fail)
                    have hx := HX2.out
                    go_ret3
                    exact ⟨by rw [hx]; rfl, rfl⟩
                · obtain ⟨x', d, hx', hxd, hd⟩ := byts_at ⟨hl, HB.out⟩ (p + q) (by omega)
                  injection hx' with hx'
                  subst hx'
                  have d255 : d.toNat < 256 := UInt8.toNat_lt _
                  have hst : gval (T.drop q) = d.toNat % 128 + 128 * gval (T.drop (q + 1)) := by
                    rw [gval_front (by rw [HTL.out]; omega), HTG.out q (by omega), hd]
                  have HD := Lib.hid hst
                  have HGJ := Lib.hid hgj
                  obtain ⟨G, hG⟩ : ∃ G, G = gval (T.drop (q + 1)) := ⟨_, rfl⟩
                  rw [← hG]
                  have HGG := Lib.hid hG
                  clear hst hgj hd hG
                  by_cases hbig : 36028797018963967 < G
                  · have b4 : decide (36028797018963967 < (G : Int)) = true := by simp; omega
                    have hx := HX.out
                    rw [if_pos (gval_big (Nat.succ_pos q) (by rw [← HGG.out]; exact hbig))] at hx
                    have HX2 := Lib.hid hx
                    clear hx hbig
                    go_wp2_with (fail)
                    have hx := HX2.out
                    go_ret3
                    exact ⟨by rw [hx]; rfl, rfl⟩
                  · have b5 : (G : Int) ≤ 36028797018963967 := by omega
                    clear hbig
                    go_wp2_with (fail)
                    go_roundg q
                    case measure => have := HGJ.out; omega
                    case rel => exact ⟨q, by omega, rfl, back3 p q, by rw [HD.out, ← HGG.out]; go_num, rfl⟩
      · have hx := getS_end (l := l.drop p) (p := p) (by simp; omega) (fun j hj => HM.out j (by simp at hj; omega))
        have HX := Lib.hid hx
        clear hx HM
        obtain hlt2 : l.length = p + m := by omega
        have hlt3 : (l.length : Int) ≤ (p : Int) + m := by omega
        have b2 : (((p : Int) + m) == (l.length : Int)) = true := by simp; omega
        have b3 : ((m : Int) == 9) = false := by simp; omega
        clear hlt2
        go_wp2_with (fail)
        have hx := HX.out
        go_ret3
        exact ⟨by rw [hx]; rfl, rfl⟩
    · obtain rfl : m = 9 := by omega
      have hx := getS_nine (l := l.drop p) (p := p) (by simp; omega) HM.out
      have HX := Lib.hid hx
      clear hx HM
      go_wp2_with (fail)
      all_goals have hx := HX.out
      all_goals go_ret3
      all_goals exact ⟨by rw [hx]; rfl, rfl⟩

/-- Both at any place. -/
theorem getA_in (l : List UInt8) (p : Nat) (hp : p ≤ l.length) : getA l (p : Int) = getS (l.drop p) p := by
  rw [getA, if_neg (by omega), Int.toNat_natCast]
theorem getA_out {l : List UInt8} {p : Int} (h : p < 0 ∨ (l.length : Int) < p) : getA l p = (0, 0, 3) := by rw [getA, if_pos h]

theorem get_spec (a : Option Addr) (l : List UInt8) (cap : Nat) (p : Int) (w : World) (hb : Byts w a l) :
    Calls Try.prog 14 #[.slice a l.length cap, .int .i64 p] w fun e w' => e = .returned (.tuple #[.int .i64 (getA l p).1, .int .i64 (getA l p).2.1, .int .i64 (getA l p).2.2]) ∧ w = w' := by
  by_cases h : p < 0 ∨ (l.length : Int) < p
  · have hl := hb.1
    rw [getA_out h]
    rcases h with h | h
    · go_enter Try.func14, Try.ntmps14
      go_wp2
      go_ret3
      exact ⟨rfl, rfl⟩
    · have h0 : ¬ p < 0 := by omega
      go_enter Try.func14, Try.ntmps14
      go_wp2
      go_ret3
      exact ⟨rfl, rfl⟩
  · obtain ⟨q, rfl⟩ : ∃ q : Nat, p = q := ⟨p.toNat, by omega⟩
    rw [getA_in l q (by omega)]
    exact get_in a l cap q w hb (by omega)

theorem getr_spec (a : Option Addr) (l : List UInt8) (cap : Nat) (p : Int) (w : World) (hb : Byts w a l) :
    Calls Try.prog 24 #[.slice a l.length cap, .int .i64 p] w fun e w' => e = .returned (.tuple #[.int .i64 (getA l p).1, .int .i64 (getA l p).2.1, .int .i64 (getA l p).2.2]) ∧ w = w' := by
  by_cases h : p < 0 ∨ (l.length : Int) < p
  · have hl := hb.1
    rw [getA_out h]
    rcases h with h | h
    · go_enter Try.func24, Try.ntmps24
      go_wp2
      go_ret3
      exact ⟨rfl, rfl⟩
    · have h0 : ¬ p < 0 := by omega
      go_enter Try.func24, Try.ntmps24
      go_wp2
      go_ret3
      exact ⟨rfl, rfl⟩
  · obtain ⟨q, rfl⟩ : ∃ q : Nat, p = q := ⟨p.toNat, by omega⟩
    rw [getA_in l q (by omega)]
    exact getr_in a l cap q w hb (by omega)
end Go.Proofs.Ytlfaeabbfejjcaa
