/- The walks of the program's meter: Rate, Left. -/
import Derived.Test.YtncdmgngmgjmpaaMeter2
import Derived.Test.YtncdmgngmgjmpaaDiv
import Derived.Laws.Externs
import Derived.Shelf.Spec.BitsCarry
namespace Go.Proofs.Ytncdmgngmgjmpaa
open Go.RowKit

theorem add64_run (x y c : Nat) (hc : c ≤ 1) (w : World) :
    (callFunc 35 #[.int .u64 x, .int .u64 y, .int .u64 c]).run Try.prog w =
      .ok (.value (.tuple #[.int .u64 (((x + y + c) % 18446744073709551616 : Nat) : Int), .int .u64 (((x + y + c) / 18446744073709551616 : Nat) : Int)])) w := by
  rw [run_callFunc_extern Try.func35 (by kernel_rfl) (by kernel_rfl) (by kernel_rfl) (e := add64Entry) (by kernel_rfl), run_add64 x y c (by omega) (by omega) (by omega) (by omega)]
  simp only [Result.andThen]
  congr 5 <;> omega

theorem add64_int (x y : Int) (hx : 0 ≤ x) (hy : 0 ≤ y) (s c : Int) (hs : s = (x + y) % 18446744073709551616) (hc : c = (x + y) / 18446744073709551616) (w : World) :
    (callFunc 35 #[.int .u64 x, .int .u64 y, .int .u64 0]).run Try.prog w = .ok (.value (.tuple #[.int .u64 s, .int .u64 c])) w := by
  obtain ⟨x, rfl⟩ := Int.eq_ofNat_of_zero_le hx
  obtain ⟨y, rfl⟩ := Int.eq_ofNat_of_zero_le hy
  have h := add64_run x y 0 (by omega) w
  have e1 : (((x + y + 0) % 18446744073709551616 : Nat) : Int) = s := by omega
  have e2 : (((x + y + 0) / 18446744073709551616 : Nat) : Int) = c := by omega
  rw [e1, e2] at h
  exact h

theorem sum_take_succ (l : List Int) (k : Nat) (h : k < l.length) : (l.take (k + 1)).sum = (l.take k).sum + l.getD k 0 := by
  rw [List.take_succ_eq_append_getElem h, List.sum_append]
  simp [List.getD, h]

theorem sum_bounds (l : List Int) (M : Int) (h0 : ∀ x ∈ l, 0 ≤ x ∧ x ≤ M) : 0 ≤ l.sum ∧ l.sum ≤ l.length * M := by
  induction l with
  | nil => simp
  | cons a l ih =>
    have h1 := h0 a (by simp)
    have h2 := ih (fun x hx => h0 x (by simp [hx]))
    simp only [List.sum_cons, List.length_cons]
    have : ((l.length + 1 : Nat) : Int) * M = l.length * M + M := by rw [Int.natCast_succ, Int.add_mul, Int.one_mul]
    omega

def MaxN : Int := 4611686018427387903

def rateP (s : MS) : Int := if s.passed = 0 then 0 else (s.ts.take s.passed.toNat).sum / s.passed

theorem tick_cell {w : World} {b : Nat} {total done now p : Int} {ts : List Int} (hb : Blk w b 59 (mcells total done ⟨now, ts, p⟩).toArray) (h8 : ts.length = 8) (k : Nat) (hk : k < 8) :
    w.cell? ⟨b, 3 + k, none⟩ = some (.int .i64 (ts.getD k 0)) := by
  obtain ⟨t0, t1, t2, t3, t4, t5, t6, t7, rfl⟩ := list8 h8
  refine hb.cell (3 + k) ?_
  match k, hk with
  | 0, _ => rfl
  | 1, _ => rfl
  | 2, _ => rfl
  | 3, _ => rfl
  | 4, _ => rfl
  | 5, _ => rfl
  | 6, _ => rfl
  | 7, _ => rfl

set_option maxRecDepth 100000 in
theorem mrate_any (b : Nat) (total done : Int) (s : MS) (w : World) (hb : Mt w b total done s) (hts : ∀ x ∈ s.ts, 0 ≤ x ∧ x ≤ MaxN) :
    Calls Try.prog 21 #[.pointer (some ⟨b, 0, none⟩)] w fun e w' => e = .returned (.int .i64 (rateP s)) ∧ Dr w w' := by
  obtain ⟨now, ts, p⟩ := s
  obtain ⟨h8, p0, p1, hb⟩ := hb
  have q0 : 0 ≤ p := p0
  have q1 : p ≤ 8 := p1
  by_cases k : p = 0
  · have hz : rateP ⟨now, ts, p⟩ = 0 := if_pos k
    rw [hz]
    have c11 := hb.cell 11 (v := .int .i64 p) (by obtain ⟨t0, t1, t2, t3, t4, t5, t6, t7, rfl⟩ := list8 h8; rfl)
    clear hb
    subst k
    go_enter Try.func21, Try.ntmps21
    go_wp2
    go_ret
    exact ⟨rfl, Dr.refl _⟩
  · have hz : rateP ⟨now, ts, p⟩ = (ts.take p.toNat).sum / p := if_neg k
    rw [hz]
    have c11 := hb.cell 11 (v := .int .i64 p) (by obtain ⟨t0, t1, t2, t3, t4, t5, t6, t7, rfl⟩ := list8 h8; rfl)
    have hne : (p == 0) = false := by simp; omega
    have hp1 : 1 ≤ p := by omega
    have HB := Lib.hid hb
    have H8 := Lib.hid h8
    have HTS := Lib.hid hts
    clear hb h8 hts k p0 p1 hz
    go_enter Try.func21, Try.ntmps21
    obtain ⟨n, hn⟩ : ∃ n : Nat, (n : Int) = p := ⟨p.toNat, by omega⟩
    have hnp : p.toNat = n := by omega
    rw [hnp]
    have hn1 : (n : Int) ≤ p := by omega
    have hn2 : p ≤ (n : Int) := by omega
    clear hn hnp
    go_wp2_with (fail)
    go_loop [3, 4, 23] (fun x3 x4 x23 => ∃ (k : Nat) (h l : Int), k ≤ n ∧ x3 = .int .u64 h ∧ x4 = .int .u64 l ∧ x23 = .int .i64 k ∧ Hid (h * 18446744073709551616 + l = (ts.take k).sum) ∧ 0 ≤ h ∧ h ≤ k ∧ 0 ≤ l ∧ Hid (l < 18446744073709551616))
      (fun _ _ x => n - (intOf x).toNat)
    case atStart => exact ⟨0, 0, 0, by omega, rfl, rfl, rfl, Lib.hid (by simp), by omega, by omega, by omega, Lib.hid (by omega)⟩
    case round =>
      obtain ⟨k, h, l, hk, rfl, rfl, rfl, hsum, h0, h1, l0, l1⟩ := hrel
      by_cases hlt : k < n
      · have hk8 : k < ts.length := by rw [H8.out]; omega
        obtain ⟨t, ht⟩ : ∃ t, t = ts.getD k 0 := ⟨_, rfl⟩
        have hcell : w.cell? ⟨b, 3 + k, none⟩ = some (.int .i64 t) := by
          rw [ht]; exact tick_cell HB.out H8.out k (by rw [← H8.out]; exact hk8)
        have htb : 0 ≤ t ∧ t ≤ MaxN := by
          rw [ht]
          rw [show ts.getD k 0 = ts[k] by simp [hk8]]
          exact HTS.out _ (List.getElem_mem hk8)
        have ht0 := htb.1
        have ht1 : t ≤ 4611686018427387903 := htb.2
        have hss := sum_take_succ ts k hk8
        rw [← ht] at hss
        obtain ⟨s', hs'⟩ : ∃ s', s' = (l + t) % 18446744073709551616 := ⟨_, rfl⟩
        obtain ⟨c', hc'⟩ : ∃ c', c' = (l + t) / 18446744073709551616 := ⟨_, rfl⟩
        have hadd := add64_int l t l0 ht0 s' c' hs' hc'
        have hl1 := l1.out
        have cb0 : 0 ≤ c' := by omega
        have cb1 : c' ≤ 1 := by omega
        have sb0 : 0 ≤ s' := by omega
        have SB1 := Lib.hid (show s' < 18446744073709551616 by omega)
        have hs2 := hsum.out
        have HSS := Lib.hid (show (h + c') * 18446744073709551616 + s' = (ts.take (k + 1)).sum by rw [hss]; omega)
        clear hs2 hss hs' hc' hl1 ht htb hsum l1
        have hk8' : k < 8 := by omega
        go_wp2_with (simp only [hadd])
        go_round
        case rel => exact ⟨k + 1, h + c', s', by omega, rfl, rfl, by go_num, HSS, by omega, by omega, sb0, SB1⟩
        case measure => simp [intOf]; omega
      · obtain rfl : k = n := by omega
        have hS := sum_bounds (ts.take k) MaxN (fun x hx => HTS.out x (List.mem_of_mem_take hx))
        have hSl : (((ts.take k).length : Nat) : Int) = k := by rw [List.length_take, H8.out]; omega
        rw [hSl] at hS
        obtain ⟨S, hSS⟩ : ∃ S, S = (ts.take k).sum := ⟨_, rfl⟩
        have hs2 := hsum.out
        rw [← hSS] at hs2 hS
        have hM : MaxN = 4611686018427387903 := rfl
        rw [hM] at hS
        have hl := l1.out
        have hhp : h < p := by
          have : (k : Int) * 4611686018427387903 ≤ 8 * 4611686018427387903 := Int.mul_le_mul_of_nonneg_right (by omega) (by omega)
          have : k = 1 ∨ k = 2 ∨ k = 3 ∨ k = 4 ∨ k = 5 ∨ k = 6 ∨ k = 7 ∨ k = 8 := by omega
          rcases this with rfl | rfl | rfl | rfl | rfl | rfl | rfl | rfl <;> omega
        have hq0 : 0 ≤ S / p := Int.ediv_nonneg hS.1 (by omega)
        have hq1 : S / p ≤ 4611686018427387903 := by
          have hkp : (k : Int) = p := by omega
          rw [hkp, Int.mul_comm] at hS
          exact Int.ediv_le_of_le_mul (by omega) hS.2
        have HSS := Lib.hid hSS
        have HS2 := Lib.hid hs2
        have HL := Lib.hid hl
        clear hSS hs2 hl hS hsum l1 hSl hM hk hlt
        go_wp2_with (go_at_call 36; refine (div64_any h l p _ h0 hhp (by omega) l0 HL.out).mono ?_; rw [HS2.out]; rintro e w2 ⟨rfl, hf2⟩)
        go_ret
        refine ⟨ret_i ?_, hf2⟩
        rw [HSS.out]
def leftP (total done rate : Int) : Int := if total - done ≤ 0 then 0 else if rate = 0 then 0 else (total - done - 1) / rate + 1
def leftB (total done rate : Int) : Bool := if total - done ≤ 0 then true else if rate = 0 then false else true

theorem mleft_any (b : Nat) (total done : Int) (s : MS) (w : World) (hb : Mt w b total done s) (hts : ∀ x ∈ s.ts, 0 ≤ x ∧ x ≤ MaxN)
    (t0 : 0 ≤ total) (t1 : total ≤ MaxN) (d0 : 0 ≤ done) (d1 : done ≤ MaxN) (r0 : 0 ≤ rateP s) (r1 : rateP s ≤ MaxN) :
    Calls Try.prog 17 #[.pointer (some ⟨b, 0, none⟩)] w fun e w' => e = .returned (.tuple #[.int .i64 (leftP total done (rateP s)), .bool (leftB total done (rateP s))]) ∧ Dr w w' := by
  have c0 := hb.2.2.2.cell 0 (v := .int .i64 total) rfl
  have c1 := hb.2.2.2.cell 1 (v := .int .i64 done) rfl
  have t1' : total ≤ 4611686018427387903 := t1
  have d1' : done ≤ 4611686018427387903 := d1
  have r1' : rateP s ≤ 4611686018427387903 := r1
  have HB := Lib.hid hb
  have HTS := Lib.hid hts
  obtain ⟨R, hR⟩ : ∃ R, R = rateP s := ⟨_, rfl⟩
  have hcall : ∀ n, Calls Try.prog 21 #[.pointer (some ⟨b, 0, none⟩)] (w.drewN n) fun e w' => e = .returned (.int .i64 R) ∧ ∃ m, w' = (w.drewN n).drewN m := fun n => by
    rw [hR]
    exact mrate_any b total done s (w.drewN n) ⟨hb.1, hb.2.1, hb.2.2.1, hb.2.2.2.drewN n⟩ hts
  rw [← hR] at r0 r1' ⊢
  have HC := Lib.hid hcall
  clear hb hts t1 d1 r1 hcall hR
  go_enter Try.func17, Try.ntmps17
  go_wp2_with (fail)
  go_quiet ((go_at_call 21; exact Calls.quiet_of (HC.out _)))
  by_cases k1 : total - done ≤ 0
  · go_wp2
    go_ret2
    exact ⟨ret2_ib (by rw [leftP, if_pos k1]) (by rw [leftB, if_pos k1]), Dr.some _ _⟩
  · by_cases k2 : R = 0
    · have k2' : (R == 0) = true := by simp [k2]
      have K2 := Lib.hid k2; clear k2
      go_wp2
      go_ret2
      exact ⟨ret2_ib (by rw [leftP, if_neg (by omega), if_pos K2.out]) (by rw [leftB, if_neg (by omega), if_pos K2.out]), Dr.some _ _⟩
    · have k2' : (R == 0) = false := by simp [k2]
      have K2 := Lib.hid k2
      have k3 : 1 ≤ R := by omega
      have q0 : 0 ≤ (total - done - 1) / R := Int.ediv_nonneg (by omega) (by omega)
      have q1 : (total - done - 1) / R ≤ total - done - 1 := Int.ediv_le_self _ (by omega)
      clear k2
      go_wp2
      go_ret2
      exact ⟨ret2_ib (by rw [leftP, if_neg (by omega), if_neg K2.out]) (by rw [leftB, if_neg (by omega), if_neg K2.out]), Dr.some _ _⟩

end Go.Proofs.Ytncdmgngmgjmpaa
