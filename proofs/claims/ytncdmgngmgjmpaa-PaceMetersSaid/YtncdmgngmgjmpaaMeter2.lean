/- The walk of the program's meter: ticks that pass. -/
import Derived.Test.YtncdmgngmgjmpaaMeter
namespace Go.Proofs.Ytncdmgngmgjmpaa
open Go.RowKit

theorem msteps_ok (n : Nat) (s : MS) (h8 : s.ts.length = 8) (p0 : 0 ≤ s.passed) (p1 : s.passed ≤ 8) :
    (msteps n s).ts.length = 8 ∧ 0 ≤ (msteps n s).passed ∧ (msteps n s).passed ≤ 8 := by
  induction n with
  | zero => exact ⟨h8, p0, p1⟩
  | succ n ih =>
    obtain ⟨a, b, c⟩ := ih
    refine ⟨?_, ?_, ?_⟩ <;> simp only [msteps, mstep]
    · simp [a]
    · omega
    · omega

theorem mpass_any (b : Nat) (total done t : Int) (s : MS) (w : World) (hb : Mt w b total done s) :
    Calls Try.prog 15 #[.pointer (some ⟨b, 0, none⟩), .int .i64 t] w fun e w' => e = .returned (.tuple #[]) ∧ Mt w' b total done (msteps (min t 9).toNat s) ∧ Fr (fun k => k = b) w w' := by
  by_cases k : t < 1
  · go_enter Try.func15, Try.ntmps15
    go_wp2
    refine bodyPost_ret (results_none (by rfl) _ _ _) rfl ?_
    rw [show (min t 9).toNat = 0 by omega]
    exact ⟨rfl, hb, Fr.refl _ _⟩
  · obtain ⟨n, hn⟩ : ∃ n : Nat, (n : Int) = min t 9 := ⟨(min t 9).toNat, by omega⟩
    have hn1 : (min t 9).toNat = n := by omega
    rw [hn1]
    have hn9 : n ≤ 9 := by omega
    have hnt : (n : Int) ≤ t := by omega
    have hor : (t ≤ n ∧ t ≤ 9) ∨ (9 ≤ n ∧ 9 < t) := by omega
    have H0 := Lib.hid hb; clear hb hn hn1
    rcases hor with ⟨ht, ht9⟩ | ⟨ht, ht9⟩
    all_goals
      go_enter Try.func15, Try.ntmps15
      go_wp2_with (fail)
      go_loopw [12] (fun i wr => ∃ k : Nat, k ≤ n ∧ i = .int .i64 k ∧ Mt wr b total done (msteps k s) ∧ Fr (fun x => x = b) w wr) (fun i _ => n - (intOf i).toNat)
      case atStart => exact ⟨0, Nat.zero_le _, rfl, H0.out, Fr.refl _ _⟩
      case round =>
        obtain ⟨k, hk, rfl, hm, hf⟩ := hrel
        by_cases hlt : k < n
        · obtain ⟨⟨now, ts, p⟩, hs⟩ : ∃ s', s' = msteps k s := ⟨_, rfl⟩
          rw [← hs] at hm
          obtain ⟨h8, p0, p1, hb⟩ := hm
          have q0 : 0 ≤ p := p0
          have q1 : p ≤ 8 := p1
          obtain ⟨t0, t1, t2, t3, t4, t5, t6, t7, rfl⟩ := list8 h8
          have HS := Lib.hid hs
          have HB := Lib.hid hb
          clear hs hb h8 p0 p1
          have hsrc : ∀ j v, [Value.int .i64 t0, .int .i64 t1, .int .i64 t2, .int .i64 t3, .int .i64 t4, .int .i64 t5, .int .i64 t6][j]? = some v → wr.drew.cell? ((⟨b, 3, none⟩ : Addr).add j) = some v := by
            intro j v hj
            have hadd : (⟨b, 3, none⟩ : Addr).add j = ⟨b, 3 + j, none⟩ := by
              unfold Addr.add
              split
              · next h0 => simp
              · rfl
            rw [hadd]
            refine HB.out.drew.cell (3 + j) ?_
            match j, hj with
            | 0, hj => exact hj
            | 1, hj => exact hj
            | 2, hj => exact hj
            | 3, hj => exact hj
            | 4, hj => exact hj
            | 5, hj => exact hj
            | 6, hj => exact hj
          have HSRC := Lib.hid hsrc; clear hsrc
          go_wp2_with (fail)
          go_region_law (refine step_copy_blk rfl (.tmp 17) (.tmp 21) 60 60 rfl 3 Try.underlying60 (by kernel_rfl) b 4 7 7 ⟨b, 3, none⟩ 7 8 (by simp [Act.eval, Act.put]) (by simp [Act.eval, Act.put]) (mcells total done ⟨now, [t0, t1, t2, t3, t4, t5, t6, t7], p⟩) 59 HB.out.drew [.int .i64 t0, .int .i64 t1, .int .i64 t2, .int .i64 t3, .int .i64 t4, .int .i64 t5, .int .i64 t6] rfl HSRC.out (by simp [mcells]) (by simp [Value.oneCell']) ?_; intro w2 hb2 hf2)
          have d2 := hb2.cell 2 (v := .int .i64 now) rfl
          have d3 := hb2.cell 3 (v := .int .i64 t0) rfl
          have d11 := hb2.cell 11 (v := .int .i64 p) rfl
          have g2 := hb2.free 2
          have g3 := hb2.free 3
          have g11 := hb2.free 11
          go_wp2_with (fail)
          go_region
          all_goals go_wp2_with (fail)
          have e8 : (if 8 < p + 1 then 8 else p + 1) = min (p + 1) 8 := by omega
          rw [e8]
          go_roundw
          case rel =>
            have hst : msteps (k + 1) s = ⟨0, [now, t0, t1, t2, t3, t4, t5, t6], min (p + 1) 8⟩ := by
              rw [msteps, ← HS.out]; rfl
            refine ⟨k + 1, by omega, by go_num, ?_, ?_⟩
            · rw [hst]
              exact ⟨rfl, by show (0 : Int) ≤ min (p + 1) 8; omega, by show min (p + 1) 8 ≤ (8 : Int); omega, (((hb2.set 3 _).set 2 _).set 11 _).drew⟩
            · exact (((((hf.drew).trans hf2 (fun _ _ h => h)).setCell (fun _ => rfl) _).setCell (fun _ => rfl) _).setCell (fun _ => rfl) _).drew
          case measure => simp [intOf]; omega
        · go_wp2
          go_end0
          obtain rfl : k = n := by omega
          exact ⟨rfl, hm, hf⟩
end Go.Proofs.Ytncdmgngmgjmpaa
