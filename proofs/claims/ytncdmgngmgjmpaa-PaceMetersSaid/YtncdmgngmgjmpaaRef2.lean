/- The walk of the reference's meter: ticks that pass. -/
import Derived.Test.YtncdmgngmgjmpaaRef
namespace Go.Proofs.Ytncdmgngmgjmpaa
open Go.RowKit

theorem rstep_L (now : Int) (L : List Int) : (rstep (now, L)).2 ≠ [] := by
  unfold rstep
  dsimp only
  split
  · intro h
    have := congrArg List.length h
    simp at this
    simp_all
  · simp

theorem own_open {w : World} {base n : Nat} {v : Value} {xs : List Value} (h : w.ownsRow base 3 1 v n xs) (hn : 0 < n) :
    ∃ g cap, v = .slice (some ⟨g, 0, none⟩) n cap ∧ base ≤ g ∧ g < w.heap.size ∧ n ≤ cap ∧ cap ≤ maxLen ∧ ∀ j u, xs[j]? = some u → w.cell? ⟨g, j, none⟩ = some u := by
  obtain ⟨hl, hv | ⟨g, cap, cur, hv, hg, hh, hc, hm, hcs, hx⟩⟩ := h
  · omega
  · refine ⟨g, cap, hv, hg, lt_of_block hh, hc, hm, fun j u hj => ?_⟩
    rw [Nat.mul_one] at hx hl
    have hjn : j < n := by
      have := (List.getElem?_eq_some_iff.1 hj).1
      omega
    rw [← hx, List.getElem?_take, if_pos hjn] at hj
    simp only [World.cell?, hh]
    simpa using hj

/-- The round's end: the list in its new row, the field stored, the tick's number struck. -/
theorem rend {w w2 : World} {r base g off cap : Nat} {total went x : Int} {M' : List Int} {sv : Value} (S : Nat → Prop) (hS : S r) (hb : Blk w2 r 62 #[.int .i64 total, .int .i64 went, .int .i64 x, sv]) (hf : Fr S w w2)
    (hr : r < base) (hg : base ≤ g) (hgl : g < w2.heap.size) (hne : M' ≠ []) (hc : ∀ j v, (M'.map (Value.int .i64))[j]? = some v → w2.cell? ⟨g, off + j, none⟩ = some v) :
    RMt ((w2.setCell ⟨r, 3, none⟩ (.slice (some ⟨g, off, none⟩) M'.length cap)).setCell ⟨r, 2, none⟩ (.int .i64 0)) r base total went 0 M' ∧
      Fr S w ((w2.setCell ⟨r, 3, none⟩ (.slice (some ⟨g, off, none⟩) M'.length cap)).setCell ⟨r, 2, none⟩ (.int .i64 0)) := by
  have hF : Fr (fun k => k = r) w2 ((w2.setCell ⟨r, 3, none⟩ (.slice (some ⟨g, off, none⟩) M'.length cap)).setCell ⟨r, 2, none⟩ (.int .i64 0)) :=
    ((Fr.refl (fun k => k = r) w2).setCell (fun _ => rfl) _).setCell (fun _ => rfl) _
  refine ⟨⟨some ⟨g, off, none⟩, cap, (hb.set 3 _).set 2 _, .inr ⟨hne, g, off, rfl, hg, Nat.lt_of_lt_of_le hgl hF.size, fun j v hj => ?_⟩⟩, hf.trans hF (fun i _ e => by rw [e]; exact hS)⟩
  rw [← hc j v hj]
  exact World.cell?_of_block (w := w2) (hF.block g hgl (by omega))

set_option maxHeartbeats 4000000 in
theorem rpass_m (r base : Nat) (total went now t : Int) (L : List Int) (w : World) (hb : RMt w r base total went now L) (h8 : L.length ≤ 8) (hrb : r < base) (hbw : base ≤ w.heap.size) :
    Calls Try.prog 16 #[.pointer (some ⟨r, 0, none⟩), .int .i64 t] w fun e w' => e = .returned (.tuple #[]) ∧ RMt w' r base total went (rsteps (min t 9).toNat (now, L)).1 (rsteps (min t 9).toNat (now, L)).2 ∧ Fr (fun k => k = r) w w' := by
  by_cases k : t < 1
  · go_enter Try.func16, Try.ntmps16
    go_wp2
    refine bodyPost_ret (results_none (by rfl) _ _ _) rfl ?_
    rw [show (min t 9).toNat = 0 by omega]
    exact ⟨rfl, hb, Fr.refl _ _⟩
  · obtain ⟨n, hn⟩ : ∃ n : Nat, (n : Int) = min t 9 := ⟨(min t 9).toNat, by omega⟩
    have hn1 : (min t 9).toNat = n := by omega
    rw [hn1]
    have hn9 : n ≤ 9 := by omega
    have hnt : (n : Int) ≤ t := by omega
    have hor : t ≤ n ∨ (9 ≤ n ∧ 9 < t) := by omega
    have HOR := Lib.hid hor
    obtain ⟨i0, hi, hz0, hz1, hz2⟩ := info_parts Try.info3
    have H0 := Lib.hid hb; clear hb hn hn1 hor
    go_enter Try.func16, Try.ntmps16
    go_wp2_with (fail)
    go_loopw [4] (fun i wr => ∃ k : Nat, k ≤ n ∧ i = .int .i64 k ∧ RMt wr r base total went (rsteps k (now, L)).1 (rsteps k (now, L)).2 ∧ Fr (fun x => x = r) w wr) (fun i _ => n - (intOf i).toNat)
    case atStart => exact ⟨0, Nat.zero_le _, rfl, H0.out, Fr.refl _ _⟩
    case round =>
      obtain ⟨k, hk, rfl, hm, hf⟩ := hrel
      by_cases hlt : k < n
      · obtain ⟨⟨nw, M⟩, hs⟩ : ∃ s, s = rsteps k (now, L) := ⟨_, rfl⟩
        have hM8 := rsteps_len k (now, L) h8
        rw [← hs] at hm hM8
        obtain ⟨a, cap, hb, hL⟩ := hm
        have m8 : M.length ≤ 8 := hM8
        have hb' : Blk wr r 62 #[.int .i64 total, .int .i64 went, .int .i64 nw, .slice a M.length cap] := hb
        have hsz := hf.size
        have c2 := hb'.cell 2 (v := .int .i64 nw) rfl
        have c3 := hb'.cell 3 (v := .slice a M.length cap) rfl
        have HS := Lib.hid hs
        have HB := Lib.hid hb'
        clear hs hb hb' hM8
        rcases hL with ⟨rfl, rfl, rfl⟩ | ⟨hne, g, off, rfl, hg, hgl, hc⟩
        · go_wp2_with (first
            | (at_builtin; refine wpList_append_own_none rfl (.tmp 21) (.tmp 25) 60 rfl wr.heap.size 3 i0 1 Try.underlying60 hi _ 0 [] rfl (World.ownsRow_nil _ _ _ _) rfl ?_)
            | (at_builtin; refine wpList_append_own _ rfl (.tmp 27) (.tmp 32) 60 rfl wr.heap.size 3 i0 (.int .i64 0) 1 8 Try.underlying60 hi hz0 hz1 hz2 rfl (by decide) _ 0 [] rfl ((World.ownsRow_nil _ _ _ _).alloc _) ⟨wr.heap.size, 0, none⟩ 1 1 [.int .i64 nw] rfl rfl ?c1 ?c2 ?c3 ?c4 ?c5 ?_))
          case c1 => intro j u hj; match j, hj with | 0, hj => simp at hj; subst hj; simp [Addr.add]
          case c2 => intro u hu; simp at hu; subst hu; rfl
          case c3 => decide
          case c4 => decide
          case c5 => simp
          intro v' w2 hown hgrow _
          obtain ⟨g, cap, rfl, hg, hgl, hcap, hcm, hc⟩ := own_open hown (by omega)
          have F2 : Fr (fun x => x = r) w w2 := (hf.alloc _).grown hgrow (fun k e _ => by simp [Value.ownBlock] at e)
          have hb2 : Blk w2 r 62 #[.int .i64 total, .int .i64 went, .int .i64 nw, .slice none 0 0] :=
            (HB.out.alloc _).fr (S := fun _ => False) ⟨hgrow.os, hgrow.tape, hgrow.output, hgrow.size, fun k hk _ => hgrow.block k hk (by simp [Value.ownBlock])⟩ (fun h => h)
          have f3 := hb2.free 3
          have f2 := hb2.free 2
          have e2 := hb2.cell 2 (v := .int .i64 nw) rfl
          have e3 := hb2.cell 3 (v := .slice none 0 0) rfl
          have hM' : rsteps (k + 1) (now, L) = (0, [nw]) := by rw [rsteps, ← HS.out]; rfl
          have R := rend (off := 0) (cap := cap) (M' := [nw]) (fun x => x = r) rfl hb2 F2 hrb (by omega) hgl (by simp) (fun j v hj => by rw [Nat.zero_add]; exact hc j v hj)
          have HM := Lib.hid hM'
          have HR := Lib.hid R
          clear hown hgrow hc F2 hb2 hf R hM'
          go_wp2
          go_roundw
          case rel => exact ⟨k + 1, by omega, by go_num, by rw [HM.out]; exact HR.out.1, HR.out.2⟩
          case measure => simp [intOf]; omega
        · obtain ⟨m, hm⟩ : ∃ m, m = M.length := ⟨_, rfl⟩
          have m1 : 0 < m := by rw [hm]; exact List.length_pos_iff.2 hne
          have hsrc : ∀ j u, (M.map (Value.int .i64))[j]? = some u → wr.cell? ((⟨g, off, none⟩ : Addr).add j) = some u := by
            intro j u hj
            have := hc j u hj
            unfold Addr.add
            split
            · next h0 => subst h0; exact this
            · exact this
          have hlm : (M.map (Value.int .i64)).length = m := by rw [List.length_map, hm]
          have h1c : ∀ u ∈ M.map (Value.int .i64), u.oneCell' = true := by
            intro u hu
            obtain ⟨x, _, rfl⟩ := List.mem_map.1 hu
            rfl
          obtain ⟨X, hX⟩ : ∃ X, X = M.map (Value.int .i64) := ⟨_, rfl⟩
          rw [← hX] at hsrc hlm h1c
          rw [← hm] at c3 m8
          have HSRC := Lib.hid hsrc
          have HLM := Lib.hid hlm
          have H1C := Lib.hid h1c
          have HX := Lib.hid hX
          have HMM := Lib.hid hm
          have HB1 := Lib.hid (show Blk wr r 62 #[.int .i64 total, .int .i64 went, .int .i64 nw, .slice (some ⟨g, off, none⟩) m cap] by rw [hm]; exact HB.out)
          clear hsrc hlm h1c hX hm hc HB
          go_wp2_with (at_builtin; refine wpList_append_own _ rfl (.tmp 21) (.tmp 25) 60 rfl wr.heap.size 3 i0 (.int .i64 0) 1 8 Try.underlying60 hi hz0 hz1 hz2 rfl (by decide) _ 0 [] rfl (World.ownsRow_nil _ _ _ _) ⟨g, off, none⟩ m cap X rfl (by rw [HLM.out, Nat.mul_one]) HSRC.out H1C.out ?c6 ?c7 (Nat.le_refl _) ?_)
          case c6 => unfold maxLen; omega
          case c7 => omega
          intro v1 w1 hown1 hgrow1 _
          obtain ⟨g1, cap1, rfl, hg1, hgl1, hcap1, hcm1, hc1⟩ := own_open hown1 m1
          have F1 : Fr (fun x => x = r) w w1 := hf.grown hgrow1 (fun k e _ => by simp [Value.ownBlock] at e)
          have hb1 : Blk w1 r 62 #[.int .i64 total, .int .i64 went, .int .i64 nw, .slice (some ⟨g, off, none⟩) m cap] :=
            HB1.out.fr (S := fun _ => False) ⟨hgrow1.os, hgrow1.tape, hgrow1.output, hgrow1.size, fun k hk _ => hgrow1.block k hk (by simp [Value.ownBlock])⟩ (fun h => h)
          have d2 := hb1.cell 2 (v := .int .i64 nw) rfl
          have HB2 := Lib.hid hb1
          have HO := Lib.hid hown1
          have hw1 := hgrow1.size
          clear hown1 hgrow1 hc1 hb1 hf HB1 HSRC H1C c2 c3
          go_wp2_with (at_builtin; refine wpList_append_own _ rfl (.tmp 27) (.tmp 32) 60 rfl wr.heap.size 3 i0 (.int .i64 0) 1 8 Try.underlying60 hi hz0 hz1 hz2 rfl (by decide) _ m X rfl (HO.out.alloc _) ⟨w1.heap.size, 0, none⟩ 1 1 [.int .i64 nw] rfl rfl ?c1a ?c2a ?c3a ?c4a ?c5a ?_)
          case c1a => intro j u hj; match j, hj with | 0, hj => simp at hj; subst hj; simp [Addr.add]
          case c2a => intro u hu; simp at hu; subst hu; rfl
          case c3a => unfold maxLen; omega
          case c4a => omega
          case c5a => simp; omega
          intro v2 w2 hown hgrow _
          obtain ⟨g2, cap2, rfl, hg2, hgl2, hcap2, hcm2, hc2⟩ := own_open hown (by omega)
          have hr1 : r ≠ g1 := by omega
          have F2 : Fr (fun x => x = r) w w2 := (F1.alloc _).grown hgrow (fun k e hk => by simp [Value.ownBlock] at e; omega)
          have hb2 : Blk w2 r 62 #[.int .i64 total, .int .i64 went, .int .i64 nw, .slice (some ⟨g, off, none⟩) m cap] :=
            (HB2.out.alloc _).fr (S := fun k => k = g1) ⟨hgrow.os, hgrow.tape, hgrow.output, hgrow.size, fun k hk hS => hgrow.block k hk (by simp [Value.ownBlock]; exact hS)⟩ hr1
          have f3 := hb2.free 3
          have f2 := hb2.free 2
          have e2 := hb2.cell 2 (v := .int .i64 nw) rfl
          have e3 := hb2.cell 3 (v := .slice (some ⟨g, off, none⟩) m cap) rfl
          have hXL : X ++ [Value.int .i64 nw] = (M ++ [nw]).map (Value.int .i64) := by rw [HX.out]; simp
          rw [hXL] at hc2
          have hstep : rsteps (k + 1) (now, L) = rstep (nw, M) := by rw [rsteps, ← HS.out]
          by_cases hm7 : m < 8
          · have hM' : rsteps (k + 1) (now, L) = (0, M ++ [nw]) := by
              rw [hstep]; unfold rstep
              rw [if_neg (by simp; rw [← HMM.out]; omega)]
            have R := rend (off := 0) (cap := cap2) (M' := M ++ [nw]) (fun x => x = r) rfl hb2 F2 hrb (by omega) hgl2 (by simp) (fun j v hj => by rw [Nat.zero_add]; exact hc2 j v hj)
            have hln : (M ++ [nw]).length = m + 1 := by simp [HMM.out]
            rw [hln] at R
            have HM := Lib.hid hM'
            have HR := Lib.hid R
            clear hown hgrow hc2 F2 hb2 F1 R hM' hstep hXL hln
            go_wp2
            go_roundw
            case rel => exact ⟨k + 1, by omega, by go_num, by rw [HM.out]; exact HR.out.1, HR.out.2⟩
            case measure => simp [intOf]; omega
          · have hM' : rsteps (k + 1) (now, L) = (0, (M ++ [nw]).drop 1) := by
              rw [hstep]; unfold rstep
              rw [if_pos (by simp; rw [← HMM.out]; omega)]
            have hln : ((M ++ [nw]).drop 1).length = m := by simp [HMM.out]
            have R := rend (off := 1) (cap := cap2 - 1) (M' := (M ++ [nw]).drop 1) (fun x => x = r) rfl hb2 F2 hrb (by omega) hgl2 (by intro h; rw [h] at hln; simp at hln; omega) (fun j v hj => by
              rw [List.map_drop, List.getElem?_drop] at hj; exact hc2 (1 + j) v hj)
            rw [hln] at R
            have HM := Lib.hid hM'
            have HR := Lib.hid R
            clear hown hgrow hc2 F2 hb2 F1 R hM' hstep hXL hln
            go_wp2
            go_roundw
            case rel => exact ⟨k + 1, by omega, by go_num, by rw [HM.out]; exact HR.out.1, HR.out.2⟩
            case measure => simp [intOf]; omega
      · rcases HOR.out with h | ⟨h, h'⟩
        · go_wp2
          go_end0
          obtain rfl : k = n := by omega
          exact ⟨rfl, hm, hf⟩
        · go_wp2
          go_end0
          obtain rfl : k = n := by omega
          exact ⟨rfl, hm, hf⟩
end Go.Proofs.Ytncdmgngmgjmpaa
