/- The reference's Bytes. -/
import Derived.Test.YtlfaeabbfejjcaaDoorPutR
import Derived.Test.YtlfaeabbfejjcaaDoorRck
import Derived.Test.YtlfaeabbfejjcaaDoorRef3
import Derived.Test.YtlfaeabbfejjcaaDoorByt
import Derived.Deep.RegionHeld3
namespace Go.Proofs.YtlfaeabbfejjcaaDoor
open Go.RowKit

theorem acells_at (f : Nat → Int) : ∀ i, i < 21 → (acells f)[i]? = some (.int .i64 (f i)) := by
  intro i hi
  have h : i = 0 ∨ i = 1 ∨ i = 2 ∨ i = 3 ∨ i = 4 ∨ i = 5 ∨ i = 6 ∨ i = 7 ∨ i = 8 ∨ i = 9 ∨ i = 10 ∨ i = 11 ∨ i = 12 ∨ i = 13 ∨ i = 14 ∨ i = 15 ∨ i = 16 ∨ i = 17 ∨ i = 18 ∨ i = 19 ∨ i = 20 := by omega
  rcases h with rfl | rfl | rfl | rfl | rfl | rfl | rfl | rfl | rfl | rfl | rfl | rfl | rfl | rfl | rfl | rfl | rfl | rfl | rfl | rfl | rfl <;> rfl

theorem nrm_bit (f : Nat → Int) (i : Nat) (h : 2 ≤ i ∧ i ≤ 17) : nrm f i = ((fbit f i : Nat) : Int) := by
  unfold nrm fbit oneI
  rw [if_pos h]
  by_cases h1 : f i = 1
  · rw [if_pos h1, h1]; rfl
  · rw [if_neg h1, show (f i == 1) = false by simpa using h1]; rfl

theorem fsum_two (f : Nat → Int) : fsum f 2 = 0 := rfl

set_option maxHeartbeats 8000000 in
theorem rbytes_bad (f : Nat → Int) (w : World) (hok : okS f = false) :
    Calls Tryd.prog 11 #[.agg (ocells f)] w fun e w' => e = .returned (.tuple #[.slice none 0 0, .int .i64 2]) ∧ Fr (fun _ => False) w w' := by
  have hchk := fun wx => rcheck_spec f wx
  simp only [ckS, hok] at hchk
  have HCHK := Lib.hid hchk
  have HB := Lib.hid (Blk.new w 23 (ocells f))
  clear hchk hok
  go_enter Tryd.func11, Tryd.ntmps11
  go_wp2_with (first
    | (refine wpList_load_row rfl 23 _ rfl w.heap.size rfl 23 (ocells f) (0, 0) _ HB.out Tryd.underlying23 rfl Tryd.size23 ?_)
    | (go_at_call 12; refine (HCHK.out _).mono ?_; rintro e w6 ⟨rfl, hf6⟩))
  go_ret2
  exact ⟨rfl, ((Fr.refl _ _).alloc _).trans hf6 (fun _ _ h => h)⟩

/-- A slice of bytes with its number of cells apart. -/
structure BL (w : World) (a : Option Addr) (N cap : Nat) (l : List UInt8) : Prop where
  len : N = l.length
  byts : Byts w a l
  nil : a = none → cap = 0
theorem BL.nil0 (w : World) : BL w none 0 0 [] := ⟨rfl, ⟨by simp, fun j hj => by simp at hj⟩, fun _ => rfl⟩
theorem putR_v (a : Option Addr) (l : List UInt8) (N cap n : Nat) (w : World) (h : BL w a N cap l) (hl : l.length ≤ 1000) (hn : n ≤ 4611686018427387903) :
    Calls Tryd.prog 26 #[.slice a N cap, .int .i64 n] w fun e w' => ∃ a' N' cap', e = .returned (.slice a' N' cap') ∧ BL w' a' N' cap' (l ++ encL n) ∧ Fr (fun _ => False) w w' := by
  obtain ⟨rfl, hb, hc⟩ := h
  exact (putR_spec a l cap n w hb hc hl hn).mono fun e w' ⟨a', c', h1, h2, h3, h4⟩ => ⟨a', _, c', h1, ⟨rfl, h2, h3⟩, h4⟩

theorem acells_zf_new : acells zf = #[.int .i64 0, .int .i64 0, .int .i64 0, .int .i64 0, .int .i64 0, .int .i64 0, .int .i64 0, .int .i64 0, .int .i64 0, .int .i64 0, .int .i64 0, .int .i64 0, .int .i64 0, .int .i64 0, .int .i64 0, .int .i64 0, .int .i64 0, .int .i64 0, .int .i64 0, .int .i64 0, .int .i64 0] := rfl

set_option maxRecDepth 100000 in
set_option maxHeartbeats 16000000 in
theorem rbytes_spec (f : Nat → Int) (w : World) (hok : okS f = true) :
    Calls Tryd.prog 11 #[.agg (ocells f)] w fun e w' => ∃ a' cap', e = .returned (.tuple #[.slice a' (bytesS f).length cap', .int .i64 0]) ∧ Byts w' a' (bytesS f) ∧ (a' = none → cap' = 0) ∧ Fr (fun _ => False) w w' := by
  have hchk := fun wx => rcheck_spec f wx
  simp only [ckS, hok] at hchk
  have HCHK := Lib.hid hchk
  have HB := Lib.hid (Blk.new w 23 (ocells f))
  have HF := Lib.hid ((Fr.refl (fun _ => False) w).alloc (.cells (ocells f) 23))
  have HOK := Lib.hid hok
  clear hchk hok
  go_enter Tryd.func11, Tryd.ntmps11
  go_wp2_with (first
    | (refine wpList_load_row rfl 23 _ rfl w.heap.size rfl 23 (ocells f) (0, 0) _ HB.out Tryd.underlying23 rfl Tryd.size23 ?_)
    | (go_at_call 12; refine (HCHK.out _).mono ?_; rintro e w6 ⟨rfl, hf6⟩; have HB6 := Lib.hid (HB.out.fr hf6 (fun h => h)); have HF6 := Lib.hid (HF.out.trans hf6 (fun _ _ h => h)); clear hf6)
    | (refine wpList_load_row rfl 23 _ rfl w.heap.size rfl 23 (ocells f) (0, 0) _ HB6.out Tryd.underlying23 rfl Tryd.size23 ?_)
    | (go_at_call 21; refine (rfields_spec f _).mono ?_; rintro e w7 ⟨rfl, hf7⟩; have HF7 := Lib.hid ((HF6.out.trans hf7 (fun _ _ h => h)).alloc (.cells (acells (nrm f)) 51)); have HN7 := Lib.hid (Blk.new w7 51 (acells (nrm f))); clear hf7)
    | (refine wpList_store_row rfl 51 _ _ rfl _ (acells (nrm f)) rfl rfl 51 (acells zf) (Blk.new _ _ _) Tryd.size51 rfl (acells_one _) ?_; rw [World.setRow_alloc_new]; generalize w7.alloc (.cells (acells (nrm f)) 51) = w8 at HF7 HN7 ⊢; generalize w7.heap.size = d at HN7 ⊢))
  clear HB HB6 HF HF6 HCHK
  go_loopg [5, 6] 17 (fun gk x5 x6 wr => ∃ i s : Nat, 1 ≤ i ∧ i ≤ 17 ∧ gk = i ∧ x6 = .int .i64 i ∧ x5 = .int .i64 s ∧ s ≤ 65535 ∧ Hid (s * bw (i + 1) + fsum f (i + 1) = fsum f 18) ∧ Hid (Blk wr d 51 (acells (nrm f))) ∧ Hid (Fr (fun _ => False) w wr))
  case atStart => exact ⟨17, 0, by omega, by omega, rfl, rfl, rfl, by omega, Lib.hid (by show 0 * _ + fsum f 18 = _; rw [Nat.zero_mul, Nat.zero_add]), HN7, HF7⟩
  case round =>
    obtain ⟨i, s, hi1, hi, hgk, rfl, rfl, hs, HE, HN, HFW⟩ := hrel
    have HG := Lib.hid hgk
    clear hgk HN7 HF7
    by_cases h2 : 2 ≤ i
    · have cx := HN.out.cell i (acells_at (nrm f) i (by omega))
      rw [nrm_bit f i ⟨h2, hi⟩] at cx
      have hfb := fbit_le f i
      obtain ⟨hst1, _⟩ := bw_step i ⟨h2, hi⟩
      have hbd := bw_bd i
      have hfe : fsum f (i + 1) = fsum f i + bw i * fbit f i := by rw [fsum, if_pos ⟨h2, hi⟩]
      have hlt := fsum_lt f 18
      have hb18 : bw 18 = 65536 := rfl
      have hE2 : (2 * s + fbit f i) * bw i + fsum f i = fsum f 18 := by
        have e1 : s * (bw i * 2) = 2 * s * bw i := by rw [Nat.mul_comm (bw i) 2, ← Nat.mul_assoc, Nat.mul_comm s 2]
        rw [← HE.out, hfe, hst1, Nat.add_mul, Nat.mul_comm (fbit f i), e1]; omega
      have hs2 : 2 * s + fbit f i ≤ 65535 := by
        have h3 : (2 * s + fbit f i) * 1 ≤ (2 * s + fbit f i) * bw i := Nat.mul_le_mul_left _ hbd.1
        omega
      have HE2 := Lib.hid hE2
      clear hfe hst1 hbd hlt hb18 hE2
      generalize fbit f i = c at cx hfb hs2 HE2
      go_wp2_with (fail)
      go_roundg (i - 1)
      case measure => have := HG.out; omega
      case rel => exact ⟨i - 1, 2 * s + c, by omega, by omega, rfl, by go_num, by go_num, hs2, Lib.hid (by rw [Nat.sub_add_cancel hi1]; exact HE2.out), HN, HFW⟩
    · obtain rfl : i = 1 := by omega
      have hsF : s = fsum f 21 := by
        have h := HE.out
        rw [fsum_end, ← h, show (1 + 1) = 2 from rfl, fsum_two, show bw 2 = 1 from rfl]; omega
      subst hsF
      obtain ⟨f0, f1, f2, f3, f4, f5, f6, f7, f8, _⟩ := (okS_iff f).1 HOK.out
      obtain ⟨m0, e0⟩ : ∃ m : Nat, f 0 = (m : Int) := ⟨(f 0).toNat, by omega⟩
      obtain ⟨m1, e1⟩ : ∃ m : Nat, f 1 = (m : Int) := ⟨(f 1).toNat, by omega⟩
      obtain ⟨m2, e2⟩ : ∃ m : Nat, f 18 = (m : Int) := ⟨(f 18).toNat, by omega⟩
      obtain ⟨m3, e3⟩ : ∃ m : Nat, f 19 = (m : Int) := ⟨(f 19).toNat, by omega⟩
      obtain ⟨m4, e4⟩ : ∃ m : Nat, f 20 = (m : Int) := ⟨(f 20).toNat, by omega⟩
      have hbs : bytesS f = ((((([] ++ encL m0) ++ encL m1) ++ encL (fsum f 21)) ++ encL m2) ++ encL m3) ++ encL m4 := by
        unfold bytesS nums
        rw [e0, e1, e2, e3, e4]
        simp [encs]
      have a0 : m0 ≤ 4611686018427387903 := by omega
      have a1 : m1 ≤ 4611686018427387903 := by omega
      have aF : fsum f 21 ≤ 4611686018427387903 := by omega
      have a2 : m2 ≤ 4611686018427387903 := by omega
      have a3 : m3 ≤ 4611686018427387903 := by omega
      have a4 : m4 ≤ 4611686018427387903 := by omega
      have n0 := encL_nine a0
      have n1 := encL_nine a1
      have nF := encL_nine aF
      have n2 := encL_nine a2
      have n3 := encL_nine a3
      have HS : ∀ wx, Blk wx d 51 (acells (nrm f)) → (wx.cell? ⟨d, 0, none⟩ = some (.int .i64 (m0 : Int)) ∧ wx.cell? ⟨d, 1, none⟩ = some (.int .i64 (m1 : Int)) ∧ wx.cell? ⟨d, 18, none⟩ = some (.int .i64 (m2 : Int)) ∧ wx.cell? ⟨d, 19, none⟩ = some (.int .i64 (m3 : Int)) ∧ wx.cell? ⟨d, 20, none⟩ = some (.int .i64 (m4 : Int))) := by
        intro wx hb
        refine ⟨hb.cell 0 ?_, hb.cell 1 ?_, hb.cell 18 ?_, hb.cell 19 ?_, hb.cell 20 ?_⟩
        · rw [← e0]; rfl
        · rw [← e1]; rfl
        · rw [← e2]; rfl
        · rw [← e3]; rfl
        · rw [← e4]; rfl
      have HSS := Lib.hid HS
      have HBS := Lib.hid hbs
      clear HS hbs e0 e1 e2 e3 e4 f0 f1 f2 f3 f4 f5 f6 f7 f8 HE hi hi1
      obtain ⟨c0, c1, c18, c19, c20⟩ := HSS.out wr HN.out
      generalize fsum f 21 = F at aF nF HBS ⊢
      have L1 : ([] ++ encL m0).length ≤ 1000 := by simp only [List.length_append, List.length_nil]; omega
      have L2 : (([] ++ encL m0) ++ encL m1).length ≤ 1000 := by simp only [List.length_append, List.length_nil]; omega
      have L3 : ((([] ++ encL m0) ++ encL m1) ++ encL F).length ≤ 1000 := by simp only [List.length_append, List.length_nil]; omega
      have L4 : (((([] ++ encL m0) ++ encL m1) ++ encL F) ++ encL m2).length ≤ 1000 := by simp only [List.length_append, List.length_nil]; omega
      have L5 : ((((([] ++ encL m0) ++ encL m1) ++ encL F) ++ encL m2) ++ encL m3).length ≤ 1000 := by simp only [List.length_append, List.length_nil]; omega
      go_wp2_with (fail)
      go_region_held3 (fun w' => w'.cell? ⟨d, 0, none⟩ = some (.int .i64 (m0 : Int)) ∧ w'.cell? ⟨d, 1, none⟩ = some (.int .i64 (m1 : Int)) ∧ w'.cell? ⟨d, 18, none⟩ = some (.int .i64 (m2 : Int)) ∧ w'.cell? ⟨d, 19, none⟩ = some (.int .i64 (m3 : Int)) ∧ w'.cell? ⟨d, 20, none⟩ = some (.int .i64 (m4 : Int)))
        (first
          | exact HSS.out _ HN.out.drew
          | exact HSS.out _ HN1.out
          | exact HSS.out _ HN2.out
          | exact HSS.out _ HN3.out
          | exact HSS.out _ HN4.out
          | exact HSS.out _ HN5.out
          | exact HSS.out _ HN6.out)
        (first
          | (go_at_call 26; ((with_reducible refine (putR_v none [] 0 0 m0 _ (BL.nil0 _) (Nat.zero_le _) a0).mono ?_); rintro e w1 ⟨b1, N1, q1, rfl, hy1, hf1⟩; have HN1 := Lib.hid (HN.out.drew.fr hf1 (fun h => h)); have HF1 := Lib.hid (HFW.out.drew.trans hf1 (fun _ _ h => h)); have HY1 := Lib.hid hy1; clear hf1 hy1))
          | (go_at_call 26; ((with_reducible refine (putR_v b1 _ N1 q1 m1 w1 HY1.out L1 a1).mono ?_); rintro e w2 ⟨b2, N2, q2, rfl, hy2, hf2⟩; have HN2 := Lib.hid (HN1.out.fr hf2 (fun h => h)); have HF2 := Lib.hid (HF1.out.trans hf2 (fun _ _ h => h)); have HY2 := Lib.hid hy2; clear hf2 hy2))
          | (go_at_call 26; ((with_reducible refine (putR_v b2 _ N2 q2 F w2 HY2.out L2 aF).mono ?_); rintro e w3 ⟨b3, N3, q3, rfl, hy3, hf3⟩; have HN3 := Lib.hid (HN2.out.fr hf3 (fun h => h)); have HF3 := Lib.hid (HF2.out.trans hf3 (fun _ _ h => h)); have HY3 := Lib.hid hy3; clear hf3 hy3))
          | (go_at_call 26; ((with_reducible refine (putR_v b3 _ N3 q3 m2 w3 HY3.out L3 a2).mono ?_); rintro e w4 ⟨b4, N4, q4, rfl, hy4, hf4⟩; have HN4 := Lib.hid (HN3.out.fr hf4 (fun h => h)); have HF4 := Lib.hid (HF3.out.trans hf4 (fun _ _ h => h)); have HY4 := Lib.hid hy4; clear hf4 hy4))
          | (go_at_call 26; ((with_reducible refine (putR_v b4 _ N4 q4 m3 w4 HY4.out L4 a3).mono ?_); rintro e w5 ⟨b5, N5, q5, rfl, hy5, hf5⟩; have HN5 := Lib.hid (HN4.out.fr hf5 (fun h => h)); have HF5 := Lib.hid (HF4.out.trans hf5 (fun _ _ h => h)); have HY5 := Lib.hid hy5; clear hf5 hy5))
          | (go_at_call 26; ((with_reducible refine (putR_v b5 _ N5 q5 m4 w5 HY5.out L5 a4).mono ?_); rintro e w6 ⟨b6, N6, q6, rfl, hy6, hf6⟩; have HN6 := Lib.hid (HN5.out.fr hf6 (fun h => h)); have HF6 := Lib.hid (HF5.out.trans hf6 (fun _ _ h => h)); have HY6 := Lib.hid hy6; clear hf6 hy6)))
      go_wp2_with (fail)
      go_ret2
      exact ⟨b6, q6, by rw [HBS.out, ← HY6.out.len]; rfl, by rw [HBS.out]; exact HY6.out.byts, HY6.out.nil, HF6.out⟩
end Go.Proofs.YtlfaeabbfejjcaaDoor
