/- The walk of Bytes. -/
import Derived.Test.YtlfaeabbfejjcaaDoorFlagP
import Derived.Test.YtlfaeabbfejjcaaDoorPut
import Derived.Test.YtlfaeabbfejjcaaDoorParse
import Derived.Test.YtlfaeabbfejjcaaDoorGet
namespace Go.Proofs.YtlfaeabbfejjcaaDoor
open Go.RowKit

theorem kd_sw : ∀ i, i < 21 → (((kd i : Int) == 0) = true ↔ (2 ≤ i ∧ i ≤ 17)) := by decide

/-- The state of the loops. -/
structure BS (w : World) (o g : Nat) (bs : Nat → Nat) (f : Nat → Int) (wr : World) : Prop where
  ob : Blk wr o 23 (ocells f)
  fls : Flds (o + 1) wr g bs
  fr : Fr (fun _ => False) w wr
theorem BS.on {w wr w1 : World} {o g : Nat} {bs : Nat → Nat} {f : Nat → Int} (p : BS w o g bs f wr) (h : Fr (fun _ => False) wr w1) : BS w o g bs f w1 :=
  ⟨p.ob.fr h (fun h => h), p.fls.fr h (fun _ _ h => h), p.fr.trans h (fun _ _ h => h)⟩

theorem gF_sw : ∀ i, i < 21 → 2 ≤ i ∧ i ≤ 17 → gF i = 59 ∧ boxT i ≠ 58 := by decide

theorem nums_cells {f : Nat → Int} (h : okS f = true) : ∀ k, k < 6 → (#[.int .i64 (f 0), .int .i64 (f 1), .int .i64 (fsum f 21 : Nat), .int .i64 (f 18), .int .i64 (f 19), .int .i64 (f 20)] : Array Value)[k]? = some (.int .i64 (((nums f).getD k 0 : Nat) : Int)) := by
  obtain ⟨h0, h1, h2, h3, h4, h5, h6, h7, h8, _⟩ := (okS_iff f).1 h
  have e : ∀ x : Int, 0 ≤ x → ((x.toNat : Nat) : Int) = x := fun x hx => by omega
  intro k hk
  have hk : k = 0 ∨ k = 1 ∨ k = 2 ∨ k = 3 ∨ k = 4 ∨ k = 5 := by omega
  rcases hk with rfl | rfl | rfl | rfl | rfl | rfl
  · show some (Value.int .i64 (f 0)) = some (.int .i64 ((f 0).toNat : Nat)); rw [e _ (by omega)]
  · show some (Value.int .i64 (f 1)) = some (.int .i64 ((f 1).toNat : Nat)); rw [e _ (by omega)]
  · rfl
  · show some (Value.int .i64 (f 18)) = some (.int .i64 ((f 18).toNat : Nat)); rw [e _ (by omega)]
  · show some (Value.int .i64 (f 19)) = some (.int .i64 ((f 19).toNat : Nat)); rw [e _ (by omega)]
  · show some (Value.int .i64 (f 20)) = some (.int .i64 ((f 20).toNat : Nat)); rw [e _ (by omega)]

set_option maxHeartbeats 8000000 in
theorem bytes_bad (f : Nat → Int) (w : World) (hok : okS f = false) :
    Calls Tryd.prog 10 #[.agg (ocells f)] w fun e w' => e = .returned (.tuple #[.slice none 0 0, .int .i64 2]) ∧ Fr (fun _ => False) w w' := by
  have hchk := fun wx => check_spec f wx
  simp only [ckS, hok] at hchk
  have HCHK := Lib.hid hchk
  have HB := Lib.hid (Blk.new w 23 (ocells f))
  clear hchk hok
  go_enter Tryd.func10, Tryd.ntmps10
  go_wp2_with (first
    | (refine wpList_load_row rfl 23 _ rfl w.heap.size rfl 23 (ocells f) (0, 0) _ HB.out Tryd.underlying23 rfl Tryd.size23 ?_)
    | (go_at_call 7; refine (HCHK.out _).mono ?_; rintro e w6 ⟨rfl, hf6⟩))
  go_ret2
  exact ⟨rfl, ((Fr.refl _ _).alloc _).trans hf6 (fun _ _ h => h)⟩

set_option maxRecDepth 100000 in
set_option maxHeartbeats 16000000 in
theorem bytes_spec (f : Nat → Int) (w : World) (hok : okS f = true) :
    Calls Tryd.prog 10 #[.agg (ocells f)] w fun e w' => ∃ a' cap', e = .returned (.tuple #[.slice a' (bytesS f).length cap', .int .i64 0]) ∧ Byts w' a' (bytesS f) ∧ (a' = none → cap' = 0) ∧ Fr (fun _ => False) w w' := by
  have hchk := fun wx => check_spec f wx
  simp only [ckS, hok] at hchk
  have HCHK := Lib.hid hchk
  have HB := Lib.hid (Blk.new w 23 (ocells f))
  have HF := Lib.hid ((Fr.refl (fun _ => False) w).alloc (.cells (ocells f) 23))
  have HOK := Lib.hid hok
  clear hchk hok
  go_enter Tryd.func10, Tryd.ntmps10
  go_wp2_with (first
    | (refine wpList_load_row rfl 23 _ rfl w.heap.size rfl 23 (ocells f) (0, 0) _ HB.out Tryd.underlying23 rfl Tryd.size23 ?_)
    | (go_at_call 7; refine (HCHK.out _).mono ?_; rintro e w6 ⟨rfl, hf6⟩; have HB6 := Lib.hid (HB.out.fr hf6 (fun h => h)); have HF6 := Lib.hid (HF.out.trans hf6 (fun _ _ h => h)); clear hf6)
    | (go_at_call 16; refine (fields_spec _).mono ?_; rintro e w7 ⟨g, bs, rfl, hfl, hf7⟩; have P7 : Hid (BS w w.heap.size g bs f w7) := Lib.hid ⟨HB6.out.fr hf7 (fun h => h), ⟨hfl.row, Nat.le_trans HB6.out.lt hfl.base, fun i hi => Nat.le_trans HB6.out.lt (hfl.boxes i hi), hfl.box⟩, HF6.out.trans hf7 (fun _ _ h => h)⟩; clear hfl hf7))
  generalize w.heap.size = o at P7 ⊢
  clear HB HB6 HF HF6 HCHK
  go_loopg [5, 6, 19] 21 (fun gk x5 x6 x19 wr => ∃ i : Nat, i ≤ 21 ∧ gk = 21 - i ∧ x19 = .int .i64 i ∧ x5 = .int .i64 (fsum f i : Nat) ∧ x6 = .int .i64 (bw i : Nat) ∧ Hid (BS w o g bs f wr))
  case atStart => exact ⟨0, by omega, rfl, rfl, rfl, rfl, P7⟩
  case round =>
    obtain ⟨i, hi, hgk, rfl, rfl, rfl, HI⟩ := hrel
    have HG := Lib.hid hgk
    clear hgk P7
    by_cases hit : i < 21
    · have q0 := HI.out.fls.row.cell (i * 4) (v := .string (nm i)) (by rw [Nat.mul_comm]; exact fcells_0 bs i hit)
      have q1 := HI.out.fls.row.cell (i * 4 + 1) (v := .int .i64 (kd i)) (by rw [Nat.mul_comm]; exact fcells_1 bs i hit)
      have q2 := HI.out.fls.row.cell (i * 4 + 2) (v := .func (.func (gF i)) #[] #[.pointer (some ⟨bs i, 0, none⟩)]) (by rw [Nat.mul_comm]; exact fcells_2 bs i hit)
      have q3 := HI.out.fls.row.cell (i * 4 + 3) (v := .func (.func (sF i)) #[] #[.pointer (some ⟨bs i, 0, none⟩)]) (by rw [Nat.mul_comm]; exact fcells_3 bs i hit)
      have hks := kd_sw i hit
      have hbw := bw_bd i
      have hfs := fsum_lt f i
      by_cases hsw : 2 ≤ i ∧ i ≤ 17
      · have hk0 := hks.2 hsw
        obtain ⟨hst1, hst2⟩ := bw_step i hsw
        have hget := fun wx ho => fget_spec o f wx ho i hit (bs i)
        obtain ⟨hgf, hbx⟩ := gF_sw i hit hsw
        rw [hgf] at q2 hget
        have hno : numOf f i = ((fbit f i : Nat) : Int) := by
          unfold numOf fbit; rw [if_neg hbx]; split <;> rfl
        rw [hno] at hget
        have HGET := Lib.hid hget
        have hfe : fsum f (i + 1) = fsum f i + bw i * fbit f i := by rw [fsum, if_pos hsw]
        have hfb := fbit_le f i
        have HFE := Lib.hid hfe
        have HB1 := Lib.hid hst1
        clear hks hget hst1 hst2 hsw hgf hbx hno hfe
        generalize bw i = b at hbw hfs HB1 HFE ⊢
        generalize fbit f i = c at hfb HGET HFE ⊢
        generalize fsum f i = F at hfs HFE ⊢
        obtain ⟨b0, b1⟩ := hbw
        have hbc : b * c ≤ b := by have := Nat.mul_le_mul_left b hfb; omega
        have hbc1 : 0 ≤ (b : Int) * (c : Int) := by rw [← Int.natCast_mul]; omega
        have hbc2 : (b : Int) * (c : Int) ≤ 65536 := by rw [← Int.natCast_mul]; omega
        clear hbc
        go_wp2_with (go_at_call 59; refine (HGET.out _ (HI.out.ob.alloc _) ((HI.out.fls.box i hit).alloc _)).mono ?_; rintro e w8 ⟨rfl, rfl⟩)
        go_roundg (21 - (i + 1))
        case measure => have := HG.out; omega
        case rel => exact ⟨i + 1, by omega, rfl, by go_num, int_i (by rw [HFE.out]; push_cast; rfl), by rw [HB1.out]; go_num, Lib.hid (HI.out.on ((Fr.refl _ _).alloc _))⟩
      · have hk0 : ((kd i : Int) == 0) = false := by
          cases h : ((kd i : Int) == 0)
          · rfl
          · exact absurd (hks.1 h) hsw
        have HB := Lib.hid (bw_skip i hsw)
        have HFE := Lib.hid (show fsum f (i + 1) = fsum f i by rw [fsum, if_neg hsw])
        clear hks hsw
        go_wp2_with (fail)
        go_roundg (21 - (i + 1))
        case measure => have := HG.out; omega
        case rel => exact ⟨i + 1, by omega, rfl, by go_num, by rw [HFE.out], by rw [HB.out], Lib.hid (HI.out.on ((Fr.refl _ _).alloc _))⟩
    · obtain rfl : i = 21 := by omega
      have c0 := HI.out.ob.cell 0 (v := .int .i64 (f 0)) rfl
      have c1 := HI.out.ob.cell 1 (v := .int .i64 (f 1)) rfl
      have c18 := HI.out.ob.cell 18 (v := .int .i64 (f 18)) rfl
      have c19 := HI.out.ob.cell 19 (v := .int .i64 (f 19)) rfl
      have c20 := HI.out.ob.cell 20 (v := .int .i64 (f 20)) rfl
      have HN := Lib.hid (nums_cells HOK.out)
      have HBD := Lib.hid (nums_bd HOK.out)
      have HBY := Lib.hid (show bytesS f = encs (nums f) from rfl)
      have HNL := Lib.hid (show (nums f).length = 6 from rfl)
      generalize fsum f 21 = F at HN ⊢
      go_wp2_with (fail)
      have pb := Blk.new wr 3 #[.int .i64 (f 0), .int .i64 (f 1), .int .i64 (F : Int), .int .i64 (f 18), .int .i64 (f 19), .int .i64 (f 20)]
      have hf9 := HI.out.fr.alloc (.cells #[.int .i64 (f 0), .int .i64 (f 1), .int .i64 (F : Int), .int .i64 (f 18), .int .i64 (f 19), .int .i64 (f 20)] 3)
      generalize wr.alloc (.cells #[.int .i64 (f 0), .int .i64 (f 1), .int .i64 (F : Int), .int .i64 (f 18), .int .i64 (f 19), .int .i64 (f 20)] 3) = w9 at pb hf9 ⊢
      generalize wr.heap.size = pt at pb ⊢
      generalize nums f = xs at HN HBD HBY HNL
      have PB := Lib.hid pb
      have HF9 := Lib.hid hf9
      clear pb hf9 c0 c1 c18 c19 c20 HI HG
      go_loopg [9, 49] 6 (fun gk x9 x49 wi => ∃ (k : Nat) (a' : Option Addr) (cap' : Nat), k ≤ 6 ∧ gk = 6 - k ∧ x49 = .int .i64 k ∧ x9 = .slice a' (encs (xs.take k)).length cap' ∧ Hid (Byts wi a' (encs (xs.take k))) ∧ Hid (a' = none → cap' = 0) ∧ Hid (Blk wi pt 3 #[.int .i64 (f 0), .int .i64 (f 1), .int .i64 (F : Int), .int .i64 (f 18), .int .i64 (f 19), .int .i64 (f 20)]) ∧ Hid (Fr (fun _ => False) w wi))
      case atStart => exact ⟨0, none, 0, by omega, rfl, rfl, rfl, Lib.hid ⟨by simp [encs], fun j hj => by simp [encs] at hj⟩, Lib.hid (fun _ => rfl), PB, HF9⟩
      case round =>
        obtain ⟨k, a', cap', hk, hgk, rfl, rfl, HBA, HCA, HPB, HFF⟩ := hrel
        have HG := Lib.hid hgk
        clear hgk PB HF9
        by_cases hk6 : k < 6
        · have cx := HPB.out.cell k (HN.out k hk6)
          have hxm : xs.getD k 0 ≤ 4611686018427387903 := by
            have hkl : k < xs.length := by rw [HNL.out]; exact hk6
            have := HBD.out (xs.getD k 0) (by rw [List.getD_eq_getElem?_getD, List.getElem?_eq_getElem hkl]; exact List.getElem_mem hkl)
            exact this
          have hel : (encs (xs.take k)).length ≤ 1000 := by
            have h1 := encs_len (xs.take k) (fun x hx => HBD.out x (List.mem_of_mem_take hx))
            have h2 : (xs.take k).length ≤ k := List.length_take_le _ _
            omega
          have hput := put_spec a' (encs (xs.take k)) cap' (xs.getD k 0) wr HBA.out HCA.out hel hxm
          rw [← encs_take (by rw [HNL.out]; exact hk6)] at hput
          have HPUT := Lib.hid hput
          clear hput hel
          go_wp2_with (go_at_call 25; refine HPUT.out.mono ?_; rintro e w10 ⟨a2, cap2, rfl, hb2, hc2, hf2⟩; have HB2 := Lib.hid hb2; have HC2 := Lib.hid hc2; have HP2 := Lib.hid (HPB.out.fr hf2 (fun h => h)); have HF2 := Lib.hid (HFF.out.trans hf2 (fun _ _ h => h)); clear hb2 hc2 hf2)
          go_roundg (6 - (k + 1))
          case measure => have := HG.out; omega
          case rel => exact ⟨k + 1, a2, cap2, by omega, rfl, by go_num, rfl, HB2, HC2, HP2, HF2⟩
        · obtain rfl : k = 6 := by omega
          have hb := HBA.out
          rw [List.take_of_length_le (by rw [HNL.out]; exact Nat.le_refl _), ← HBY.out] at hb ⊢
          have HBB := Lib.hid hb
          clear hb HBA
          go_wp2_with (fail)
          go_ret2
          exact ⟨a', cap', rfl, HBB.out, HCA.out, HFF.out⟩
end Go.Proofs.YtlfaeabbfejjcaaDoor
