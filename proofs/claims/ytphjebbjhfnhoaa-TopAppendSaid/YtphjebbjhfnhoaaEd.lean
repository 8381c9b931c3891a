/- sha: the walk of end. -/
import Derived.Test.YtphjebbjhfnhoaaEn
namespace Go.Proofs.Ytphjebbjhfnhoaa
open Go.RowKit
def kz (n : Nat) : Nat := (119 - n % 64) % 64
def eb (n i : Nat) : UInt8 := UInt8.ofNat (8 * n / 2 ^ (56 - 8 * i))
def endH (n : Nat) : List UInt8 := 128 :: List.replicate (kz n) 0
def endS (n : Nat) : List UInt8 := endH n ++ (List.range 8).map (eb n)
theorem eb_nat (n i : Nat) : ((eb n i).toNat : Int) = ((8 * n / 2 ^ (56 - 8 * i) % 256 : Nat) : Int) := by
  unfold eb; rw [UInt8.toNat_ofNat']
theorem kz_stop (n j : Nat) (h : j ≤ kz n) : ((n + (1 + j)) % 64 = 56) ↔ j = kz n := by unfold kz at *; omega
theorem OwnB.one (w : World) (c : UInt8) : OwnB (w.alloc (.cells #[.int .u8 (c.toNat : Int)] 5)) w.heap.size (.slice (some ⟨w.heap.size, 0, none⟩) 1 1) [c] :=
  ⟨rfl, .inr ⟨w.heap.size, 1, #[u8v c], rfl, Nat.le_refl _, Blk.new w 5 #[u8v c], Nat.le_refl _, by decide, rfl, rfl⟩⟩
set_option maxRecDepth 100000 in
set_option maxHeartbeats 4000000 in
theorem end_spec (n : Nat) (hn : n ≤ 1000000) (w : World) : Calls Try.prog 63 #[.int .i64 (n : Int)] w fun e w' => ∃ v, e = .returned v ∧ OwnB w' w.heap.size v (endS n) ∧ Below w.heap.size w w' := by
  have n1 : (n : Int) ≤ 1000000 := by omega
  have hk : kz n ≤ 64 := by unfold kz; omega
  have HK := Lib.hid hk
  have HN := Lib.hid hn
  have HO0 := Lib.hid (OwnB.one w 128)
  have HB0 := Lib.hid ((Below.refl w.heap.size w).alloc (Nat.le_refl _) (.cells #[.int .u8 ((128 : UInt8).toNat : Int)] 5))
  clear hn hk
  go_enter Try.func63, Try.ntmps63
  go_wp2_with (fail)
  go_loopg [3] (kz n) (fun gk x3 wr => ∃ j : Nat, j ≤ kz n ∧ Hid (gk = kz n - j) ∧ Hid (OwnB wr w.heap.size x3 (128 :: List.replicate j 0)) ∧ Hid (Below w.heap.size w wr))
  case atStart => exact ⟨0, Nat.zero_le _, Lib.hid rfl, HO0, HB0⟩
  case round =>
    obtain ⟨j, hj, HG, HO, HB⟩ := hrel
    obtain ⟨ad, cap, hv, _, _⟩ := HO.out.byt
    have hlen : (128 :: List.replicate j (0 : UInt8)).length = j + 1 := by simp
    rw [hlen] at hv
    subst hv
    have hj2 : (j : Int) ≤ 64 := by have := HK.out; omega
    have hst := kz_stop n j hj
    by_cases hjk : j = kz n
    · have t1 : ((n : Int) + ((j : Int) + 1)) % 64 = 56 := by have := hst.2 hjk; omega
      have t2 : (((n : Int) + ((j : Int) + 1)) % 64 == 56) = true := by rw [t1]; rfl
      have HH := Lib.hid (show (128 :: List.replicate j (0 : UInt8)) = endH n by rw [hjk]; rfl)
      clear hst hjk hj hlen HG
      go_wp2_with (fail)
      have HO1 := Lib.hid (show OwnB wr w.heap.size (.slice ad (j + 1) cap) (endH n ++ (List.range 0).map (eb n)) by
        have := HO.out; rw [HH.out] at this; simpa using this)
      have hl0 : (endH n).length ≤ 65 := by have := HK.out; unfold endH; simp; omega
      have HL0 := Lib.hid hl0
      clear HO hl0 t1 t2
      go_loopg [3, 15] 8 (fun gk x3 x15 wr => ∃ i : Nat, i ≤ 8 ∧ Hid (gk = 8 - i) ∧ Hid (OwnB wr w.heap.size x3 (endH n ++ (List.range i).map (eb n))) ∧ x15 = .int .i64 i ∧ Hid (Below w.heap.size w wr))
      case atStart => exact ⟨0, by omega, Lib.hid rfl, HO1, rfl, HB⟩
      case round =>
        clear HO1 HB
        obtain ⟨i, hi, HG, HO, rfl, HB⟩ := hrel
        by_cases hi8 : i = 8
        · subst hi8
          go_wp2_with (fail)
          go_ret
          exact ⟨_, rfl, HO.out, HB.out⟩
        · have hc : i = 0 ∨ i = 1 ∨ i = 2 ∨ i = 3 ∨ i = 4 ∨ i = 5 ∨ i = 6 ∨ i = 7 := by omega
          have HAP := Lib.hid (show (endH n ++ (List.range i).map (eb n)) ++ [eb n i] = endH n ++ (List.range (i + 1)).map (eb n) by
            rw [List.range_succ, List.map_append, List.append_assoc]; rfl)
          have HLN := Lib.hid (show (endH n ++ (List.range i).map (eb n)).length ≤ 1000000 by
            have := HL0.out; rw [List.length_append, List.length_map, List.length_range]; omega)
          clear hi hi8
          rcases hc with rfl | rfl | rfl | rfl | rfl | rfl | rfl | rfl
          · go_wp2_with (first
              | (at_builtin; refine wpList_app_b wr (eb n 0) _ (by rw [eb_nat]; simp only [Nat.reduceMul, Nat.reduceSub, Nat.reducePow]; omega) rfl (.tmp 18) (.tmp 27) rfl w.heap.size _ _ rfl HO.out wr.heap.size rfl rfl HLN.out HB.out.size w HB.out ?_; intro v' w9 ho9 hb9; have HO9 := Lib.hid ho9; have HB9 := Lib.hid hb9; clear ho9 hb9)
              | fail)
            go_roundg (8 - 1)
            case measure => have := HG.out; omega
            case rel => exact ⟨1, by omega, Lib.hid rfl, Lib.hid (by rw [← HAP.out]; exact HO9.out), by go_num, HB9⟩
          · go_wp2_with (first
              | (at_builtin; refine wpList_app_b wr (eb n 1) _ (by rw [eb_nat]; simp only [Nat.reduceMul, Nat.reduceSub, Nat.reducePow]; omega) rfl (.tmp 18) (.tmp 27) rfl w.heap.size _ _ rfl HO.out wr.heap.size rfl rfl HLN.out HB.out.size w HB.out ?_; intro v' w9 ho9 hb9; have HO9 := Lib.hid ho9; have HB9 := Lib.hid hb9; clear ho9 hb9)
              | fail)
            go_roundg (8 - 2)
            case measure => have := HG.out; omega
            case rel => exact ⟨2, by omega, Lib.hid rfl, Lib.hid (by rw [← HAP.out]; exact HO9.out), by go_num, HB9⟩
          · go_wp2_with (first
              | (at_builtin; refine wpList_app_b wr (eb n 2) _ (by rw [eb_nat]; simp only [Nat.reduceMul, Nat.reduceSub, Nat.reducePow]; omega) rfl (.tmp 18) (.tmp 27) rfl w.heap.size _ _ rfl HO.out wr.heap.size rfl rfl HLN.out HB.out.size w HB.out ?_; intro v' w9 ho9 hb9; have HO9 := Lib.hid ho9; have HB9 := Lib.hid hb9; clear ho9 hb9)
              | fail)
            go_roundg (8 - 3)
            case measure => have := HG.out; omega
            case rel => exact ⟨3, by omega, Lib.hid rfl, Lib.hid (by rw [← HAP.out]; exact HO9.out), by go_num, HB9⟩
          · go_wp2_with (first
              | (at_builtin; refine wpList_app_b wr (eb n 3) _ (by rw [eb_nat]; simp only [Nat.reduceMul, Nat.reduceSub, Nat.reducePow]; omega) rfl (.tmp 18) (.tmp 27) rfl w.heap.size _ _ rfl HO.out wr.heap.size rfl rfl HLN.out HB.out.size w HB.out ?_; intro v' w9 ho9 hb9; have HO9 := Lib.hid ho9; have HB9 := Lib.hid hb9; clear ho9 hb9)
              | fail)
            go_roundg (8 - 4)
            case measure => have := HG.out; omega
            case rel => exact ⟨4, by omega, Lib.hid rfl, Lib.hid (by rw [← HAP.out]; exact HO9.out), by go_num, HB9⟩
          · go_wp2_with (first
              | (at_builtin; refine wpList_app_b wr (eb n 4) _ (by rw [eb_nat]; simp only [Nat.reduceMul, Nat.reduceSub, Nat.reducePow]; omega) rfl (.tmp 18) (.tmp 27) rfl w.heap.size _ _ rfl HO.out wr.heap.size rfl rfl HLN.out HB.out.size w HB.out ?_; intro v' w9 ho9 hb9; have HO9 := Lib.hid ho9; have HB9 := Lib.hid hb9; clear ho9 hb9)
              | fail)
            go_roundg (8 - 5)
            case measure => have := HG.out; omega
            case rel => exact ⟨5, by omega, Lib.hid rfl, Lib.hid (by rw [← HAP.out]; exact HO9.out), by go_num, HB9⟩
          · go_wp2_with (first
              | (at_builtin; refine wpList_app_b wr (eb n 5) _ (by rw [eb_nat]; simp only [Nat.reduceMul, Nat.reduceSub, Nat.reducePow]; omega) rfl (.tmp 18) (.tmp 27) rfl w.heap.size _ _ rfl HO.out wr.heap.size rfl rfl HLN.out HB.out.size w HB.out ?_; intro v' w9 ho9 hb9; have HO9 := Lib.hid ho9; have HB9 := Lib.hid hb9; clear ho9 hb9)
              | fail)
            go_roundg (8 - 6)
            case measure => have := HG.out; omega
            case rel => exact ⟨6, by omega, Lib.hid rfl, Lib.hid (by rw [← HAP.out]; exact HO9.out), by go_num, HB9⟩
          · go_wp2_with (first
              | (at_builtin; refine wpList_app_b wr (eb n 6) _ (by rw [eb_nat]; simp only [Nat.reduceMul, Nat.reduceSub, Nat.reducePow]; omega) rfl (.tmp 18) (.tmp 27) rfl w.heap.size _ _ rfl HO.out wr.heap.size rfl rfl HLN.out HB.out.size w HB.out ?_; intro v' w9 ho9 hb9; have HO9 := Lib.hid ho9; have HB9 := Lib.hid hb9; clear ho9 hb9)
              | fail)
            go_roundg (8 - 7)
            case measure => have := HG.out; omega
            case rel => exact ⟨7, by omega, Lib.hid rfl, Lib.hid (by rw [← HAP.out]; exact HO9.out), by go_num, HB9⟩
          · go_wp2_with (first
              | (at_builtin; refine wpList_app_b wr (eb n 7) _ (by rw [eb_nat]; simp only [Nat.reduceMul, Nat.reduceSub, Nat.reducePow]; omega) rfl (.tmp 18) (.tmp 27) rfl w.heap.size _ _ rfl HO.out wr.heap.size rfl rfl HLN.out HB.out.size w HB.out ?_; intro v' w9 ho9 hb9; have HO9 := Lib.hid ho9; have HB9 := Lib.hid hb9; clear ho9 hb9)
              | fail)
            go_roundg (8 - 8)
            case measure => have := HG.out; omega
            case rel => exact ⟨8, by omega, Lib.hid rfl, Lib.hid (by rw [← HAP.out]; exact HO9.out), by go_num, HB9⟩
    · have t1 : ¬ ((n : Int) + ((j : Int) + 1)) % 64 = 56 := by have := mt hst.1 hjk; omega
      have t2 : (((n : Int) + ((j : Int) + 1)) % 64 == 56) = false := by simpa using t1
      have HJ := Lib.hid (show j < kz n by omega)
      have HAP := Lib.hid (show (128 :: List.replicate j (0 : UInt8)) ++ [0] = 128 :: List.replicate (j + 1) 0 by rw [List.cons_append, ← List.replicate_succ'])
      have HLN := Lib.hid (show (128 :: List.replicate j (0 : UInt8)).length ≤ 1000000 by rw [hlen]; omega)
      clear hst hjk hj hlen
      go_wp2_with (first
        | (at_builtin; refine wpList_app_b wr 0 0 rfl rfl (.tmp 12) (.tmp 13) rfl w.heap.size _ _ rfl HO.out wr.heap.size rfl rfl HLN.out HB.out.size w HB.out ?_; intro v' w9 ho9 hb9; have HO9 := Lib.hid ho9; have HB9 := Lib.hid hb9; clear ho9 hb9)
        | fail)
      go_roundg (kz n - (j + 1))
      case measure => have := HG.out; have := HJ.out; omega
      case rel => exact ⟨j + 1, HJ.out, Lib.hid rfl, Lib.hid (by rw [← HAP.out]; exact HO9.out), HB9⟩
end Go.Proofs.Ytphjebbjhfnhoaa
