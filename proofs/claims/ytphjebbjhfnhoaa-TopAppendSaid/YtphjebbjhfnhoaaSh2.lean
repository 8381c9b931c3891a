/- sha: words. -/
import Derived.Test.YtphjebbjhfnhoaaSh1
namespace Go.Proofs.Ytphjebbjhfnhoaa
open Go.RowKit
def zN : Nat → Int := fun _ => 0
def Z117 : Array Value := rowK .u32 zN 64
theorem z117 (w : World) : (zeroValue 117).run Try.prog w = .ok (.agg Z117) w := by kernel_rfl
attribute [local go_sem ↓] z117
theorem Try.size117 : (Try.prog.info? 117).map (·.size) = some 64 := by kernel_rfl
theorem Try.size112 : (Try.prog.info? 112).map (·.size) = some 64 := by kernel_rfl

def sh8 (x c : Int) : Int := bits BinOp.or IntKind.u32 (IntKind.u32.wrap (x * 256)) (IntKind.u32.wrap c)
def packF (g : Nat → Int) (t : Nat) : Nat → Int
  | 0 => 0
  | k + 1 => sh8 (packF g t k) (g (4 * t + k))
def wordF (g : Nat → Int) (i k : Nat) : Nat → Int := fun t => if t < i then packF g t 4 else if t = i then packF g t k else 0
theorem wordF_at (g : Nat → Int) (i k : Nat) : wordF g i k i = packF g i k := by unfold wordF; rw [if_neg (Nat.lt_irrefl _), if_pos rfl]
theorem wordF_step (g : Nat → Int) (i k : Nat) : updN (wordF g i k) i (sh8 (wordF g i k i) (g (4 * i + k))) = wordF g i (k + 1) := by
  funext t
  rw [wordF_at]
  unfold updN wordF
  by_cases h : t = i
  · subst h; rw [if_pos rfl, if_neg (Nat.lt_irrefl _), if_pos rfl]; rfl
  · rw [if_neg h, if_neg h, if_neg h]
theorem wordF_next (g : Nat → Int) (i : Nat) : wordF g i 4 = wordF g (i + 1) 0 := by
  funext t
  unfold wordF
  by_cases h : t < i
  · rw [if_pos h, if_pos (by omega)]
  · by_cases h2 : t = i
    · subst h2; rw [if_neg h, if_pos rfl, if_pos (by omega)]
    · rw [if_neg h, if_neg h2, if_neg (by omega)]; split <;> rfl
theorem wordF_zero (g : Nat → Int) : wordF g 0 0 = zN := by
  funext t
  unfold wordF
  rw [if_neg (by omega)]; split <;> rfl

def xr (a b : Int) : Int := bits BinOp.xor IntKind.u32 a b
def mixW (f : Nat → Int) (t : Nat) : Int :=
  (xr (xr (rotR (f (t - 2)) 17) (rotR (f (t - 2)) 19)) (f (t - 2) / 1024) + f (t - 7) + xr (xr (rotR (f (t - 15)) 7) (rotR (f (t - 15)) 18)) (f (t - 15) / 8) + f (t - 16)) % 4294967296
def schF (f : Nat → Int) : Nat → (Nat → Int)
  | 0 => f
  | j + 1 => updN (schF f j) (16 + j) (mixW (schF f j) (16 + j))
/-- The words of a block. -/
def wrd (g : Nat → Int) : Nat → Int := schF (wordF g 16 0) 48
/-- What words knows of memory. -/
structure WS (w : World) (g : Nat → Int) (b r c : Nat) (f : Nat → Int) (wr : World) : Prop where
  bx : Blk wr b 112 (rowK .u8 g 64)
  rs : Blk wr r 117 Z117
  wk : Blk wr c 117 (rowK .u32 f 64)
  fr : Fr (fun _ => False) w wr
  lr : w.heap.size ≤ r
  lc : w.heap.size ≤ c
  n1 : b ≠ c
  n2 : r ≠ c
theorem WS.drew {w wr : World} {g : Nat → Int} {b r c : Nat} {f : Nat → Int} (h : WS w g b r c f wr) : WS w g b r c f wr.drew := ⟨h.bx, h.rs, h.wk, h.fr.drew, h.lr, h.lc, h.n1, h.n2⟩
theorem WS.put {w wr : World} {g : Nat → Int} {b r c : Nat} {f : Nat → Int} (h : WS w g b r c f wr) (k : Nat) (v : Int) : WS w g b r c (updN f k v) (wr.setCell ⟨c, k, none⟩ (.int .u32 v)) :=
  ⟨h.bx.setOther h.n1 _, h.rs.setOther h.n2 _, by have := h.wk.set k (.int .u32 v); rwa [rowK_set] at this, h.fr.setCell (p := ⟨c, k, none⟩) (fun x => (Nat.lt_irrefl _ (Nat.lt_of_lt_of_le x h.lc)).elim) _, h.lr, h.lc, h.n1, h.n2⟩
theorem WS.start (w : World) (g : Nat → Int) : WS w g w.heap.size (w.heap.size + 1) (w.heap.size + 1 + 1) (wordF g 0 0) (((w.alloc (.cells (rowK .u8 g 64) 112)).alloc (.cells Z117 117)).alloc (.cells Z117 117)) := by
  have h0 := Blk.new w 112 (rowK .u8 g 64)
  have h1 := Blk.new (w.alloc (.cells (rowK .u8 g 64) 112)) 117 Z117
  rw [show (w.alloc (.cells (rowK .u8 g 64) 112)).heap.size = w.heap.size + 1 by simp] at h1
  have h2 := Blk.new ((w.alloc (.cells (rowK .u8 g 64) 112)).alloc (.cells Z117 117)) 117 Z117
  rw [show ((w.alloc (.cells (rowK .u8 g 64) 112)).alloc (.cells Z117 117)).heap.size = w.heap.size + 1 + 1 by simp] at h2
  exact ⟨(h0.alloc _).alloc _, h1.alloc _, by rw [wordF_zero]; exact h2, (((Fr.refl _ w).alloc _).alloc _).alloc _, by omega, by omega, by omega, by omega⟩

set_option maxRecDepth 100000 in
set_option maxHeartbeats 8000000 in
theorem words_spec (g : Nat → Int) (w : World) : Calls Try.prog 64 #[.agg (rowK .u8 g 64)] w fun e w' => e = .returned (.agg (rowK .u32 (wrd g) 64)) ∧ Fr (fun _ => False) w w' := by
  obtain ⟨W, hWd⟩ : ∃ W, W = wrd g := ⟨_, rfl⟩
  rw [← hWd]
  have HWD0 := Lib.hid hWd
  clear hWd
  have H0 := Lib.hid (WS.start w g)
  go_enter Try.func64, Try.ntmps64
  go_wp2_with (fail)
  generalize ((w.alloc (Obj.cells (rowK .u8 g 64) 112)).alloc (Obj.cells Z117 117)).alloc (Obj.cells Z117 117) = w1 at H0 ⊢
  generalize w.heap.size + 1 + 1 = c at H0 ⊢
  generalize w.heap.size + 1 = r at H0 ⊢
  obtain ⟨b, hb⟩ : ∃ b, b = w.heap.size := ⟨_, rfl⟩
  rw [← hb] at H0 ⊢
  clear hb
  go_loopg [9] 16 (fun gk x9 wr => ∃ i : Nat, i ≤ 16 ∧ Hid (gk = 16 - i) ∧ x9 = .int .i64 i ∧ Hid (WS w g b r c (wordF g i 0) wr))
  case atStart => exact ⟨0, by omega, Lib.hid rfl, rfl, H0⟩
  case round =>
    obtain ⟨i, hi, HG, rfl, HW⟩ := hrel
    by_cases hin : i < 16
    · have i3 : (i : Int) < 16 := by omega
      have HI := Lib.hid hin
      clear hin hi
      go_wp2_with (fail)
      go_loopg [12] 4 (fun gk2 x12 wr2 => ∃ k : Nat, k ≤ 4 ∧ Hid (gk2 = 4 - k) ∧ x12 = .int .i64 k ∧ Hid (WS w g b r c (wordF g i k) wr2))
      case atStart => exact ⟨0, by omega, Lib.hid rfl, rfl, HW⟩
      case round =>
        obtain ⟨k, hk, HG2, rfl, HW2⟩ := hrel
        by_cases hkn : k < 4
        · have k3 : (k : Int) < 4 := by omega
          have HK := Lib.hid hkn
          clear hkn hk
          go_wp2_with (fail)
          have HWD := Lib.hid HW2.out.drew
          have c1 := HWD.out.wk.cell i (rowK_at _ _ 64 i (by have := HI.out; omega))
          have c2 := HWD.out.bx.cell (4 * i + k) (rowK_at _ g 64 (4 * i + k) (by have := HI.out; have := HK.out; omega))
          have f1 := HWD.out.wk.free i
          have j0 : (i : Int) < 64 := by omega
          have j1 : (0 : Int) ≤ 4 * (i : Int) + (k : Int) := by omega
          have j2 : 4 * (i : Int) + (k : Int) < 64 := by omega
          have j3 : (4 * (i : Int) + (k : Int)).toNat = 4 * i + k := by omega
          have j4 : IntKind.i64.wrap (4 * (i : Int)) = 4 * (i : Int) := IntWalk.i64_in _ (by omega)
          have j5 : IntKind.i64.wrap (4 * (i : Int) + (k : Int)) = 4 * (i : Int) + (k : Int) := IntWalk.i64_in _ (by omega)
          refine wp_region_still_tail 14 (by kernel_rfl) (by kernel_rfl) ?_
          simp only [List.take_succ_cons, List.take_zero, List.drop_succ_cons, List.drop_zero]
          change wpStill _ _ wr.drew (fun a' => wpList _ _ _ _ a' wr.drew) _ _
          generalize wr.drew = wx at HWD c1 c2 f1 ⊢
          iterate 14 still_step
          refine wpStill_nil ?_
          clear c2 j0 j1 j2 j3 j4 j5
          have HS := Lib.hid (HWD.out.put i (sh8 (wordF g i k i) (g (4 * i + k))))
          rw [wordF_step] at HS
          go_wp2_with (fail)
          go_roundg (4 - (k + 1))
          case measure => have := HG2.out; have := HK.out; omega
          case rel => exact ⟨k + 1, HK.out, Lib.hid rfl, by go_num, HS⟩
        · obtain rfl : k = 4 := by omega
          have HN := Lib.hid (show WS w g b r c (wordF g (i + 1) 0) wr by rw [← wordF_next]; exact HW2.out)
          clear hkn hk
          go_wp2_with (fail)
          go_roundg (16 - (i + 1))
          case measure => have := HG.out; have := HI.out; omega
          case rel => exact ⟨i + 1, by have := HI.out; omega, Lib.hid rfl, by go_num, HN⟩
    · obtain rfl : i = 16 := by omega
      clear hin hi HG
      go_wp2_with (fail)
      have HW0 := Lib.hid HW.out
      clear HW H0
      go_loopg [6] 48 (fun gk x6 wr => ∃ j : Nat, j ≤ 48 ∧ Hid (gk = 48 - j) ∧ x6 = .int .i64 (16 + j : Nat) ∧ Hid (WS w g b r c (schF (wordF g 16 0) j) wr))
      case atStart => exact ⟨0, by omega, Lib.hid rfl, rfl, HW0⟩
      case round =>
        obtain ⟨j, hj, HG, rfl, HW⟩ := hrel
        clear HW0
        generalize hF : schF (wordF g 16 0) j = F at HW
        obtain ⟨t, ht⟩ : ∃ t, t = 16 + j := ⟨_, rfl⟩
        rw [← ht]
        by_cases hjn : j < 48
        · have t1 : (t : Int) < 64 := by omega
          have t0 : (16 : Int) ≤ (t : Int) := by omega
          have HT := Lib.hid ht
          have HJ := Lib.hid hjn
          have HFF := Lib.hid hF
          have HTB := Lib.hid (show t < 64 by omega)
          have HT16 := Lib.hid (show 16 ≤ t by omega)
          clear hj hjn ht hF
          go_wp2_with (fail)
          have HWD := Lib.hid HW.out.drew
          have d2 := HWD.out.wk.cell (t - 2) (rowK_at _ _ 64 _ (by have := HTB.out; omega))
          have d15 := HWD.out.wk.cell (t - 15) (rowK_at _ _ 64 _ (by have := HTB.out; omega))
          have a2 : IntKind.i64.wrap ((t : Int) - 2) = (t : Int) - 2 := IntWalk.i64_in _ (by omega)
          have a15 : IntKind.i64.wrap ((t : Int) - 15) = (t : Int) - 15 := IntWalk.i64_in _ (by omega)
          have b2 : ((t : Int) - 2).toNat = t - 2 := by omega
          have b15 : ((t : Int) - 15).toNat = t - 15 := by omega
          have p2 : (2 : Int) ≤ (t : Int) := by omega
          have p15 : (15 : Int) ≤ (t : Int) := by omega
          have q2 : (t : Int) - 2 < 64 := by omega
          have q15 : (t : Int) - 15 < 64 := by omega
          refine wp_region_still_tail 9 (by kernel_rfl) (by kernel_rfl) ?_
          simp only [List.take_succ_cons, List.take_zero, List.drop_succ_cons, List.drop_zero]
          change wpStill _ _ wr.drew (fun a' => wpList _ _ _ _ a' wr.drew) _ _
          generalize wr.drew = wx at HWD d2 d15 ⊢
          iterate 9 still_step
          refine wpStill_nil ?_
          clear d2 d15 a2 a15 b2 b15 p2 p15 q2 q15 HW
          go_wp2_with (fail)
          have HWE := Lib.hid HWD.out.drew
          have d2 := HWE.out.wk.cell (t - 7) (rowK_at _ _ 64 _ (by have := HTB.out; omega))
          have d15 := HWE.out.wk.cell (t - 16) (rowK_at _ _ 64 _ (by have := HTB.out; omega))
          have dt := HWE.out.wk.cell t (rowK_at _ _ 64 _ (by have := HTB.out; omega))
          have ft := HWE.out.wk.free t
          have a2 : IntKind.i64.wrap ((t : Int) - 7) = (t : Int) - 7 := IntWalk.i64_in _ (by omega)
          have a15 : IntKind.i64.wrap ((t : Int) - 16) = (t : Int) - 16 := IntWalk.i64_in _ (by omega)
          have b2 : ((t : Int) - 7).toNat = t - 7 := by omega
          have b15 : ((t : Int) - 16).toNat = t - 16 := by omega
          have p2 : (7 : Int) ≤ (t : Int) := by omega
          have q2 : (t : Int) - 7 < 64 := by omega
          have q15 : (t : Int) - 16 < 64 := by omega
          refine wp_region_still_tail 29 (by kernel_rfl) (by kernel_rfl) ?_
          simp only [List.take_succ_cons, List.take_zero, List.drop_succ_cons, List.drop_zero]
          change wpStill _ _ wx.drew (fun a' => wpList _ _ _ _ a' wx.drew) _ _
          generalize wx.drew = wy at HWE d2 d15 dt ft ⊢
          have r17 := fun x => turn17 x wy
          have r19 := fun x => turn19 x wy
          have r7 := fun x => turn7 x wy
          have r18 := fun x => turn18 x wy
          have R17 : Hid (∀ x, Calls Try.prog 66 #[.int .u32 x, .int .i64 17] wy fun e w' => e = .returned (.int .u32 (rotR x 17)) ∧ w' = wy) := Lib.hid (fun x => (turn17 x wy).mono fun _ _ ⟨h1, h2⟩ => ⟨h1, h2.symm⟩)
          have R19 : Hid (∀ x, Calls Try.prog 66 #[.int .u32 x, .int .i64 19] wy fun e w' => e = .returned (.int .u32 (rotR x 19)) ∧ w' = wy) := Lib.hid (fun x => (turn19 x wy).mono fun _ _ ⟨h1, h2⟩ => ⟨h1, h2.symm⟩)
          have R7 : Hid (∀ x, Calls Try.prog 66 #[.int .u32 x, .int .i64 7] wy fun e w' => e = .returned (.int .u32 (rotR x 7)) ∧ w' = wy) := Lib.hid (fun x => (turn7 x wy).mono fun _ _ ⟨h1, h2⟩ => ⟨h1, h2.symm⟩)
          have R18 : Hid (∀ x, Calls Try.prog 66 #[.int .u32 x, .int .i64 18] wy fun e w' => e = .returned (.int .u32 (rotR x 18)) ∧ w' = wy) := Lib.hid (fun x => (turn18 x wy).mono fun _ _ ⟨h1, h2⟩ => ⟨h1, h2.symm⟩)
          clear r17 r19 r7 r18
          iterate 2 still_step
          still_call (R17.out _)
          still_step
          still_call (R19.out _)
          iterate 10 still_step
          still_call (R7.out _)
          still_step
          still_call (R18.out _)
          iterate 11 still_step
          refine wpStill_nil ?_
          clear d2 d15 a2 a15 b2 b15 p2 q2 q15
          have HS := Lib.hid (HWE.out.put t (mixW F t))
          have HN := Lib.hid (show updN F t (mixW F t) = schF (wordF g 16 0) (j + 1) by rw [schF, HFF.out, ← HT.out])
          rw [HN.out] at HS
          go_wp2_with (fail)
          go_roundg (48 - (j + 1))
          case measure => have := HG.out; have := HJ.out; omega
          case rel => exact ⟨j + 1, by have := HJ.out; omega, Lib.hid rfl, by (have := HT.out; subst this; go_num), HS⟩
        · obtain rfl : j = 48 := by omega
          subst ht
          have HW := Lib.hid (show WS w g b r c (schF (wordF g 16 0) 48) wr by rw [hF]; exact HW.out)
          clear hF hj hjn HG
          obtain ⟨F2, hF2⟩ : ∃ F2, F2 = schF (wordF g 16 0) 48 := ⟨_, rfl⟩
          rw [← hF2] at HW
          have HE := Lib.hid (show F2 = W by rw [HWD0.out, hF2]; rfl)
          clear hF2
          go_wp2_with (first
            | (refine wpList_load_row rfl 117 _ rfl c rfl 117 (rowK .u32 F2 64) (0, 0) _ HW.out.wk Try.underlying117 rfl (by rw [rowK_size]; exact Try.size117) ?_)
            | (refine wpList_store_row rfl 117 _ _ rfl r (rowK .u32 F2 64) rfl rfl 117 Z117 HW.out.rs (by rw [rowK_size]; exact Try.size117) (by rw [rowK_size]; exact rowK_size _ _ _) (rowK_one _ _ _) ?_)
            | fail)
          refine bodyPost_ret (results_cell_row rfl _ _ r 117 (rowK .u32 F2 64) (0, 0) _ rfl (setRow_heap wr r _ _ 117 _ HW.out.rs) Try.underlying117 rfl (by rw [rowK_size]; exact Try.size117)) rfl ⟨?_, ?_⟩
          · rw [HE.out]
          · exact HW.out.fr.trans (fr_setRow _ _ _) (fun i hi e => by have := HW.out.lr; omega)
end Go.Proofs.Ytphjebbjhfnhoaa
