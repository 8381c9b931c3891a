/- The walk of ReportParts. -/
import Derived.Test.YthnhieikeigjcaaDoorSizes
import Derived.Test.YthnhieikeigjcaaDoorRowK
namespace Go.Proofs.YthnhieikeigjcaaDoor
open Go.RowKit

theorem number_pct (a b : Nat) (w : World) : Calls Tryd.prog 19 #[.string (pctB a b)] w fun e w' => e = .returned (.tuple #[.int .i64 (pctN a b), .string ⟨#[37]⟩]) ∧ w = w' :=
  number_dig (pctN a b) (pctB a b) [37] (by have := pctN_le a b; omega) (by unfold pctB; rw [pre_data2, digB_data]) (fun c t e => by cases e; unfold isDig; decide) w
theorem pct_zero (b : Nat) (h : 0 < b) : pctB 0 b = ⟨#[48, 37]⟩ := by
  rw [pct_part h, Nat.mul_zero, Nat.zero_div, digB_one (by omega)]; rfl
theorem pct_mono {a b : Nat} (w : Nat) (h : a ≤ b) : pctN a w ≤ pctN b w := by
  have h1 := pctN_le a w
  unfold pctN at *
  by_cases hb : w ≤ b
  · rw [if_pos hb]; exact h1
  · rw [if_neg hb, if_neg (show ¬ w ≤ a by omega)]
    exact Nat.div_le_div_right (by omega)
theorem pct_over {a w : Nat} (h : w ≤ a) : pctN a w = 100 := by unfold pctN; rw [if_pos h]
theorem pct_rest {a w : Nat} (h : a ≤ w) (hw : 0 < w) : 99 ≤ pctN a w + pctN (w - a) w ∧ pctN a w + pctN (w - a) w ≤ 100 ∧ pctN a w * w ≤ 100 * a ∧ 100 * a < (pctN a w + 1) * w := by
  by_cases h1 : a = w
  · subst h1
    rw [pct_over (Nat.le_refl a), Nat.sub_self]
    have : pctN 0 a = 0 := by unfold pctN; rw [if_neg (by omega)]; simp
    rw [this]
    omega
  by_cases h0 : a = 0
  · subst h0
    rw [Nat.sub_zero, pct_over (Nat.le_refl w)]
    have : pctN 0 w = 0 := by unfold pctN; rw [if_neg (by omega)]; simp
    rw [this]
    omega
  have ea : pctN a w = 100 * a / w := by unfold pctN; rw [if_neg (by omega)]
  have eb : pctN (w - a) w = 100 * (w - a) / w := by unfold pctN; rw [if_neg (by omega)]
  rw [ea, eb]
  have d1 := Nat.div_add_mod (100 * a) w
  have d2 := Nat.div_add_mod (100 * (w - a)) w
  have m1 := Nat.mod_lt (100 * a) hw
  have m2 := Nat.mod_lt (100 * (w - a)) hw
  generalize 100 * a / w = x at *
  generalize 100 * (w - a) / w = z at *
  generalize 100 * a % w = r at *
  generalize 100 * (w - a) % w = s at *
  have hs : w * (x + z) + (r + s) = 100 * w := by rw [Nat.mul_add]; omega
  refine ⟨?_, ?_, ?_, ?_⟩
  · rcases Nat.lt_or_ge (x + z) 99 with h | h
    · have : w * (x + z) ≤ w * 98 := Nat.mul_le_mul_left _ (by omega)
      omega
    · exact h
  · rcases Nat.lt_or_ge 100 (x + z) with h | h
    · have : w * 101 ≤ w * (x + z) := Nat.mul_le_mul_left _ (by omega)
      omega
    · exact h
  · rw [Nat.mul_comm]; omega
  · rw [Nat.mul_comm (x + 1), Nat.mul_add]; omega

set_option maxRecDepth 10000 in
set_option maxHeartbeats 4000000 in
theorem parts_walk (n m k : Int) (w : World) (hn : (Lit.int .u32 n).wf = true) (hm : (Lit.int .u32 m).wf = true) (hk : (Lit.int .u32 k).wf = true) (ht : TB w) :
    Calls Tryd.prog 6 #[.int .u32 n, .int .u32 m, .int .u32 k] w fun e w' => e = .returned (.bool true) ∧ Below w.heap.size w w' := by
  obtain ⟨n0, n1⟩ := bd_u32 hn
  obtain ⟨m0, m1⟩ := bd_u32 hm
  obtain ⟨k0, k1⟩ := bd_u32 hk
  obtain ⟨A, hA⟩ : ∃ A, A = min n m := ⟨_, rfl⟩
  obtain ⟨B, hB⟩ : ∃ B, B = max n m := ⟨_, rfl⟩
  have A0 : 0 ≤ A := by omega
  have AB : A ≤ B := by omega
  have B1 : B ≤ 4294967295 := by omega
  have hA' := hA.symm
  have hB' := hB.symm
  have HT := Lib.hid ht
  have HF := Lib.hid (Fr.refl (fun _ => False) w)
  have H1 := Lib.hid (fun wx => percent_spec A k (by omega) wx)
  have H2 := Lib.hid (fun wx => percent_spec B k (by omega) wx)
  have H3 := Lib.hid (fun wx => (show Calls Tryd.prog 11 #[.int .i64 k, .int .i64 k] wx fun e w' => e = .returned (.string ⟨#[49, 48, 48, 37]⟩) ∧ Fr (fun _ => False) wx w' by
    rw [← pct_all (Nat.le_refl k.toNat)]; exact percent_spec k k (by omega) wx))
  have hn1 := number_pct A.toNat k.toNat
  have hn2 := number_pct B.toNat k.toNat
  have o1 := pctN_le A.toNat k.toNat
  have o2 := pctN_le B.toNat k.toNat
  have o3 := pct_mono k.toNat (show A.toNat ≤ B.toNat by omega)
  have j1 := fun h => pct_over (a := A.toNat) (w := k.toNat) h
  have j2 := fun h h2 => pct_rest (a := A.toNat) (w := k.toNat) h h2
  have hn3 := number_pct (k.toNat - A.toNat) k.toNat
  have o4 := pctN_le (k.toNat - A.toNat) k.toNat
  obtain ⟨X, hX⟩ : ∃ X, X = pctN A.toNat k.toNat := ⟨_, rfl⟩
  rw [← hX] at hn1 o1 o3 j1 j2
  obtain ⟨Y, hY⟩ : ∃ Y, Y = pctN B.toNat k.toNat := ⟨_, rfl⟩
  rw [← hY] at hn2 o2 o3
  obtain ⟨Z, hZ⟩ : ∃ Z, Z = pctN (k.toNat - A.toNat) k.toNat := ⟨_, rfl⟩
  rw [← hZ] at hn3 j2 o4
  clear hX hY hZ
  have N1 := Lib.hid hn1
  have N2 := Lib.hid hn2
  have x1 : (X : Int) ≤ 100 := by omega
  have y1 : (Y : Int) ≤ 100 := by omega
  have x2 : (0 : Int) ≤ X := by omega
  have xy : decide (X ≤ Y) = true := by simpa using o3
  have xy2 : (X : Int) ≤ Y := by omega
  have xy3 : decide (Y < X) = false := by simp; omega
  by_cases hk0 : k = 0
  · have hx : X = 100 := j1 (by omega)
    subst hx
    have kb : (k == 0) = true := by simpa using hk0
    have kz : decide (0 < k) = false := by simp; omega
    have kl : k ≤ 0 := by omega
    clear hn hm hk ht hA hB hn1 hn2 hn3 j1 j2 o1 o2 o3 o4 hk0
    by_cases hkA : k < A
    · have kA : decide (k < A) = true := by simp; omega
      clear hkA
      go_enter Tryd.func6, Tryd.ntmps6
      go_wp2_with (first
        | (go_at_call 11; ((with_reducible refine (H1.out _).mono ?_); rintro e w1 ⟨rfl, hf⟩; have HF := Lib.hid (HF.out.trans hf (fun _ _ h => h)); clear hf H1))
        | (go_at_call 11; ((with_reducible refine (H2.out _).mono ?_); rintro e w2 ⟨rfl, hf⟩; have HF := Lib.hid (HF.out.trans hf (fun _ _ h => h)); clear hf H2))
        | (go_at_call 11; ((with_reducible refine (H3.out _).mono ?_); rintro e w3 ⟨rfl, hf⟩; have HF := Lib.hid (HF.out.trans hf (fun _ _ h => h)); clear hf))
        | (go_at_call 19; ((with_reducible refine (N1.out _).mono ?_); rintro e w4 ⟨rfl, rfl⟩; clear N1))
        | (go_at_call 19; ((with_reducible refine (N2.out _).mono ?_); rintro e w5 ⟨rfl, rfl⟩))
        | (go_at_call 15; ((refine (awake_spec _ (HT.out.fr HF.out)).mono ?_); rintro e w7 ⟨rfl, hf⟩; have HF := Lib.hid (HF.out.trans hf (fun _ _ h => h)); clear hf)))
      go_ret
      exact ⟨rfl, HF.out.below (Nat.le_refl _) (fun _ _ h => h)⟩
    · have kA : decide (k < A) = false := by simp; omega
      clear hkA
      go_enter Tryd.func6, Tryd.ntmps6
      go_wp2_with (first
        | (go_at_call 11; ((with_reducible refine (H1.out _).mono ?_); rintro e w1 ⟨rfl, hf⟩; have HF := Lib.hid (HF.out.trans hf (fun _ _ h => h)); clear hf H1))
        | (go_at_call 11; ((with_reducible refine (H2.out _).mono ?_); rintro e w2 ⟨rfl, hf⟩; have HF := Lib.hid (HF.out.trans hf (fun _ _ h => h)); clear hf H2))
        | (go_at_call 11; ((with_reducible refine (H3.out _).mono ?_); rintro e w3 ⟨rfl, hf⟩; have HF := Lib.hid (HF.out.trans hf (fun _ _ h => h)); clear hf))
        | (go_at_call 19; ((with_reducible refine (N1.out _).mono ?_); rintro e w4 ⟨rfl, rfl⟩; clear N1))
        | (go_at_call 19; ((with_reducible refine (N2.out _).mono ?_); rintro e w5 ⟨rfl, rfl⟩))
        | (go_at_call 15; ((refine (awake_spec _ (HT.out.fr HF.out)).mono ?_); rintro e w7 ⟨rfl, hf⟩; have HF := Lib.hid (HF.out.trans hf (fun _ _ h => h)); clear hf)))
      go_ret
      exact ⟨rfl, HF.out.below (Nat.le_refl _) (fun _ _ h => h)⟩
  have kp : 0 < k := by omega
  have kb : (k == 0) = false := by simpa using hk0
  have H4 := Lib.hid (fun wx => (show Calls Tryd.prog 11 #[.int .i64 0, .int .i64 k] wx fun e w' => e = .returned (.string ⟨#[48, 37]⟩) ∧ Fr (fun _ => False) wx w' by
    rw [← pct_zero k.toNat (by omega)]; exact percent_spec 0 k (by omega) wx))
  by_cases hlt : k < A
  · have hx : X = 100 := j1 (by omega)
    subst hx
    clear hn hm hk ht hA hB hn1 hn2 hn3 j1 j2 o1 o2 o3 o4 hk0
    go_enter Tryd.func6, Tryd.ntmps6
    go_wp2_with (first
      | (go_at_call 11; ((with_reducible refine (H1.out _).mono ?_); rintro e w1 ⟨rfl, hf⟩; have HF := Lib.hid (HF.out.trans hf (fun _ _ h => h)); clear hf H1))
      | (go_at_call 11; ((with_reducible refine (H2.out _).mono ?_); rintro e w2 ⟨rfl, hf⟩; have HF := Lib.hid (HF.out.trans hf (fun _ _ h => h)); clear hf H2))
      | (go_at_call 11; ((with_reducible refine (H3.out _).mono ?_); rintro e w3 ⟨rfl, hf⟩; have HF := Lib.hid (HF.out.trans hf (fun _ _ h => h)); clear hf))
      | (go_at_call 11; ((with_reducible refine (H4.out _).mono ?_); rintro e w3 ⟨rfl, hf⟩; have HF := Lib.hid (HF.out.trans hf (fun _ _ h => h)); clear hf))
      | (go_at_call 19; ((with_reducible refine (N1.out _).mono ?_); rintro e w4 ⟨rfl, rfl⟩; clear N1))
      | (go_at_call 19; ((with_reducible refine (N2.out _).mono ?_); rintro e w5 ⟨rfl, rfl⟩))
      | (go_at_call 15; ((refine (awake_spec _ (HT.out.fr HF.out)).mono ?_); rintro e w7 ⟨rfl, hf⟩; have HF := Lib.hid (HF.out.trans hf (fun _ _ h => h)); clear hf)))
    go_ret
    exact ⟨rfl, HF.out.below (Nat.le_refl _) (fun _ _ h => h)⟩
  · obtain ⟨g1, g2, g3, g4⟩ := j2 (by omega) (by omega)
    have hle : A ≤ k := by omega
    have eKA : (k - A).toNat = k.toNat - A.toNat := by omega
    rw [← eKA] at hn3
    have N3 := Lib.hid hn3
    have H5 := Lib.hid (fun wx => percent_spec (k - A) k (by omega) wx)
    have z1 : (99 : Int) ≤ (X : Int) + Z := by omega
    have z2 : (X : Int) + Z ≤ 100 := by omega
    have eK : ((k.toNat : Nat) : Int) = k := by omega
    have v1 : (X : Int) * k ≤ 100 * A := by
      have : ((X * k.toNat : Nat) : Int) ≤ ((100 * A.toNat : Nat) : Int) := by exact_mod_cast g3
      rw [Int.natCast_mul, eK] at this
      omega
    have v2 : 100 * A < ((X : Int) + 1) * k := by
      have : ((100 * A.toNat : Nat) : Int) < (((X + 1) * k.toNat : Nat) : Int) := by exact_mod_cast g4
      have e : (((X + 1) * k.toNat : Nat) : Int) = ((X : Int) + 1) * k := by rw [Int.natCast_mul, eK]; rfl
      rw [e] at this
      omega
    have v3 : 0 ≤ (X : Int) * k := Int.mul_nonneg x2 k0
    have v4 : ((X : Int) + 1) * k ≤ 900000000000 := by rw [Int.add_mul]; omega
    clear hn hm hk ht hA hB hn1 hn2 hn3 j1 j2 o1 o2 o3 o4 hk0 hlt g1 g2 g3 g4 eKA eK
    go_enter Tryd.func6, Tryd.ntmps6
    go_wp2_with (first
      | (go_at_call 11; ((with_reducible refine (H1.out _).mono ?_); rintro e w1 ⟨rfl, hf⟩; have HF := Lib.hid (HF.out.trans hf (fun _ _ h => h)); clear hf H1))
      | (go_at_call 11; ((with_reducible refine (H2.out _).mono ?_); rintro e w2 ⟨rfl, hf⟩; have HF := Lib.hid (HF.out.trans hf (fun _ _ h => h)); clear hf H2))
      | (go_at_call 11; ((with_reducible refine (H3.out _).mono ?_); rintro e w3 ⟨rfl, hf⟩; have HF := Lib.hid (HF.out.trans hf (fun _ _ h => h)); clear hf H3))
      | (go_at_call 11; ((with_reducible refine (H4.out _).mono ?_); rintro e w3 ⟨rfl, hf⟩; have HF := Lib.hid (HF.out.trans hf (fun _ _ h => h)); clear hf H4))
      | (go_at_call 11; ((with_reducible refine (H5.out _).mono ?_); rintro e w3 ⟨rfl, hf⟩; have HF := Lib.hid (HF.out.trans hf (fun _ _ h => h)); clear hf))
      | (go_at_call 19; ((with_reducible refine (N1.out _).mono ?_); rintro e w4 ⟨rfl, rfl⟩; clear N1))
      | (go_at_call 19; ((with_reducible refine (N2.out _).mono ?_); rintro e w5 ⟨rfl, rfl⟩; clear N2))
      | (go_at_call 19; ((with_reducible refine (N3.out _).mono ?_); rintro e w5 ⟨rfl, rfl⟩))
      | (go_at_call 15; ((refine (awake_spec _ (HT.out.fr HF.out)).mono ?_); rintro e w7 ⟨rfl, hf⟩; have HF := Lib.hid (HF.out.trans hf (fun _ _ h => h)); clear hf)))
    go_ret
    exact ⟨rfl, HF.out.below (Nat.le_refl _) (fun _ _ h => h)⟩
end Go.Proofs.YthnhieikeigjcaaDoor
