/- The walks of the reference's Digits, number. -/
import Derived.Test.YtlfaeabbfejjcaaDoorNumP
import Derived.Test.YtlfaeabbfejjcaaDoorFld
import Derived.Deep.RegionWith
import Derived.IntWalk
import Derived.Laws.BytesArg
namespace Go.Proofs.YtlfaeabbfejjcaaDoor
open Go.RowKit

/-- A number's digits as a text. -/
def digB (n : Nat) : ByteArray := ⟨(Lib.decDigits n).toArray⟩
theorem digB_data (n : Nat) : (digB n).data.toList = Lib.decDigits n := rfl
theorem nDigits_le : ∀ (k u : Nat), u < 10 ^ (k + 1) → Lib.nDigits u ≤ k + 1 := by
  intro k
  induction k with
  | zero => intro u h; rw [Lib.nDigits_small (by simpa using h)]; exact Nat.le_refl _
  | succ k ih =>
    intro u h
    by_cases hu : u < 10
    · rw [Lib.nDigits_small hu]; omega
    · rw [Lib.nDigits_big hu]
      have := ih (u / 10) (by rw [Nat.pow_succ] at h; omega)
      omega
theorem digB_size (n : Nat) (h : n ≤ 9223372036854775807) : (digB n).size ≤ 19 := by
  show (Lib.decDigits n).length ≤ 19
  rw [Lib.decDigits_length]
  exact nDigits_le 18 n (by omega)
/-- A digit as a text. -/
def dgc (m : Nat) : ByteArray := ⟨#[UInt8.ofNat (48 + m)]⟩

theorem conv1 (m : Nat) (hm : m < 10) (wx : World) : (convert 33 9 (.slice (some ⟨wx.heap.size, 0, none⟩) 1 1)).run Tryd.prog (wx.alloc (.cells #[.int .u8 (48 + (m : Int))] 5)) = .ok (.string (dgc m)) (wx.alloc (.cells #[.int .u8 (48 + (m : Int))] 5)) := by
  have h := run_convert_bytes_arg (P := Tryd.prog) (wx.alloc (.cells #[.int .u8 (48 + (m : Int))] 5)) 33 5 Tryd.underlying33 Tryd.underlying5 wx.heap.size 0 1 1 [48 + (m : Int)] rfl (by
    intro i hi
    obtain rfl : i = 0 := by omega
    exact (Blk.new wx 5 #[.int .u8 (48 + (m : Int))]).cell 0 rfl) 9 Tryd.underlying9
  rw [h]
  have e : strOfNums [48 + (m : Int)] = dgc m := by
    unfold strOfNums dgc
    rw [List.map_cons, List.map_nil, show (48 + (m : Int)).toNat = 48 + m by omega]
  rw [e]

theorem dgc_size (m : Nat) : (dgc m).size ≤ 1 := Nat.le_refl 1

theorem dig_small (n : Nat) (h : n < 10) (w : World) : Calls Tryd.prog 24 #[.int .i64 n] w fun e w' => e = .returned (.string (digB n)) ∧ Fr (fun _ => False) w w' := by
  have hl : decide ((n : Int) < 10) = true := by simp; omega
  have e1 := Lib.decDigits_one h
  have HE := Lib.hid e1
  have hcv := fun wx => conv1 n h wx
  clear e1
  go_enter Tryd.func24, Tryd.ntmps24
  go_wp2
  have he := HE.out
  go_ret
  exact ⟨by unfold digB; rw [he]; rfl, (Fr.refl _ _).alloc _⟩

theorem conv_at (n : Nat) (wx : World) (g : Nat) (hb : Blk wx g 5 #[.int .u8 (48 + (n : Int) % 10)]) : (convert 33 9 (.slice (some ⟨g, 0, none⟩) 1 1)).run Tryd.prog wx = .ok (.string (dgc (n % 10))) wx := by
  have h := run_convert_bytes_arg (P := Tryd.prog) wx 33 5 Tryd.underlying33 Tryd.underlying5 g 0 1 1 [48 + (n : Int) % 10] rfl (by
    intro i hi
    obtain rfl : i = 0 := by omega
    exact hb.cell 0 rfl) 9 Tryd.underlying9
  rw [h]
  have e : strOfNums [48 + (n : Int) % 10] = dgc (n % 10) := by
    unfold strOfNums dgc
    rw [List.map_cons, List.map_nil, show (48 + (n : Int) % 10).toNat = 48 + n % 10 by omega]
  rw [e]
theorem conv2 (n : Nat) (wx : World) (g : Nat) (hg : g = wx.heap.size) : (convert 33 9 (.slice (some ⟨g, 0, none⟩) 1 1)).run Tryd.prog (wx.alloc (.cells #[.int .u8 (48 + (n : Int) % 10)] 5)).drew = .ok (.string (dgc (n % 10))) (wx.alloc (.cells #[.int .u8 (48 + (n : Int) % 10)] 5)).drew := by
  subst hg
  exact conv_at n _ _ (Blk.new wx 5 #[.int .u8 (48 + (n : Int) % 10)])
theorem conv3 (n : Nat) (wx : World) (g : Nat) (hg : g = wx.heap.size) : (convert 33 9 (.slice (some ⟨g, 0, none⟩) 1 1)).run Tryd.prog (wx.alloc (.cells #[.int .u8 (48 + (n : Int) % 10)] 5)) = .ok (.string (dgc (n % 10))) (wx.alloc (.cells #[.int .u8 (48 + (n : Int) % 10)] 5)) := by
  subst hg
  exact conv_at n _ _ (Blk.new wx 5 #[.int .u8 (48 + (n : Int) % 10)])

theorem conv_later (n : Nat) (wx w1 : World) (h : Fr (fun _ => False) (wx.alloc (.cells #[.int .u8 (48 + (n : Int) % 10)] 5)).drew w1) :
    (convert 33 9 (.slice (some ⟨wx.heap.size, 0, none⟩) 1 1)).run Tryd.prog w1 = .ok (.string (dgc (n % 10))) w1 :=
  conv_at n _ _ ((Blk.new wx 5 #[.int .u8 (48 + (n : Int) % 10)]).drew.fr h (fun h => h))

theorem digB_big {n : Nat} (h : Hid (¬ n < 10)) : digB n = digB (n / 10) ++ dgc (n % 10) := by
  apply ba_ext
  rw [pre_data2, digB_data, digB_data, Lib.decDigits, dif_neg h.out]
  rfl

set_option maxRecDepth 100000 in
set_option maxHeartbeats 4000000 in
theorem dig_big (n : Nat) (h : ¬ n < 10) (hn : n ≤ 9223372036854775807) (w : World) (ih : ∀ wx, Calls Tryd.prog 24 #[.int .i64 ((n : Int) / 10)] wx fun e w' => e = .returned (.string (digB (n / 10))) ∧ Fr (fun _ => False) wx w') :
    Calls Tryd.prog 24 #[.int .i64 n] w fun e w' => e = .returned (.string (digB n)) ∧ Fr (fun _ => False) w w' := by
  have hl : decide ((n : Int) < 10) = false := by simp; omega
  have IH := Lib.hid ih
  have hcv := fun (wx : World) (g : Nat) (hg : g = wx.heap.size) => conv2 n wx g hg
  have hcv3 := fun (wx : World) (g : Nat) (hg : g = wx.heap.size) => conv3 n wx g hg
  have z1 := digB_size (n / 10) (by omega)
  have z2 := dgc_size (n % 10)
  have hn0 : (0 : Int) ≤ n := by omega
  have hn1 : (n : Int) ≤ 9223372036854775807 := by omega
  have e1 : IntKind.i64.wrap ((n : Int) / 10) = (n : Int) / 10 := IntWalk.i64_in _ (by omega)
  have e2 : (n : Int).tmod 10 = (n : Int) % 10 := Int.tmod_eq_emod_of_nonneg hn0
  have e3 : IntKind.i64.wrap (48 + (n : Int) % 10) = 48 + (n : Int) % 10 := IntWalk.i64_in _ (by omega)
  have e4 : IntKind.u8.wrap (48 + (n : Int) % 10) = 48 + (n : Int) % 10 := by simp only [IntKind.wrap_u8]; omega
  have h0 := Lib.hid h
  clear ih h
  go_enter Tryd.func24, Tryd.ntmps24
  go_wp2_with (fail)
  go_region_with (go_at_call 24; ((with_reducible refine (IH.out _).mono ?_); rintro e w1 ⟨rfl, hf1⟩; try (have hcl := conv_later n w w1 hf1)))
  all_goals clear hcv hcv3 e1 e2 e3 e4
  all_goals go_wp2
  all_goals go_ret
  all_goals refine ⟨by rw [digB_big h0]; rfl, ?_⟩
  all_goals first
    | exact (((Fr.refl _ _).drew).trans hf1 (fun _ _ h => h)).alloc _
    | exact (((Fr.refl _ _).alloc _).drew).trans hf1 (fun _ _ h => h)

theorem digits_ref (n : Nat) : ∀ (_ : n ≤ 9223372036854775807) (w : World), Calls Tryd.prog 24 #[.int .i64 n] w fun e w' => e = .returned (.string (digB n)) ∧ Fr (fun _ => False) w w' := by
  induction n using Nat.strongRecOn with
  | _ n ih =>
    intro hn w
    by_cases h : n < 10
    · exact dig_small n h w
    · refine dig_big n h hn w (fun wx => ?_)
      have := ih (n / 10) (by omega) (by omega) wx
      rwa [show ((n / 10 : Nat) : Int) = (n : Int) / 10 by omega] at this
end Go.Proofs.YtlfaeabbfejjcaaDoor
