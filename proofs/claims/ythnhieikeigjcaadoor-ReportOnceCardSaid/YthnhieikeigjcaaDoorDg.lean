/- Digits as texts; the walks of strconv.Itoa and the reference's digits. -/
import Derived.Test.YthnhieikeigjcaaDoorProg
import Derived.Test.YthnhieikeigjcaaDoorFr
import Derived.Test.YthnhieikeigjcaaDoorShelf
import Derived.KernelRfl
import Derived.Lib.Hide
import Derived.Lib.AppendIntMem
import Derived.Deep.RegionWith
import Derived.IntWalk
import Derived.Laws.BytesArg
import Derived.Lib.ItoaNum
namespace Go.Proofs.YthnhieikeigjcaaDoor
open Go.RowKit

theorem pre_data (a b c : ByteArray) : (a ++ b ++ c).data.toList = a.data.toList ++ b.data.toList ++ c.data.toList := by simp
theorem pre_data2 (a b : ByteArray) : (a ++ b).data.toList = a.data.toList ++ b.data.toList := by simp
theorem ba_ext {a b : ByteArray} (h : a.data.toList = b.data.toList) : a = b := by
  rcases a with ⟨⟨a⟩⟩; rcases b with ⟨⟨b⟩⟩
  have : a = b := h
  rw [this]
theorem Fr.cell {S : Nat → Prop} {w w' : World} (h : Fr S w w') {a : Addr} (ha : a.block < w.heap.size) (hS : ¬ S a.block) : w'.cell? a = w.cell? a := World.cell?_of_block (h.block _ ha hS)
theorem Below.of_fr {B : Nat} {w w' : World} (h : Fr (fun _ => False) w w') (hB : B ≤ w.heap.size) : Below B w w' := h.below hB (fun _ _ h => h)

/-- The table of powers of ten is laid. -/
def TB (w : World) : Prop := Lib.TabIs Tryd.prog w "internal/strconv.uint64pow10" .u64 Lib.pow10Tab
theorem TB.fr {w w' : World} (h : TB w) (f : Fr (fun _ => False) w w') : TB w' := Lib.tabBelow_of_tabIs h w' (Below.of_fr f (Nat.le_refl _))
theorem TB.below {w w' : World} (h : TB w) (f : Below w.heap.size w w') : TB w' := Lib.tabBelow_of_tabIs h w' f
theorem TB.drew {w : World} (h : TB w) : TB w.drew := h.fr (Fr.refl _ w).drew

theorem fr_grow (w : World) (k : Nat) (os : Array Obj) : Fr (fun _ => False) w (Sort.grow (w.drewN k) os) := by
  refine (Fr.refl _ w).drewN k |>.trans (T := fun _ => False) ⟨rfl, rfl, rfl, by simp [Sort.grow], fun j hj _ => ?_⟩ (fun _ _ h => h)
  show ((w.drewN k).heap ++ os)[j]? = _
  rw [Array.getElem?_append_left hj]

/-- A number's digits as a text. -/
def digB (n : Nat) : ByteArray := ⟨(Lib.decDigits n).toArray⟩
theorem digB_data (n : Nat) : (digB n).data.toList = Lib.decDigits n := rfl
theorem nDigits_le : ∀ (k u : Nat), u < 10 ^ (k + 1) → Lib.nDigits u ≤ k + 1 := by
  intro k
  induction k with
  | zero => intro u h; rw [Lib.nDigits_small (by simpa using h)]; exact Nat.le_refl _
  | succ k ih =>
    intro u h
    by_cases hu : u < 10
    · rw [Lib.nDigits_small hu]; omega
    · rw [Lib.nDigits_big hu]
      have := ih (u / 10) (by rw [Nat.pow_succ] at h; omega)
      omega
theorem digB_size (n : Nat) (h : n ≤ 9223372036854775807) : (digB n).size ≤ 19 := by
  show (Lib.decDigits n).length ≤ 19
  rw [Lib.decDigits_length]
  exact nDigits_le 18 n (by omega)
/-- A digit as a text. -/
def dgc (m : Nat) : ByteArray := ⟨#[UInt8.ofNat (48 + m)]⟩
theorem dgc_size (m : Nat) : (dgc m).size ≤ 1 := Nat.le_refl 1
theorem digB_one {n : Nat} (h : n < 10) : digB n = dgc n := by
  unfold digB; rw [Lib.decDigits_one h]; rfl
theorem digB_big {n : Nat} (h : Hid (¬ n < 10)) : digB n = digB (n / 10) ++ dgc (n % 10) := by
  apply ba_ext
  rw [pre_data2, digB_data, digB_data, Lib.decDigits, dif_neg h.out]
  rfl

theorem itoa_spec (n : Nat) (hn : n ≤ 9223372036854775807) (w : World) (ht : TB w) : Calls Tryd.prog 20 #[.int .i64 n] w fun e w' => e = .returned (.string (digB n)) ∧ Fr (fun _ => False) w w' :=
  (Tryd.strconv_Itoa (n : Int) (by omega) (by omega) w ht).mono fun e w' ⟨he, k, os, hw⟩ => ⟨by
    rw [he]
    have e1 : Lib.itoa (n : Int) = Lib.decDigits n := by unfold Lib.itoa; rw [if_neg (by omega), Int.toNat_natCast]
    rw [e1]; rfl, by rw [hw]; exact fr_grow w k os⟩
/-- The same where the number is not spelled as one. -/
theorem itoa_at (x : Int) (n : Nat) (hx : x = n) (hn : n ≤ 9223372036854775807) (w : World) (ht : TB w) : Calls Tryd.prog 20 #[.int .i64 x] w fun e w' => e = .returned (.string (digB n)) ∧ Fr (fun _ => False) w w' := by
  subst hx; exact itoa_spec n hn w ht

theorem conv1 (m : Nat) (hm : m < 10) (wx : World) : (convert 51 9 (.slice (some ⟨wx.heap.size, 0, none⟩) 1 1)).run Tryd.prog (wx.alloc (.cells #[.int .u8 (48 + (m : Int))] 5)) = .ok (.string (dgc m)) (wx.alloc (.cells #[.int .u8 (48 + (m : Int))] 5)) := by
  have h := run_convert_bytes_arg (P := Tryd.prog) (wx.alloc (.cells #[.int .u8 (48 + (m : Int))] 5)) 51 5 Tryd.underlying51 Tryd.underlying5 wx.heap.size 0 1 1 [48 + (m : Int)] rfl (by
    intro i hi
    obtain rfl : i = 0 := by omega
    exact (Blk.new wx 5 #[.int .u8 (48 + (m : Int))]).cell 0 rfl) 9 Tryd.underlying9
  rw [h]
  have e : strOfNums [48 + (m : Int)] = dgc m := by
    unfold strOfNums dgc
    rw [List.map_cons, List.map_nil, show (48 + (m : Int)).toNat = 48 + m by omega]
  rw [e]

theorem dig_small (n : Nat) (h : n < 10) (w : World) : Calls Tryd.prog 30 #[.int .i64 n] w fun e w' => e = .returned (.string (digB n)) ∧ Fr (fun _ => False) w w' := by
  have hl : decide ((n : Int) < 10) = true := by simp; omega
  have e1 := Lib.decDigits_one h
  have HE := Lib.hid e1
  have hcv := fun wx => conv1 n h wx
  clear e1
  go_enter Tryd.func30, Tryd.ntmps30
  go_wp2
  have he := HE.out
  go_ret
  exact ⟨by unfold digB; rw [he]; rfl, (Fr.refl _ _).alloc _⟩

theorem conv_at (n : Nat) (wx : World) (g : Nat) (hb : Blk wx g 5 #[.int .u8 (48 + (n : Int) % 10)]) : (convert 51 9 (.slice (some ⟨g, 0, none⟩) 1 1)).run Tryd.prog wx = .ok (.string (dgc (n % 10))) wx := by
  have h := run_convert_bytes_arg (P := Tryd.prog) wx 51 5 Tryd.underlying51 Tryd.underlying5 g 0 1 1 [48 + (n : Int) % 10] rfl (by
    intro i hi
    obtain rfl : i = 0 := by omega
    exact hb.cell 0 rfl) 9 Tryd.underlying9
  rw [h]
  have e : strOfNums [48 + (n : Int) % 10] = dgc (n % 10) := by
    unfold strOfNums dgc
    rw [List.map_cons, List.map_nil, show (48 + (n : Int) % 10).toNat = 48 + n % 10 by omega]
  rw [e]
theorem conv2 (n : Nat) (wx : World) (g : Nat) (hg : g = wx.heap.size) : (convert 51 9 (.slice (some ⟨g, 0, none⟩) 1 1)).run Tryd.prog (wx.alloc (.cells #[.int .u8 (48 + (n : Int) % 10)] 5)).drew = .ok (.string (dgc (n % 10))) (wx.alloc (.cells #[.int .u8 (48 + (n : Int) % 10)] 5)).drew := by
  subst hg
  exact conv_at n _ _ (Blk.new wx 5 #[.int .u8 (48 + (n : Int) % 10)])
theorem conv3 (n : Nat) (wx : World) (g : Nat) (hg : g = wx.heap.size) : (convert 51 9 (.slice (some ⟨g, 0, none⟩) 1 1)).run Tryd.prog (wx.alloc (.cells #[.int .u8 (48 + (n : Int) % 10)] 5)) = .ok (.string (dgc (n % 10))) (wx.alloc (.cells #[.int .u8 (48 + (n : Int) % 10)] 5)) := by
  subst hg
  exact conv_at n _ _ (Blk.new wx 5 #[.int .u8 (48 + (n : Int) % 10)])
theorem conv_later (n : Nat) (wx w1 : World) (h : Fr (fun _ => False) (wx.alloc (.cells #[.int .u8 (48 + (n : Int) % 10)] 5)).drew w1) :
    (convert 51 9 (.slice (some ⟨wx.heap.size, 0, none⟩) 1 1)).run Tryd.prog w1 = .ok (.string (dgc (n % 10))) w1 :=
  conv_at n _ _ ((Blk.new wx 5 #[.int .u8 (48 + (n : Int) % 10)]).drew.fr h (fun h => h))

set_option maxRecDepth 100000 in
set_option maxHeartbeats 4000000 in
theorem dig_big (n : Nat) (h : ¬ n < 10) (hn : n ≤ 9223372036854775807) (w : World) (ih : ∀ wx, Calls Tryd.prog 30 #[.int .i64 ((n : Int) / 10)] wx fun e w' => e = .returned (.string (digB (n / 10))) ∧ Fr (fun _ => False) wx w') :
    Calls Tryd.prog 30 #[.int .i64 n] w fun e w' => e = .returned (.string (digB n)) ∧ Fr (fun _ => False) w w' := by
  have hl : decide ((n : Int) < 10) = false := by simp; omega
  have IH := Lib.hid ih
  have hcv := fun (wx : World) (g : Nat) (hg : g = wx.heap.size) => conv2 n wx g hg
  have hcv3 := fun (wx : World) (g : Nat) (hg : g = wx.heap.size) => conv3 n wx g hg
  have z1 := digB_size (n / 10) (by omega)
  have z2 := dgc_size (n % 10)
  have hn0 : (0 : Int) ≤ n := by omega
  have hn1 : (n : Int) ≤ 9223372036854775807 := by omega
  have e1 : IntKind.i64.wrap ((n : Int) / 10) = (n : Int) / 10 := IntWalk.i64_in _ (by omega)
  have e2 : (n : Int).tmod 10 = (n : Int) % 10 := Int.tmod_eq_emod_of_nonneg hn0
  have e3 : IntKind.i64.wrap (48 + (n : Int) % 10) = 48 + (n : Int) % 10 := IntWalk.i64_in _ (by omega)
  have e4 : IntKind.u8.wrap (48 + (n : Int) % 10) = 48 + (n : Int) % 10 := by simp only [IntKind.wrap_u8]; omega
  have h0 := Lib.hid h
  clear ih h
  go_enter Tryd.func30, Tryd.ntmps30
  go_wp2_with (fail)
  go_region_with (go_at_call 30; ((with_reducible refine (IH.out _).mono ?_); rintro e w1 ⟨rfl, hf1⟩; try (have hcl := conv_later n w w1 hf1)))
  all_goals clear hcv hcv3 e1 e2 e3 e4
  all_goals go_wp2
  all_goals go_ret
  all_goals refine ⟨by rw [digB_big h0]; rfl, ?_⟩
  all_goals first
    | exact (((Fr.refl _ _).drew).trans hf1 (fun _ _ h => h)).alloc _
    | exact (((Fr.refl _ _).alloc _).drew).trans hf1 (fun _ _ h => h)

theorem digits_ref (n : Nat) : ∀ (_ : n ≤ 9223372036854775807) (w : World), Calls Tryd.prog 30 #[.int .i64 n] w fun e w' => e = .returned (.string (digB n)) ∧ Fr (fun _ => False) w w' := by
  induction n using Nat.strongRecOn with
  | _ n ih =>
    intro hn w
    by_cases h : n < 10
    · exact dig_small n h w
    · refine dig_big n h hn w (fun wx => ?_)
      have := ih (n / 10) (by omega) (by omega) wx
      rwa [show ((n / 10 : Nat) : Int) = (n : Int) / 10 by omega] at this

/-- The reference's digits: below 0 counts as 0. -/
theorem digits_pos (n : Nat) (hn : n ≤ 9223372036854775807) (w : World) : Calls Tryd.prog 21 #[.int .i64 n] w fun e w' => e = .returned (.string (digB n)) ∧ Fr (fun _ => False) w w' := by
  have HD := Lib.hid (digits_ref n hn)
  have h0 : (0 : Int) ≤ n := by omega
  have hm : max (n : Int) 0 = n := by omega
  go_enter Tryd.func21, Tryd.ntmps21
  go_wp2_with (go_at_call 30; refine (HD.out _).mono ?_; rintro e w1 ⟨rfl, hf1⟩)
  go_ret
  exact ⟨rfl, hf1⟩
theorem digits_at (x : Int) (n : Nat) (hx : x = n) (hn : n ≤ 9223372036854775807) (w : World) : Calls Tryd.prog 21 #[.int .i64 x] w fun e w' => e = .returned (.string (digB n)) ∧ Fr (fun _ => False) w w' := by
  subst hx; exact digits_pos n hn w
theorem digits_neg (x : Int) (hx : x < 0) (w : World) : Calls Tryd.prog 21 #[.int .i64 x] w fun e w' => e = .returned (.string (digB 0)) ∧ Fr (fun _ => False) w w' := by
  have HD := Lib.hid (digits_ref 0 (by omega))
  have hm : max x 0 = 0 := by omega
  go_enter Tryd.func21, Tryd.ntmps21
  go_wp2_with (go_at_call 30; refine (HD.out _).mono ?_; rintro e w1 ⟨rfl, hf1⟩)
  go_ret
  exact ⟨rfl, hf1⟩
end Go.Proofs.YthnhieikeigjcaaDoor
