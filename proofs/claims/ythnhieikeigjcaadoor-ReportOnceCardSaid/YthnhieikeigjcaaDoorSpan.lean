/- The walks of two and Span, the program's and the reference's. -/
import Derived.Test.YthnhieikeigjcaaDoorDg
namespace Go.Proofs.YthnhieikeigjcaaDoor
open Go.RowKit

/-- A number below 100 in two digits. -/
def twoB (n : Nat) : ByteArray := ⟨#[UInt8.ofNat (48 + n / 10), UInt8.ofNat (48 + n % 10)]⟩
theorem twoB_eq (n : Nat) : dgc (n / 10) ++ dgc (n % 10) = twoB n := rfl
theorem twoB_size (n : Nat) : (twoB n).size ≤ 2 := Nat.le_refl 2
/-- Ticks as time. -/
def spanB (n : Nat) : ByteArray := digB (n / 3600) ++ ⟨#[58]⟩ ++ twoB (n / 60 % 60) ++ ⟨#[58]⟩ ++ twoB (n % 60)

theorem convT (n : Nat) (wx : World) (g : Nat) (hb : Blk wx g 5 #[.int .u8 (48 + (n : Int) / 10), .int .u8 (48 + (n : Int) % 10)]) : (convert 51 9 (.slice (some ⟨g, 0, none⟩) 2 2)).run Tryd.prog wx = .ok (.string (twoB n)) wx := by
  have h := run_convert_bytes_arg (P := Tryd.prog) wx 51 5 Tryd.underlying51 Tryd.underlying5 g 0 2 2 [48 + (n : Int) / 10, 48 + (n : Int) % 10] rfl (by
    intro i hi
    obtain rfl | rfl : i = 0 ∨ i = 1 := by omega
    · exact hb.cell 0 rfl
    · exact hb.cell 1 rfl) 9 Tryd.underlying9
  rw [h]
  have e : strOfNums [48 + (n : Int) / 10, 48 + (n : Int) % 10] = twoB n := by
    unfold strOfNums twoB
    rw [List.map_cons, List.map_cons, List.map_nil, show (48 + (n : Int) / 10).toNat = 48 + n / 10 by omega, show (48 + (n : Int) % 10).toNat = 48 + n % 10 by omega]
  rw [e]
theorem convTn (n : Nat) (wx : World) : (convert 51 9 (.slice (some ⟨wx.heap.size, 0, none⟩) 2 2)).run Tryd.prog (wx.alloc (.cells #[.int .u8 (48 + (n : Int) / 10), .int .u8 (48 + (n : Int) % 10)] 5)) = .ok (.string (twoB n)) (wx.alloc (.cells #[.int .u8 (48 + (n : Int) / 10), .int .u8 (48 + (n : Int) % 10)] 5)) :=
  convT n _ _ (Blk.new wx 5 _)

set_option maxHeartbeats 1000000 in
theorem two_spec (n : Nat) (h : n < 100) (w : World) : Calls Tryd.prog 25 #[.int .i64 n] w fun e w' => e = .returned (.string (twoB n)) ∧ Fr (fun _ => False) w w' := by
  have h0 : (0 : Int) ≤ n := by omega
  have h1 : (n : Int) < 100 := by omega
  have e4 : IntKind.u8.wrap (48 + (n : Int) / 10) = 48 + (n : Int) / 10 := by simp only [IntKind.wrap_u8]; omega
  have e5 : IntKind.u8.wrap (48 + (n : Int) % 10) = 48 + (n : Int) % 10 := by simp only [IntKind.wrap_u8]; omega
  have hcv := fun wx => convTn n wx
  go_enter Tryd.func25, Tryd.ntmps25
  go_wp2
  go_ret
  exact ⟨rfl, (Fr.refl _ _).alloc _⟩
theorem two_at (x : Int) (n : Nat) (hx : x = n) (h : n < 100) (w : World) : Calls Tryd.prog 25 #[.int .i64 x] w fun e w' => e = .returned (.string (twoB n)) ∧ Fr (fun _ => False) w w' := by
  subst hx; exact two_spec n h w

set_option maxHeartbeats 1000000 in
theorem rtwo_spec (n : Nat) (h : n < 100) (w : World) : Calls Tryd.prog 26 #[.int .i64 n] w fun e w' => e = .returned (.string (twoB n)) ∧ Fr (fun _ => False) w w' := by
  have h0 : (0 : Int) ≤ n := by omega
  have h1 : (n : Int) < 100 := by omega
  have HA := Lib.hid (fun wx => digits_at ((n : Int) / 10) (n / 10) (by omega) (by omega) wx)
  have HB := Lib.hid (fun wx => digits_at ((n : Int) % 10) (n % 10) (by omega) (by omega) wx)
  have z1 := digB_size (n / 10) (by omega)
  have z2 := digB_size (n % 10) (by omega)
  have HE := Lib.hid (show digB (n / 10) ++ digB (n % 10) = twoB n by rw [digB_one (by omega), digB_one (by omega)]; rfl)
  go_enter Tryd.func26, Tryd.ntmps26
  go_wp2_with (first
    | (go_at_call 21; ((with_reducible refine (HA.out _).mono ?_); rintro e w1 ⟨rfl, hf1⟩))
    | (go_at_call 21; ((with_reducible refine (HB.out _).mono ?_); rintro e w2 ⟨rfl, hf2⟩)))
  have he := HE.out
  go_ret
  exact ⟨by rw [← he]; rfl, hf1.trans hf2 (fun _ _ h => h)⟩
theorem rtwo_at (x : Int) (n : Nat) (hx : x = n) (h : n < 100) (w : World) : Calls Tryd.prog 26 #[.int .i64 x] w fun e w' => e = .returned (.string (twoB n)) ∧ Fr (fun _ => False) w w' := by
  subst hx; exact rtwo_spec n h w

set_option maxHeartbeats 2000000 in
theorem span_nat (n : Int) (m : Nat) (hm : max n 0 = (m : Int)) (hh : m ≤ 9223372036854775807) (w : World) (ht : TB w) :
    Calls Tryd.prog 13 #[.int .i64 n] w fun e w' => e = .returned (.string (spanB m)) ∧ Fr (fun _ => False) w w' := by
  have h0 : (0 : Int) ≤ m := by omega
  have h1 : (m : Int) ≤ 9223372036854775807 := by omega
  have HA := Lib.hid (fun wx (hx : TB wx) => itoa_at ((m : Int) / 3600) (m / 3600) (by omega) (by omega) wx hx)
  have HB := Lib.hid (fun wx => two_at ((m : Int) / 60 % 60) (m / 60 % 60) (by omega) (by omega) wx)
  have HC := Lib.hid (fun wx => two_at ((m : Int) % 60) (m % 60) (by omega) (by omega) wx)
  have z1 := digB_size (m / 3600) (by omega)
  have z2 := twoB_size (m / 60 % 60)
  have z3 := twoB_size (m % 60)
  have HT := Lib.hid ht
  clear ht
  go_enter Tryd.func13, Tryd.ntmps13
  go_wp2_with (first
    | (go_at_call 20; ((with_reducible refine (HA.out _ HT.out).mono ?_); rintro e w1 ⟨rfl, hf1⟩))
    | (go_at_call 25; ((with_reducible refine (HB.out _).mono ?_); rintro e w2 ⟨rfl, hf2⟩))
    | (go_at_call 25; ((with_reducible refine (HC.out _).mono ?_); rintro e w3 ⟨rfl, hf3⟩)))
  go_ret
  exact ⟨rfl, (hf1.trans hf2 (fun _ _ h => h)).trans hf3 (fun _ _ h => h)⟩
set_option maxHeartbeats 2000000 in
theorem rspan_nat (n : Int) (m : Nat) (hm : max n 0 = (m : Int)) (hh : m ≤ 9223372036854775807) (w : World) :
    Calls Tryd.prog 14 #[.int .i64 n] w fun e w' => e = .returned (.string (spanB m)) ∧ Fr (fun _ => False) w w' := by
  have h0 : (0 : Int) ≤ m := by omega
  have h1 : (m : Int) ≤ 9223372036854775807 := by omega
  have HA := Lib.hid (fun wx => digits_at ((m : Int) / 3600) (m / 3600) (by omega) (by omega) wx)
  have HB := Lib.hid (fun wx => rtwo_at ((m : Int) / 60 % 60) (m / 60 % 60) (by omega) (by omega) wx)
  have HC := Lib.hid (fun wx => rtwo_at ((m : Int) % 60) (m % 60) (by omega) (by omega) wx)
  have z1 := digB_size (m / 3600) (by omega)
  have z2 := twoB_size (m / 60 % 60)
  have z3 := twoB_size (m % 60)
  go_enter Tryd.func14, Tryd.ntmps14
  go_wp2_with (first
    | (go_at_call 21; ((with_reducible refine (HA.out _).mono ?_); rintro e w1 ⟨rfl, hf1⟩))
    | (go_at_call 26; ((with_reducible refine (HB.out _).mono ?_); rintro e w2 ⟨rfl, hf2⟩))
    | (go_at_call 26; ((with_reducible refine (HC.out _).mono ?_); rintro e w3 ⟨rfl, hf3⟩)))
  go_ret
  exact ⟨rfl, (hf1.trans hf2 (fun _ _ h => h)).trans hf3 (fun _ _ h => h)⟩

/-- Span: the program's and the reference's. -/
theorem span_spec (n : Int) (hn : n ≤ 9223372036854775807) (w : World) (ht : TB w) : Calls Tryd.prog 13 #[.int .i64 n] w fun e w' => e = .returned (.string (spanB n.toNat)) ∧ Fr (fun _ => False) w w' :=
  span_nat n _ (by omega) (by omega) w ht
theorem rspan_spec (n : Int) (hn : n ≤ 9223372036854775807) (w : World) : Calls Tryd.prog 14 #[.int .i64 n] w fun e w' => e = .returned (.string (spanB n.toNat)) ∧ Fr (fun _ => False) w w' :=
  rspan_nat n _ (by omega) (by omega) w
end Go.Proofs.YthnhieikeigjcaaDoor
