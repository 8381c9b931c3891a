/- The walk of ReportSpans. -/
import Derived.Test.YthnhieikeigjcaaDoorSizes
namespace Go.Proofs.YthnhieikeigjcaaDoor
open Go.RowKit

/-- Two digits read back. -/
theorem number_two (m : Nat) (h : m < 60) (s : ByteArray) (hs : s.data.toList = (twoB m).data.toList) (w : World) : Calls Tryd.prog 19 #[.string s] w fun e w' => e = .returned (.tuple #[.int .i64 m, .string ⟨#[]⟩]) ∧ w = w' := by
  have e : numV (twoB m).data.toList = m := by
    show 10 * (10 * 0 + ((UInt8.ofNat (48 + m / 10)).toNat - 48)) + ((UInt8.ofNat (48 + m % 10)).toNat - 48) = m
    rw [dig_nat _ (by omega), dig_nat _ (by omega)]; omega
  have hd : ∀ c ∈ (twoB m).data.toList, isDig c := by
    intro c hc
    have hc2 : c = UInt8.ofNat (48 + m / 10) ∨ c = UInt8.ofNat (48 + m % 10) := by
      have : c ∈ [UInt8.ofNat (48 + m / 10), UInt8.ofNat (48 + m % 10)] := hc
      simpa using this
    unfold isDig
    rcases hc2 with rfl | rfl
    · rw [dig_nat _ (by omega)]; omega
    · rw [dig_nat _ (by omega)]; omega
  have h := number_spec s (twoB m).data.toList [] w (by rw [List.append_nil]; exact hs) hd (fun c t e => by cases e) (by rw [e]; omega)
  rwa [e] at h

/-- What stands behind a span's hours: six bytes. -/
theorem six (m c : Nat) : ∃ R : ByteArray, R = ⟨([58] ++ (twoB m).data.toList ++ [58] ++ (twoB c).data.toList).toArray⟩ ∧ R.size = 6 ∧ (∀ h0 h3, (R[0]'h0).toNat = 58 ∧ (R[3]'h3).toNat = 58) ∧
    (R.extract 1 3).data.toList = (twoB m).data.toList ∧ (R.extract 4 6).data.toList = (twoB c).data.toList :=
  ⟨_, rfl, rfl, fun _ _ => ⟨rfl, rfl⟩, by rw [Lib.extract_data]; rfl, by rw [Lib.extract_data]; rfl⟩

set_option maxRecDepth 10000 in
set_option maxHeartbeats 4000000 in
theorem spans_walk (n : Int) (w : World) (hn : -9223372036854775808 ≤ n) (hn2 : n ≤ 9223372036854775807) (ht : TB w) :
    Calls Tryd.prog 7 #[.int .i64 n] w fun e w' => e = .returned (.bool true) ∧ Below w.heap.size w w' := by
  obtain ⟨T, hT⟩ : ∃ T : Nat, T = n.toNat := ⟨_, rfl⟩
  have HT := Lib.hid ht
  have HF := Lib.hid (Fr.refl (fun _ => False) w)
  have h1 := fun wx (hx : TB wx) => span_spec n hn2 wx hx
  rw [← hT] at h1
  obtain ⟨R, hR, z, hg, x1, x2⟩ := six (T / 60 % 60) (T % 60)
  have hn1 := number_dig (T / 3600) (spanB T) ([58] ++ (twoB (T / 60 % 60)).data.toList ++ [58] ++ (twoB (T % 60)).data.toList) (by omega)
    (by unfold spanB; simp only [pre_data2, digB_data, List.append_assoc]) (fun c t e => by cases e; unfold isDig; decide)
  rw [← hR] at hn1
  have N1 := Lib.hid hn1
  have N2 := Lib.hid (number_two (T / 60 % 60) (by omega) _ x1)
  have N3 := Lib.hid (number_two (T % 60) (by omega) _ x2)
  have z0 : 0 < R.size := by omega
  have z3 : 3 < R.size := by omega
  obtain ⟨g0, g3⟩ := hg z0 z3
  obtain ⟨S, hS⟩ : ∃ S, S = spanB T := ⟨_, rfl⟩
  rw [← hS] at N1 h1
  have H1 := Lib.hid h1
  obtain ⟨H, hH⟩ : ∃ H, H = T / 3600 := ⟨_, rfl⟩
  obtain ⟨M, hM⟩ : ∃ M, M = T / 60 % 60 := ⟨_, rfl⟩
  obtain ⟨C, hC⟩ : ∃ C, C = T % 60 := ⟨_, rfl⟩
  rw [← hH] at N1
  rw [← hM] at N2
  rw [← hC] at N3
  obtain ⟨t, ht'⟩ : ∃ t : Int, t = max n 0 := ⟨_, rfl⟩
  have hmax := ht'.symm
  have c1 : (M : Int) < 60 := by omega
  have c2 : (C : Int) < 60 := by omega
  have c3 : (H : Int) ≤ t / 3600 := by omega
  have c4 : (3600 * (H : Int) + 60 * (M : Int) + (C : Int) == t) = true := by simp; omega
  have c5 : (0 : Int) ≤ t := by omega
  have c6 : t ≤ 9223372036854775807 := by omega
  have c7 : 3600 * (H : Int) + 60 * (M : Int) + (C : Int) ≤ t := by omega
  clear ht hT hR hg x1 x2 hn1 h1 hS hH hM hC ht' hn hn2
  go_enter Tryd.func7, Tryd.ntmps7
  go_wp2_with (first
    | (go_at_call 13; ((with_reducible refine (H1.out _ (HT.out.fr HF.out)).mono ?_); rintro e w1 ⟨rfl, hf⟩; have HF := Lib.hid (HF.out.trans hf (fun _ _ h => h)); clear hf H1))
    | (go_at_call 19; ((with_reducible refine (N1.out _).mono ?_); rintro e w4 ⟨rfl, rfl⟩; clear N1))
    | (go_at_call 19; ((with_reducible refine (N2.out _).mono ?_); rintro e w5 ⟨rfl, rfl⟩; clear N2))
    | (go_at_call 19; ((with_reducible refine (N3.out _).mono ?_); rintro e w5 ⟨rfl, rfl⟩))
    | (go_at_call 15; ((refine (awake_spec _ (HT.out.fr HF.out)).mono ?_); rintro e w7 ⟨rfl, hf⟩; have HF := Lib.hid (HF.out.trans hf (fun _ _ h => h)); clear hf)))
  go_ret
  exact ⟨rfl, HF.out.below (Nat.le_refl _) (fun _ _ h => h)⟩
end Go.Proofs.YthnhieikeigjcaaDoor
