/- The reference's Put: held, groups, behind. -/
import Derived.Test.YtlfaeabbfejjcaaDoorPut
namespace Go.Proofs.YtlfaeabbfejjcaaDoor
open Go.RowKit

theorem held_spec (n : Nat) (hn : n ≤ 4611686018427387903) (w : World) : Calls Tryd.prog 56 #[.int .i64 n, .int .i64 0, .int .i64 4611686018427387903] w fun e w' => e = .returned (.int .i64 n) ∧ w = w' := by
  have h0 : ¬ (n : Int) < 0 := by omega
  have h1 : ¬ (n : Int) > 4611686018427387903 := by omega
  go_enter Tryd.func56, Tryd.ntmps56
  go_wp2
  go_ret
  exact ⟨rfl, rfl⟩

set_option maxHeartbeats 8000000 in
theorem groups_spec (n : Nat) (hn : n ≤ 4611686018427387903) (w : World) :
    Calls Tryd.prog 55 #[.int .i64 n] w fun e w' => ∃ a cap, e = .returned (.slice a (encL n).length cap) ∧ Byts w' a (encL n) ∧ (a = none → cap = 0) ∧ Fr (fun _ => False) w w' := by
  have hs9 := encL_nine (n := n) hn
  go_enter Tryd.func55, Tryd.ntmps55
  go_wp2
  go_loopw [0, 3] (fun x0 x3 wr => ∃ (m : Nat) (pre : List UInt8), x0 = .int .i64 m ∧ Hid (encL n = pre ++ encL m) ∧ m ≤ 4611686018427387903 ∧ pre.length ≤ 9 ∧ Hid (wr.ownsRow w.heap.size 5 1 x3 pre.length (bcl pre)) ∧ Hid (Below w.heap.size w wr)) (fun x _ _ => (intOf x).toNat)
  case atStart => exact ⟨n, [], rfl, Lib.hid rfl, hn, by simp, Lib.hid (World.ownsRow_nil _ _ _ _), Lib.hid (Below.refl _ _)⟩
  case round =>
    obtain ⟨m, pre, rfl, HE, hm, hp, HO, HW⟩ := hrel
    have m0 : (0 : Int) ≤ m := by omega
    have m1 : (m : Int) ≤ 4611686018427387903 := by omega
    have hlen : pre.length + (encL m).length ≤ 9 := by have := congrArg List.length HE.out; rw [List.length_append] at this; omega
    have hpos := encL_pos m
    by_cases h : m < 128
    · have hlt : ¬ (m : Int) > 127 := by omega
      have e2 : IntKind.u8.wrap (m : Int) = (m : Int) := IntWalk.u8_in _ ⟨by omega, by omega⟩
      have HE2 := Lib.hid (show encL n = pre ++ [UInt8.ofNat m] by rw [HE.out, encL_small h])
      have HL := Lib.hid hlen
      have HS := Lib.hid hs9
      clear hlen hs9
      go_wp2_with (at_builtin; refine wpList_app_B rfl (.tmp 15) (.tmp 18) rfl w.heap.size _ pre.length (bcl pre) rfl (HO.out.alloc _) (some ⟨wr.heap.size, 0, none⟩) 1 [UInt8.ofNat m] rfl (byts_new wr _ _ rfl _ (by rw [UInt8.toNat_ofNat']; omega)) (fun h => by cases h) (by simp; omega) (Nat.le_trans HW.out.size (by simp)) ?_; intro v4 w4 hown4 hg4; have HW4 := Lib.hid ((HW.out.alloc HW.out.size _).grown hg4 (Nat.le_trans HW.out.size (by simp)) (fun j hj => (HO.out.lt j hj).1)); have HO4 := Lib.hid hown4; clear hown4 hg4)
      have hx := HO4.out
      rw [← bcl_app, ← HE2.out] at hx
      have hn2 : pre.length + [UInt8.ofNat m].length = (encL n).length := by rw [HE2.out, List.length_append]
      rw [hn2] at hx
      obtain ⟨ad, cap', hv, hby, hcc⟩ := owns_byts hx (by have := HS.out; omega)
      go_ret
      exact ⟨ad, cap', by rw [← hv]; rfl, hby, hcc, Fr.ofBelow HW4.out _⟩
    · have hgt : (m : Int) > 127 := by omega
      have e1 : (m : Int).tmod 128 = (m : Int) % 128 := by rw [Int.tmod_eq_emod_of_nonneg m0]
      have e3 : (m : Int).tdiv 128 = (m : Int) / 128 := by rw [Int.tdiv_eq_ediv_of_nonneg m0]
      have e2 : IntKind.u8.wrap (128 + (m : Int) % 128) = 128 + (m : Int) % 128 := IntWalk.u8_in _ ⟨by omega, by omega⟩
      have HE2 := Lib.hid (show encL n = (pre ++ [UInt8.ofNat (128 + m % 128)]) ++ encL (m / 128) by rw [HE.out, encL_big h, List.append_assoc]; rfl)
      go_wp2_with (at_builtin; refine wpList_app_B rfl (.tmp 6) (.tmp 11) rfl w.heap.size _ pre.length (bcl pre) rfl (HO.out.alloc _) (some ⟨wr.heap.size, 0, none⟩) 1 [UInt8.ofNat (128 + m % 128)] rfl (byts_new wr _ _ rfl _ (by rw [UInt8.toNat_ofNat']; omega)) (fun h => by cases h) (by simp; omega) (Nat.le_trans HW.out.size (by simp)) ?_; intro v4 w4 hown4 hg4; have HW4 := Lib.hid ((HW.out.alloc HW.out.size _).grown hg4 (Nat.le_trans HW.out.size (by simp)) (fun j hj => (HO.out.lt j hj).1)); have HO4 := Lib.hid hown4; clear hown4 hg4)
      go_roundw
      case rel => exact ⟨m / 128, _, by go_num, HE2, by omega, by simp; omega, Lib.hid (by have := HO4.out; rw [← bcl_app] at this; rw [List.length_append]; exact this), HW4⟩
      case measure => simp [intOf]; omega

set_option maxHeartbeats 8000000 in
theorem behind_spec (a b : Option Addr) (l m : List UInt8) (ca cb : Nat) (w : World) (hb : Byts w a l) (hca : a = none → ca = 0) (hm : Byts w b m) (hcb : b = none → cb = 0) (hl : l.length ≤ 1000) (hm2 : m.length ≤ 1000) :
    Calls Tryd.prog 54 #[.slice a l.length ca, .slice b m.length cb] w fun e w' => ∃ a' cap', e = .returned (.slice a' (l ++ m).length cap') ∧ Byts w' a' (l ++ m) ∧ (a' = none → cap' = 0) ∧ Fr (fun _ => False) w w' := by
  have HA := Lib.hid hb
  have HB := Lib.hid hm
  clear hb hm
  go_enter Tryd.func54, Tryd.ntmps54
  go_wp2_with (first
    | (at_builtin; refine wpList_app_B rfl (.tmp 6) (.tmp 7) rfl w.heap.size _ 0 [] rfl (World.ownsRow_nil _ _ _ _) a ca l rfl HA.out hca (by omega) (Nat.le_refl _) ?_; intro v3 w3 hown3 hg3; have HW3 := Lib.hid ((Below.refl w.heap.size w).grown hg3 (Nat.le_refl _) (fun k hk => by cases hk)); have HO3 := Lib.hid hown3; clear hown3 hg3)
    | (at_builtin; refine wpList_app_B rfl (.tmp 9) (.tmp 10) rfl w.heap.size _ _ _ rfl HO3.out b cb m rfl (HB.out.fr1 (Fr.ofBelow HW3.out _)) hcb (by omega) HW3.out.size ?_; intro v4 w4 hown4 hg4; have HW4 := Lib.hid (HW3.out.grown hg4 HW3.out.size (fun j hj => (HO3.out.lt j hj).1)); have HO4 := Lib.hid hown4; clear hown4 hg4))
  have hx := HO4.out
  rw [List.nil_append, ← bcl_app, Nat.zero_add, ← List.length_append] at hx
  obtain ⟨ad, cap', hv, hby, hcc⟩ := owns_byts hx (by rw [List.length_append]; omega)
  go_ret
  exact ⟨ad, cap', by rw [← hv]; rfl, hby, hcc, Fr.ofBelow HW4.out _⟩

set_option maxHeartbeats 8000000 in
theorem putR_spec (a : Option Addr) (l : List UInt8) (cap n : Nat) (w : World) (hb : Byts w a l) (hcap : a = none → cap = 0) (hl : l.length ≤ 1000) (hn : n ≤ 4611686018427387903) :
    Calls Tryd.prog 26 #[.slice a l.length cap, .int .i64 n] w fun e w' => ∃ a' cap', e = .returned (.slice a' (l ++ encL n).length cap') ∧ Byts w' a' (l ++ encL n) ∧ (a' = none → cap' = 0) ∧ Fr (fun _ => False) w w' := by
  have HB := Lib.hid hb
  have hs9 := encL_nine (n := n) hn
  clear hb
  go_enter Tryd.func26, Tryd.ntmps26
  go_wp2_with (first
    | (go_at_call 56; refine (held_spec n hn _).mono ?_; rintro e w1 ⟨rfl, rfl⟩)
    | (go_at_call 55; refine (groups_spec n hn _).mono ?_; rintro e w2 ⟨b, cb, rfl, hby, hcb, hf⟩; have HY := Lib.hid hby; have HF := Lib.hid hf; clear hby hf)
    | (go_at_call 54; refine (behind_spec a b l (encL n) cap cb _ (HB.out.fr1 HF.out) hcap HY.out hcb hl (by omega)).mono ?_; rintro e w3 ⟨a', c', rfl, hby3, hc3, hf3⟩))
  go_ret
  exact ⟨a', c', by rw [List.length_append]; rfl, hby3, hc3, HF.out.trans hf3 (fun _ _ h => h)⟩
end Go.Proofs.YtlfaeabbfejjcaaDoor
