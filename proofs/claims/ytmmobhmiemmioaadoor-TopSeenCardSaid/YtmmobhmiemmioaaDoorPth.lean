/- The walks of part, Right, Parent, Base, Depth, Under. -/
import Derived.Test.YtmmobhmiemmioaaDoorSpl
import Derived.WalkSpells
namespace Go.Proofs.YtmmobhmiemmioaaDoor
open Go.RowKit

/-- May a text be a part? -/
def partB (s : ByteArray) : Bool := !(s.toList == []) && decide (s.size ≤ 48) && !(s.toList == [46]) && !(s.toList == [46, 46]) && decide (Lib.indexByte s.data.toList 0 < 0)
set_option maxHeartbeats 1000000 in
theorem part_spec (s : ByteArray) (w : World) (hs : s.size ≤ 900) : Calls Tryd.prog 16 #[.string s] w fun e w' => e = .returned (.bool (partB s)) ∧ w = w' := by
  have HI := Lib.hid (fun wx => Tryd.strings_IndexByte s 0 wx)
  have hs2 : (s.size : Int) ≤ 900 := by omega
  rcases h1 : (s.toList == []) with _ | _
  · by_cases h2 : s.size ≤ 48
    · have e2 : (s.size : Int) ≤ 48 := by omega
      rcases h3 : (s.toList == [46]) with _ | _
      · rcases h4 : (s.toList == [46, 46]) with _ | _
        · obtain ⟨j, hj⟩ : ∃ j, j = Lib.indexByte s.data.toList 0 := ⟨_, rfl⟩
          have HE := Lib.hid (show partB s = decide (j < 0) by unfold partB; rw [h1, h3, h4, decide_eq_true h2, hj]; rfl)
          have hI2 := HI.out
          rw [show (0 : Int).toNat.toUInt8 = 0 from rfl, ← hj] at hI2
          have HI2 := Lib.hid hI2
          clear HI hj h2 hI2
          go_enter Tryd.func16, Tryd.ntmps16
          go_wp2_with (go_at_call 26; (refine (HI2.out _).mono ?_); rintro e w2 ⟨rfl, rfl⟩)
          have he := HE.out
          go_ret
          exact ⟨by rw [he]; rfl, rfl⟩
        · have HE := Lib.hid (show partB s = false by unfold partB; rw [h1, h3, h4, decide_eq_true h2]; rfl)
          clear HI h2
          go_enter Tryd.func16, Tryd.ntmps16
          go_wp2_with (fail)
          have he := HE.out
          go_ret
          exact ⟨by rw [he]; rfl, rfl⟩
      · have HE := Lib.hid (show partB s = false by unfold partB; rw [h1, h3, decide_eq_true h2]; rfl)
        clear HI h2
        go_enter Tryd.func16, Tryd.ntmps16
        go_wp2_with (fail)
        have he := HE.out
        go_ret
        exact ⟨by rw [he]; rfl, rfl⟩
    · have e2 : (48 : Int) < (s.size : Int) := by omega
      have HE := Lib.hid (show partB s = false by unfold partB; rw [h1, decide_eq_false h2]; rfl)
      clear HI h2
      go_enter Tryd.func16, Tryd.ntmps16
      go_wp2_with (fail)
      have he := HE.out
      go_ret
      exact ⟨by rw [he]; rfl, rfl⟩
  · have HE := Lib.hid (show partB s = false by unfold partB; rw [h1]; rfl)
    clear HI
    go_enter Tryd.func16, Tryd.ntmps16
    go_wp2_with (fail)
    have he := HE.out
    go_ret
    exact ⟨by rw [he]; rfl, rfl⟩

/-- Is a text a path? -/
def rightB (s : ByteArray) : Bool := (splB s).all partB && decide ((splB s).length ≤ 12) && decide (s.size ≤ 200)
theorem parts_sizes (l : List UInt8) : ∀ x ∈ partsS l, x.length ≤ l.length := by
  induction l with
  | nil => intro x hx; simp [partsS] at hx; subst hx; exact Nat.le_refl _
  | cons c t ih =>
    intro x hx
    by_cases h : c = 47
    · subst h
      rw [parts_slash] at hx
      rcases List.mem_cons.1 hx with rfl | hx
      · exact Nat.zero_le _
      · have := ih x hx; rw [List.length_cons]; omega
    · rw [parts_byte t h] at hx
      obtain ⟨y, r, e⟩ := parts_ne t
      rw [e] at hx ih
      rcases List.mem_cons.1 hx with rfl | hx
      · have := ih y (by simp); simp; omega
      · have := ih x (by simp [hx]); rw [List.length_cons]; omega
theorem parts_len (l : List UInt8) : (partsS l).length ≤ l.length + 1 := by
  induction l with
  | nil => exact Nat.le_refl _
  | cons c t ih =>
    by_cases h : c = 47
    · subst h; rw [parts_slash]; simp; omega
    · rw [parts_byte t h]
      obtain ⟨y, r, e⟩ := parts_ne t
      rw [e] at ih ⊢
      simp [glue] at ih ⊢; omega
theorem splB_len (s : ByteArray) : (splB s).length ≤ s.size + 1 := by
  unfold splB splS
  rw [List.length_map, size_len]
  split
  · exact Nat.zero_le _
  · exact parts_len _
theorem splB_sizes (s x : ByteArray) (h : x ∈ splB s) : x.size ≤ s.size := by
  unfold splB at h
  obtain ⟨y, hy, rfl⟩ := List.mem_map.1 h
  unfold splS at hy
  split at hy
  · cases hy
  · have := parts_sizes _ y hy
    rw [size_len]
    exact this

set_option maxHeartbeats 2000000 in
theorem right_spec (s : ByteArray) (w : World) (hs : s.size ≤ 800) : Calls Tryd.prog 5 #[.string s] w fun e w' => e = .returned (.bool (rightB s)) ∧ Fr (fun _ => False) w w' := by
  have HSP := Lib.hid (split_spec s w (by omega))
  have hs2 : (s.size : Int) ≤ 800 := by omega
  have hlen := splB_len s
  obtain ⟨n, hn⟩ : ∃ n, n = (splB s).length := ⟨_, rfl⟩
  rw [← hn] at HSP hlen
  have HN := Lib.hid hn
  have HS := Lib.hid hs
  have n2 : (n : Int) ≤ 1000 := by omega
  clear hn
  go_enter Tryd.func5, Tryd.ntmps5
  go_wp2_with (go_at_call 15; (refine HSP.out.mono ?_); rintro e w1 ⟨ad, cap, rfl, hst, hf⟩; have HST := Lib.hid hst; have HF := Lib.hid hf; clear hst hf HSP)
  go_loopg [10] n (fun gk x10 wr => ∃ i : Nat, i ≤ n ∧ Hid (gk = n - i) ∧ x10 = .int .i64 i ∧ wr = w1 ∧ Hid (∀ x ∈ (splB s).take i, partB x = true))
  case atStart => exact ⟨0, Nat.zero_le _, Lib.hid rfl, rfl, rfl, Lib.hid (fun x hx => by simp at hx)⟩
  case round =>
    obtain ⟨i, hi, HG, rfl, rfl, HA⟩ := hrel
    have i2 : (i : Int) ≤ 1000 := by omega
    by_cases hin : i < n
    · have i3 : (i : Int) < (n : Int) := by omega
      obtain ⟨x, hx⟩ : ∃ x, (splB s)[i]? = some x := ⟨_, List.getElem?_eq_getElem (by rw [← HN.out]; exact hin)⟩
      obtain ⟨b, rfl, hb, hc⟩ := HST.out i x hx
      have hxs : x.size ≤ 900 := by have := splB_sizes s x (List.mem_iff_getElem?.2 ⟨i, hx⟩); have := HS.out; omega
      have HP := Lib.hid (fun wx => part_spec x wx hxs)
      have HIN := Lib.hid hin
      have HX := Lib.hid hx
      clear hxs hx
      rcases hp : partB x with _ | _
      · have HE := Lib.hid (show rightB s = false by
          unfold rightB
          have : (splB s).all partB = false := by
            rw [List.all_eq_false]
            exact ⟨x, List.mem_iff_getElem?.2 ⟨i, HX.out⟩, by rw [hp]; decide⟩
          rw [this]; rfl)
        rw [hp] at HP
        clear hp
        go_wp2_with (go_at_call 16; (refine (HP.out _).mono ?_); rintro e w2 ⟨rfl, rfl⟩)
        have he := HE.out
        go_ret
        exact ⟨by rw [he]; rfl, HF.out⟩
      · have HA2 := Lib.hid (show ∀ y ∈ (splB s).take (i + 1), partB y = true by
          intro y hy
          rw [List.take_add_one, HX.out] at hy
          rcases List.mem_append.1 hy with h | h
          · exact HA.out y h
          · have : y = x := by simpa using h
            rw [this]; exact hp)
        rw [hp] at HP
        clear hp
        go_wp2_with (go_at_call 16; (refine (HP.out _).mono ?_); rintro e w2 ⟨rfl, rfl⟩)
        go_roundg (n - (i + 1))
        case measure => have := HG.out; have := HIN.out; omega
        case rel => exact ⟨i + 1, HIN.out, Lib.hid rfl, by go_num, rfl, HA2⟩
    · obtain rfl : i = n := by omega
      have hall : (splB s).all partB = true := List.all_eq_true.2 (fun x hx => HA.out x (by rw [HN.out, List.take_length]; exact hx))
      by_cases h12 : i ≤ 12
      · have e12 : (i : Int) ≤ 12 := by omega
        have HE := Lib.hid (show rightB s = decide (s.size ≤ 200) by unfold rightB; rw [hall, ← HN.out, decide_eq_true h12]; rfl)
        by_cases h200 : s.size ≤ 200
        · have e200 : (s.size : Int) ≤ 200 := by omega
          rw [decide_eq_true h200] at HE
          clear hall h12 h200 hin
          go_wp2_with (fail)
          have he := HE.out
          go_ret
          exact ⟨by rw [he]; rfl, HF.out⟩
        · have e200 : (200 : Int) < (s.size : Int) := by omega
          have e200b : decide ((s.size : Int) ≤ 200) = false := by simp; omega
          rw [decide_eq_false h200] at HE
          clear hall h12 h200 hin
          go_wp2_with (fail)
          have he := HE.out
          go_ret
          exact ⟨by rw [he]; rfl, HF.out⟩
      · have e12 : (12 : Int) < (i : Int) := by omega
        have HE := Lib.hid (show rightB s = false by unfold rightB; rw [hall, ← HN.out, decide_eq_false h12]; rfl)
        clear hall h12 hin
        go_wp2_with (fail)
        have he := HE.out
        go_ret
        exact ⟨by rw [he]; rfl, HF.out⟩

/-- What stands ahead of the last part; the last part. -/
def lix (s : ByteArray) : Int := Lib.lastIndexByte s 47
def parB (s : ByteArray) : ByteArray := s.extract 0 (max (lix s) 0).toNat
def basB (s : ByteArray) : ByteArray := s.extract (lix s + 1).toNat s.size
theorem lix_bd (s : ByteArray) : -1 ≤ lix s ∧ lix s < s.size := by
  rcases Lib.lastIdx_spec s 47 s.size with ⟨h, _⟩ | ⟨i, hi, h, _⟩
  · have : lix s = -1 := h
    omega
  · have : lix s = i := h
    omega
set_option maxHeartbeats 1000000 in
theorem parent_spec (s : ByteArray) (w : World) (hs : s.size ≤ 900) : Calls Tryd.prog 7 #[.string s] w fun e w' => e = .returned (.string (parB s)) ∧ w = w' := by
  have HL := Lib.hid (fun wx => Tryd.strings_LastIndexByte s 47 (by omega) wx)
  have hb := lix_bd s
  have hs2 : (s.size : Int) ≤ 900 := by omega
  obtain ⟨k, hk⟩ : ∃ k : Nat, k = (max (lix s) 0).toNat := ⟨_, rfl⟩
  have hmax : max (lix s) 0 = (k : Int) := by omega
  have hk2 : (k : Int) ≤ (s.size : Int) := by omega
  have HE := Lib.hid (show parB s = s.extract 0 k by unfold parB; rw [hk])
  have HL2 : Hid (∀ wx, Calls Tryd.prog 17 #[.string s, .int .u8 47] wx fun e w' => e = .returned (.int .i64 (lix s)) ∧ w' = wx) := Lib.hid HL.out
  obtain ⟨j, hj⟩ : ∃ j, j = lix s := ⟨_, rfl⟩
  rw [← hj] at HL2 hmax
  clear HL hk hj hb
  go_enter Tryd.func7, Tryd.ntmps7
  go_wp2_with (go_at_call 17; (refine (HL2.out _).mono ?_); rintro e w2 ⟨rfl, rfl⟩)
  have he := HE.out
  go_ret
  exact ⟨by rw [he]; rfl, rfl⟩
set_option maxHeartbeats 1000000 in
theorem base_spec (s : ByteArray) (w : World) (hs : s.size ≤ 900) : Calls Tryd.prog 37 #[.string s] w fun e w' => e = .returned (.string (basB s)) ∧ w = w' := by
  have HL : Hid (∀ wx, Calls Tryd.prog 17 #[.string s, .int .u8 47] wx fun e w' => e = .returned (.int .i64 (lix s)) ∧ w' = wx) := Lib.hid (fun wx => Tryd.strings_LastIndexByte s 47 (by omega) wx)
  have hb := lix_bd s
  have hs2 : (s.size : Int) ≤ 900 := by omega
  obtain ⟨k, hk⟩ : ∃ k : Nat, k = (lix s + 1).toNat := ⟨_, rfl⟩
  have HE := Lib.hid (show basB s = s.extract k s.size by unfold basB; rw [hk])
  have hk2 : (k : Int) ≤ (s.size : Int) := by omega
  obtain ⟨j, hj⟩ : ∃ j, j = lix s := ⟨_, rfl⟩
  rw [← hj] at HL hb hk
  obtain rfl : j = (k : Int) - 1 := by omega
  clear hk hj hb
  go_enter Tryd.func37, Tryd.ntmps37
  go_wp2_with (go_at_call 17; (refine (HL.out _).mono ?_); rintro e w2 ⟨rfl, rfl⟩)
  have he := HE.out
  go_ret
  exact ⟨by rw [he]; rfl, rfl⟩
theorem depth_spec (s : ByteArray) (w : World) (hs : s.size ≤ 900) : Calls Tryd.prog 9 #[.string s] w fun e w' => e = .returned (.int .i64 (splB s).length) ∧ Fr (fun _ => False) w w' := by
  have HSP := Lib.hid (split_spec s w hs)
  generalize (splB s).length = n at HSP ⊢
  go_enter Tryd.func9, Tryd.ntmps9
  go_wp2_with (go_at_call 15; (refine HSP.out.mono ?_); rintro e w1 ⟨ad, cap, rfl, hst, hf⟩; have HF := Lib.hid hf; clear hst hf)
  go_ret
  exact ⟨rfl, HF.out⟩
end Go.Proofs.YtmmobhmiemmioaaDoor
