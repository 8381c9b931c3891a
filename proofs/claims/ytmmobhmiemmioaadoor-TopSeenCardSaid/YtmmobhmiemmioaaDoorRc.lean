/- Rules: check of one. -/
import Derived.Test.YtmmobhmiemmioaaDoorRl
import Derived.Test.YtmmobhmiemmioaaDoorMat
namespace Go.Proofs.YtmmobhmiemmioaaDoor
open Go.RowKit

/-- A pattern that may not be. -/
def badP (l : List UInt8) : Bool := (l == []) || (l.headD 0 == 47) || (l.getLastD 0 == 47) || decide (0 ≤ Lib.indexByte l 10)
def chkS (a : Int) (p : ByteArray) : Int := if sgnR a = 0 then 2 else if badP p.data.toList then 5 else gckS p.data.toList
theorem first_of {p : ByteArray} (h : 0 < p.size) : p.data.toList.headD 0 = p[0]'h := by
  have e : p.data.toList[0]? = some (p[0]'h) := by
    rw [List.getElem?_eq_getElem (by rw [← size_len]; exact h)]; simp; rfl
  rw [List.headD_eq_head?_getD, List.head?_eq_getElem?, e]; rfl
theorem last_of {p : ByteArray} {n : Nat} (h : n < p.size) (hn : p.size = n + 1) : p.data.toList.getLastD 0 = p[n]'h := by
  have e : p.data.toList[n]? = some (p[n]'h) := by
    rw [List.getElem?_eq_getElem (by rw [← size_len]; exact h)]; simp; rfl
  rw [List.getLastD_eq_getLast?, List.getLast?_eq_getElem?, ← size_len, hn, Nat.add_sub_cancel, e]; rfl
theorem beq47 (c : UInt8) : ((c.toNat : Int) == 47) = (c == 47) := by
  by_cases h : c = 47
  · subst h; rfl
  · have h2 : c.toNat ≠ 47 := fun e => h (UInt8.toNat_inj.1 (by rw [e]; rfl))
    rw [show (c == 47) = false by simpa using h]
    simp; omega
theorem empty_of {p : ByteArray} (h : p.size = 0) : p = ByteArray.empty := by
  rcases p with ⟨⟨l⟩⟩
  have : l = [] := List.length_eq_zero_iff.1 h
  subst this; rfl
theorem tl_ne {p : ByteArray} (h : 0 < p.size) : (p.toList == []) = false := by
  rw [ByteArray.toList_eq]
  rcases e : p.data.toList with _ | ⟨x, t⟩
  · rw [size_len, e] at h; exact absurd h (by decide)
  · rfl
set_option maxHeartbeats 2000000 in
theorem chk_spec (a : Int) (p : ByteArray) (d c : Bool) (w : World) (hp : p.size ≤ 9223372036854775807) :
    Calls Tryd.prog 14 #[.agg #[.int .i64 a, .string p, .bool d, .bool c]] w fun e w' => e = .returned (.int .i64 (chkS a p)) ∧ Fr (fun _ => False) w w' := by
  have HS := Lib.hid (fun wx => sgn_spec a wx)
  have HFA := Lib.hid (fun o => (Fr.refl (fun _ => False) w).alloc o)
  obtain ⟨z, hz⟩ : ∃ z, z = sgnR a := ⟨_, rfl⟩
  rw [← hz] at HS
  by_cases h0 : z = 0
  · have HE := Lib.hid (show chkS a p = 2 by unfold chkS; rw [← hz, if_pos h0])
    subst h0
    clear hz
    go_enter Tryd.func14, Tryd.ntmps14
    go_wp2_with (go_at_call 23; (refine (HS.out _).mono ?_); rintro e w2 ⟨rfl, rfl⟩)
    have he := HE.out
    go_ret
    exact ⟨by rw [he]; rfl, HFA.out _⟩
  · have hz0 : (z == 0) = false := by simpa using h0
    have HZ := Lib.hid (show chkS a p = if badP p.data.toList then 5 else gckS p.data.toList by unfold chkS; rw [← hz, if_neg h0])
    clear hz h0
    by_cases hn : p.size = 0
    · obtain rfl := empty_of hn
      have HE := Lib.hid (show chkS a ByteArray.empty = 5 from HZ.out)
      clear HZ hn hp
      go_enter Tryd.func14, Tryd.ntmps14
      go_wp2_with (go_at_call 23; (refine (HS.out _).mono ?_); rintro e w2 ⟨rfl, rfl⟩)
      have he := HE.out
      go_ret
      exact ⟨by rw [he]; rfl, HFA.out _⟩
    · obtain ⟨n, hn2⟩ : ∃ n, p.size = n + 1 := ⟨p.size - 1, by omega⟩
      have hp0 : 0 < p.size := by omega
      have hpn : n < p.size := by omega
      have hne : (p.toList == []) = false := tl_ne (by omega)
      have hnl : (p.data.toList == []) = false := by
        rw [beq_eq_false_iff_ne]; intro e; exact hn (by rw [size_len, e]; rfl)
      have b0 := beq47 (p[0]'hp0)
      have bn := beq47 (p[n]'hpn)
      have HB : badP p.data.toList = ((p[0]'hp0 == 47) || (p[n]'hpn == 47) || decide (0 ≤ Lib.indexByte p.data.toList 10)) := by
        unfold badP; rw [first_of hp0, last_of hpn hn2, hnl]; rfl
      have hsz : (p.size : Int) - 1 = (n : Int) := by omega
      have hszz : (p.size : Int) = (n : Int) + 1 := by omega
      have HI := Lib.hid (fun wx => Tryd.strings_Contains_one p 10 wx)
      obtain ⟨x, hx⟩ : ∃ x, x = decide (0 ≤ Lib.indexByte p.data.toList 10) := ⟨_, rfl⟩
      rw [← hx] at HI HB
      have HI2 : Hid (∀ wx, Calls Tryd.prog 24 #[.string p, .string ⟨#[10]⟩] wx fun e w' => e = .returned (.bool x) ∧ w' = wx) := Lib.hid HI.out
      have HG := Lib.hid (fun wx => gcheck_spec p wx hp)
      have HZ2 := HZ.out
      rw [HB] at HZ2
      clear HI HZ HB hx hn hnl
      rcases h1 : (p[0]'hp0 == 47) with _ | _
      · rcases h2 : (p[n]'hpn == 47) with _ | _
        · rw [h1] at b0 HZ2
          rw [h2] at bn HZ2
          clear h1 h2
          rcases x with _ | _
          · have HE := Lib.hid HZ2
            clear HZ2
            go_enter Tryd.func14, Tryd.ntmps14
            go_wp2_with (first | (go_at_call 23; (refine (HS.out _).mono ?_); rintro e w2 ⟨rfl, rfl⟩) | (go_at_call 24; (refine (HI2.out _).mono ?_); rintro e w2 ⟨rfl, rfl⟩) | (go_at_call 25; (refine (HG.out _).mono ?_); rintro e w2 ⟨rfl, hf⟩))
            have he := HE.out
            go_ret
            exact ⟨by rw [he]; rfl, (HFA.out _).trans hf (fun _ _ h => h)⟩
          · have HE := Lib.hid HZ2
            clear HZ2
            go_enter Tryd.func14, Tryd.ntmps14
            go_wp2_with (first | (go_at_call 23; (refine (HS.out _).mono ?_); rintro e w2 ⟨rfl, rfl⟩) | (go_at_call 24; (refine (HI2.out _).mono ?_); rintro e w2 ⟨rfl, rfl⟩))
            have he := HE.out
            go_ret
            exact ⟨by rw [he]; rfl, HFA.out _⟩
        · rw [h1] at b0 HZ2
          rw [h2] at bn HZ2
          clear h1 h2
          have HE := Lib.hid HZ2
          clear HZ2
          go_enter Tryd.func14, Tryd.ntmps14
          go_wp2_with (first | (go_at_call 23; (refine (HS.out _).mono ?_); rintro e w2 ⟨rfl, rfl⟩) | (go_at_call 24; (refine (HI2.out _).mono ?_); rintro e w2 ⟨rfl, rfl⟩))
          have he := HE.out
          go_ret
          exact ⟨by rw [he]; rfl, HFA.out _⟩
      · rw [h1] at b0 HZ2
        clear h1
        have HE := Lib.hid HZ2
        clear HZ2 bn
        go_enter Tryd.func14, Tryd.ntmps14
        go_wp2_with (first | (go_at_call 23; (refine (HS.out _).mono ?_); rintro e w2 ⟨rfl, rfl⟩) | (go_at_call 24; (refine (HI2.out _).mono ?_); rintro e w2 ⟨rfl, rfl⟩))
        have he := HE.out
        go_ret
        exact ⟨by rw [he]; rfl, HFA.out _⟩
end Go.Proofs.YtmmobhmiemmioaaDoor
