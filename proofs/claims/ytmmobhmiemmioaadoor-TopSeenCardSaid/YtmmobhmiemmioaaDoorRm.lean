/- Rules: Matches. -/
import Derived.Test.YtmmobhmiemmioaaDoorRr
import Derived.BigQuiet
import Derived.Deep.RegionWith
namespace Go.Proofs.YtmmobhmiemmioaaDoor
open Go.RowKit

def hasSl (p : ByteArray) : Bool := decide (0 ≤ Lib.indexByte p.data.toList 47)
def matR (r : R) (p : ByteArray) (dir : Bool) : Bool :=
  if !(chkR r == 0) || (p.toList == []) || !rightB p || (r.dir && !dir) then false
  else if r.anc || hasSl r.pat then matS r.pat.data.toList p.data.toList else matS r.pat.data.toList (basB p).data.toList
theorem basB_size (s : ByteArray) : (basB s).size ≤ s.size := by
  unfold basB; rw [ByteArray.size_extract]; omega
set_option maxHeartbeats 2000000 in
theorem mat_spec (r : R) (p : ByteArray) (dir : Bool) (w : World) (hp : r.pat.size ≤ 9223372036854775807) (hs : p.size ≤ 800) :
    Calls Tryd.prog 28 #[.agg #[.int .i64 r.act, .string r.pat, .bool r.dir, .bool r.anc], .string p, .bool dir] w fun e w' => e = .returned (.bool (matR r p dir)) ∧ Fr (fun _ => False) w w' := by
  have HC := Lib.hid (fun wx => chk_spec r.act r.pat r.dir r.anc wx hp)
  have HRT := Lib.hid (fun wx => right_spec p wx hs)
  have HI0 := Lib.hid (fun wx => Tryd.strings_Contains_one r.pat 47 wx)
  have HI : Hid (∀ wx, Calls Tryd.prog 24 #[.string r.pat, .string ⟨#[47]⟩] wx fun e w' => e = .returned (.bool (hasSl r.pat)) ∧ w' = wx) := Lib.hid HI0.out
  have HM1 := Lib.hid (fun wx => match_spec r.pat p wx hp (by omega))
  have HM2 := Lib.hid (fun wx => match_spec r.pat (basB p) wx hp (by have := basB_size p; omega))
  have HBS := Lib.hid (fun wx => base_spec p wx (by omega))
  have HE0 : matR r p dir = (if !(chkR r == 0) || (p.toList == []) || !rightB p || (r.dir && !dir) then false
    else if r.anc || hasSl r.pat then matS r.pat.data.toList p.data.toList else matS r.pat.data.toList (basB p).data.toList) := rfl
  rw [show chkR r = chkS r.act r.pat from rfl] at HE0
  have HFA := Lib.hid (fun o => (Fr.refl (fun _ => False) w).alloc o)
  clear HI0
  rcases r with ⟨ra, rp, rd, rc⟩
  simp only at *
  generalize matR _ p dir = res at HE0 ⊢
  generalize basB p = bp at HE0 HM2 HBS ⊢
  generalize matS rp.data.toList p.data.toList = m1 at HE0 HM1
  generalize matS rp.data.toList bp.data.toList = m2 at HE0 HM2
  generalize hasSl rp = sl at HE0 HI
  generalize rightB p = rb at HE0 HRT
  generalize chkS ra rp = z at HE0 HC
  rcases hz : (z == 0) with _ | _
  · rw [hz] at HE0
    have hz2 : ¬ z = 0 := by simpa using hz
    have HE := Lib.hid (show res = false from HE0)
    clear HE0
    go_enter Tryd.func28, Tryd.ntmps28
    go_wp2_with (first | (go_at_call 14; (refine (HC.out _).mono ?_); rintro e w2 ⟨rfl, hf⟩; have HF2 := Lib.hid ((HFA.out _).trans hf (fun _ _ h => h)); have HB2 := Lib.hid ((Blk.new w 36 _).fr hf (fun h => h)); clear hf) | fail)
    have he := HE.out
    go_ret
    exact ⟨by rw [he]; rfl, HF2.out⟩
  obtain rfl : z = 0 := by simpa using hz
  rw [hz] at HE0
  clear hz
  rcases hpe : (p.toList == []) with _ | _
  · have hpe2 : ¬ p.toList = [] := by simpa using hpe
    rw [hpe] at HE0
    rcases rb with _ | _
    · skip
      have HE := Lib.hid (show res = false from HE0)
      clear HE0
      go_enter Tryd.func28, Tryd.ntmps28
      go_wp2_with (first | (go_at_call 14; (refine (HC.out _).mono ?_); rintro e w2 ⟨rfl, hf⟩; have HF2 := Lib.hid ((HFA.out _).trans hf (fun _ _ h => h)); have HB2 := Lib.hid ((Blk.new w 36 _).fr hf (fun h => h)); clear hf) | (go_at_call 5; (refine (HRT.out _).mono ?_); rintro e w3 ⟨rfl, hf⟩; have HF3 := Lib.hid (HF2.out.trans hf (fun _ _ h => h)); have hb3 := HB2.out.fr hf (fun h => h); have c1 := hb3.cell 1 rfl; have c2 := hb3.cell 2 rfl; have c3 := hb3.cell 3 rfl; clear hf hb3) | fail)
      have he := HE.out
      go_ret
      exact ⟨by rw [he]; rfl, HF3.out⟩
    · rcases rd with _ | _
      · rcases rc with _ | _
        · rcases sl with _ | _
          · skip
            have HE := Lib.hid (show res = m2 from HE0)
            clear HE0
            go_enter Tryd.func28, Tryd.ntmps28
            go_wp2_with (first | (go_at_call 14; (refine (HC.out _).mono ?_); rintro e w2 ⟨rfl, hf⟩; have HF2 := Lib.hid ((HFA.out _).trans hf (fun _ _ h => h)); have HB2 := Lib.hid ((Blk.new w 36 _).fr hf (fun h => h)); clear hf) | (go_at_call 5; (refine (HRT.out _).mono ?_); rintro e w3 ⟨rfl, hf⟩; have HF3 := Lib.hid (HF2.out.trans hf (fun _ _ h => h)); have hb3 := HB2.out.fr hf (fun h => h); have c1 := hb3.cell 1 rfl; have c2 := hb3.cell 2 rfl; have c3 := hb3.cell 3 rfl; clear hf hb3) | (go_at_call 24; (refine (HI.out _).mono ?_); rintro e w4 ⟨rfl, rfl⟩) | fail)
            go_region_with (first | (go_at_call 37; (refine (HBS.out _).mono ?_); rintro e w6 ⟨rfl, rfl⟩) | (go_at_call 36; (refine (HM2.out _).mono ?_); rintro e w5 ⟨rfl, hf⟩; have HF5 := Lib.hid (HF3.out.drew.trans hf (fun _ _ h => h)); clear hf))
            all_goals (go_wp2_with (fail))
            all_goals (have he := HE.out)
            all_goals go_ret
            all_goals (exact ⟨by rw [he]; rfl, HF5.out⟩)
          · skip
            have HE := Lib.hid (show res = m1 from HE0)
            clear HE0
            go_enter Tryd.func28, Tryd.ntmps28
            go_wp2_with (first | (go_at_call 14; (refine (HC.out _).mono ?_); rintro e w2 ⟨rfl, hf⟩; have HF2 := Lib.hid ((HFA.out _).trans hf (fun _ _ h => h)); have HB2 := Lib.hid ((Blk.new w 36 _).fr hf (fun h => h)); clear hf) | (go_at_call 5; (refine (HRT.out _).mono ?_); rintro e w3 ⟨rfl, hf⟩; have HF3 := Lib.hid (HF2.out.trans hf (fun _ _ h => h)); have hb3 := HB2.out.fr hf (fun h => h); have c1 := hb3.cell 1 rfl; have c2 := hb3.cell 2 rfl; have c3 := hb3.cell 3 rfl; clear hf hb3) | (go_at_call 24; (refine (HI.out _).mono ?_); rintro e w4 ⟨rfl, rfl⟩) | (go_at_call 36; (refine (HM1.out _).mono ?_); rintro e w5 ⟨rfl, hf⟩; have HF5 := Lib.hid (HF3.out.trans hf (fun _ _ h => h)); clear hf) | fail)
            have he := HE.out
            go_ret
            exact ⟨by rw [he]; rfl, HF5.out⟩
        · skip
          have HE := Lib.hid (show res = m1 from HE0)
          clear HE0
          go_enter Tryd.func28, Tryd.ntmps28
          go_wp2_with (first | (go_at_call 14; (refine (HC.out _).mono ?_); rintro e w2 ⟨rfl, hf⟩; have HF2 := Lib.hid ((HFA.out _).trans hf (fun _ _ h => h)); have HB2 := Lib.hid ((Blk.new w 36 _).fr hf (fun h => h)); clear hf) | (go_at_call 5; (refine (HRT.out _).mono ?_); rintro e w3 ⟨rfl, hf⟩; have HF3 := Lib.hid (HF2.out.trans hf (fun _ _ h => h)); have hb3 := HB2.out.fr hf (fun h => h); have c1 := hb3.cell 1 rfl; have c2 := hb3.cell 2 rfl; have c3 := hb3.cell 3 rfl; clear hf hb3) | (go_at_call 24; (refine (HI.out _).mono ?_); rintro e w4 ⟨rfl, rfl⟩) | (go_at_call 36; (refine (HM1.out _).mono ?_); rintro e w5 ⟨rfl, hf⟩; have HF5 := Lib.hid (HF3.out.trans hf (fun _ _ h => h)); clear hf) | fail)
          have he := HE.out
          go_ret
          exact ⟨by rw [he]; rfl, HF5.out⟩
      · rcases dir with _ | _
        · skip
          have HE := Lib.hid (show res = false from HE0)
          clear HE0
          go_enter Tryd.func28, Tryd.ntmps28
          go_wp2_with (first | (go_at_call 14; (refine (HC.out _).mono ?_); rintro e w2 ⟨rfl, hf⟩; have HF2 := Lib.hid ((HFA.out _).trans hf (fun _ _ h => h)); have HB2 := Lib.hid ((Blk.new w 36 _).fr hf (fun h => h)); clear hf) | (go_at_call 5; (refine (HRT.out _).mono ?_); rintro e w3 ⟨rfl, hf⟩; have HF3 := Lib.hid (HF2.out.trans hf (fun _ _ h => h)); have hb3 := HB2.out.fr hf (fun h => h); have c1 := hb3.cell 1 rfl; have c2 := hb3.cell 2 rfl; have c3 := hb3.cell 3 rfl; clear hf hb3) | fail)
          have he := HE.out
          go_ret
          exact ⟨by rw [he]; rfl, HF3.out⟩
        · rcases rc with _ | _
          · rcases sl with _ | _
            · skip
              have HE := Lib.hid (show res = m2 from HE0)
              clear HE0
              go_enter Tryd.func28, Tryd.ntmps28
              go_wp2_with (first | (go_at_call 14; (refine (HC.out _).mono ?_); rintro e w2 ⟨rfl, hf⟩; have HF2 := Lib.hid ((HFA.out _).trans hf (fun _ _ h => h)); have HB2 := Lib.hid ((Blk.new w 36 _).fr hf (fun h => h)); clear hf) | (go_at_call 5; (refine (HRT.out _).mono ?_); rintro e w3 ⟨rfl, hf⟩; have HF3 := Lib.hid (HF2.out.trans hf (fun _ _ h => h)); have hb3 := HB2.out.fr hf (fun h => h); have c1 := hb3.cell 1 rfl; have c2 := hb3.cell 2 rfl; have c3 := hb3.cell 3 rfl; clear hf hb3) | (go_at_call 24; (refine (HI.out _).mono ?_); rintro e w4 ⟨rfl, rfl⟩) | fail)
              go_region_with (first | (go_at_call 37; (refine (HBS.out _).mono ?_); rintro e w6 ⟨rfl, rfl⟩) | (go_at_call 36; (refine (HM2.out _).mono ?_); rintro e w5 ⟨rfl, hf⟩; have HF5 := Lib.hid (HF3.out.drew.trans hf (fun _ _ h => h)); clear hf))
              all_goals (go_wp2_with (fail))
              all_goals (have he := HE.out)
              all_goals go_ret
              all_goals (exact ⟨by rw [he]; rfl, HF5.out⟩)
            · skip
              have HE := Lib.hid (show res = m1 from HE0)
              clear HE0
              go_enter Tryd.func28, Tryd.ntmps28
              go_wp2_with (first | (go_at_call 14; (refine (HC.out _).mono ?_); rintro e w2 ⟨rfl, hf⟩; have HF2 := Lib.hid ((HFA.out _).trans hf (fun _ _ h => h)); have HB2 := Lib.hid ((Blk.new w 36 _).fr hf (fun h => h)); clear hf) | (go_at_call 5; (refine (HRT.out _).mono ?_); rintro e w3 ⟨rfl, hf⟩; have HF3 := Lib.hid (HF2.out.trans hf (fun _ _ h => h)); have hb3 := HB2.out.fr hf (fun h => h); have c1 := hb3.cell 1 rfl; have c2 := hb3.cell 2 rfl; have c3 := hb3.cell 3 rfl; clear hf hb3) | (go_at_call 24; (refine (HI.out _).mono ?_); rintro e w4 ⟨rfl, rfl⟩) | (go_at_call 36; (refine (HM1.out _).mono ?_); rintro e w5 ⟨rfl, hf⟩; have HF5 := Lib.hid (HF3.out.trans hf (fun _ _ h => h)); clear hf) | fail)
              have he := HE.out
              go_ret
              exact ⟨by rw [he]; rfl, HF5.out⟩
          · skip
            have HE := Lib.hid (show res = m1 from HE0)
            clear HE0
            go_enter Tryd.func28, Tryd.ntmps28
            go_wp2_with (first | (go_at_call 14; (refine (HC.out _).mono ?_); rintro e w2 ⟨rfl, hf⟩; have HF2 := Lib.hid ((HFA.out _).trans hf (fun _ _ h => h)); have HB2 := Lib.hid ((Blk.new w 36 _).fr hf (fun h => h)); clear hf) | (go_at_call 5; (refine (HRT.out _).mono ?_); rintro e w3 ⟨rfl, hf⟩; have HF3 := Lib.hid (HF2.out.trans hf (fun _ _ h => h)); have hb3 := HB2.out.fr hf (fun h => h); have c1 := hb3.cell 1 rfl; have c2 := hb3.cell 2 rfl; have c3 := hb3.cell 3 rfl; clear hf hb3) | (go_at_call 24; (refine (HI.out _).mono ?_); rintro e w4 ⟨rfl, rfl⟩) | (go_at_call 36; (refine (HM1.out _).mono ?_); rintro e w5 ⟨rfl, hf⟩; have HF5 := Lib.hid (HF3.out.trans hf (fun _ _ h => h)); clear hf) | fail)
            have he := HE.out
            go_ret
            exact ⟨by rw [he]; rfl, HF5.out⟩
  · have hpe2 : p.toList = [] := by simpa using hpe
    rw [hpe] at HE0
    have HE := Lib.hid (show res = false from HE0)
    clear HE0
    go_enter Tryd.func28, Tryd.ntmps28
    go_wp2_with (first | (go_at_call 14; (refine (HC.out _).mono ?_); rintro e w2 ⟨rfl, hf⟩; have HF2 := Lib.hid ((HFA.out _).trans hf (fun _ _ h => h)); have HB2 := Lib.hid ((Blk.new w 36 _).fr hf (fun h => h)); clear hf) | fail)
    have he := HE.out
    go_ret
    exact ⟨by rw [he]; rfl, HF2.out⟩
end Go.Proofs.YtmmobhmiemmioaaDoor
