/- The walks of glob.Check, takes and empty. -/
import Derived.Test.YtmmobhmiemmioaaDoorSig
import Derived.Deep.QuietTactic
import Derived.BigQuiet
namespace Go.Proofs.YtmmobhmiemmioaaDoor
open Go.RowKit

theorem Fr.ofB {w w' : World} (h : Below w.heap.size w w') : Fr (fun _ => False) w w' := Fr.ofBelow h _

theorem gcheck_spec (p : ByteArray) (w : World) (hm : p.size ≤ 9223372036854775807) : Calls Tryd.prog 25 #[.string p] w fun e w' => e = .returned (.int .i64 (gckS p.data.toList)) ∧ Fr (fun _ => False) w w' := by
  by_cases hp : p.size ≤ 100
  · have h1 : (p.size : Int) ≤ 100 := by omega
    have h0 : ¬ 100 < p.data.toList.length := by rw [← size_len]; omega
    rcases hs : sigF p.data.toList with _ | L
    · have HC := Lib.hid (signs_short p w hp)
      rw [hs] at HC
      have HE := Lib.hid (show gckS p.data.toList = 5 by unfold gckS; rw [if_neg h0, hs])
      clear h0 hs hp
      go_enter Tryd.func25, Tryd.ntmps25
      go_wp2_with (go_at_call 34; (refine HC.out.mono ?_); rintro e w2 ⟨v, ok, rfl, hbe, hok⟩; obtain rfl : ok = false := hok)
      have he := HE.out
      go_ret
      exact ⟨by rw [he]; rfl, Fr.ofB hbe⟩
    · have HC := Lib.hid (signs_short p w hp)
      rw [hs] at HC
      have HE := Lib.hid (show gckS p.data.toList = 0 by unfold gckS; rw [if_neg h0, hs])
      clear h0 hs hp
      go_enter Tryd.func25, Tryd.ntmps25
      go_wp2_with (go_at_call 34; (refine HC.out.mono ?_); rintro e w2 ⟨v, ok, rfl, hbe, hok⟩; obtain rfl : ok = true := hok.1; clear hok)
      have he := HE.out
      go_ret
      exact ⟨by rw [he]; rfl, Fr.ofB hbe⟩
  · have h1 : (100 : Int) < (p.size : Int) := by omega
    have HE := Lib.hid (show gckS p.data.toList = 7 by unfold gckS; rw [if_pos (by rw [← size_len]; omega)])
    clear hp
    go_enter Tryd.func25, Tryd.ntmps25
    go_wp2_with (fail)
    have he := HE.out
    go_ret
    exact ⟨by rw [he]; rfl, Fr.refl _ _⟩

/-- A sign lies at a place. -/
structure SgAt (w : World) (b o : Nat) (g : Sg) : Prop where
  kd : w.cell? ⟨b, o, none⟩ = some (.int .i64 g.kind)
  ch : w.cell? ⟨b, o + 1, none⟩ = some (.int .u8 (g.c.toNat : Int))
  ng : w.cell? ⟨b, o + 2, none⟩ = some (.bool g.neg)
  st : ∀ i, i < 256 → w.cell? ⟨b, o + 3 + i, none⟩ = some (.bool (g.set i))

set_option maxHeartbeats 2000000 in
theorem takes_spec (b o : Nat) (g : Sg) (c : UInt8) (w : World) (hg : SgAt w b o g) :
    Calls Tryd.prog 46 #[.pointer (some ⟨b, o, none⟩), .int .u8 (c.toNat : Int)] w fun e w' => e = .returned (.bool (tkS g c)) ∧ Dr w w' := by
  obtain ⟨h0, h1, h2, h3⟩ := hg
  have hc : c.toNat < 256 := c.toNat_lt
  have h3c := h3 c.toNat hc
  have c0 : (0 : Int) ≤ (c.toNat : Int) := by omega
  have c1 : (c.toNat : Int) < 256 := by omega
  clear h3
  obtain ⟨K, hK⟩ : ∃ K, K = g.kind := ⟨_, rfl⟩
  rw [← hK] at h0
  by_cases k0 : K = 0
  · have HE := Lib.hid (show tkS g c = ((c.toNat : Int) == (g.c.toNat : Int)) by
      unfold tkS
      rw [if_pos (by rw [← hK, k0])]
      rw [Bool.eq_iff_iff, beq_iff_eq, beq_iff_eq]
      exact ⟨fun h => by rw [h], fun h => UInt8.toNat_inj.1 (by omega)⟩)
    subst k0
    clear hK h2 h3c hc
    go_enter Tryd.func46, Tryd.ntmps46
    go_wp2_with (fail)
    have he := HE.out
    go_ret
    exact ⟨by rw [he]; simp, Dr.refl _⟩
  by_cases k1 : K = 1
  · have HE := Lib.hid (show tkS g c = true by unfold tkS; rw [if_neg (by rw [← hK]; exact k0), if_pos (by rw [← hK]; exact k1)])
    subst k1
    clear hK h2 h3c hc h1 k0
    go_enter Tryd.func46, Tryd.ntmps46
    go_wp2_with (fail)
    have he := HE.out
    go_ret
    exact ⟨by rw [he]; rfl, Dr.refl _⟩
  have d0 : ((K : Int) == 0) = false := by simp; omega
  have d1 : ((K : Int) == 1) = false := by simp; omega
  by_cases k4 : K = 4
  · have d4 : ((K : Int) == 4) = true := by simp; omega
    by_cases h47 : c = 47
    · have HE := Lib.hid (show tkS g c = false by
        unfold tkS
        rw [if_neg (by rw [← hK]; exact k0), if_neg (by rw [← hK]; exact k1), if_pos (by rw [← hK]; exact k4), h47]; rfl)
      have b47 : ((c.toNat : Int) != 47) = false := by rw [h47]; rfl
      clear hK h1 k0 k1 k4 h47 hc
      go_enter Tryd.func46, Tryd.ntmps46
      go_wp2_with (fail)
      go_quiet (fail)
      go_wp2_with (fail)
      have he := HE.out
      go_ret
      exact ⟨by rw [he]; rfl, Dr.some _ _⟩
    · have HE := Lib.hid (show tkS g c = (g.set c.toNat != g.neg) by
        unfold tkS
        rw [if_neg (by rw [← hK]; exact k0), if_neg (by rw [← hK]; exact k1), if_pos (by rw [← hK]; exact k4)]
        have : (c != 47) = true := by simpa using h47
        rw [this]; rfl)
      have b47 : ((c.toNat : Int) != 47) = true := by
        have : c.toNat ≠ 47 := fun e => h47 (UInt8.toNat_inj.1 (by rw [e]; rfl))
        simp; omega
      clear hK h1 k0 k1 k4 h47 hc
      go_enter Tryd.func46, Tryd.ntmps46
      go_wp2_with (fail)
      go_quiet (fail)
      go_wp2_with (fail)
      have he := HE.out
      go_ret
      exact ⟨by rw [he]; rfl, Dr.some _ _⟩
  · have d4 : ((K : Int) == 4) = false := by simp; omega
    have HE := Lib.hid (show tkS g c = ((c.toNat : Int) != 47) by
      unfold tkS
      rw [if_neg (by rw [← hK]; exact k0), if_neg (by rw [← hK]; exact k1), if_neg (by rw [← hK]; exact k4)]
      rw [Bool.eq_iff_iff, bne_iff_ne, bne_iff_ne]
      exact ⟨fun h e => h (UInt8.toNat_inj.1 (by have : ((47 : UInt8).toNat : Int) = 47 := rfl; omega)), fun h e => h (by rw [e]; rfl)⟩)
    clear hK h1 h2 h3c k0 k1 k4 hc
    go_enter Tryd.func46, Tryd.ntmps46
    go_wp2_with (fail)
    have he := HE.out
    go_ret
    exact ⟨by rw [he]; rfl, Dr.refl _⟩
end Go.Proofs.YtmmobhmiemmioaaDoor
