/- The walks of number and size. -/
import Derived.Test.YthnhieikeigjcaaDoorHum
import Derived.Test.YthnhieikeigjcaaDoorPct
import Derived.Test.YthnhieikeigjcaaDoorSpan
import Derived.Lib.IndexBytes
import Derived.Deep.LoopGhost
import Derived.Deep.QuietTactic
import Derived.BigQuiet
namespace Go.Proofs.YthnhieikeigjcaaDoor
open Go.RowKit

/-- The number that digits say. -/
def numV (l : List UInt8) : Nat := l.foldl (fun n c => 10 * n + (c.toNat - 48)) 0
theorem numV_snoc (l : List UInt8) (c : UInt8) : numV (l ++ [c]) = 10 * numV l + (c.toNat - 48) := by
  unfold numV; rw [List.foldl_append]; rfl
theorem numV_mono (p : List UInt8) : ∀ q : List UInt8, numV p ≤ numV (p ++ q) := by
  intro q
  induction q generalizing p with
  | nil => rw [List.append_nil]; exact Nat.le_refl _
  | cons c t ih =>
    have h1 := ih (p ++ [c])
    rw [numV_snoc, List.append_assoc] at h1
    have h2 : numV p ≤ 10 * numV p + (c.toNat - 48) := by omega
    exact Nat.le_trans h2 h1
def isDig (c : UInt8) : Prop := 48 ≤ c.toNat ∧ c.toNat ≤ 57
theorem dig_nat (k : Nat) (h : k < 10) : (UInt8.ofNat (48 + k)).toNat = 48 + k := by
  rw [UInt8.toNat_ofNat', Nat.mod_eq_of_lt (by omega)]
theorem dec_digits : ∀ m : Nat, (∀ c ∈ Lib.decDigits m, isDig c) ∧ numV (Lib.decDigits m) = m := by
  intro m
  induction m using Nat.strongRecOn with
  | _ m ih =>
    by_cases h : m < 10
    · rw [Lib.decDigits_one h]
      refine ⟨fun c hc => ?_, ?_⟩
      · rw [List.mem_singleton] at hc; subst hc; unfold isDig; rw [dig_nat m h]; omega
      · show 10 * 0 + ((UInt8.ofNat (48 + m)).toNat - 48) = m
        rw [dig_nat m h]; omega
    · obtain ⟨h1, h2⟩ := ih (m / 10) (by omega)
      have e : Lib.decDigits m = Lib.decDigits (m / 10) ++ [UInt8.ofNat (48 + m % 10)] := by rw [Lib.decDigits, dif_neg h]
      rw [e]
      refine ⟨fun c hc => ?_, ?_⟩
      · rcases List.mem_append.1 hc with h | h
        · exact h1 c h
        · rw [List.mem_singleton] at h; subst h; unfold isDig; rw [dig_nat _ (by omega)]; omega
      · rw [numV_snoc, h2, dig_nat _ (by omega)]; omega

theorem head0 {s : ByteArray} {c : UInt8} {t : List UInt8} (h : s.data.toList = c :: t) (h0 : 0 < s.size) : s[0]'h0 = c := by
  have h1 : s.data.toList[0]? = some c := by rw [h]; rfl
  have h2 : s.data.toList[0]? = some (s[0]'h0) := by
    rw [List.getElem?_eq_getElem (by simpa using h0)]; rfl
  rw [h1] at h2
  exact (Option.some.inj h2).symm

set_option maxHeartbeats 2000000 in
theorem number_spec (s : ByteArray) (D rest : List UInt8) (w : World) (hs : s.data.toList = D ++ rest) (hD : ∀ c ∈ D, isDig c) (hr : ∀ c t, rest = c :: t → ¬ isDig c) (hv : numV D ≤ 9000000000000000000) :
    Calls Tryd.prog 19 #[.string s] w fun e w' => e = .returned (.tuple #[.int .i64 (numV D), .string ⟨rest.toArray⟩]) ∧ w = w' := by
  have HS := Lib.hid hs
  have HD := Lib.hid hD
  have HR := Lib.hid hr
  have HV := Lib.hid hv
  clear hs hD hr hv
  go_enter Tryd.func19, Tryd.ntmps19
  go_wp2_with (fail)
  go_loopg [0, 4] D.length (fun gk x0 x4 wr => ∃ (p q : List UInt8) (s' : ByteArray), Hid (D = p ++ q) ∧ Hid (gk = q.length) ∧ x0 = .string s' ∧ Hid (s'.data.toList = q ++ rest) ∧ x4 = .int .i64 (numV p) ∧ wr = w)
  case atStart => exact ⟨[], D, s, Lib.hid rfl, Lib.hid rfl, rfl, HS, rfl, rfl⟩
  case round =>
    obtain ⟨p, q, s', HP, HG, rfl, HQ, rfl, rfl⟩ := hrel
    rcases q with _ | ⟨c, q⟩
    · have hpD : p = D := by rw [HP.out, List.append_nil]
      have HPD := Lib.hid hpD
      clear hpD
      have hend : s' = ⟨rest.toArray⟩ := ba_ext (by rw [HQ.out]; rfl)
      have HE := Lib.hid hend
      clear hend
      rcases hrest : rest with _ | ⟨c, t⟩
      · have h0 : s'.size = 0 := by
          rw [HE.out, hrest]; rfl
        clear hrest
        go_wp2_with (fail)
        have he := HE.out
        have hp := HPD.out
        go_ret2
        exact ⟨by rw [← he, ← hp]; rfl, rfl⟩
      · have hnd := HR.out c t hrest
        have hq := HQ.out
        rw [hrest] at hq
        have h0 : 0 < s'.size := by
          have : s'.data.toList.length = t.length + 1 := by rw [hq]; rfl
          have e : s'.size = s'.data.toList.length := by simp
          omega
        have hg := head0 hq h0
        have d : ((s'[0]'h0).toNat : Int) < 48 ∨ (48 ≤ ((s'[0]'h0).toNat : Int) ∧ 57 < ((s'[0]'h0).toNat : Int)) := by
          rw [hg]; unfold isDig at hnd; omega
        clear hrest hnd hq hg
        rcases d with d | ⟨d1, d2⟩
        · go_wp2_with (fail)
          have he := HE.out
          have hp := HPD.out
          go_ret2
          exact ⟨by rw [← he, ← hp]; rfl, rfl⟩
        · go_wp2_with (fail)
          have he := HE.out
          have hp := HPD.out
          go_ret2
          exact ⟨by rw [← he, ← hp]; rfl, rfl⟩
    · have hq := HQ.out
      have h0 : 0 < s'.size := by
        have : s'.data.toList.length = (q ++ rest).length + 1 := by rw [hq]; rfl
        have e : s'.size = s'.data.toList.length := by simp
        omega
      have hg := head0 hq h0
      have hc : isDig c := HD.out c (by rw [HP.out]; simp)
      have hsn := numV_snoc p c
      have hle : numV (p ++ [c]) ≤ numV D := by
        have := numV_mono (p ++ [c]) q
        rw [List.append_assoc] at this
        rw [HP.out]; exact this
      have d1 : 48 ≤ ((s'[0]'h0).toNat : Int) := by rw [hg]; unfold isDig at hc; omega
      have d2 : ((s'[0]'h0).toNat : Int) ≤ 57 := by rw [hg]; unfold isDig at hc; omega
      have HSN := Lib.hid (show ((numV (p ++ [c]) : Nat) : Int) = 10 * (numV p : Int) + ((s'[0]'h0).toNat : Int) - 48 by rw [hg, hsn]; unfold isDig at hc; omega)
      have b1 : 10 * (numV p : Int) + ((s'[0]'h0).toNat : Int) ≤ 9223372036854775807 := by have := HSN.out; have := HV.out; omega
      have HX := Lib.hid (show (s'.extract 1 s'.size).data.toList = q ++ rest by rw [Lib.extract_to_end, hq]; rfl)
      have HGG := Lib.hid (show _ = q.length + 1 from HG.out)
      clear hq hg hc hsn hle
      go_wp2_with (fail)
      go_roundg q.length
      case measure => have := HGG.out; omega
      case rel => exact ⟨p ++ [c], q, _, Lib.hid (by rw [HP.out, List.append_assoc]; rfl), Lib.hid rfl, rfl, HX, int_i HSN.out.symm, rfl⟩
end Go.Proofs.YthnhieikeigjcaaDoor
