/- match: a byte told; last, ops. -/
import Derived.Test.YtphjebbjhfnhoaaTa
namespace Go.Proofs.Ytphjebbjhfnhoaa
open Go.RowKit
def valQ (sc : Nat) (tv : Value) : Nat → Value
  | 3 => .pointer (some ⟨sc, 9, none⟩)
  | 4 => tv
  | 12 => .pointer (some ⟨sc, 9, none⟩)
  | _ => .pointer (some ⟨sc, 0, none⟩)
structure QL (A0 A1 : World → Prop) (B2 C3 : Value → World → Prop) (sb sc : Nat) (tv : Value) (c : Int) (L : Nat → Bool) (u : Nat → Value) (w : World) : Prop where
  fp : ∀ k, k < 13 → k ≠ 8 → k ≠ 9 → k ≠ 10 → L k = true → u (sb + k) = valQ sc tv k
  f8 : L 8 = true → u (sb + 8) = .int .u8 c
  f9 : L 9 = true → ∃ q, u (sb + 9) = .slice (some ⟨q, 0, none⟩) 1 1 ∧ (L 10 = false → Blk w q 5 #[.int .u8 c])
  n0 : L 8 = false → A0 w
  n1 : L 8 = true → L 10 = false → A1 w
  n2 : L 10 = true → L 13 = false → B2 (u (sb + 10)) w
  n3 : L 13 = true → C3 (u (sb + 10)) w
section
variable {A0 A1 : World → Prop} {B2 C3 : Value → World → Prop} {sb sc : Nat} {tv : Value} {c : Int} {L : Nat → Bool} {u : Nat → Value} {w : World}
theorem QL.up (h : QL A0 A1 B2 C3 sb sc tv c L u w) (k : Nat) (hk : k < 13) (h8 : k ≠ 8) (h9 : k ≠ 9) (h10 : k ≠ 10) (val : Value) (hv : val = valQ sc tv k) : QL A0 A1 B2 C3 sb sc tv c (updB L k) (updU u (sb + k) val) w := by
  refine ⟨fun j hj j8 j9 j10 hL => ?_, fun hL => ?_, fun hL => ?_, fun hL => ?_, fun hL hL2 => ?_, fun hL hL2 => ?_, fun hL => ?_⟩
  · by_cases e : j = k
    · subst e; rw [updU_self]; exact hv
    · rw [updB_ne _ _ _ e] at hL; rw [updU_ne _ _ _ _ (by omega)]; exact h.fp j hj j8 j9 j10 hL
  · rw [updB_ne _ _ _ (Ne.symm h8)] at hL; rw [updU_ne _ _ _ _ (by omega)]; exact h.f8 hL
  · rw [updB_ne _ _ _ (Ne.symm h9)] at hL
    rw [updU_ne _ _ _ _ (by omega), updB_ne _ _ _ (Ne.symm h10)]; exact h.f9 hL
  · rw [updB_ne _ _ _ (Ne.symm h8)] at hL; exact h.n0 hL
  · rw [updB_ne _ _ _ (Ne.symm h8)] at hL; rw [updB_ne _ _ _ (Ne.symm h10)] at hL2; exact h.n1 hL hL2
  · rw [updB_ne _ _ _ (Ne.symm h10)] at hL; rw [updB_ne _ _ _ (by omega)] at hL2; rw [updU_ne _ _ _ _ (by omega)]; exact h.n2 hL hL2
  · rw [updB_ne _ _ _ (by omega)] at hL; rw [updU_ne _ _ _ _ (by omega)]; exact h.n3 hL
theorem QL.call (h : QL A0 A1 B2 C3 sb sc tv c L u w) (h9 : L 9 = false) (h10 : L 10 = false) (h13 : L 13 = false) (w' : World) (hA : A1 w') : QL A0 A1 B2 C3 sb sc tv c (updB L 8) (updU u (sb + 8) (.int .u8 c)) w' := by
  refine ⟨fun j hj j8 j9 j10 hL => ?_, fun hL => updU_self _ _ _, fun hL => ?_, fun hL => ?_, fun hL hL2 => hA, fun hL hL2 => ?_, fun hL => ?_⟩
  · rw [updB_ne _ _ _ j8] at hL; rw [updU_ne _ _ _ _ (by omega)]; exact h.fp j hj j8 j9 j10 hL
  · rw [updB_ne _ _ _ (by decide), h9] at hL; cases hL
  · rw [updB_self] at hL; cases hL
  · rw [updB_ne _ _ _ (by decide), h10] at hL; cases hL
  · rw [updB_ne _ _ _ (by decide), h13] at hL; cases hL
theorem QL.new (h : QL A0 A1 B2 C3 sb sc tv c L u w) (h8 : L 8 = true) (h10 : L 10 = false) (h13 : L 13 = false) (hA : ∀ w', Fr (fun _ => False) w w' → A1 w → A1 w') : QL A0 A1 B2 C3 sb sc tv c (updB L 9) (updU u (sb + 9) (.slice (some ⟨w.heap.size, 0, none⟩) 1 1)) (w.alloc (.cells #[.int .u8 c] 5)) := by
  refine ⟨fun j hj j8 j9 j10 hL => ?_, fun hL => ?_, fun _ => ⟨_, updU_self _ _ _, fun _ => Blk.new _ _ _⟩, fun hL => ?_, fun hL hL2 => ?_, fun hL hL2 => ?_, fun hL => ?_⟩
  · rw [updB_ne _ _ _ j9] at hL; rw [updU_ne _ _ _ _ (by omega)]; exact h.fp j hj j8 j9 j10 hL
  · rw [updB_ne _ _ _ (by decide)] at hL; rw [updU_ne _ _ _ _ (by omega)]; exact h.f8 hL
  · rw [updB_ne _ _ _ (by decide), h8] at hL; cases hL
  · exact hA _ ((Fr.refl _ w).alloc _) (h.n1 h8 h10)
  · rw [updB_ne _ _ _ (by decide), h10] at hL; cases hL
  · rw [updB_ne _ _ _ (by decide), h13] at hL; cases hL
theorem QL.app (h : QL A0 A1 B2 C3 sb sc tv c L u w) (h8 : L 8 = true) (h13 : L 13 = false) (v' : Value) (w' : World) (hB : B2 v' w') : QL A0 A1 B2 C3 sb sc tv c (updB L 10) (updU u (sb + 10) v') w' := by
  refine ⟨fun j hj j8 j9 j10 hL => ?_, fun hL => ?_, fun hL => ?_, fun hL => ?_, fun hL hL2 => ?_, fun hL hL2 => ?_, fun hL => ?_⟩
  · rw [updB_ne _ _ _ j10] at hL; rw [updU_ne _ _ _ _ (by omega)]; exact h.fp j hj j8 j9 j10 hL
  · rw [updB_ne _ _ _ (by decide)] at hL; rw [updU_ne _ _ _ _ (by omega)]; exact h.f8 hL
  · rw [updB_ne _ _ _ (by decide)] at hL
    obtain ⟨q, e, _⟩ := h.f9 hL
    rw [updU_ne _ _ _ _ (by omega)]
    exact ⟨q, e, fun x => by rw [updB_self] at x; cases x⟩
  · rw [updB_ne _ _ _ (by decide), h8] at hL; cases hL
  · rw [updB_self] at hL2; cases hL2
  · rw [updU_self]; exact hB
  · rw [updB_ne _ _ _ (by decide), h13] at hL; cases hL
theorem QL.put (h : QL A0 A1 B2 C3 sb sc tv c L u w) (h8 : L 8 = true) (h10 : L 10 = true) (w' : World) (hC : C3 (u (sb + 10)) w') : QL A0 A1 B2 C3 sb sc tv c (updB L 13) u w' := by
  refine ⟨fun j hj j8 j9 j10 hL => ?_, fun hL => ?_, fun hL => ?_, fun hL => ?_, fun hL hL2 => ?_, fun hL hL2 => ?_, fun hL => hC⟩
  · rw [updB_ne _ _ _ (by omega)] at hL; exact h.fp j hj j8 j9 j10 hL
  · rw [updB_ne _ _ _ (by decide)] at hL; exact h.f8 hL
  · rw [updB_ne _ _ _ (by decide)] at hL
    obtain ⟨q, e, _⟩ := h.f9 hL
    exact ⟨q, e, fun x => by rw [updB_ne _ _ _ (by decide), h10] at x; cases x⟩
  · rw [updB_ne _ _ _ (by decide), h8] at hL; cases hL
  · rw [updB_ne _ _ _ (by decide), h10] at hL2; cases hL2
  · rw [updB_self] at hL2; cases hL2
end
/-- What the last block's length is. -/
def lastN (l : List UInt8) (B : Nat) : Nat := (blk l B (cnt l.length B - 1)).length
theorem SC.rd9 {C : Cfg} {S : Sst} {w : World} (h : SC C S w) {sc : Nat} (hsc : sc = C.sc) {a b : Int} (ha : a = (C.l.length : Int)) (hb : b = (C.B : Int)) {v : Value} (hv : C.vs = v) : w.cell? ⟨sc, 2, none⟩ = some (.int .i64 a) ∧ w.cell? ⟨sc, 3, none⟩ = some (.int .i64 b) ∧ w.cell? ⟨sc, 5, none⟩ = some v := by
  subst hsc; subst ha; subst hb; subst hv
  exact ⟨h.blk.cell 2 rfl, h.blk.cell 3 rfl, h.blk.cell 5 rfl⟩
set_option maxRecDepth 100000 in
set_option maxHeartbeats 4000000 in
theorem last_spec (C : Cfg) (S : Sst) (w : World) (va : Option Addr) (vc : Nat) (hvs : C.vs = .slice va (cnt C.l.length C.B) vc) (hml : C.l.length ≤ 131072) (hB : isB C.B) (h : SC C S w) :
    Calls Try.prog 28 #[.pointer (some ⟨C.sc, 0, none⟩)] w fun e w' => e = .returned (.int .i64 (lastN C.l C.B : Int)) ∧ Fr (fun _ => False) w w' := by
  have hcn := Nat.le_trans (cnt_le C.l.length C.B hB) hml
  have HL0 := Lib.hid (show cnt C.l.length C.B = 0 → lastN C.l C.B = 0 from fun e => by
    unfold lastN; rw [blk_length]
    have : C.l.length = 0 := by unfold cnt at e; rcases hB with h | h | h <;> rw [h] at e <;> omega
    omega)
  have HL1 := Lib.hid (show 0 < cnt C.l.length C.B → (cnt C.l.length C.B - 1) * C.B ≤ min C.l.length ((cnt C.l.length C.B - 1 + 1) * C.B) ∧ lastN C.l C.B = min C.l.length ((cnt C.l.length C.B - 1 + 1) * C.B) - (cnt C.l.length C.B - 1) * C.B from fun e => blk_len C.l C.B (cnt C.l.length C.B - 1) hB (by omega))
  have HR := Lib.hid (fun i (hi : i < cnt C.l.length C.B) wx => range_in C.l.length C.B i hml hB hi wx)
  have HRO := Lib.hid (fun i hi wx => range_out C.l.length C.B i hml hB hi wx)
  have HML := Lib.hid hml
  generalize cnt C.l.length C.B = N at *
  obtain ⟨sc, hsc⟩ : ∃ sc, sc = C.sc := ⟨_, rfl⟩
  rw [← hsc]
  have HSC := Lib.hid hsc
  have HVS := Lib.hid hvs
  have HS := Lib.hid h
  obtain ⟨nl, hnl⟩ : ∃ nl, nl = (C.l.length : Int) := ⟨_, rfl⟩
  obtain ⟨nb, hnb⟩ : ∃ nb, nb = (C.B : Int) := ⟨_, rfl⟩
  rw [← hnl, ← hnb] at HR HRO
  have HNL := Lib.hid hnl
  have HNB := Lib.hid hnb
  have n1 : (N : Int) ≤ 131072 := by omega
  obtain ⟨y, hy⟩ : ∃ y, y = lastN C.l C.B := ⟨_, rfl⟩
  rw [← hy] at HL0 HL1 ⊢
  clear hcn hvs hml hB h hsc hnl hnb hy
  by_cases h0 : N = 0
  · have HRR := Lib.hid (HRO.out (-1) (.inl (by decide)))
    have hy0 := HL0.out h0
    subst hy0
    subst h0
    clear HR HRO HL0 HL1
    go_enter Try.func28, Try.ntmps28
    go_wp2_with (fail)
    have HSD := Lib.hid (HS.out.frF ((Fr.refl (fun _ => False) w).drew))
    go_region_held3 (fun w' => w'.cell? ⟨sc, 2, none⟩ = some (.int .i64 nl) ∧ w'.cell? ⟨sc, 3, none⟩ = some (.int .i64 nb) ∧ w'.cell? ⟨sc, 5, none⟩ = some (.slice va 0 vc))
      (exact HSD.out.rd9 HSC.out HNL.out HNB.out HVS.out)
      (first
        | (go_at_call 32; (refine (HRR.out _).mono ?_); rintro e w4 ⟨rfl, rfl⟩))
    go_wp2_with (fail)
    go_ret
    exact ⟨rfl, (Fr.refl (fun _ => False) w).drew⟩
  · obtain ⟨hle, hyv⟩ := HL1.out (by omega)
    have HRR := Lib.hid (HR.out (N - 1) (by omega))
    have hsub : ((N - 1 : Nat) : Int) = (N : Int) - 1 := by omega
    rw [hsub] at HRR
    obtain ⟨lo, hlo⟩ : ∃ lo, lo = (N - 1) * C.B := ⟨_, rfl⟩
    obtain ⟨hi, hhi⟩ : ∃ hi, hi = min C.l.length ((N - 1 + 1) * C.B) := ⟨_, rfl⟩
    rw [← hlo, ← hhi] at hle hyv HRR
    have hi9 : (hi : Int) ≤ 131072 := by have := HML.out; omega
    have lo1 : (lo : Int) + y = (hi : Int) := by omega
    have N1 : 1 ≤ (N : Int) := by omega
    clear HR HRO HL0 HL1 hle hyv hlo hhi hsub h0
    go_enter Try.func28, Try.ntmps28
    go_wp2_with (fail)
    have HSD := Lib.hid (HS.out.frF ((Fr.refl (fun _ => False) w).drew))
    have hw1 : IntKind.i64.wrap ((N : Int) - 1) = (N : Int) - 1 := IntWalk.i64_in _ (by omega)
    go_region_held3 (fun w' => w'.cell? ⟨sc, 2, none⟩ = some (.int .i64 nl) ∧ w'.cell? ⟨sc, 3, none⟩ = some (.int .i64 nb) ∧ w'.cell? ⟨sc, 5, none⟩ = some (.slice va N vc))
      (exact HSD.out.rd9 HSC.out HNL.out HNB.out HVS.out)
      (first
        | (go_at_call 32; (refine (HRR.out _).mono ?_); rintro e w4 ⟨rfl, rfl⟩)
        | fail)
    go_wp2_with (fail)
    go_ret
    rw [show (y : Int) = (hi : Int) - lo by omega]
    exact ⟨rfl, (Fr.refl (fun _ => False) w).drew⟩
end Go.Proofs.Ytphjebbjhfnhoaa
