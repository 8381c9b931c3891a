/- sig: front, the strong sums' lengths, Check. -/
import Derived.Test.YtphjebbjhfnhoaaSo
namespace Go.Proofs.Ytphjebbjhfnhoaa
open Go.RowKit
theorem marks_length (l : List UInt8) (B st : Nat) : ∀ N, (marks l B st N).length = 2 * N
  | 0 => rfl
  | N + 1 => by rw [marks_succ, List.length_append, marks_length l B st N]; simp [mkA]; omega
theorem marks_at (l : List UInt8) (B st : Nat) : ∀ (N i : Nat), i < N → (marks l B st N)[2 * i]? = some (.int .u32 (weak (blk l B i))) ∧ (marks l B st N)[2 * i + 1]? = some (.string (cutS (blk l B i) st))
  | 0, i, h => absurd h (Nat.not_lt_zero i)
  | N + 1, i, h => by
    rw [marks_succ]
    by_cases e : i = N
    · subst e
      rw [List.getElem?_append_right (by rw [marks_length]; omega), List.getElem?_append_right (by rw [marks_length]; omega), marks_length]
      rw [Nat.sub_self, show 2 * i + 1 - 2 * i = 1 by omega]
      exact ⟨rfl, rfl⟩
    · rw [List.getElem?_append_left (by rw [marks_length]; omega), List.getElem?_append_left (by rw [marks_length]; omega)]
      exact marks_at l B st N i (by omega)
theorem marks_one (l : List UInt8) (B st : Nat) : ∀ N, ∀ u ∈ marks l B st N, u.oneCell' = true
  | 0, u, h => by cases h
  | N + 1, u, h => by
    rw [marks_succ] at h
    rcases List.mem_append.1 h with h | h
    · exact marks_one l B st N u h
    · simp only [mkA, List.mem_cons, List.not_mem_nil, or_false] at h
      rcases h with rfl | rfl <;> rfl
/-- A slice as the source of an append. -/
theorem Sl.src {P : Program} {w : World} {tx e' e : TypeId} {sz : Nat} {v : Value} {n : Nat} {xs : List Value} (hk : P.underlying tx = some (.slice e')) (h : Sl w e sz v n xs) (h1 : ∀ u ∈ xs, u.oneCell' = true) : Src P sz tx v n xs w := by
  rcases h.2 with ⟨rfl, rfl⟩ | ⟨g, o, cap, cur, rfl, hb, _, _, _, hat⟩
  · have hx : xs = [] := List.eq_nil_of_length_eq_zero (by simpa using h.1)
    subst hx; exact Src.ofNil w hk 0
  · exact Src.ofSlice w hk ⟨g, o, none⟩ n cap xs h.1 (fun j u hj => by rw [Addr.add_mid]; exact hb.cell _ (hat j u hj)) h1
theorem cutS_size (l : List UInt8) (n : Nat) (h : n ≤ 32) : (cutS l n).size = n := by
  unfold cutS; rw [ByteArray.size_extract, shaL_size]; omega
/-- Where a mark lies. -/
theorem Sl.mark {w : World} {v : Value} {l : List UInt8} {B st N : Nat} (h : Sl w 59 2 v N (marks l B st N)) (i : Nat) (hi : i < N) :
    ∃ g o cap, v = .slice (some ⟨g, o, none⟩) N cap ∧ w.cell? ⟨g, o + i * 2, none⟩ = some (.int .u32 (weak (blk l B i))) ∧ w.cell? ⟨g, o + i * 2 + 1, none⟩ = some (.string (cutS (blk l B i) st)) := by
  obtain ⟨g, o, cap, cur, rfl, hb, _, _, _, hat⟩ := h.pos (by omega)
  obtain ⟨h1, h2⟩ := marks_at l B st N i hi
  rw [Nat.mul_comm] at h1 h2
  exact ⟨g, o, cap, rfl, hb.cell _ (hat _ _ h1), by rw [Nat.add_assoc]; exact hb.cell _ (hat _ _ h2)⟩
theorem front_spec (m B st : Nat) (v : Value) (hm : m ≤ 131072) (hB : isB B) (h1 : 1 ≤ st) (h2 : st ≤ 32) (w : World) :
    Calls Try.prog 48 #[.agg #[.int .i64 (m : Int), .int .i64 (B : Int), .int .i64 (st : Int), v]] w fun e w' => e = .returned (.int .i64 0) ∧ Fr (fun _ => False) w w' := by
  have HT := Lib.hid (fun wx => strong_spec st h1 h2 wx)
  have HR := Lib.hid (fun wx => right_spec m B hm hB wx)
  have HF := Lib.hid (fun o => (Fr.refl (fun _ => False) w).alloc o)
  clear h1 h2 hm hB
  go_enter Try.func48, Try.ntmps48
  go_wp2_with (first
    | (go_at_call 17; (refine (HT.out _).mono ?_); rintro e w2 ⟨rfl, rfl⟩)
    | (go_at_call 46; (refine (HR.out _).mono ?_); rintro e w2 ⟨rfl, rfl⟩)
    | fail)
  go_ret
  exact ⟨rfl, HF.out _⟩
theorem ck1_spec (x : Int) (s : ByteArray) (st b : Nat) (w : World) (hs : s.size = st) (m B : Int) (v : Value) (hb : Blk w b 27 #[.int .i64 m, .int .i64 B, .int .i64 (st : Int), v]) :
    Calls Try.prog 50 #[.agg #[.int .u32 x, .string s], .pointer (some ⟨b, 0, none⟩)] w fun e w' => e = .returned (.bool false) ∧ Fr (fun _ => False) w w' := by
  have HF := Lib.hid (fun o => (Fr.refl (fun _ => False) w).alloc o)
  have c2 := hb.cell 2 rfl
  have c2' := (hb.alloc (.cells #[.int .u32 x, .string s] 59)).cell 2 rfl
  have s1 : (s.size : Int) = (st : Int) := by omega
  have hlt := hb.lt
  clear hb hs
  go_enter Try.func50, Try.ntmps50
  go_wp2_with (fail)
  go_ret
  exact ⟨by simp, HF.out _⟩
set_option maxRecDepth 100000 in
set_option maxHeartbeats 4000000 in
theorem idx_spec (l : List UInt8) (B st N b : Nat) (mm BB : Int) (vv v : Value) (w : World) (hst : st ≤ 32) (hN : N ≤ 131072) (hv : Sl w 59 2 v N (marks l B st N)) (hb : Blk w b 27 #[.int .i64 mm, .int .i64 BB, .int .i64 (st : Int), vv]) :
    Calls Try.prog 59 #[v, .func (.func 50) #[] #[.pointer (some ⟨b, 0, none⟩)]] w fun e w' => e = .returned (.int .i64 (-1)) ∧ Fr (fun _ => False) w w' := by
  have HC := Lib.hid (fun x s wx (hs : s.size = st) hb => ck1_spec x s st b wx hs mm BB vv hb)
  have HSZ := Lib.hid (fun i => cutS_size (blk l B i) st hst)
  have HV := Lib.hid hv
  have HB := Lib.hid hb
  have n1 : (N : Int) ≤ 131072 := by omega
  obtain ⟨ad, cap, rfl, hcap, _⟩ := hv.slice
  have HF0 := Lib.hid (Fr.refl (fun _ => False) w)
  clear hv hb hst hN hcap
  go_enter Try.func59, Try.ntmps59
  go_wp2_with (fail)
  go_loopg [8] N (fun gk x8 wr => ∃ i : Nat, i ≤ N ∧ Hid (gk = N - i) ∧ x8 = .int .i64 i ∧ Hid (Fr (fun _ => False) w wr))
  case atStart => exact ⟨0, Nat.zero_le _, Lib.hid rfl, rfl, HF0⟩
  case round =>
    clear HF0
    obtain ⟨i, hi, HG, rfl, HF⟩ := hrel
    have i2 : (i : Int) ≤ 131072 := by omega
    by_cases hin : i < N
    · have i1 : (i : Int) < (N : Int) := by omega
      obtain ⟨g, o, cap', e, c1, c2⟩ := (HV.out.fr HF.out (fun _ _ x => x)).mark i hin
      cases e
      have HIN := Lib.hid hin
      clear hin hi
      have HCC := Lib.hid (HC.out (weak (blk l B i)) (cutS (blk l B i) st) wr (HSZ.out i) (HB.out.fr HF.out (fun x => x)))
      go_wp2_with (first
        | (go_at_call 50; (refine HCC.out.mono ?_); rintro e w2 ⟨rfl, hf⟩; have HF2 := Lib.hid (HF.out.trans hf (fun _ _ h => h)); clear hf)
        | fail)
      go_roundg (N - (i + 1))
      case measure => have := HG.out; have := HIN.out; omega
      case rel => exact ⟨i + 1, HIN.out, Lib.hid rfl, by go_num, HF2⟩
    · obtain rfl : i = N := by omega
      clear hin hi
      go_wp2_with (fail)
      go_ret
      exact ⟨rfl, HF.out⟩
theorem contains_spec (l : List UInt8) (B st N b : Nat) (mm BB : Int) (vv v : Value) (w : World) (hst : st ≤ 32) (hN : N ≤ 131072) (hv : Sl w 59 2 v N (marks l B st N)) (hb : Blk w b 27 #[.int .i64 mm, .int .i64 BB, .int .i64 (st : Int), vv]) :
    Calls Try.prog 49 #[v, .func (.func 50) #[] #[.pointer (some ⟨b, 0, none⟩)]] w fun e w' => e = .returned (.bool false) ∧ Fr (fun _ => False) w w' := by
  have HC := Lib.hid (idx_spec l B st N b mm BB vv v w hst hN hv hb)
  clear hst hN hv hb
  go_enter Try.func49, Try.ntmps49
  go_wp2_with (first
    | (go_at_call 59; (refine HC.out.mono ?_); rintro e w2 ⟨rfl, hf⟩; have HF2 := Lib.hid hf; clear hf)
    | fail)
  go_ret
  exact ⟨rfl, HF2.out⟩
set_option maxRecDepth 100000 in
set_option maxHeartbeats 4000000 in
theorem check_spec (l : List UInt8) (B st : Nat) (v : Value) (w : World) (hm : l.length ≤ 131072) (hB : isB B) (h1 : 1 ≤ st) (h2 : st ≤ 32) (hv : Sl w 59 2 v (cnt l.length B) (marks l B st (cnt l.length B))) :
    Calls Try.prog 35 #[.agg #[.int .i64 (l.length : Int), .int .i64 (B : Int), .int .i64 (st : Int), v]] w fun e w' => e = .returned (.int .i64 0) ∧ Fr (fun _ => False) w w' := by
  have HF := Lib.hid (fun wx => front_spec l.length B st v hm hB h1 h2 wx)
  have HC := Lib.hid (fun wx => count_spec l.length B hm hB wx)
  have hN := Nat.le_trans (cnt_le l.length B hB) hm
  have HX := Lib.hid (fun b wx hb hv => contains_spec l B st (cnt l.length B) b l.length B v v wx h2 hN hv hb)
  have HV := Lib.hid hv
  have HB := Lib.hid (Blk.new w 27 #[.int .i64 (l.length : Int), .int .i64 (B : Int), .int .i64 (st : Int), v])
  have HF0 := Lib.hid ((Fr.refl (fun _ => False) w).alloc (.cells #[.int .i64 (l.length : Int), .int .i64 (B : Int), .int .i64 (st : Int), v] 27))
  obtain ⟨ad, cap, rfl, _⟩ := hv.slice
  generalize cnt l.length B = N at *
  have n1 : (N : Int) ≤ 131072 := by omega
  generalize l.length = m at *
  clear hm hB h1 h2 hv hN
  go_enter Try.func35, Try.ntmps35
  go_wp2_with (first
    | (go_at_call 48; (refine (HF.out _).mono ?_); rintro e w2 ⟨rfl, hf⟩; have HF2 := Lib.hid (HF0.out.trans hf (fun _ _ h => h)); have HB2 := Lib.hid (HB.out.fr hf (fun x => x)); clear hf)
    | fail)
  have HBD := Lib.hid HB2.out.drew
  have HFD := Lib.hid HF2.out.drew
  have c0 := HBD.out.cell 0 rfl
  have c1 := HBD.out.cell 1 rfl
  have c3 := HBD.out.cell 3 rfl
  refine wp_region_still_tail 9 (by kernel_rfl) (by kernel_rfl) ?_
  simp only [List.take_succ_cons, List.take_zero, List.drop_succ_cons, List.drop_zero]
  change wpStill _ _ w2.drew (fun a' => wpList _ _ _ _ a' w2.drew) _ _
  generalize w2.drew = wx at HBD HFD c0 c1 c3 ⊢
  have R31 : Hid (Calls Try.prog 31 #[.int .i64 (m : Int), .int .i64 (B : Int)] wx fun e w' => e = .returned (.int .i64 (N : Int)) ∧ w' = wx) := Lib.hid ((HC.out wx).mono fun _ _ ⟨h1, h2⟩ => ⟨h1, h2.symm⟩)
  iterate 7 still_step
  still_call R31.out
  still_step
  refine wpStill_nil ?_
  clear R31
  go_wp2_with (first
    | (go_at_call 49; (refine (HX.out w.heap.size wx HBD.out (HV.out.fr HFD.out (fun _ _ x => x))).mono ?_); rintro e w3 ⟨rfl, hf⟩; have HF3 := Lib.hid hf; clear hf)
    | fail)
  go_ret
  exact ⟨rfl, HFD.out.trans HF3.out (fun _ _ h => h)⟩
end Go.Proofs.Ytphjebbjhfnhoaa
