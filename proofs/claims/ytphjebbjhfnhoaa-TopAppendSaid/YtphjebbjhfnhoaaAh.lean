/- delta: one op more (the joiner's first function, 43): a copy that goes on where the last one ends · delta: one op more (the joiner's first function, 43): all ways. -/
import Derived.Test.YtphjebbjhfnhoaaAd
import Derived.Test.YtphjebbjhfnhoaaAe
import Derived.Test.YtphjebbjhfnhoaaAf
namespace Go.Proofs.Ytphjebbjhfnhoaa
open Go.RowKit
set_option maxRecDepth 100000 in
set_option maxHeartbeats 8000000 in
theorem add_copy_run (jb h0 : Nat) (ov : Value) (I : List OpV) (p : OpV) (o : OpV) (w : World) (h : JN jb h0 ov (I ++ [p]) w) (hw : h0 ≤ w.heap.size) (ho : SlB w o.dv o.d) (hb : o.off + o.len ≤ 131072) (hO : (I ++ [p]).length ≤ 500000) (ht : toldS ((I ++ [p]).map OpV.p) + o.d.length ≤ 1000000) (hcase : o.d.length = 0 ∧ 0 < o.len) (hpc : p.d.length = 0) (hrc : p.off + p.len = o.off) :
    Calls Try.prog 43 #[.agg #[.int .i64 (o.off : Int), .int .i64 (o.len : Int), o.dv], .pointer (some ⟨jb, 0, none⟩)] w (AddG jb h0 (I ++ [p]) o w) := by
  obtain ⟨ad, cap, hdv, _, _⟩ := Sl.slice ho
  obtain ⟨n, hn⟩ : ∃ n, n = o.d.length := ⟨_, rfl⟩
  rw [← hn] at hdv hcase
  have hn6 : n ≤ 1000000 := by omega
  have HLS := Lib.hid (fun wx => length_spec (o.off : Int) o.len ad n cap wx hn6 (by omega))
  have HTO := Lib.hid (fun wx => told_spec (o.off : Int) (o.len : Int) ad n cap wx hn6)
  rw [hdv] at ho
  have HW := Lib.hid (show AW jb h0 ov (I ++ [p]) (.slice ad n cap) o.d (.int .i64 (o.off : Int)) (.int .i64 (o.len : Int)) (.slice ad n cap) w (w.alloc (.cells #[.int .i64 (o.off : Int), .int .i64 (o.len : Int), .slice ad n cap] 48)) from by
    have f : Fr (fun _ => False) w (w.alloc (.cells #[.int .i64 (o.off : Int), .int .i64 (o.len : Int), .slice ad n cap] 48)) := (Fr.refl (fun _ => False) w).alloc _
    exact ⟨h, Blk.new w 48 _, Sl.fr ho f (fun _ _ x => x), f⟩)
  have HDV := Lib.hid hdv
  have HN := Lib.hid hn
  have HB := Lib.hid hb
  have HO := Lib.hid hO
  have HHW := Lib.hid hw
  have HT := Lib.hid ht
  obtain ⟨on, hon⟩ : ∃ on, on = (I ++ [p]).length := ⟨_, rfl⟩
  have HON := Lib.hid hon
  obtain ⟨off, hoff⟩ : ∃ off, off = o.off := ⟨_, rfl⟩
  obtain ⟨len, hlen⟩ : ∃ len, len = o.len := ⟨_, rfl⟩
  try rw [← hlen] at hcase
  rw [← hoff, ← hlen] at HLS HTO HW
  rw [← hoff, ← hlen, hdv]
  have HOFF := Lib.hid hoff
  have HLEN := Lib.hid hlen
  have HC := Lib.hid hcase
  have b1 : (off : Int) + (len : Int) ≤ 131072 := by omega
  have b2 : (on : Int) ≤ 500000 := by omega
  have b3 : (n : Int) ≤ 1000000 := by omega
  obtain ⟨ki, hki⟩ : ∃ ki, ki = I.length := ⟨_, rfl⟩
  have honk : on = ki + 1 := by rw [hon, hki, List.length_append]; rfl
  have HKI := Lib.hid hki
  have e1 : IntKind.i64.wrap ((on : Int) - 1) = (ki : Int) := by rw [IntWalk.i64_in _ (by omega)]; omega
  have e2 : (ki : Int) < (on : Int) := by omega
  have e3 : (0 : Int) ≤ (ki : Int) := by omega
  obtain ⟨g, oo, oc, cur, hov, _, _, _, _, _⟩ := h.ops.pos (by rw [← hon]; omega)
  rw [← hon] at hov
  subst hov
  have pin : p ∈ I ++ [p] := List.mem_append.2 (.inr (List.mem_singleton.2 rfl))
  obtain ⟨pa, pc, hpv, _, _⟩ := Sl.slice (h.dat p pin)
  obtain ⟨pn, hpn⟩ : ∃ pn, pn = p.d.length := ⟨_, rfl⟩
  rw [← hpn] at hpv
  have hpb := h.bd p pin
  have HPB := Lib.hid hpb
  have hpn6 : pn ≤ 1000000 := by
    rw [List.map_append, toldS_append] at ht
    have : toldS ([p].map OpV.p) = p.d.length := toldS_one p.p
    omega
  obtain ⟨po, hpo⟩ : ∃ po, po = p.off := ⟨_, rfl⟩
  obtain ⟨pl, hpl⟩ : ∃ pl, pl = p.len := ⟨_, rfl⟩
  have HTP := Lib.hid (fun wx => told_spec (po : Int) (pl : Int) pa pn pc wx hpn6)
  have HPV := Lib.hid hpv
  have HPN := Lib.hid hpn
  have HPO := Lib.hid hpo
  have HPL := Lib.hid hpl
  have HP := Lib.hid hpc
  have HR := Lib.hid hrc
  have b4 : (po : Int) + (pl : Int) ≤ 131072 := by omega
  have b5 : (pn : Int) ≤ 1000000 := by omega
  have n0 : n = 0 := HC.out.1
  subst n0
  rw [show lenV 0 len = len from if_neg (Nat.lt_irrefl 0)] at HLS
  rw [decide_eq_false (Nat.lt_irrefl 0)] at HTO
  have HLP := Lib.hid HC.out.2
  have l1 : (0 : Int) < (len : Int) := by have := HC.out.2; omega
  have l2 : (len : Int) ≤ 131072 := by omega
  have HOP := Lib.hid (show OpV.p ⟨off, len, .slice ad 0 cap, o.d⟩ = o.p from by
    show (off, len, o.d) = (o.off, o.len, o.d)
    rw [HOFF.out, HLEN.out])
  have HOB := Lib.hid (show off + len ≤ 131072 from by rw [HOFF.out, HLEN.out]; exact HB.out)
  clear HC b3
  clear hrc hpv hpn hpb hpo hpl honk hki pin hpc
  clear h ho hb hO ht hw hdv hn hn6 hon hoff hlen
  have pn0 : pn = 0 := HPN.out.trans HP.out
  subst pn0
  rw [decide_eq_false (Nat.lt_irrefl 0)] at HTP
  have s1 : IntKind.i64.wrap ((131072 : Int) - (po : Int)) = 131072 - (po : Int) := IntWalk.i64_in _ (by omega)
  have s2 : IntKind.i64.wrap ((po : Int) + (pl : Int)) = (po : Int) + (pl : Int) := IntWalk.i64_in _ (by omega)
  have s3 : (po : Int) ≤ 131072 := by omega
  have s4 : (pl : Int) ≤ 131072 - (po : Int) := by omega
  have s5 : (0 : Int) ≤ (po : Int) := by omega
  have s6 : (po : Int) + (pl : Int) = (off : Int) := by have := HR.out; have := HPO.out; have := HPL.out; have := HOFF.out; omega
  have s8 : IntKind.i64.wrap (off : Int) = (off : Int) := IntWalk.i64_in _ (by omega)
  go_enter Try.func43, Try.ntmps43
  go_upto_region 4 with (first
    | (go_at_call 15; (refine (HLS.out _).mono ?_); rintro e w2 ⟨rfl, hf⟩; replace HW := Lib.hid (HW.out.frF hf); obtain ⟨c0, c1, c2, cj, f0, f1, f2, fj⟩ := HW.out.cells; clear hf)
    | (go_at_call 14; (refine (HTO.out _).mono ?_); rintro e w3 ⟨rfl, hf⟩; replace HW := Lib.hid (HW.out.frF hf); obtain ⟨c0, c1, c2, cj, f0, f1, f2, fj⟩ := HW.out.cells; clear hf)
    | fail)
  obtain ⟨_, _, _, d0, d1, d2⟩ := HW.out.rd9 HON.out HKI.out HPO.out HPL.out HPV.out
  go_upto_region 9 with (first
    | (go_at_call 14; (refine (HTP.out _).mono ?_); rintro e w6 ⟨rfl, hf⟩; replace HW := Lib.hid (HW.out.frF hf); obtain ⟨c0, c1, c2, d0, d1, d2⟩ := HW.out.rd9 HON.out HKI.out HPO.out HPL.out HPV.out; clear hf)
    | fail)
  replace HW := Lib.hid (HW.out.frF ((Fr.refl (fun _ => False) _).drew))
  clear c0 c1 c2 d0 d1 d2
  refine wp_region_held_drew (S := (fun w' => w'.cell? ⟨w.heap.size, 0, none⟩ = some (.int .i64 (off : Int)) ∧ w'.cell? ⟨w.heap.size, 1, none⟩ = some (.int .i64 (len : Int)) ∧ w'.cell? ⟨w.heap.size, 2, none⟩ = some (.slice ad 0 cap) ∧
      w'.cell? ⟨g, oo + ki * 3, none⟩ = some (.int .i64 (po : Int)) ∧ w'.cell? ⟨g, oo + ki * 3 + 1, none⟩ = some (.int .i64 (pl : Int)) ∧ w'.cell? ⟨g, oo + ki * 3 + 2, none⟩ = some (.slice pa 0 pc))) (by kernel_rfl) (HW.out.rd9 HON.out HKI.out HPO.out HPL.out HPV.out) (fun hHeld => ?_)
  refine wpAnyH_take (i := 0) (oi := _) (v := ?_) rfl (by kernel_rfl) (by kernel_rfl) (by kernel_rfl) (fun _ _ _ h => h) (Or.inl ⟨by rfl, ?_⟩) (by assumption) ?_
  rotate_left
  · intro w hSw; (try dsimp only at hSw); go_simp; try with_reducible rfl
  try go_simp
  refine wpAnyH_take (i := 1) (oi := _) (v := ?_) rfl (by kernel_rfl) (by kernel_rfl) (by kernel_rfl) (fun _ _ _ h => h) (Or.inl ⟨by rfl, ?_⟩) (by assumption) ?_
  rotate_left
  · intro w hSw; (try dsimp only at hSw); go_simp; try with_reducible rfl
  try go_simp
  refine wpAnyH_take (i := 2) (oi := _) (v := ?_) rfl (by kernel_rfl) (by kernel_rfl) (by kernel_rfl) (fun _ _ _ h => h) (Or.inl ⟨by rfl, ?_⟩) (by assumption) ?_
  rotate_left
  · intro w hSw; (try dsimp only at hSw); go_simp; try with_reducible rfl
  try go_simp
  refine wpAnyH_ready (rs := [3]) (by kernel_rfl) (by simp) ?_
  refine AllReadyH.cons (o := _) rfl (fun K hK => ?_) AllReadyH.nil
  go_simp
  go_at_call 14
  refine (HTP.out _).mono ?_
  rintro e w7 ⟨rfl, hf⟩
  replace HW := Lib.hid (HW.out.frF hf)
  clear hf
  refine hK.out _ _ (HW.out.rd9 HON.out HKI.out HPO.out HPL.out HPV.out) (fun hHeld => ?_)
  clear hK K
  try go_simp
  refine wpAnyH_take (i := 4) (oi := _) (v := ?_) rfl (by kernel_rfl) (by kernel_rfl) (by kernel_rfl) (fun _ _ _ h => h) (Or.inl ⟨by rfl, ?_⟩) (by assumption) ?_
  rotate_left
  · intro w hSw; (try dsimp only at hSw); go_simp; try with_reducible rfl
  try go_simp
  refine wpAnyH_take (i := 5) (oi := _) (v := ?_) rfl (by kernel_rfl) (by kernel_rfl) (by kernel_rfl) (fun _ _ _ h => h) (Or.inl ⟨by rfl, ?_⟩) (by assumption) ?_
  rotate_left
  · intro w hSw; (try dsimp only at hSw); go_simp; try with_reducible rfl
  try go_simp
  refine wpAnyH_take (i := 6) (oi := _) (v := ?_) rfl (by kernel_rfl) (by kernel_rfl) (by kernel_rfl) (fun _ _ _ h => h) (Or.inl ⟨by rfl, ?_⟩) (by assumption) ?_
  rotate_left
  · intro w hSw; (try dsimp only at hSw); go_simp; try with_reducible rfl
  try go_simp
  refine wpAnyH_ready (rs := [7]) (by kernel_rfl) (by simp) ?_
  refine AllReadyH.cons (o := _) rfl (fun K hK => ?_) AllReadyH.nil
  go_simp
  go_at_call 14
  refine (HTO.out _).mono ?_
  rintro e w8 ⟨rfl, hf⟩
  replace HW := Lib.hid (HW.out.frF hf)
  clear hf
  refine hK.out _ _ (HW.out.rd9 HON.out HKI.out HPO.out HPL.out HPV.out) (fun hHeld => ?_)
  clear hK K
  try go_simp
  refine wpAnyH_take (i := 8) (oi := _) (v := ?_) rfl (by kernel_rfl) (by kernel_rfl) (by kernel_rfl) (fun _ _ _ h => h) (Or.inl ⟨by rfl, ?_⟩) (by assumption) ?_
  rotate_left
  · intro w hSw; (try dsimp only at hSw); go_simp; try with_reducible rfl
  try go_simp
  refine wpAnyH_take (i := 9) (oi := _) (v := ?_) rfl (by kernel_rfl) (by kernel_rfl) (by kernel_rfl) (fun _ _ _ h => h) (Or.inl ⟨by rfl, ?_⟩) (by assumption) ?_
  rotate_left
  · intro w hSw; (try dsimp only at hSw); go_simp; try with_reducible rfl
  try go_simp
  refine wpAnyH_take (i := 10) (oi := _) (v := ?_) rfl (by kernel_rfl) (by kernel_rfl) (by kernel_rfl) (fun _ _ _ h => h) (Or.inl ⟨by rfl, ?_⟩) (by assumption) ?_
  rotate_left
  · intro w hSw; (try dsimp only at hSw); go_simp; try with_reducible rfl
  try go_simp
  refine wpAnyH_take (i := 11) (oi := _) (v := ?_) rfl (by kernel_rfl) (by kernel_rfl) (by kernel_rfl) (fun _ _ _ h => h) (Or.inl ⟨by rfl, ?_⟩) (by assumption) ?_
  rotate_left
  · intro w hSw; (try dsimp only at hSw); go_simp; try with_reducible rfl
  try go_simp
  refine wpAnyH_take (i := 12) (oi := _) (v := ?_) rfl (by kernel_rfl) (by kernel_rfl) (by kernel_rfl) (fun _ _ _ h => h) (Or.inl ⟨by rfl, ?_⟩) (by assumption) ?_
  rotate_left
  · intro w hSw; (try dsimp only at hSw); go_simp; try with_reducible rfl
  try go_simp
  refine wpAnyH_take (i := 13) (oi := _) (v := ?_) rfl (by kernel_rfl) (by kernel_rfl) (by kernel_rfl) (fun _ _ _ h => h) (Or.inl ⟨by rfl, ?_⟩) (by assumption) ?_
  rotate_left
  · intro w hSw; (try dsimp only at hSw); go_simp; try with_reducible rfl
  try go_simp
  refine wpAnyH_take (i := 14) (oi := _) (v := ?_) rfl (by kernel_rfl) (by kernel_rfl) (by kernel_rfl) (fun _ _ _ h => h) (Or.inl ⟨by rfl, ?_⟩) (by assumption) ?_
  rotate_left
  · intro w hSw; (try dsimp only at hSw); go_simp; try with_reducible rfl
  try go_simp
  refine wpAnyH_take (i := 15) (oi := _) (v := ?_) rfl (by kernel_rfl) (by kernel_rfl) (by kernel_rfl) (fun _ _ _ h => h) (Or.inl ⟨by rfl, ?_⟩) (by assumption) ?_
  rotate_left
  · intro w hSw; (try dsimp only at hSw); go_simp; try with_reducible rfl
  try go_simp
  refine wpAnyH_take (i := 16) (oi := _) (v := ?_) rfl (by kernel_rfl) (by kernel_rfl) (by kernel_rfl) (fun _ _ _ h => h) (Or.inl ⟨by rfl, ?_⟩) (by assumption) ?_
  rotate_left
  · intro w hSw; (try dsimp only at hSw); go_simp; try with_reducible rfl
  try go_simp
  refine wpAnyH_take (i := 17) (oi := _) (v := ?_) rfl (by kernel_rfl) (by kernel_rfl) (by kernel_rfl) (fun _ _ _ h => h) (Or.inl ⟨by rfl, ?_⟩) (by assumption) ?_
  rotate_left
  · intro w hSw; (try dsimp only at hSw); go_simp; try with_reducible rfl
  try go_simp
  refine wpAnyH_take (i := 18) (oi := _) (v := ?_) rfl (by kernel_rfl) (by kernel_rfl) (by kernel_rfl) (fun _ _ _ h => h) (Or.inl ⟨by rfl, ?_⟩) (by assumption) ?_
  rotate_left
  · intro w hSw; (try dsimp only at hSw); go_simp; try with_reducible rfl
  try go_simp
  refine wpAnyH_take (i := 19) (oi := _) (v := ?_) rfl (by kernel_rfl) (by kernel_rfl) (by kernel_rfl) (fun _ _ _ h => h) (Or.inl ⟨by rfl, ?_⟩) (by assumption) ?_
  rotate_left
  · intro w hSw; (try dsimp only at hSw); go_simp; try with_reducible rfl
  try go_simp
  refine wpAnyH_take (i := 20) (oi := _) (v := ?_) rfl (by kernel_rfl) (by kernel_rfl) (by kernel_rfl) (fun _ _ _ h => h) (Or.inl ⟨by rfl, ?_⟩) (by assumption) ?_
  rotate_left
  · intro w hSw; (try dsimp only at hSw); go_simp; try with_reducible rfl
  try go_simp
  refine wpAnyH_take (i := 21) (oi := _) (v := ?_) rfl (by kernel_rfl) (by kernel_rfl) (by kernel_rfl) (fun _ _ _ h => h) (Or.inl ⟨by rfl, ?_⟩) (by assumption) ?_
  rotate_left
  · intro w hSw; (try dsimp only at hSw); go_simp; try with_reducible rfl
  try go_simp
  refine wpAnyH_take (i := 22) (oi := _) (v := ?_) rfl (by kernel_rfl) (by kernel_rfl) (by kernel_rfl) (fun _ _ _ h => h) (Or.inl ⟨by rfl, ?_⟩) (by assumption) ?_
  rotate_left
  · intro w hSw; (try dsimp only at hSw); go_simp; try with_reducible rfl
  try go_simp
  refine wpAnyH_take (i := 23) (oi := _) (v := ?_) rfl (by kernel_rfl) (by kernel_rfl) (by kernel_rfl) (fun _ _ _ h => h) (Or.inl ⟨by rfl, ?_⟩) (by assumption) ?_
  rotate_left
  · intro w hSw; (try dsimp only at hSw); go_simp; try with_reducible rfl
  try go_simp
  refine wpAnyH_take (i := 24) (oi := _) (v := ?_) rfl (by kernel_rfl) (by kernel_rfl) (by kernel_rfl) (fun _ _ _ h => h) (Or.inl ⟨by rfl, ?_⟩) (by assumption) ?_
  rotate_left
  · intro w hSw; (try dsimp only at hSw); go_simp; try with_reducible rfl
  try go_simp
  refine wpAnyH_take (i := 25) (oi := _) (v := ?_) rfl (by kernel_rfl) (by kernel_rfl) (by kernel_rfl) (fun _ _ _ h => h) (Or.inl ⟨by rfl, ?_⟩) (by assumption) ?_
  rotate_left
  · intro w hSw; (try dsimp only at hSw); go_simp; try with_reducible rfl
  try go_simp
  refine wpAnyH_take (i := 26) (oi := _) (v := ?_) rfl (by kernel_rfl) (by kernel_rfl) (by kernel_rfl) (fun _ _ _ h => h) (Or.inl ⟨by rfl, ?_⟩) (by assumption) ?_
  rotate_left
  · intro w hSw; (try dsimp only at hSw); go_simp; try with_reducible rfl
  try go_simp
  refine wpAnyH_take (i := 27) (oi := _) (v := ?_) rfl (by kernel_rfl) (by kernel_rfl) (by kernel_rfl) (fun _ _ _ h => h) (Or.inl ⟨by rfl, ?_⟩) (by assumption) ?_
  rotate_left
  · intro w hSw; (try dsimp only at hSw); go_simp; try with_reducible rfl
  try go_simp
  refine wpAnyH_take (i := 28) (oi := _) (v := ?_) rfl (by kernel_rfl) (by kernel_rfl) (by kernel_rfl) (fun _ _ _ h => h) (Or.inl ⟨by rfl, ?_⟩) (by assumption) ?_
  rotate_left
  · intro w hSw; (try dsimp only at hSw); go_simp; try with_reducible rfl
  try go_simp
  refine wpAnyH_take (i := 29) (oi := _) (v := ?_) rfl (by kernel_rfl) (by kernel_rfl) (by kernel_rfl) (fun _ _ _ h => h) (Or.inl ⟨by rfl, ?_⟩) (by assumption) ?_
  rotate_left
  · intro w hSw; (try dsimp only at hSw); go_simp; try with_reducible rfl
  try go_simp
  refine wpAnyH_take (i := 30) (oi := _) (v := ?_) rfl (by kernel_rfl) (by kernel_rfl) (by kernel_rfl) (fun _ _ _ h => h) (Or.inl ⟨by rfl, ?_⟩) (by assumption) ?_
  rotate_left
  · intro w hSw; (try dsimp only at hSw); go_simp; try with_reducible rfl
  try go_simp
  refine wpAnyH_take (i := 31) (oi := _) (v := ?_) rfl (by kernel_rfl) (by kernel_rfl) (by kernel_rfl) (fun _ _ _ h => h) (Or.inl ⟨by rfl, ?_⟩) (by assumption) ?_
  rotate_left
  · intro w hSw; (try dsimp only at hSw); go_simp; try with_reducible rfl
  try go_simp
  refine wpAnyH_take (i := 32) (oi := _) (v := ?_) rfl (by kernel_rfl) (by kernel_rfl) (by kernel_rfl) (fun _ _ _ h => h) (Or.inl ⟨by rfl, ?_⟩) (by assumption) ?_
  rotate_left
  · intro w hSw; (try dsimp only at hSw); go_simp; try with_reducible rfl
  try go_simp
  refine wpAnyH_take (i := 33) (oi := _) (v := ?_) rfl (by kernel_rfl) (by kernel_rfl) (by kernel_rfl) (fun _ _ _ h => h) (Or.inl ⟨by rfl, ?_⟩) (by assumption) ?_
  rotate_left
  · intro w hSw; (try dsimp only at hSw); go_simp; try with_reducible rfl
  try go_simp
  refine wpAnyH_take (i := 34) (oi := _) (v := ?_) rfl (by kernel_rfl) (by kernel_rfl) (by kernel_rfl) (fun _ _ _ h => h) (Or.inl ⟨by rfl, ?_⟩) (by assumption) ?_
  rotate_left
  · intro w hSw; (try dsimp only at hSw); go_simp; try with_reducible rfl
  try go_simp
  refine wpAnyH_take (i := 35) (oi := _) (v := ?_) rfl (by kernel_rfl) (by kernel_rfl) (by kernel_rfl) (fun _ _ _ h => h) (Or.inl ⟨by rfl, ?_⟩) (by assumption) ?_
  rotate_left
  · intro w hSw; (try dsimp only at hSw); go_simp; try with_reducible rfl
  try go_simp
  refine wpAnyH_take (i := 36) (oi := _) (v := ?_) rfl (by kernel_rfl) (by kernel_rfl) (by kernel_rfl) (fun _ _ _ h => h) (Or.inl ⟨by rfl, ?_⟩) (by assumption) ?_
  rotate_left
  · intro w hSw; (try dsimp only at hSw); go_simp; try with_reducible rfl
  try go_simp
  refine wpAnyH_take (i := 37) (oi := _) (v := ?_) rfl (by kernel_rfl) (by kernel_rfl) (by kernel_rfl) (fun _ _ _ h => h) (Or.inl ⟨by rfl, ?_⟩) (by assumption) ?_
  rotate_left
  · intro w hSw; (try dsimp only at hSw); go_simp; try with_reducible rfl
  try go_simp
  refine wpAnyH_take (i := 38) (oi := _) (v := ?_) rfl (by kernel_rfl) (by kernel_rfl) (by kernel_rfl) (fun _ _ _ h => h) (Or.inl ⟨by rfl, ?_⟩) (by assumption) ?_
  rotate_left
  · intro w hSw; (try dsimp only at hSw); go_simp; try with_reducible rfl
  try go_simp
  refine wpAnyH_take (i := 39) (oi := _) (v := ?_) rfl (by kernel_rfl) (by kernel_rfl) (by kernel_rfl) (fun _ _ _ h => h) (Or.inl ⟨by rfl, ?_⟩) (by assumption) ?_
  rotate_left
  · intro w hSw; (try dsimp only at hSw); go_simp; try with_reducible rfl
  try go_simp
  refine wpAnyH_take (i := 40) (oi := _) (v := ?_) rfl (by kernel_rfl) (by kernel_rfl) (by kernel_rfl) (fun _ _ _ h => h) (Or.inl ⟨by rfl, ?_⟩) (by assumption) ?_
  rotate_left
  · intro w hSw; (try dsimp only at hSw); go_simp; try with_reducible rfl
  try go_simp
  refine wpAnyH_take (i := 41) (oi := _) (v := ?_) rfl (by kernel_rfl) (by kernel_rfl) (by kernel_rfl) (fun _ _ _ h => h) (Or.inl ⟨by rfl, ?_⟩) (by assumption) ?_
  rotate_left
  · intro w hSw; (try dsimp only at hSw); go_simp; try with_reducible rfl
  try go_simp
  refine wpAnyH_take (i := 42) (oi := _) (v := ?_) rfl (by kernel_rfl) (by kernel_rfl) (by kernel_rfl) (fun _ _ _ h => h) (Or.inl ⟨by rfl, ?_⟩) (by assumption) ?_
  rotate_left
  · intro w hSw; (try dsimp only at hSw); go_simp; try with_reducible rfl
  try go_simp
  refine wpAnyH_take (i := 43) (oi := _) (v := ?_) rfl (by kernel_rfl) (by kernel_rfl) (by kernel_rfl) (fun _ _ _ h => h) (Or.inl ⟨by rfl, ?_⟩) (by assumption) ?_
  rotate_left
  · intro w hSw; (try dsimp only at hSw); go_simp; try with_reducible rfl
  try go_simp
  refine wpAnyH_take (i := 44) (oi := _) (v := ?_) rfl (by kernel_rfl) (by kernel_rfl) (by kernel_rfl) (fun _ _ _ h => h) (Or.inl ⟨by rfl, ?_⟩) (by assumption) ?_
  rotate_left
  · intro w hSw; (try dsimp only at hSw); go_simp; try with_reducible rfl
  try go_simp
  refine wpAnyH_take (i := 45) (oi := _) (v := ?_) rfl (by kernel_rfl) (by kernel_rfl) (by kernel_rfl) (fun _ _ _ h => h) (Or.inl ⟨by rfl, ?_⟩) (by assumption) ?_
  rotate_left
  · intro w hSw; (try dsimp only at hSw); go_simp; try with_reducible rfl
  try go_simp
  refine wpAnyH_take (i := 46) (oi := _) (v := ?_) rfl (by kernel_rfl) (by kernel_rfl) (by kernel_rfl) (fun _ _ _ h => h) (Or.inl ⟨by rfl, ?_⟩) (by assumption) ?_
  rotate_left
  · intro w hSw; (try dsimp only at hSw); go_simp; try with_reducible rfl
  try go_simp
  refine wpAnyH_take (i := 47) (oi := _) (v := ?_) rfl (by kernel_rfl) (by kernel_rfl) (by kernel_rfl) (fun _ _ _ h => h) (Or.inl ⟨by rfl, ?_⟩) (by assumption) ?_
  rotate_left
  · intro w hSw; (try dsimp only at hSw); go_simp; try with_reducible rfl
  try go_simp
  refine wpAnyH_take (i := 48) (oi := _) (v := ?_) rfl (by kernel_rfl) (by kernel_rfl) (by kernel_rfl) (fun _ _ _ h => h) (Or.inl ⟨by rfl, ?_⟩) (by assumption) ?_
  rotate_left
  · intro w hSw; (try dsimp only at hSw); go_simp; try with_reducible rfl
  try go_simp
  refine wpAnyH_take (i := 49) (oi := _) (v := ?_) rfl (by kernel_rfl) (by kernel_rfl) (by kernel_rfl) (fun _ _ _ h => h) (Or.inl ⟨by rfl, ?_⟩) (by assumption) ?_
  rotate_left
  · intro w hSw; (try dsimp only at hSw); go_simp; try with_reducible rfl
  try go_simp
  refine wpAnyH_take (i := 50) (oi := _) (v := ?_) rfl (by kernel_rfl) (by kernel_rfl) (by kernel_rfl) (fun _ _ _ h => h) (Or.inl ⟨by rfl, ?_⟩) (by assumption) ?_
  rotate_left
  · intro w hSw; (try dsimp only at hSw); go_simp; try with_reducible rfl
  try go_simp
  refine wpAnyH_take (i := 51) (oi := _) (v := ?_) rfl (by kernel_rfl) (by kernel_rfl) (by kernel_rfl) (fun _ _ _ h => h) (Or.inl ⟨by rfl, ?_⟩) (by assumption) ?_
  rotate_left
  · intro w hSw; (try dsimp only at hSw); go_simp; try with_reducible rfl
  try go_simp
  refine wpAnyH_take (i := 52) (oi := _) (v := ?_) rfl (by kernel_rfl) (by kernel_rfl) (by kernel_rfl) (fun _ _ _ h => h) (Or.inl ⟨by rfl, ?_⟩) (by assumption) ?_
  rotate_left
  · intro w hSw; (try dsimp only at hSw); go_simp; try with_reducible rfl
  try go_simp
  refine wpAnyH_take (i := 53) (oi := _) (v := ?_) rfl (by kernel_rfl) (by kernel_rfl) (by kernel_rfl) (fun _ _ _ h => h) (Or.inl ⟨by rfl, ?_⟩) (by assumption) ?_
  rotate_left
  · intro w hSw; (try dsimp only at hSw); go_simp; try with_reducible rfl
  try go_simp
  refine wpAnyH_take (i := 54) (oi := _) (v := ?_) rfl (by kernel_rfl) (by kernel_rfl) (by kernel_rfl) (fun _ _ _ h => h) (Or.inl ⟨by rfl, ?_⟩) (by assumption) ?_
  rotate_left
  · intro w hSw; (try dsimp only at hSw); go_simp; try with_reducible rfl
  try go_simp
  refine wpAnyH_done (by kernel_rfl) ?_ _
  go_upto_region 10 with (fail)
  refine wp_region_still_tail 7 (by kernel_rfl) (by kernel_rfl) ?_
  simp only [List.take_succ_cons, List.take_zero, List.drop_succ_cons, List.drop_zero]
  change wpStill _ _ w8.drew (fun a' => wpList _ _ _ _ a' w8.drew) _ _
  replace HW := Lib.hid (HW.out.frF ((Fr.refl (fun _ => False) w8).drew))
  obtain ⟨c0, c1, c2, d0, d1, d2⟩ := HW.out.rd9 HON.out HKI.out HPO.out HPL.out HPV.out
  have hs9 := HW.out.jn.ops
  rw [← HON.out] at hs9
  obtain ⟨f91, _, _, _⟩ := hs9.opF HKI.out
  clear hs9
  generalize w8.drew = wx at HW c0 c1 c2 d0 d1 d2 f91 ⊢
  have s7 : IntKind.i64.wrap ((pl : Int) + (len : Int)) = (pl : Int) + (len : Int) := IntWalk.i64_in _ (by omega)
  clear s1 s2 s3 s4 s6
  iterate 7 still_step
  refine wpStill_nil ?_
  go_wp2_with (fail)
  go_end0
  have hj := HW.out.jn
  rw [HON.out] at hj
  have hpc := HP.out
  obtain ⟨x, y⟩ := hj.run (p := p) (List.eq_nil_of_length_eq_zero hpc) len (by have := HR.out; have := HOFF.out; have := HOB.out; omega)
  rw [← HKI.out, ← Nat.add_assoc, ← HPL.out, Int.natCast_add] at x y
  refine ⟨_, _, rfl, ?_, x, by simp, (HW.out.fr.mono (fun _ _ x => x.elim)).trans y (fun _ _ x => x)⟩
  rw [List.map_append, List.map_append]
  have h9 := AddR.run (O := I.map OpV.p ++ [p].map OpV.p) (o := o.p) (I.map OpV.p) p.p rfl (List.eq_nil_of_length_eq_zero hpc) (List.eq_nil_of_length_eq_zero HN.out.symm) HR.out
  rw [show o.p.2.1 = len from HLEN.out.symm, show p.p.2.1 = pl from HPL.out.symm] at h9
  exact h9
end Go.Proofs.Ytphjebbjhfnhoaa

namespace Go.Proofs.Ytphjebbjhfnhoaa
open Go.RowKit
theorem add_spec (jb h0 : Nat) (ov : Value) (O : List OpV) (o : OpV) (w : World) (h : JN jb h0 ov O w) (hw : h0 ≤ w.heap.size) (ho : SlB w o.dv o.d) (hb : o.off + o.len ≤ 131072) (hO : O.length ≤ 500000) (ht : toldS (O.map OpV.p) + o.d.length ≤ 1000000) :
    Calls Try.prog 43 #[.agg #[.int .i64 (o.off : Int), .int .i64 (o.len : Int), o.dv], .pointer (some ⟨jb, 0, none⟩)] w (AddG jb h0 O o w) := by
  by_cases h0 : lenV o.d.length o.len = 0
  · exact add_zero jb _ ov O o w h hw ho hb hO ht h0
  rcases List.eq_nil_or_concat O with rfl | ⟨I, p, rfl⟩
  · by_cases hd : 0 < o.d.length
    · exact add_told_nil jb _ ov o w h hw ho hb hO ht hd
    · exact add_copy_nil jb _ ov o w h hw ho hb hO ht ⟨by omega, by unfold lenV at h0; rw [if_neg hd] at h0; omega⟩
  · rw [List.concat_eq_append] at *
    by_cases hd : 0 < o.d.length
    · by_cases hp : 0 < p.d.length
      · exact add_join jb _ ov I p o w h hw ho hb hO ht hd hp
      · exact add_told_copy jb _ ov I p o w h hw ho hb hO ht hd (by omega)
    · have hc : o.d.length = 0 ∧ 0 < o.len := ⟨by omega, by unfold lenV at h0; rw [if_neg hd] at h0; omega⟩
      by_cases hp : 0 < p.d.length
      · exact add_copy_told jb _ ov I p o w h hw ho hb hO ht hc hp
      · by_cases hr : p.off + p.len = o.off
        · exact add_copy_run jb _ ov I p o w h hw ho hb hO ht hc (by omega) hr
        · exact add_copy_far jb _ ov I p o w h hw ho hb hO ht hc (by omega) hr
end Go.Proofs.Ytphjebbjhfnhoaa
