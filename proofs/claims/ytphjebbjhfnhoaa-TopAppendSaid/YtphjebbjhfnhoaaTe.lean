/- match: empty, tell. -/
import Derived.Test.YtphjebbjhfnhoaaPu
import Derived.Test.YtphjebbjhfnhoaaRk
namespace Go.Proofs.Ytphjebbjhfnhoaa
open Go.RowKit
/-- One op more; what was told may have gone into it. -/
theorem SC.opd {C : Cfg} {S : Sst} {w w' : World} (h : SC C S w) (ov' : Value) (o : OpV) (tv' : Value) (T' : List UInt8) (f : Fr (fun k => k = C.sc ∨ S.ov.ownBlock = some k) w w')
    (hb : Blk w' C.sc 67 (scA C { S with ov := ov', O := S.O ++ [o], tv := tv', T := T' })) (hl : Sl w' 48 3 ov' (S.O.length + 1) (opsC S.O ++ opC o)) (ho : ∀ k, ov'.ownBlock = some k → S.ov.ownBlock = some k ∨ w.heap.size ≤ k)
    (hc : (o.dv = .slice none 0 0 ∧ o.d = [] ∧ tv' = S.tv ∧ T' = S.T) ∨ (o.dv = S.tv ∧ o.d = S.T ∧ tv' = .slice none 0 0 ∧ T' = [])) : SC C { S with ov := ov', O := S.O ++ [o], tv := tv', T := T' } w' := by
  have hlf : SlB w' S.lv S.L := Sl.fr h.lft f (fun k hk q => by
    rcases q with q | q
    · exact h.lft.ne h.blk (by decide) k hk q
    · exact Sl.ne2 h.lft h.ops (by decide) k hk q)
  have htl : SlB w' S.tv S.T := Sl.fr h.tld f (fun k hk q => by
    rcases q with q | q
    · exact h.tld.ne h.blk (by decide) k hk q
    · exact Sl.ne2 h.tld h.ops (by decide) k hk q)
  have hdt : ∀ o ∈ S.O, SlB w' o.dv o.d := fun o hoo => Sl.fr (h.dat o hoo) f (fun k hk q => by
    rcases q with q | q
    · exact (h.dat o hoo).ne h.blk (by decide) k hk q
    · exact Sl.ne2 (h.dat o hoo) h.ops (by decide) k hk q)
  refine ⟨hb, hlf, ?_, ?_, ?_, ?_, ?_, h.idxF h.ops (.inr rfl) f, h.ls, h.ll, ?_, ?_, fun k hk => Nat.lt_of_lt_of_le (h.lw k hk) f.size⟩
  · rcases hc with ⟨_, _, rfl, rfl⟩ | ⟨_, _, rfl, rfl⟩
    · exact htl
    · exact Sl.nil _ _ _
  · show Sl w' 48 3 ov' (S.O ++ [o]).length (opsC (S.O ++ [o]))
    rw [opsC_snoc, List.length_append]; exact hl
  · intro p hp0
    have hp : p ∈ S.O ++ [o] := hp0
    rcases List.mem_append.1 (show p ∈ S.O ++ [o] from hp) with hp | hp
    · exact hdt p hp
    · rw [List.mem_singleton] at hp; subst hp
      rcases hc with ⟨e1, e2, _, _⟩ | ⟨e1, e2, _, _⟩ <;> rw [e1, e2]
      · exact Sl.nil _ _ _
      · exact htl
  · intro k hk
    rcases hc with ⟨_, _, rfl, _⟩ | ⟨_, _, rfl, _⟩
    · exact h.d1 k hk
    · exact fun q => by cases q
  · intro p hp0 k hk
    have hp : p ∈ S.O ++ [o] := hp0
    rcases List.mem_append.1 (show p ∈ S.O ++ [o] from hp) with hp | hp
    · refine ⟨(h.d2 p hp k hk).1, ?_⟩
      rcases hc with ⟨_, _, rfl, _⟩ | ⟨_, _, rfl, _⟩
      · exact (h.d2 p hp k hk).2
      · exact fun q => by cases q
    · rw [List.mem_singleton] at hp; subst hp
      rcases hc with ⟨e1, _, _, _⟩ | ⟨e1, _, e3, _⟩
      · rw [e1] at hk; cases hk
      · rw [e1] at hk
        exact ⟨fun q => h.d1 k q hk, by rw [e3]; exact fun q => by cases q⟩
  · intro k hk
    rcases hc with ⟨_, _, rfl, _⟩ | ⟨_, _, rfl, _⟩
    · exact h.lt k hk
    · cases hk
  · intro k hk
    rcases ho k hk with z | z
    · exact h.lo k z
    · exact fun hk => absurd (h.lw k hk) (Nat.not_lt.2 z)
set_option maxRecDepth 100000 in
set_option maxHeartbeats 4000000 in
theorem empty_spec (C : Cfg) (S : Sst) (w : World) (h : SC C S w) :
    Calls Try.prog 41 #[.pointer (some ⟨C.sc, 0, none⟩)] w fun e w' => e = .returned (.tuple #[]) ∧ SC C { S with lv := .slice none 0 0, L := [] } w' ∧ Fr (fun k => ¬ C.K k) w w' := by
  have HSC := Lib.hid h
  have f0 := h.blk.free 0
  have f1 := h.blk.free 1
  have c0 := h.blk.cell 0 (v := S.lv) rfl
  have c1 := h.blk.cell 1 (v := .int .u32 (weak S.L)) rfl
  obtain ⟨sc, hsc⟩ : ∃ sc, sc = C.sc := ⟨_, rfl⟩
  rw [← hsc] at f0 f1 c0 c1 ⊢
  have HE := Lib.hid hsc
  have HB1 := Lib.hid ((h.blk.set 0 (.slice none 0 0)).set 1 (.int .u32 0))
  rw [← hsc] at HB1
  clear h hsc
  go_enter Try.func41, Try.ntmps41
  go_wp2_with (fail)
  have F : Fr (fun k => k = C.sc ∨ S.lv.ownBlock = some k) w ((w.setCell ⟨sc, 0, none⟩ (.slice none 0 0)).setCell ⟨sc, 1, none⟩ (.int .u32 0)) :=
    ((Fr.refl (fun k => k = C.sc ∨ S.lv.ownBlock = some k) w).setCell (p := ⟨sc, 0, none⟩) (fun _ => .inl HE.out) _).setCell (p := ⟨sc, 1, none⟩) (fun _ => .inl HE.out) _
  go_end0
  refine ⟨rfl, HSC.out.left _ [] F ?_ (Sl.nil _ _ _) (fun k q => by cases q), F.mono (fun k _ q => ?_)⟩
  · rw [← HE.out]; exact HB1.out
  · rcases q with q | q
    · rw [q]; exact HSC.out.ls
    · exact HSC.out.ll k q
theorem Try.underlying30 : Try.prog.underlying 30 = some (.slice 48) := by kernel_rfl
theorem Try.info48 : (Try.prog.info? 48).map (fun i => (i.zero, i.size, i.bytes)) = some (some (.agg #[.int .i64 0, .int .i64 0, .slice none 0 0]), 3, 40) := by kernel_rfl
def valL (sc : Nat) (ov tv : Value) : Nat → Value
  | 3 => .pointer (some ⟨sc, 10, none⟩)
  | 4 => ov
  | 7 => .pointer (some ⟨sc, 9, none⟩)
  | 8 => tv
  | 9 => .agg #[.int .i64 0, .int .i64 0, tv]
  | 13 => .pointer (some ⟨sc, 10, none⟩)
  | _ => .pointer (some ⟨sc, 0, none⟩)
structure PL (A : World → Prop) (B2 C2 : Value → World → Prop) (sc : Nat) (ov tv : Value) (L : Nat → Bool) (u : Nat → Value) (w : World) : Prop where
  fp : ∀ k, k < 14 → k ≠ 10 → k ≠ 11 → L k = true → u (8 + k) = valL sc ov tv k
  f10 : L 10 = true → ∃ q, u 18 = .slice (some ⟨q, 0, none⟩) 1 1 ∧ (L 11 = false → Blk w q 48 #[.int .i64 0, .int .i64 0, tv])
  n0 : L 11 = false → A w
  n1 : L 11 = true → L 14 = false → B2 (u 19) w
  n2 : L 14 = true → C2 (u 19) w
section
variable {A : World → Prop} {B2 C2 : Value → World → Prop} {sc : Nat} {ov tv : Value} {L : Nat → Bool} {u : Nat → Value} {w : World}
theorem PL.up (h : PL A B2 C2 sc ov tv L u w) (k : Nat) (hk : k < 14) (h10 : k ≠ 10) (h11 : k ≠ 11) (val : Value) (hv : val = valL sc ov tv k) : PL A B2 C2 sc ov tv (updB L k) (updU u (8 + k) val) w := by
  refine ⟨fun j hj j10 j11 hL => ?_, fun hL => ?_, fun hL => ?_, fun hL hL2 => ?_, fun hL => ?_⟩
  · by_cases e : j = k
    · subst e; rw [updU_self]; exact hv
    · rw [updB_ne _ _ _ e] at hL; rw [updU_ne _ _ _ _ (by omega)]; exact h.fp j hj j10 j11 hL
  · rw [updB_ne _ _ _ (Ne.symm h10)] at hL
    rw [updU_ne _ _ _ _ (by omega), updB_ne _ _ _ (Ne.symm h11)]; exact h.f10 hL
  · rw [updB_ne _ _ _ (Ne.symm h11)] at hL; exact h.n0 hL
  · rw [updB_ne _ _ _ (Ne.symm h11)] at hL; rw [updB_ne _ _ _ (by omega)] at hL2; rw [updU_ne _ _ _ _ (by omega)]; exact h.n1 hL hL2
  · rw [updB_ne _ _ _ (by omega)] at hL; rw [updU_ne _ _ _ _ (by omega)]; exact h.n2 hL
theorem PL.new (h : PL A B2 C2 sc ov tv L u w) (h11 : L 11 = false) (h14 : L 14 = false) (hA : ∀ w', Fr (fun _ => False) w w' → A w → A w') : PL A B2 C2 sc ov tv (updB L 10) (updU u 18 (.slice (some ⟨w.heap.size, 0, none⟩) 1 1)) (w.alloc (.cells #[.int .i64 0, .int .i64 0, tv] 48)) := by
  refine ⟨fun j hj j10 j11 hL => ?_, fun _ => ⟨_, updU_self _ _ _, fun _ => Blk.new _ _ _⟩, fun hL => ?_, fun hL hL2 => ?_, fun hL => ?_⟩
  · rw [updB_ne _ _ _ j10] at hL; rw [updU_ne _ _ _ _ (by omega)]; exact h.fp j hj j10 j11 hL
  · exact hA _ ((Fr.refl _ w).alloc _) (h.n0 h11)
  · rw [updB_ne _ _ _ (by decide), h11] at hL; cases hL
  · rw [updB_ne _ _ _ (by decide), h14] at hL; cases hL
theorem PL.app (h : PL A B2 C2 sc ov tv L u w) (h14 : L 14 = false) (v' : Value) (w' : World) (hB : B2 v' w') : PL A B2 C2 sc ov tv (updB L 11) (updU u 19 v') w' := by
  refine ⟨fun j hj j10 j11 hL => ?_, fun hL => ?_, fun hL => ?_, fun hL hL2 => ?_, fun hL => ?_⟩
  · rw [updB_ne _ _ _ j11] at hL; rw [updU_ne _ _ _ _ (by omega)]; exact h.fp j hj j10 j11 hL
  · rw [updB_ne _ _ _ (by decide)] at hL
    obtain ⟨q, e, _⟩ := h.f10 hL
    rw [updU_ne _ _ _ _ (by decide)]
    exact ⟨q, e, fun x => by rw [updB_self] at x; cases x⟩
  · rw [updB_self] at hL; cases hL
  · rw [updU_self]; exact hB
  · rw [updB_ne _ _ _ (by decide), h14] at hL; cases hL
theorem PL.put (h : PL A B2 C2 sc ov tv L u w) (h11 : L 11 = true) (w' : World) (hC : C2 (u 19) w') : PL A B2 C2 sc ov tv (updB L 14) u w' := by
  refine ⟨fun j hj j10 j11 hL => ?_, fun hL => ?_, fun hL => ?_, fun hL hL2 => ?_, fun hL => hC⟩
  · rw [updB_ne _ _ _ (by omega)] at hL; exact h.fp j hj j10 j11 hL
  · rw [updB_ne _ _ _ (by decide)] at hL
    obtain ⟨q, e, _⟩ := h.f10 hL
    exact ⟨q, e, fun x => by rw [updB_ne _ _ _ (by decide), h11] at x; cases x⟩
  · rw [updB_ne _ _ _ (by decide), h11] at hL; cases hL
  · rw [updB_self] at hL2; cases hL2
end
def actL (c u : Nat → Value) : Act := { tmps := [c 0, c 1, c 2, c 3, c 4, c 5, c 6, c 7, u 8, u 9, u 10, u 11, u 12, u 13, u 14, u 15, u 16, u 17, u 18, u 19, u 20, u 21, c 22, c 23, c 24].toArray, defers := [] }
set_option maxRecDepth 100000 in
set_option maxHeartbeats 4000000 in
theorem tell_spec (C : Cfg) (S : Sst) (w : World) (h : SC C S w) (hO : S.O.length ≤ 1000000) :
    Calls Try.prog 40 #[.pointer (some ⟨C.sc, 0, none⟩)] w fun e w' => e = .returned (.tuple #[]) ∧
      ((S.T = [] ∧ SC C S w') ∨ (S.T ≠ [] ∧ ∃ ov', SC C { S with ov := ov', O := S.O ++ [⟨0, 0, S.tv, S.T⟩], tv := .slice none 0 0, T := [] } w')) ∧ Fr (fun k => ¬ C.K k) w w' := by
  have HS := Lib.hid h
  obtain ⟨ad, cap, htv, _, _⟩ := Sl.slice h.tld
  have c9 := h.blk.cell 9 (v := S.tv) rfl
  obtain ⟨sc, hsc⟩ : ∃ sc, sc = C.sc := ⟨_, rfl⟩
  rw [← hsc, htv] at c9
  rw [← hsc]
  have HSC := Lib.hid hsc
  have HTV := Lib.hid htv
  have HO := Lib.hid hO
  obtain ⟨m, hm⟩ : ∃ m, m = S.T.length := ⟨_, rfl⟩
  rw [← hm] at c9 HTV
  have HM := Lib.hid hm
  clear h hsc htv hO hm
  by_cases hm0 : m = 0
  · subst hm0
    go_enter Try.func40, Try.ntmps40
    go_wp2_with (fail)
    go_end0
    exact ⟨rfl, .inl ⟨List.eq_nil_of_length_eq_zero HM.out.symm, HS.out⟩, Fr.refl _ _⟩
  · have hm1 : 0 < (m : Int) := by omega
    have HM0 := Lib.hid hm0
    clear hm0
    go_enter Try.func40, Try.ntmps40
    go_wp2_with (fail)
    have HSD := Lib.hid (HS.out.frF ((Fr.refl (fun _ => False) w).drew))
    have HFD := Lib.hid ((Fr.refl (fun _ => False) w).drew)
    obtain ⟨IV, hIV⟩ : ∃ IV : (Nat → Bool) → (Nat → Value) → World → Prop, IV = fun L u w' => PL (fun w2 => SC C S w2 ∧ Fr (fun _ => False) w.drew w2)
        (fun v w2 => Sl w2 48 3 v (S.O.length + 1) (opsC S.O ++ opC ⟨0, 0, S.tv, S.T⟩) ∧ (∀ k, v.ownBlock = some k → S.ov.ownBlock = some k ∨ w.drew.heap.size ≤ k) ∧ Blk w2 sc 67 (scA C S) ∧ Fr (fun k => S.ov.ownBlock = some k) w.drew w2)
        (fun v w2 => Sl w2 48 3 v (S.O.length + 1) (opsC S.O ++ opC ⟨0, 0, S.tv, S.T⟩) ∧ (∀ k, v.ownBlock = some k → S.ov.ownBlock = some k ∨ w.drew.heap.size ≤ k) ∧ Blk w2 sc 67 ((scA C S).setIfInBounds 10 v) ∧ Fr (fun k => k = C.sc ∨ S.ov.ownBlock = some k) w.drew w2)
        sc S.ov (.slice ad m cap) L u w' := ⟨_, rfl⟩
    have HIV := Lib.hid hIV
    have HONE := Lib.hid (show ∀ u ∈ opC ⟨0, 0, S.tv, S.T⟩, u.oneCell' = true from fun u hu => by
      simp only [opC, List.mem_cons, List.not_mem_nil, or_false] at hu
      rcases hu with rfl | rfl | rfl
      · rfl
      · rfl
      · rw [HTV.out]; rfl)
    clear hIV
    obtain ⟨cc, hcc⟩ : ∃ cc : Nat → Value, cc = fun zz => ([.pointer (some ⟨sc, 0, none⟩), undef, .pointer (some ⟨sc, 0, none⟩), .pointer (some ⟨sc, 0, none⟩), .pointer (some ⟨sc, 9, none⟩), .slice ad m cap, .int .i64 (m : Int), .bool (decide (0 < m)), undef, undef, undef, undef, undef, undef, undef, undef, undef, undef, undef, undef, undef, undef, undef, undef, undef] : List Value).getD zz undef := ⟨_, rfl⟩
    have q0 : cc 0 = .pointer (some ⟨sc, 0, none⟩) := by rw [hcc]; rfl
    show Code.wp _ _ _ (actL (fun zz => ([.pointer (some ⟨sc, 0, none⟩), undef, .pointer (some ⟨sc, 0, none⟩), .pointer (some ⟨sc, 0, none⟩), .pointer (some ⟨sc, 9, none⟩), .slice ad m cap, .int .i64 (m : Int), .bool (decide (0 < m)), undef, undef, undef, undef, undef, undef, undef, undef, undef, undef, undef, undef, undef, undef, undef, undef, undef] : List Value).getD zz undef) (fun zz => ([.pointer (some ⟨sc, 0, none⟩), undef, .pointer (some ⟨sc, 0, none⟩), .pointer (some ⟨sc, 0, none⟩), .pointer (some ⟨sc, 9, none⟩), .slice ad m cap, .int .i64 (m : Int), .bool (decide (0 < m)), undef, undef, undef, undef, undef, undef, undef, undef, undef, undef, undef, undef, undef, undef, undef, undef, undef] : List Value).getD zz undef)) _
    rw [← hcc]
    refine wp_region_cl (by kernel_rfl) [[], [], [1], [2], [3], [], [5], [6], [7], [8], [9], [4, 10], [0, 0, 1, 2, 3, 4, 5, 6, 7, 8, 9, 10, 11], [12, 0, 1, 2, 3, 4, 5, 6, 7, 8, 9, 10, 11], [13, 11, 11, 0, 1, 2, 3, 4, 5, 6, 7, 8, 9, 10, 11]] (by kernel_rfl) (by decide) (fun L a w' => ∃ u, a = actL cc u ∧ IV L u w') ?_ ?_ ?_
    · refine ⟨_, rfl, ?_⟩
      rw [HIV.out]
      exact ⟨fun _ _ _ _ q => absurd q Bool.false_ne_true, fun q => absurd q Bool.false_ne_true, fun _ => ⟨HSD.out, Fr.refl _ _⟩, fun q => absurd q Bool.false_ne_true, fun q => absurd q Bool.false_ne_true⟩
    · intro jj hj L a w' hI hcl h0 hd2
      obtain ⟨u, rfl, hP⟩ := hI
      rw [HIV.out] at hP
      have hc : jj = 0 ∨ jj = 1 ∨ jj = 2 ∨ jj = 3 ∨ jj = 4 ∨ jj = 5 ∨ jj = 6 ∨ jj = 7 ∨ jj = 8 ∨ jj = 9 ∨ jj = 10 ∨ jj = 11 ∨ jj = 12 ∨ jj = 13 ∨ jj = 14 := by have : jj < 15 := hj; omega
      have n14 : jj < 14 → L 14 = false := fun hjj => by
        cases h : L 14 with
        | false => rfl
        | true =>
          have h13 := hcl 14 13 h (by decide)
          have h12 := hcl 13 12 h13 (by decide)
          have : L jj = true := by
            obtain rfl | rfl | rfl | rfl | rfl | rfl | rfl | rfl | rfl | rfl | rfl | rfl | rfl | rfl : jj = 0 ∨ jj = 1 ∨ jj = 2 ∨ jj = 3 ∨ jj = 4 ∨ jj = 5 ∨ jj = 6 ∨ jj = 7 ∨ jj = 8 ∨ jj = 9 ∨ jj = 10 ∨ jj = 11 ∨ jj = 12 ∨ jj = 13 := by omega
            all_goals first | exact h13 | exact h12 | exact hcl 12 _ h12 (by decide)
          exact absurd this (by rw [h0]; decide)
      have n11 : jj = 4 ∨ jj = 8 ∨ jj = 10 → L 11 = false := fun hjj => by
        cases h : L 11 with
        | false => rfl
        | true =>
          have a4 := hcl 11 4 h (by decide)
          have a10 := hcl 11 10 h (by decide)
          have a8 := hcl 9 8 (hcl 10 9 a10 (by decide)) (by decide)
          rcases hjj with rfl | rfl | rfl
          · exact absurd a4 (by rw [h0]; decide)
          · exact absurd a8 (by rw [h0]; decide)
          · exact absurd a10 (by rw [h0]; decide)
      clear hj
      rcases hc with rfl | rfl | rfl | rfl | rfl | rfl | rfl | rfl | rfl | rfl | rfl | rfl | rfl | rfl | rfl
      · have HH := Lib.hid hP
        have r0 : (actL cc u).eval (.tmp 0) = (.pointer (some ⟨sc, 0, none⟩)) := q0
        refine wpOp_run rfl rfl (v := (.pointer (some ⟨sc, 0, none⟩))) (w' := w') ?_ ⟨updU u 8 (.pointer (some ⟨sc, 0, none⟩)), rfl, (by rw [HIV.out]; exact HH.out.up 0 (by decide) (by decide) (by decide) (.pointer (some ⟨sc, 0, none⟩)) rfl)⟩
        generalize (actL cc u).eval = ev at r0 ⊢
        clear hd2 h0 hcl hP n14 n11 HH
        go_simp
      · have HH := Lib.hid hP
        have r0 : (actL cc u).eval (.tmp 0) = (.pointer (some ⟨sc, 0, none⟩)) := q0
        refine wpOp_run rfl rfl (v := (.pointer (some ⟨sc, 0, none⟩))) (w' := w') ?_ ⟨updU u 9 (.pointer (some ⟨sc, 0, none⟩)), rfl, (by rw [HIV.out]; exact HH.out.up 1 (by decide) (by decide) (by decide) (.pointer (some ⟨sc, 0, none⟩)) rfl)⟩
        generalize (actL cc u).eval = ev at r0 ⊢
        clear hd2 h0 hcl hP n14 n11 HH
        go_simp
      · have HH := Lib.hid hP
        have e9 : (actL cc u).eval (.tmp 9) = (.pointer (some ⟨sc, 0, none⟩)) := hP.fp 1 (by decide) (by decide) (by decide) (hd2 1 (by decide))
        refine wpOp_run rfl rfl (v := (.pointer (some ⟨sc, 0, none⟩))) (w' := w') ?_ ⟨updU u 10 (.pointer (some ⟨sc, 0, none⟩)), rfl, (by rw [HIV.out]; exact HH.out.up 2 (by decide) (by decide) (by decide) (.pointer (some ⟨sc, 0, none⟩)) rfl)⟩
        generalize (actL cc u).eval = ev at e9 ⊢
        clear hd2 h0 hcl hP n14 n11 HH
        go_simp
      · have HH := Lib.hid hP
        have e10 : (actL cc u).eval (.tmp 10) = (.pointer (some ⟨sc, 0, none⟩)) := hP.fp 2 (by decide) (by decide) (by decide) (hd2 2 (by decide))
        refine wpOp_run rfl rfl (v := (.pointer (some ⟨sc, 10, none⟩))) (w' := w') ?_ ⟨updU u 11 (.pointer (some ⟨sc, 10, none⟩)), rfl, (by rw [HIV.out]; exact HH.out.up 3 (by decide) (by decide) (by decide) (.pointer (some ⟨sc, 10, none⟩)) rfl)⟩
        generalize (actL cc u).eval = ev at e10 ⊢
        clear hd2 h0 hcl hP n14 n11 HH
        go_simp
      · have HH := Lib.hid hP
        have e11 : (actL cc u).eval (.tmp 11) = (.pointer (some ⟨sc, 10, none⟩)) := hP.fp 3 (by decide) (by decide) (by decide) (hd2 3 (by decide))
        have cx : w'.cell? ⟨sc, 10, none⟩ = some S.ov := by rw [HSC.out]; exact (hP.n0 (n11 (by decide))).1.blk.cell 10 rfl
        refine wpOp_run rfl rfl (v := S.ov) (w' := w') ?_ ⟨updU u 12 S.ov, rfl, (by rw [HIV.out]; exact HH.out.up 4 (by decide) (by decide) (by decide) S.ov rfl)⟩
        generalize (actL cc u).eval = ev at e11 ⊢
        clear hd2 h0 hcl hP n14 n11 HH
        go_simp
      · have HH := Lib.hid hP
        have r0 : (actL cc u).eval (.tmp 0) = (.pointer (some ⟨sc, 0, none⟩)) := q0
        refine wpOp_run rfl rfl (v := (.pointer (some ⟨sc, 0, none⟩))) (w' := w') ?_ ⟨updU u 13 (.pointer (some ⟨sc, 0, none⟩)), rfl, (by rw [HIV.out]; exact HH.out.up 5 (by decide) (by decide) (by decide) (.pointer (some ⟨sc, 0, none⟩)) rfl)⟩
        generalize (actL cc u).eval = ev at r0 ⊢
        clear hd2 h0 hcl hP n14 n11 HH
        go_simp
      · have HH := Lib.hid hP
        have e13 : (actL cc u).eval (.tmp 13) = (.pointer (some ⟨sc, 0, none⟩)) := hP.fp 5 (by decide) (by decide) (by decide) (hd2 5 (by decide))
        refine wpOp_run rfl rfl (v := (.pointer (some ⟨sc, 0, none⟩))) (w' := w') ?_ ⟨updU u 14 (.pointer (some ⟨sc, 0, none⟩)), rfl, (by rw [HIV.out]; exact HH.out.up 6 (by decide) (by decide) (by decide) (.pointer (some ⟨sc, 0, none⟩)) rfl)⟩
        generalize (actL cc u).eval = ev at e13 ⊢
        clear hd2 h0 hcl hP n14 n11 HH
        go_simp
      · have HH := Lib.hid hP
        have e14 : (actL cc u).eval (.tmp 14) = (.pointer (some ⟨sc, 0, none⟩)) := hP.fp 6 (by decide) (by decide) (by decide) (hd2 6 (by decide))
        refine wpOp_run rfl rfl (v := (.pointer (some ⟨sc, 9, none⟩))) (w' := w') ?_ ⟨updU u 15 (.pointer (some ⟨sc, 9, none⟩)), rfl, (by rw [HIV.out]; exact HH.out.up 7 (by decide) (by decide) (by decide) (.pointer (some ⟨sc, 9, none⟩)) rfl)⟩
        generalize (actL cc u).eval = ev at e14 ⊢
        clear hd2 h0 hcl hP n14 n11 HH
        go_simp
      · have HH := Lib.hid hP
        have e15 : (actL cc u).eval (.tmp 15) = (.pointer (some ⟨sc, 9, none⟩)) := hP.fp 7 (by decide) (by decide) (by decide) (hd2 7 (by decide))
        have cx : w'.cell? ⟨sc, 9, none⟩ = some (.slice ad m cap) := by rw [HSC.out, ← HTV.out]; exact (hP.n0 (n11 (by decide))).1.blk.cell 9 rfl
        refine wpOp_run rfl rfl (v := (.slice ad m cap)) (w' := w') ?_ ⟨updU u 16 (.slice ad m cap), rfl, (by rw [HIV.out]; exact HH.out.up 8 (by decide) (by decide) (by decide) (.slice ad m cap) rfl)⟩
        generalize (actL cc u).eval = ev at e15 ⊢
        clear hd2 h0 hcl hP n14 n11 HH
        go_simp
      · have HH := Lib.hid hP
        have e16 : (actL cc u).eval (.tmp 16) = (.slice ad m cap) := hP.fp 8 (by decide) (by decide) (by decide) (hd2 8 (by decide))
        refine wpOp_run rfl rfl (v := (.agg #[.int .i64 0, .int .i64 0, .slice ad m cap])) (w' := w') ?_ ⟨updU u 17 (.agg #[.int .i64 0, .int .i64 0, .slice ad m cap]), rfl, (by rw [HIV.out]; exact HH.out.up 9 (by decide) (by decide) (by decide) (.agg #[.int .i64 0, .int .i64 0, .slice ad m cap]) rfl)⟩
        generalize (actL cc u).eval = ev at e16 ⊢
        clear hd2 h0 hcl hP n14 n11 HH
        go_simp
      · have e17 : (actL cc u).eval (.tmp 17) = (.agg #[.int .i64 0, .int .i64 0, .slice ad m cap]) := hP.fp 9 (by decide) (by decide) (by decide) (hd2 9 (by decide))
        have HH := Lib.hid (hP.new (n11 (by decide)) (n14 (by decide)) (fun w9 f ⟨a, b⟩ => ⟨a.frF f, b.trans f (fun _ _ x => x)⟩))
        refine wpOp_run rfl rfl (v := .slice (some ⟨w'.heap.size, 0, none⟩) 1 1) (w' := w'.alloc (.cells #[.int .i64 0, .int .i64 0, .slice ad m cap] 48)) ?_ ⟨updU u 18 (.slice (some ⟨w'.heap.size, 0, none⟩) 1 1), rfl, (by rw [HIV.out]; exact HH.out)⟩
        generalize (actL cc u).eval = ev at e17 ⊢
        clear hd2 h0 hcl hP n14 n11 HH
        go_simp
      · refine wpOp_one rfl ?_
        have e12 : u 12 = S.ov := hP.fp 4 (by decide) (by decide) (by decide) (hd2 4 (by decide))
        obtain ⟨q, e18, hq⟩ := hP.f10 (hd2 10 (by decide))
        obtain ⟨hs, hf⟩ := hP.n0 h0
        have hb9 := hq h0
        rw [← HTV.out] at hb9
        refine wpList_app rfl (.tmp 12) (.tmp 18) 30 30 rfl 48 (.agg #[.int .i64 0, .int .i64 0, .slice none 0 0]) 3 40 Try.underlying30 Try.info48 rfl S.ov S.O.length (opsC S.O) e12 hs.ops (.slice (some ⟨q, 0, none⟩) 1 1) 1 (opC ⟨0, 0, S.tv, S.T⟩) e18 (src_one Try.underlying30 q 3 48 (opC ⟨0, 0, S.tv, S.T⟩) rfl HONE.out hb9) (by have := HO.out; unfold maxLen; omega) (by have := HO.out; omega) ?_
        intro v' w9 q1 q2 q3
        exact ⟨updU u 19 v', by simp [actL, updU, Act.put], (by rw [HIV.out]; exact hP.app (n14 (by decide)) v' w9 ⟨q1, fun k hk => by
          rcases q3 with z | z
          · exact .inl (z ▸ hk)
          · rw [z] at hk; cases hk; exact .inr hf.size, by rw [HSC.out]; exact hs.blk.fr q2 (fun e => hs.ops.ne hs.blk (by decide) _ e rfl), (hf.mono (fun _ _ x => x.elim)).trans q2 (fun _ _ x => x)⟩)⟩
      · have HH := Lib.hid hP
        have e8 : (actL cc u).eval (.tmp 8) = (.pointer (some ⟨sc, 0, none⟩)) := hP.fp 0 (by decide) (by decide) (by decide) (hd2 0 (by decide))
        refine wpOp_run rfl rfl (v := (.pointer (some ⟨sc, 0, none⟩))) (w' := w') ?_ ⟨updU u 20 (.pointer (some ⟨sc, 0, none⟩)), rfl, (by rw [HIV.out]; exact HH.out.up 12 (by decide) (by decide) (by decide) (.pointer (some ⟨sc, 0, none⟩)) rfl)⟩
        generalize (actL cc u).eval = ev at e8 ⊢
        clear hd2 h0 hcl hP n14 n11 HH
        go_simp
      · have HH := Lib.hid hP
        have e20 : (actL cc u).eval (.tmp 20) = (.pointer (some ⟨sc, 0, none⟩)) := hP.fp 12 (by decide) (by decide) (by decide) (hd2 12 (by decide))
        refine wpOp_run rfl rfl (v := (.pointer (some ⟨sc, 10, none⟩))) (w' := w') ?_ ⟨updU u 21 (.pointer (some ⟨sc, 10, none⟩)), rfl, (by rw [HIV.out]; exact HH.out.up 13 (by decide) (by decide) (by decide) (.pointer (some ⟨sc, 10, none⟩)) rfl)⟩
        generalize (actL cc u).eval = ev at e20 ⊢
        clear hd2 h0 hcl hP n14 n11 HH
        go_simp
      · have e29 : (actL cc u).eval (.tmp 21) = (.pointer (some ⟨sc, 10, none⟩)) := hP.fp 13 (by decide) (by decide) (by decide) (hd2 13 (by decide))
        obtain ⟨b1, b2, b3, b4⟩ := hP.n1 (hd2 11 (by decide)) h0
        obtain ⟨a2, p2, hy, _, _⟩ := b1.slice
        have e27 : (actL cc u).eval (.tmp 19) = .slice a2 (S.O.length + 1) p2 := hy
        have g : Fr (fun k => k = sc) w' (w'.setCell ⟨sc, 10, none⟩ (u 19)) := (Fr.refl (fun k => k = sc) w').setCell (p := ⟨sc, 10, none⟩) (fun _ => rfl) _
        have HH := Lib.hid (hP.put (hd2 11 (by decide)) (w'.setCell ⟨sc, 10, none⟩ (u 19)) ⟨b1.fr g (fun k hk e => b1.ne b3 (by decide) k hk e), b2, b3.set 10 _, (b4.mono (fun _ _ x => .inr x)).trans g (fun _ _ x => .inl (x.trans HSC.out))⟩)
        have cx := b3.cell 10 (v := S.ov) rfl
        have fx := b3.free 10
        rw [hy] at HH
        refine wpOp_skip rfl rfl (w' := w'.setCell ⟨sc, 10, none⟩ (.slice a2 (S.O.length + 1) p2)) ?_ ⟨u, rfl, (by rw [HIV.out]; exact HH.out)⟩
        generalize (actL cc u).eval = ev at e29 e27 ⊢
        clear hd2 h0 hcl hP n14 n11 HH b1 b2 b3 b4 g hy
        go_simp
    · intro L a w' hI hall
      obtain ⟨u, rfl, hP⟩ := hI
      rw [HIV.out] at hP
      obtain ⟨b1, b2, b3, b4⟩ := hP.n2 (hall 14 (by decide))
      generalize u 19 = ov' at b1 b2 b3
      have f9 := b3.free 9
      have c9 := b3.cell 9 (v := S.tv) rfl
      have g : Fr (fun k => k = sc) w' (w'.setCell ⟨sc, 9, none⟩ (.slice none 0 0)) := (Fr.refl (fun k => k = sc) w').setCell (p := ⟨sc, 9, none⟩) (fun _ => rfl) _
      have F := b4.trans g (fun _ _ x => .inl (x.trans HSC.out))
      have HEND := Lib.hid (show SC C { S with ov := ov', O := S.O ++ [⟨0, 0, S.tv, S.T⟩], tv := .slice none 0 0, T := [] } (w'.setCell ⟨sc, 9, none⟩ (.slice none 0 0)) by
        refine HSD.out.opd ov' ⟨0, 0, S.tv, S.T⟩ (.slice none 0 0) [] F ?_ (b1.fr g (fun k hk e => b1.ne b3 (by decide) k hk e)) b2 (.inr ⟨rfl, rfl, rfl, rfl⟩)
        have := b3.set 9 (.slice none 0 0)
        rw [← HSC.out]; exact this)
      have HF := Lib.hid (show Fr (fun k => ¬ C.K k) w (w'.setCell ⟨sc, 9, none⟩ (.slice none 0 0)) from (HFD.out.mono (fun _ _ q => q.elim)).trans F (fun k _ q => by
        rcases q with q | q
        · rw [q]; exact HSD.out.ls
        · exact HSD.out.lo k q))
      clear hP hall b1 b2 b3 b4 g F HIV
      rw [hcc]
      unfold actL
      go_wp2_with (fail)
      go_end0
      exact ⟨rfl, .inr ⟨fun e => HM0.out (by have := HM.out; rw [e] at this; exact this), ov', HEND.out⟩, HF.out⟩
end Go.Proofs.Ytphjebbjhfnhoaa
