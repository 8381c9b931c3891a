/- match: ops · match: what is fed, in plain words · match: the told byte's statement, by what stands in memory. -/
import Derived.Test.YtphjebbjhfnhoaaTb
namespace Go.Proofs.Ytphjebbjhfnhoaa
open Go.RowKit
/-- Ops in memory. -/
def OpsIn (w : World) (v : Value) (O : List OpV) : Prop := Sl w 48 3 v O.length (opsC O) ∧ ∀ o ∈ O, SlB w o.dv o.d
def OwnO (v : Value) (O : List OpV) (k : Nat) : Prop := v.ownBlock = some k ∨ ∃ o ∈ O, o.dv.ownBlock = some k
def Cfg.keep (C : Cfg) (v : Value) (O : List OpV) : Cfg := { C with K := fun k => C.K k ∨ OwnO v O k }
theorem OpsIn.fr {w w' : World} {v : Value} {O : List OpV} {Q : Nat → Prop} (h : OpsIn w v O) (f : Fr Q w w') (hQ : ∀ k, OwnO v O k → ¬ Q k) : OpsIn w' v O :=
  ⟨h.1.fr f (fun k hk => hQ k (.inl hk)), fun o ho => Sl.fr (h.2 o ho) f (fun k hk => hQ k (.inr ⟨o, ho, hk⟩))⟩
theorem SC.given {C : Cfg} {S : Sst} {w w' : World} (h : SC C S w) (f : Fr (fun k => k = C.sc) w w') (hb : Blk w' C.sc 67 (scA C { S with ov := .slice none 0 0, O := [] })) :
    SC (C.keep S.ov S.O) { S with ov := .slice none 0 0, O := [] } w' ∧ OpsIn w' S.ov S.O := by
  have hops : Sl w' 48 3 S.ov S.O.length (opsC S.O) := h.ops.fr f (h.ops.ne h.blk (by decide))
  have hdat : ∀ o ∈ S.O, SlB w' o.dv o.d := fun o ho => Sl.fr (h.dat o ho) f ((h.dat o ho).ne h.blk (by decide))
  have hlf : SlB w' S.lv S.L := Sl.fr h.lft f (h.lft.ne h.blk (by decide))
  have htl : SlB w' S.tv S.T := Sl.fr h.tld f (h.tld.ne h.blk (by decide))
  refine ⟨⟨hb, hlf, htl, Sl.nil _ _ _, fun o ho => (by cases ho), h.d1, fun o ho => (by cases ho), h.idx.turn f h.blk (by decide) (by decide) (by decide) (by decide), ?_, ?_, ?_, fun k hk => (by cases hk), ?_⟩, hops, hdat⟩
  · rintro (q | q | ⟨o, ho, q⟩)
    · exact h.ls q
    · exact h.ops.ne h.blk (by decide) _ q rfl
    · exact (h.dat o ho).ne h.blk (by decide) _ q rfl
  · rintro k hk (q | q | ⟨o, ho, q⟩)
    · exact h.ll k hk q
    · exact Sl.ne2 h.lft h.ops (by decide) k hk q
    · exact (h.d2 o ho k q).1 hk
  · rintro k hk (q | q | ⟨o, ho, q⟩)
    · exact h.lt k hk q
    · exact Sl.ne2 h.tld h.ops (by decide) k hk q
    · exact (h.d2 o ho k q).2 hk
  · rintro k (q | q | ⟨o, ho, q⟩)
    · exact Nat.lt_of_lt_of_le (h.lw k q) f.size
    · exact hops.lt k q
    · exact Sl.lt (hdat o ho) k q
set_option maxRecDepth 100000 in
set_option maxHeartbeats 4000000 in
theorem ops_spec (C : Cfg) (S : Sst) (w : World) (h : SC C S w) (hO : S.O.length ≤ 1000000) :
    Calls Try.prog 26 #[.pointer (some ⟨C.sc, 0, none⟩)] w fun e w' => ∃ v tv', e = .returned v ∧ OpsIn w' v (S.O ++ tellO S) ∧ SC (C.keep v (S.O ++ tellO S)) { S with ov := .slice none 0 0, O := [], tv := tv', T := [] } w' ∧ Fr (fun k => ¬ C.K k) w w' ∧ ∀ k, v.ownBlock = some k → ¬ C.K k := by
  have HT := Lib.hid (tell_spec2 C S w h hO)
  obtain ⟨sc, hsc⟩ : ∃ sc, sc = C.sc := ⟨_, rfl⟩
  rw [← hsc] at HT ⊢
  have HSC := Lib.hid hsc
  clear h hsc hO
  go_enter Try.func26, Try.ntmps26
  go_wp2_with (first
    | (go_at_call 40; (refine HT.out.mono ?_); rintro e w1 ⟨ov1, tv1, rfl, h1, hf1⟩; have H1 := Lib.hid h1; have HF1 := Lib.hid hf1; have c10 : w1.cell? ⟨sc, 10, none⟩ = some ov1 := (by rw [HSC.out]; exact h1.blk.cell 10 rfl); have f10 : w1.frozen? ⟨sc, 10, none⟩ = false := (by rw [HSC.out]; exact h1.blk.free 10); obtain ⟨oa, oc, hov, _, _⟩ := h1.ops.slice; obtain ⟨on, hon⟩ : ∃ on, on = (S.O ++ tellO S).length := ⟨_, rfl⟩; have hov2 : ov1 = .slice oa on oc := (by rw [hon]; exact hov); clear h1 hf1 hov hon; subst hov2)
    | fail)
  go_ret
  have g : Fr (fun k => k = C.sc) w1 (w1.setCell ⟨sc, 10, none⟩ (.slice none 0 0)) := (Fr.refl (fun k => k = C.sc) w1).setCell (p := ⟨sc, 10, none⟩) (fun _ => HSC.out) _
  have hb := H1.out.blk.set 10 (.slice none 0 0)
  obtain ⟨e1, e2⟩ := H1.out.given (w' := w1.setCell ⟨sc, 10, none⟩ (.slice none 0 0)) g (by rw [HSC.out]; exact hb)
  exact ⟨_, tv1, rfl, e2, e1, HF1.out.trans g (fun k _ q => by rw [q]; exact H1.out.ls), fun k hk => H1.out.lo k hk⟩
end Go.Proofs.Ytphjebbjhfnhoaa

namespace Go.Proofs.Ytphjebbjhfnhoaa
open Go.RowKit
/-- A search with its memory out of sight. -/
structure Pst where
  L : List UInt8
  want : Nat
  T : List UInt8
  O : List (Nat × Nat × List UInt8)
def OpV.p (o : OpV) : Nat × Nat × List UInt8 := (o.off, o.len, o.d)
def Sst.p (S : Sst) : Pst := ⟨S.L, S.want, S.T, S.O.map OpV.p⟩
def tellP (T : List UInt8) : List (Nat × Nat × List UInt8) := if T = [] then [] else [(0, 0, T)]
def NoFit (l : List UInt8) (B st : Nat) (L : List UInt8) : Prop := ∀ i, i < cnt l.length B → ¬ Fit l B st i (weak L) (cutS L st) L.length
def IsFit (l : List UInt8) (B st : Nat) (L : List UInt8) (want i : Nat) : Prop :=
  i < cnt l.length B ∧ Fit l B st i (weak L) (cutS L st) L.length ∧ (want < cnt l.length B → Fit l B st want (weak L) (cutS L st) L.length → i = want)
/-- A block taken. -/
def tookP (B : Nat) (s : Pst) (i : Nat) : Pst := ⟨[], i + 1, [], s.O ++ tellP s.T ++ [(i * B, s.L.length, [])]⟩
/-- One byte told. -/
def slidP (s : Pst) (h : UInt8) (t : List UInt8) : Pst := ⟨t, s.want, s.T ++ [h], s.O⟩
inductive FeedP (l : List UInt8) (B st : Nat) (s0 : Pst) : List UInt8 → Pst → Prop
  | nil : FeedP l B st s0 [] s0
  | more (xs : List UInt8) (s : Pst) (c : UInt8) : FeedP l B st s0 xs s → s.L.length + 1 ≠ B → FeedP l B st s0 (xs ++ [c]) { s with L := s.L ++ [c] }
  | took (xs : List UInt8) (s : Pst) (c : UInt8) (i : Nat) : FeedP l B st s0 xs s → s.L.length + 1 = B → IsFit l B st (s.L ++ [c]) s.want i → FeedP l B st s0 (xs ++ [c]) (tookP B { s with L := s.L ++ [c] } i)
  | slid (xs : List UInt8) (s : Pst) (c : UInt8) (h : UInt8) (t : List UInt8) : FeedP l B st s0 xs s → s.L.length + 1 = B → NoFit l B st (s.L ++ [c]) → s.L ++ [c] = h :: t → FeedP l B st s0 (xs ++ [c]) (slidP s h t)
inductive DoneP (l : List UInt8) (B st n : Nat) (s0 : Pst) : Pst → Prop
  | nil : DoneP l B st n s0 s0
  | took (s : Pst) (i : Nat) : DoneP l B st n s0 s → s.L ≠ [] → s.L.length = n → IsFit l B st s.L s.want i → DoneP l B st n s0 (tookP B s i)
  | slid (s : Pst) (h : UInt8) (t : List UInt8) : DoneP l B st n s0 s → (s.L.length = n → NoFit l B st s.L) → s.L = h :: t → DoneP l B st n s0 (slidP s h t)
theorem tellO_p (S : Sst) : (tellO S).map OpV.p = tellP S.T := by
  unfold tellO tellP; split <;> rfl
theorem TakeR.noneP {C : Cfg} {S S' : Sst} (h : TakeR C S none S') : S' = S ∧ NoFit C.l C.B C.st S.L := h
theorem TakeR.someP {C : Cfg} {S S' : Sst} {i : Nat} (h : TakeR C S (some i) S') : IsFit C.l C.B C.st S.L S.want i ∧ S'.p = tookP C.B S.p i ∧ S'.over = S.over ∧ S'.seen = S.seen ∧ S'.T = [] ∧ S'.L = [] ∧ S'.O.length ≤ S.O.length + 2 ∧ S'.want = i + 1 := by
  obtain ⟨h1, h2, h3, tv, ov, rfl⟩ := h
  refine ⟨⟨h1, h2, h3⟩, ?_, rfl, rfl, rfl, rfl, ?_, rfl⟩
  · unfold Sst.p tookP
    simp only [List.map_append, tellO_p]
    rfl
  · show (S.O ++ tellO S ++ [_]).length ≤ _
    have : (tellO S).length ≤ 1 := by unfold tellO; split <;> simp
    simp only [List.length_append, List.length_cons, List.length_nil]; omega
end Go.Proofs.Ytphjebbjhfnhoaa

namespace Go.Proofs.Ytphjebbjhfnhoaa
open Go.RowKit
def shS (S : Sst) (lv' : Value) (r : List UInt8) : Sst := { S with lv := lv', L := r }
def QI (C : Cfg) (S : Sst) (h0 : UInt8) (r : List UInt8) (sb sc : Nat) (w0 : World) : (Nat → Bool) → (Nat → Value) → World → Prop :=
  QL (fun w2 => SC C S w2 ∧ Fr (fun k => ¬ C.K k) w0 w2) (fun w2 => ∃ lv', SC C (shS S lv' r) w2 ∧ Fr (fun k => ¬ C.K k) w0 w2)
    (fun v w2 => ∃ lv' w1, SC C (shS S lv' r) w1 ∧ Fr (fun k => ¬ C.K k) w0 w1 ∧ Sl w2 5 1 v (S.T.length + 1) ((S.T ++ [h0]).map u8v) ∧ (∀ k, v.ownBlock = some k → S.tv.ownBlock = some k ∨ w1.heap.size ≤ k) ∧ Blk w2 sc 67 (scA C (shS S lv' r)) ∧ Fr (fun k => S.tv.ownBlock = some k) w1 w2)
    (fun v w2 => ∃ lv', SC C { shS S lv' r with tv := v, T := S.T ++ [h0] } w2 ∧ Fr (fun k => ¬ C.K k) w0 w2) sb sc S.tv (h0.toNat : Int)
section
variable {C : Cfg} {S : Sst} {h0 : UInt8} {r : List UInt8} {sb sc : Nat} {w0 w : World} {L : Nat → Bool} {u : Nat → Value}
theorem QI.start (h : SC C S w) (f : Fr (fun k => ¬ C.K k) w0 w) : QI C S h0 r sb sc w0 (fun _ => false) u w :=
  ⟨fun _ _ _ _ _ q => absurd q Bool.false_ne_true, fun q => absurd q Bool.false_ne_true, fun q => absurd q Bool.false_ne_true, fun _ => ⟨h, f⟩, fun q => absurd q Bool.false_ne_true, fun q => absurd q Bool.false_ne_true, fun q => absurd q Bool.false_ne_true⟩
theorem QI.tvc (h : QI C S h0 r sb sc w0 L u w) (hsc : sc = C.sc) (h10 : L 10 = false) : w.cell? ⟨sc, 9, none⟩ = some S.tv := by
  subst hsc
  cases h8 : L 8 with
  | false => exact (h.n0 h8).1.blk.cell 9 rfl
  | true => obtain ⟨lv', a, _⟩ := h.n1 h8 h10; exact a.blk.cell 9 rfl
theorem QI.shift (h : QI C S h0 r sb sc w0 L u w) (h8 : L 8 = false) (h9 : L 9 = false) (h10 : L 10 = false) (h13 : L 13 = false) {w' : World} (lv' : Value) (hA : SC C (shS S lv' r) w') (f : Fr (fun k => ¬ C.K k) w w') :
    QI C S h0 r sb sc w0 (updB L 8) (updU u (sb + 8) (.int .u8 (h0.toNat : Int))) w' :=
  QL.call h h9 h10 h13 w' ⟨lv', hA, (h.n0 h8).2.trans f (fun _ _ x => x)⟩
theorem QI.box (h : QI C S h0 r sb sc w0 L u w) (h8 : L 8 = true) (h10 : L 10 = false) (h13 : L 13 = false) : QI C S h0 r sb sc w0 (updB L 9) (updU u (sb + 9) (.slice (some ⟨w.heap.size, 0, none⟩) 1 1)) (w.alloc (.cells #[.int .u8 (h0.toNat : Int)] 5)) :=
  QL.new h h8 h10 h13 fun _ f ⟨lv', a, b⟩ => ⟨lv', a.frF f, b.trans f (fun _ _ x => x.elim)⟩
theorem QI.tvs (h : QI C S h0 r sb sc w0 L u w) (h8 : L 8 = true) (h10 : L 10 = false) : SlB w S.tv S.T := by
  obtain ⟨lv', a, _⟩ := h.n1 h8 h10; exact a.tld
theorem QI.join (h : QI C S h0 r sb sc w0 L u w) (hsc : sc = C.sc) (h8 : L 8 = true) (h10 : L 10 = false) (h13 : L 13 = false) {v' : Value} {w' : World} (q1 : Sl w' 5 1 v' (S.T.length + 1) (S.T.map u8v ++ [u8v h0])) (q2 : Fr (fun k => S.tv.ownBlock = some k) w w')
    (q3 : v'.ownBlock = S.tv.ownBlock ∨ v'.ownBlock = some w.heap.size) : QI C S h0 r sb sc w0 (updB L 10) (updU u (sb + 10) v') w' := by
  obtain ⟨lv', a, b⟩ := h.n1 h8 h10
  refine QL.app h h8 h13 v' w' ⟨lv', w, a, b, by rw [List.map_append]; exact q1, fun k hk => ?_, ?_, q2⟩
  · rcases q3 with z | z
    · exact .inl (z ▸ hk)
    · rw [z] at hk; cases hk; exact .inr (Nat.le_refl _)
  · rw [hsc]; exact a.blk.fr q2 (fun e => Sl.ne a.tld a.blk (by decide) C.sc e rfl)
theorem QI.store (h : QI C S h0 r sb sc w0 L u w) (hsc : sc = C.sc) (h8 : L 8 = true) (h10 : L 10 = true) (h13 : L 13 = false) : QI C S h0 r sb sc w0 (updB L 13) u (w.setCell ⟨sc, 9, none⟩ (u (sb + 10))) := by
  obtain ⟨lv', w1, a, b, q1, q2, q3, q4⟩ := h.n2 h10 h13
  have g : Fr (fun k => k = C.sc) w (w.setCell ⟨sc, 9, none⟩ (u (sb + 10))) := (Fr.refl (fun k => k = C.sc) w).setCell (p := ⟨sc, 9, none⟩) (fun _ => hsc) _
  have F : Fr (fun k => k = C.sc ∨ S.tv.ownBlock = some k) w1 (w.setCell ⟨sc, 9, none⟩ (u (sb + 10))) := (q4.mono (fun _ _ x => .inr x)).trans g (fun _ _ x => .inl x)
  have hb := q3.set 9 (u (sb + 10))
  rw [hsc] at hb
  refine QL.put h h8 h10 _ ⟨lv', a.told (u (sb + 10)) (S.T ++ [h0]) F (by rw [hsc]; exact hb) ?_ q2, b.trans F (fun k _ x => ?_)⟩
  · unfold SlB
    rw [List.length_append]
    exact q1.fr g (fun k hk e => q1.ne q3 (by decide) k hk (by rw [e, hsc]))
  · rcases x with x | x
    · rw [x]; exact a.ls
    · exact a.lt k x
theorem QI.done (h : QI C S h0 r sb sc w0 L u w) (h13 : L 13 = true) : ∃ lv' tv', SC C { shS S lv' r with tv := tv', T := S.T ++ [h0] } w ∧ Fr (fun k => ¬ C.K k) w0 w := by
  obtain ⟨lv', a, b⟩ := h.n3 h13; exact ⟨lv', _, a, b⟩
end
end Go.Proofs.Ytphjebbjhfnhoaa
