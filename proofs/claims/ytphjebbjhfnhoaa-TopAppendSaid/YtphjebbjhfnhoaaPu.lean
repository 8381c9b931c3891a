/- match: a search in memory; push · match: push, shift, empty. -/
import Derived.Test.YtphjebbjhfnhoaaPk
import Derived.Deep.CutRange
namespace Go.Proofs.Ytphjebbjhfnhoaa
open Go.RowKit
/-- An op: where it copies from, how much; what it tells. -/
structure OpV where
  off : Nat
  len : Nat
  dv : Value
  d : List UInt8
def opC (o : OpV) : List Value := [.int .i64 (o.off : Int), .int .i64 (o.len : Int), o.dv]
def opsC (O : List OpV) : List Value := O.flatMap opC
theorem opsC_length (O : List OpV) : (opsC O).length = O.length * 3 := by
  induction O with
  | nil => rfl
  | cons o O ih => show (opC o ++ opsC O).length = _; rw [List.length_append, ih]; simp [opC]; omega
theorem opsC_snoc (O : List OpV) (o : OpV) : opsC (O ++ [o]) = opsC O ++ opC o := by simp [opsC]
/-- A search's variables. -/
structure Sst where
  lv : Value
  L : List UInt8
  want : Nat
  seen : Nat
  tv : Value
  T : List UInt8
  ov : Value
  O : List OpV
  over : Bool
/-- What a search is made over. -/
structure Cfg where
  l : List UInt8
  B : Nat
  st : Nat
  x : Nat
  vm : Value
  ch : Nat
  H : Nat
  al : Nat
  vs : Value
  sc : Nat
  K : Nat → Prop
def scA (C : Cfg) (S : Sst) : Array Value := #[S.lv, .int .u32 (weak S.L), .int .i64 (C.l.length : Int), .int .i64 (C.B : Int), .int .i64 (C.st : Int), C.vs, .pointer (some ⟨C.x, 0, none⟩), .int .i64 (S.want : Int), .int .i64 (S.seen : Int), S.tv, S.ov, .bool S.over]
structure SC (C : Cfg) (S : Sst) (w : World) : Prop where
  blk : Blk w C.sc 67 (scA C S)
  lft : SlB w S.lv S.L
  tld : SlB w S.tv S.T
  ops : Sl w 48 3 S.ov S.O.length (opsC S.O)
  dat : ∀ o ∈ S.O, SlB w o.dv o.d
  d1 : ∀ k, S.lv.ownBlock = some k → S.tv.ownBlock ≠ some k
  d2 : ∀ o ∈ S.O, ∀ k, o.dv.ownBlock = some k → S.lv.ownBlock ≠ some k ∧ S.tv.ownBlock ≠ some k
  idx : IX C.l C.B C.st C.x C.vm C.ch C.H C.al w
  ls : ¬ C.K C.sc
  ll : ∀ k, S.lv.ownBlock = some k → ¬ C.K k
  lt : ∀ k, S.tv.ownBlock = some k → ¬ C.K k
  lo : ∀ k, S.ov.ownBlock = some k → ¬ C.K k
  lw : ∀ k, C.K k → k < w.heap.size
/-- The index stands where bytes, ops or the search itself turn. -/
theorem IX.turn {l : List UInt8} {B st x : Nat} {vm : Value} {ch H al : Nat} {w w' : World} {b : Nat} {T : TypeId} {vs : Array Value} (h : IX l B st x vm ch H al w) (f : Fr (fun k => k = b) w w') (hb : Blk w b T vs) (h1 : T ≠ 85) (h2 : T ≠ 59) (h3 : T ≠ 86) (h4 : T ≠ 3) : IX l B st x vm ch H al w' :=
  h.fr f (blk_ne h.xb hb (Ne.symm h1)) (h.mks.ne hb (Ne.symm h2)) (blk_ne h.chb hb (Ne.symm h3)) (blk_ne h.alb hb (Ne.symm h4))
theorem SC.frF {C : Cfg} {S : Sst} {w w' : World} (h : SC C S w) (f : Fr (fun _ => False) w w') : SC C S w' :=
  ⟨h.blk.fr f (fun x => x), Sl.fr h.lft f (fun _ _ x => x), Sl.fr h.tld f (fun _ _ x => x), h.ops.fr f (fun _ _ x => x), fun o ho => Sl.fr (h.dat o ho) f (fun _ _ x => x), h.d1, h.d2, h.idx.frF f, h.ls, h.ll, h.lt, h.lo, fun k hk => Nat.lt_of_lt_of_le (h.lw k hk) f.size⟩
/-- Only the search's own block turned. -/
theorem SC.self {C : Cfg} {S S' : Sst} {w w' : World} (h : SC C S w) (f : Fr (fun k => k = C.sc) w w') (hb : Blk w' C.sc 67 (scA C S')) (e1 : S'.lv = S.lv) (e2 : S'.L = S.L) (e3 : S'.tv = S.tv) (e4 : S'.T = S.T) (e5 : S'.ov = S.ov) (e6 : S'.O = S.O) : SC C S' w' := by
  refine ⟨hb, ?_, ?_, ?_, ?_, ?_, ?_, h.idx.turn f h.blk (by decide) (by decide) (by decide) (by decide), h.ls, ?_, ?_, ?_, fun k hk => Nat.lt_of_lt_of_le (h.lw k hk) f.size⟩
  · rw [e1, e2]; exact Sl.fr h.lft f (h.lft.ne h.blk (by decide))
  · rw [e3, e4]; exact Sl.fr h.tld f (h.tld.ne h.blk (by decide))
  · rw [e5, e6]; exact h.ops.fr f (h.ops.ne h.blk (by decide))
  · rw [e6]; exact fun o ho => Sl.fr (h.dat o ho) f ((h.dat o ho).ne h.blk (by decide))
  · rw [e1, e3]; exact h.d1
  · rw [e1, e3, e6]; exact h.d2
  · rw [e1]; exact h.ll
  · rw [e3]; exact h.lt
  · rw [e5]; exact h.lo
theorem Sl.own {w : World} {e : TypeId} {sz : Nat} {v : Value} {n : Nat} {xs : List Value} (h : Sl w e sz v n xs) (k : Nat) (hk : v.ownBlock = some k) : ∃ vs, Blk w k e vs := by
  rcases h.2 with ⟨rfl, _⟩ | ⟨g, _, _, cur, rfl, hg, _⟩
  · cases hk
  · have : g = k := by simpa [Value.ownBlock] using hk
    subst this; exact ⟨cur, hg⟩
theorem Sl.ne2 {w : World} {e e' : TypeId} {sz sz' : Nat} {v v' : Value} {n n' : Nat} {xs xs' : List Value} (h : Sl w e sz v n xs) (h' : Sl w e' sz' v' n' xs') (hT : e ≠ e') (k : Nat) (hk : v.ownBlock = some k) : v'.ownBlock ≠ some k := fun hk' => by
  obtain ⟨a, ha⟩ := h.own k hk
  obtain ⟨b, hb⟩ := h'.own k hk'
  exact blk_ne ha hb hT rfl
/-- Blocks of bytes leave the index alone. -/
theorem SC.idxF {C : Cfg} {S : Sst} {w w' : World} (h : SC C S w) {v : Value} {e : TypeId} {sz n : Nat} {xs : List Value} (hv : Sl w e sz v n xs) (he : e = 5 ∨ e = 48) (f : Fr (fun k => k = C.sc ∨ v.ownBlock = some k) w w') : IX C.l C.B C.st C.x C.vm C.ch C.H C.al w' := by
  have n1 : e ≠ 85 := by rcases he with rfl | rfl <;> decide
  have n2 : e ≠ 59 := by rcases he with rfl | rfl <;> decide
  have n3 : e ≠ 86 := by rcases he with rfl | rfl <;> decide
  have n4 : e ≠ 3 := by rcases he with rfl | rfl <;> decide
  refine h.idx.fr f (fun q => ?_) (fun k hk q => ?_) (fun q => ?_) (fun q => ?_)
  · rcases q with q | q
    · exact blk_ne h.idx.xb h.blk (by decide) q
    · exact hv.ne h.idx.xb n1 _ q rfl
  · rcases q with q | q
    · exact h.idx.mks.ne h.blk (by decide) k hk q
    · exact hv.ne2 h.idx.mks n2 k q hk
  · rcases q with q | q
    · exact blk_ne h.idx.chb h.blk (by decide) q
    · exact hv.ne h.idx.chb n3 _ q rfl
  · rcases q with q | q
    · exact blk_ne h.idx.alb h.blk (by decide) q
    · exact hv.ne h.idx.alb n4 _ q rfl
/-- The window's bytes have turned. -/
theorem SC.left {C : Cfg} {S : Sst} {w w' : World} (h : SC C S w) (lv' : Value) (L' : List UInt8) (f : Fr (fun k => k = C.sc ∨ S.lv.ownBlock = some k) w w') (hb : Blk w' C.sc 67 (scA C { S with lv := lv', L := L' }))
    (hl : SlB w' lv' L') (ho : ∀ k, lv'.ownBlock = some k → S.lv.ownBlock = some k ∨ w.heap.size ≤ k) : SC C { S with lv := lv', L := L' } w' := by
  refine ⟨hb, hl, Sl.fr h.tld f (fun k hk q => ?_), h.ops.fr f (fun k hk q => ?_), fun o hoo => Sl.fr (h.dat o hoo) f (fun k hk q => ?_), fun k hk hq => ?_, fun o hoo k hk => ⟨fun hq => ?_, (h.d2 o hoo k hk).2⟩, h.idxF h.lft (.inl rfl) f, h.ls, fun k hk => ?_, h.lt, h.lo, fun k hk => Nat.lt_of_lt_of_le (h.lw k hk) f.size⟩
  · rcases q with q | q
    · exact h.tld.ne h.blk (by decide) k hk q
    · exact h.d1 k q hk
  · rcases q with q | q
    · exact h.ops.ne h.blk (by decide) k hk q
    · exact Sl.ne2 h.lft h.ops (by decide) k q hk
  · rcases q with q | q
    · exact (h.dat o hoo).ne h.blk (by decide) k hk q
    · exact (h.d2 o hoo k hk).1 q
  · rcases ho k hk with z | z
    · exact h.d1 k z hq
    · have := Sl.lt h.tld k hq; omega
  · rcases ho k hq with z | z
    · exact (h.d2 o hoo k hk).1 z
    · have := Sl.lt (h.dat o hoo) k hk; omega
  · rcases ho k hk with z | z
    · exact h.ll k z
    · exact fun hk => absurd (h.lw k hk) (Nat.not_lt.2 z)
/-- What is told has turned. -/
theorem SC.told {C : Cfg} {S : Sst} {w w' : World} (h : SC C S w) (tv' : Value) (T' : List UInt8) (f : Fr (fun k => k = C.sc ∨ S.tv.ownBlock = some k) w w') (hb : Blk w' C.sc 67 (scA C { S with tv := tv', T := T' }))
    (hl : SlB w' tv' T') (ho : ∀ k, tv'.ownBlock = some k → S.tv.ownBlock = some k ∨ w.heap.size ≤ k) : SC C { S with tv := tv', T := T' } w' := by
  refine ⟨hb, Sl.fr h.lft f (fun k hk q => ?_), hl, h.ops.fr f (fun k hk q => ?_), fun o hoo => Sl.fr (h.dat o hoo) f (fun k hk q => ?_), fun k hk hq => ?_, fun o hoo k hk => ⟨(h.d2 o hoo k hk).1, fun hq => ?_⟩, h.idxF h.tld (.inl rfl) f, h.ls, h.ll, fun k hk => ?_, h.lo, fun k hk => Nat.lt_of_lt_of_le (h.lw k hk) f.size⟩
  · rcases q with q | q
    · exact h.lft.ne h.blk (by decide) k hk q
    · exact h.d1 k hk q
  · rcases q with q | q
    · exact h.ops.ne h.blk (by decide) k hk q
    · exact Sl.ne2 h.tld h.ops (by decide) k q hk
  · rcases q with q | q
    · exact (h.dat o hoo).ne h.blk (by decide) k hk q
    · exact (h.d2 o hoo k hk).2 q
  · rcases ho k hq with z | z
    · exact h.d1 k hk z
    · have := Sl.lt h.lft k hk; omega
  · rcases ho k hq with z | z
    · exact (h.d2 o hoo k hk).2 z
    · have := Sl.lt (h.dat o hoo) k hk; omega
  · rcases ho k hk with z | z
    · exact h.lt k z
    · exact fun hk => absurd (h.lw k hk) (Nat.not_lt.2 z)
end Go.Proofs.Ytphjebbjhfnhoaa

namespace Go.Proofs.Ytphjebbjhfnhoaa
open Go.RowKit
set_option maxRecDepth 100000 in
set_option maxHeartbeats 4000000 in
theorem push_spec (C : Cfg) (S : Sst) (c : UInt8) (w : World) (h : SC C S w) (hl : S.L.length ≤ 1000000) :
    Calls Try.prog 23 #[.pointer (some ⟨C.sc, 0, none⟩), .int .u8 (c.toNat : Int)] w fun e w' => ∃ lv', e = .returned (.tuple #[]) ∧ SC C { S with lv := lv', L := S.L ++ [c] } w' ∧ Fr (fun k => ¬ C.K k) w w' := by
  have HS := Lib.hid h
  have HSD := Lib.hid (h.frF ((Fr.refl (fun _ => False) w).drew))
  obtain ⟨ad, cap, hlv, _, _⟩ := Sl.slice h.lft
  have c0 := HSD.out.blk.cell 0 (v := S.lv) rfl
  have c1 := HSD.out.blk.cell 1 (v := .int .u32 (weak S.L)) rfl
  have f1 := HSD.out.blk.free 1
  rw [hlv] at c0
  have HLV := Lib.hid hlv
  have HL := Lib.hid hl
  have HE := Lib.hid (show wkI ((wsum S.L).1 + c.toNat + 31) ((wsum S.L).2 + (wsum S.L).1 + c.toNat + 31) = weak (S.L ++ [c]) by unfold weak; rw [wsum_snoc]; rfl)
  have HC := Lib.hid (fun n wx => in_spec (wsum S.L).1 (wsum S.L).2 n c wx)
  rw [HE.out, show wkI (wsum S.L).1 (wsum S.L).2 = weak S.L from rfl] at HC
  obtain ⟨sc, hsc⟩ : ∃ sc, sc = C.sc := ⟨_, rfl⟩
  rw [← hsc] at c0 c1 f1 ⊢
  have HSC := Lib.hid hsc
  obtain ⟨y, hy⟩ : ∃ y, y = weak (S.L ++ [c]) := ⟨_, rfl⟩
  rw [← hy] at HC
  have HY := Lib.hid hy
  obtain ⟨y0, hy0⟩ : ∃ y0, y0 = weak S.L := ⟨_, rfl⟩
  rw [← hy0] at HC c1
  obtain ⟨m, hm⟩ : ∃ m, m = S.L.length := ⟨_, rfl⟩
  rw [← hm] at c0
  have HM := Lib.hid hm
  clear h hlv hl hsc hy hy0 hm HE
  go_enter Try.func23, Try.ntmps23
  go_wp2_with (fail)
  have R37 : Hid (∀ n, Calls Try.prog 37 #[.int .u32 y0, .int .i64 n, .int .u8 (c.toNat : Int)] w.drew fun e w' => e = .returned (.int .u32 y) ∧ w' = w.drew) := Lib.hid (fun n => (HC.out n w.drew).mono fun _ _ ⟨h1, h2⟩ => ⟨h1, h2.symm⟩)
  refine wp_region_still_tail 14 (by kernel_rfl) (by kernel_rfl) ?_
  simp only [List.take_succ_cons, List.take_zero, List.drop_succ_cons, List.drop_zero]
  change wpStill _ _ w.drew (fun a' => wpList _ _ _ _ a' w.drew) _ _
  have HFD := Lib.hid ((Fr.refl (fun _ => False) w).drew)
  generalize w.drew = wx at HSD c0 c1 f1 R37 HFD ⊢
  iterate 11 still_step
  still_call (R37.out _)
  iterate 2 still_step
  refine wpStill_nil ?_
  go_upto_region 1 with (fail)
  have hb1 : Blk (wx.setCell ⟨sc, 1, none⟩ (.int .u32 y)) sc 67 ((scA C S).setIfInBounds 1 (.int .u32 y)) := by rw [HSC.out]; exact HSD.out.blk.set 1 _
  have g1 : Fr (fun k => k = sc) wx (wx.setCell ⟨sc, 1, none⟩ (.int .u32 y)) := (Fr.refl (fun k => k = sc) wx).setCell (p := ⟨sc, 1, none⟩) (fun _ => rfl) _
  have HB1 := Lib.hid hb1
  have HG1 := Lib.hid g1
  have c0 := hb1.cell 0 (v := S.lv) rfl
  rw [HLV.out, ← HM.out] at c0
  have HLF := Lib.hid (show Sl _ 5 1 (.slice ad m cap) m (S.L.map u8v) by have := Sl.fr HSD.out.lft g1 (by rw [HSC.out]; exact HSD.out.lft.ne HSD.out.blk (by decide)); rw [HLV.out, ← HM.out] at this; exact this)
  clear hb1 g1 f1 c1 R37 HS HC
  generalize wx.setCell ⟨sc, 1, none⟩ (.int .u32 y) = w1 at *
  have HA := Lib.hid ((Fr.refl (fun _ => False) w1).alloc (.cells #[.int .u8 (c.toNat : Int)] 5))
  have HSRC := Lib.hid (src_one (P := Try.prog) (tx := 22) Try.underlying22 w1.heap.size 1 5 [u8v c] rfl (fun u hu => by rw [List.mem_singleton] at hu; subst hu; rfl) (Blk.new w1 5 #[.int .u8 (c.toNat : Int)]))
  go_wp2_with (first
    | (at_builtin; refine wpList_app rfl (.tmp 22) (.tmp 24) 22 22 rfl 5 (.int .u8 0) 1 1 Try.underlying22 Try.info5 rfl (.slice ad m cap) m (S.L.map u8v) rfl (HLF.out.fr HA.out (fun _ _ x => x)) _ 1 [u8v c] rfl HSRC.out (by have := HL.out; have := HM.out; unfold maxLen; omega) (by have := HL.out; have := HM.out; omega) ?_; intro v' w9 q1 q2 q3; have Q1 := Lib.hid q1; have Q2 := Lib.hid q2; have Q3 := Lib.hid q3; have hb9 := Blk.fr (HB1.out.fr HA.out (fun x => x)) q2 (fun e => HLF.out.ne HB1.out (by decide) sc e rfl); have HB9 := Lib.hid hb9; have c9 := hb9.cell 0 (v := S.lv) rfl; have f9 := hb9.free 0; obtain ⟨ad9, cap9, hv9, _, _⟩ := q1.slice; subst hv9; clear q1 q2 q3 hb9)
    | fail)
  go_end0
  have own0 : ∀ k, (Value.slice ad m cap).ownBlock = some k → S.lv.ownBlock = some k := fun k q => by rw [HLV.out, ← HM.out]; exact q
  have g2 : Fr (fun k => k = sc) w9 (w9.setCell ⟨sc, 0, none⟩ (.slice ad9 (m + 1) cap9)) := (Fr.refl (fun k => k = sc) w9).setCell (p := ⟨sc, 0, none⟩) (fun _ => rfl) _
  have F : Fr (fun k => k = C.sc ∨ S.lv.ownBlock = some k) wx (w9.setCell ⟨sc, 0, none⟩ (.slice ad9 (m + 1) cap9)) :=
    (((HG1.out.mono (fun k _ q => .inl (q.trans HSC.out))).trans HA.out (fun _ _ q => q.elim)).trans Q2.out (fun k _ q => .inr (own0 k q))).trans g2 (fun k _ q => .inl (q.trans HSC.out))
  have hm2 : (S.L ++ [c]).length = m + 1 := by rw [List.length_append, HM.out]; rfl
  refine ⟨.slice ad9 (m + 1) cap9, rfl, HSD.out.left _ _ F ?_ ?_ (fun k q => ?_), (HFD.out.mono (fun _ _ q => q.elim)).trans F (fun k _ q => ?_)⟩
  · have := HB9.out.set 0 (.slice ad9 (m + 1) cap9)
    rw [HY.out, HSC.out] at this
    rw [HSC.out]; exact this
  · unfold SlB
    rw [hm2, List.map_append]
    exact Q1.out.fr g2 (Q1.out.ne HB9.out (by decide))
  · rcases Q3.out with z | z
    · exact .inl (own0 k (by rw [← z]; exact q))
    · rw [z] at q; cases q
      exact .inr (Nat.le_trans HG1.out.size HA.out.size)
  · rcases q with q | q
    · rw [q]; exact HSD.out.ls
    · exact HSD.out.ll k q
theorem Sl.tail {w : World} {e : TypeId} {g o n cap : Nat} {x : Value} {xs : List Value} (h : Sl w e 1 (.slice (some ⟨g, o, none⟩) (n + 1) cap) (n + 1) (x :: xs)) : Sl w e 1 (.slice (if cap = 1 then some ⟨g, o, none⟩ else some ⟨g, o + 1, none⟩) n (cap - 1)) n xs := by
  obtain ⟨h1, h2⟩ := h
  have h1' : xs.length = n := by simp only [List.length_cons, Nat.mul_one] at h1; omega
  refine ⟨by rw [Nat.mul_one]; exact h1', ?_⟩
  rcases h2 with ⟨h2, _⟩ | ⟨g', o', cap', cur, h2, hb, h3, h4, h5, h6⟩
  · cases h2
  · cases h2
    by_cases hc : cap = 1
    · rw [if_pos hc]
      refine .inr ⟨g, o, cap - 1, cur, rfl, hb, by omega, by omega, by omega, fun j u hj => ?_⟩
      rw [List.getElem?_eq_none (by omega)] at hj; cases hj
    · rw [if_neg hc]
      refine .inr ⟨g, o + 1, cap - 1, cur, rfl, hb, by omega, by omega, by omega, fun j u hj => ?_⟩
      rw [show o + 1 + j = o + (j + 1) by omega]
      exact h6 (j + 1) u (by rw [List.getElem?_cons_succ]; exact hj)
set_option maxRecDepth 100000 in
set_option maxHeartbeats 4000000 in
theorem shift_spec (C : Cfg) (S : Sst) (c : UInt8) (r : List UInt8) (w : World) (h : SC C S w) (hL : S.L = c :: r) (hl : r.length ≤ 10000) :
    Calls Try.prog 25 #[.pointer (some ⟨C.sc, 0, none⟩)] w fun e w' => ∃ lv', e = .returned (.int .u8 (c.toNat : Int)) ∧ SC C { S with lv := lv', L := r } w' ∧ Fr (fun k => ¬ C.K k) w w' := by
  have HSD := Lib.hid (h.frF ((Fr.refl (fun _ => False) w).drew))
  obtain ⟨n, hn⟩ : ∃ n, n = r.length := ⟨_, rfl⟩
  have hlen : S.L.length = n + 1 := by rw [hL, List.length_cons, hn]
  obtain ⟨g, o, cap, cur, hlv, hb, hcap, _, _, hat⟩ := Sl.pos h.lft (by omega)
  rw [hlen] at hlv hcap
  have c5 := hb.cell o (by have := hat 0 (u8v c) (by rw [hL]; rfl); rw [Nat.add_zero] at this; exact this)
  have c0 := h.blk.cell 0 (v := S.lv) rfl
  have d0 := HSD.out.blk.cell 0 (v := S.lv) rfl
  have d1 := HSD.out.blk.cell 1 (v := .int .u32 (weak S.L)) rfl
  have f1 := HSD.out.blk.free 1
  rw [hlv] at c0 d0
  have HLV := Lib.hid hlv
  have HL := Lib.hid hL
  have hw : wkI ((wsum S.L).1 - (c.toNat + 31)) ((wsum S.L).2 - ((n + 1 : Nat) : Int) * (c.toNat + 31)) = weak r := by
    rw [hL, wsum_cons]
    unfold weak
    refine wkI_congr ?_ ?_
    · congr 1; simp only; omega
    · congr 1
      simp only
      rw [hn, show ((r.length + 1 : Nat) : Int) = (r.length : Int) + 1 by omega]; omega
  have HC := Lib.hid (fun wx => out_spec (wsum S.L).1 (wsum S.L).2 (n + 1) (by omega) c wx)
  rw [hw, show wkI (wsum S.L).1 (wsum S.L).2 = weak S.L from rfl] at HC
  obtain ⟨sc, hsc⟩ : ∃ sc, sc = C.sc := ⟨_, rfl⟩
  rw [← hsc] at c0 d0 d1 f1 ⊢
  have HSC := Lib.hid hsc
  obtain ⟨y, hy⟩ : ∃ y, y = weak r := ⟨_, rfl⟩
  rw [← hy] at HC
  have HY := Lib.hid hy
  obtain ⟨y0, hy0⟩ : ∃ y0, y0 = weak S.L := ⟨_, rfl⟩
  rw [← hy0] at HC d1
  have n1 : (n : Int) ≤ 10000 := by omega
  have HN := Lib.hid hn
  have HCAP := Lib.hid hcap
  have n2 : (n : Int) + 1 ≤ (cap : Int) := by omega
  clear h hlv hl hsc hy hy0 hL hn hlen hb hat hw hcap
  go_enter Try.func25, Try.ntmps25
  go_wp2_with (fail)
  have R42 : Hid (Calls Try.prog 42 #[.int .u32 y0, .int .i64 ((n + 1 : Nat) : Int), .int .u8 (c.toNat : Int)] w.drew fun e w' => e = .returned (.int .u32 y) ∧ w' = w.drew) := Lib.hid ((HC.out w.drew).mono fun _ _ ⟨h1, h2⟩ => ⟨h1, h2.symm⟩)
  refine wp_region_still_tail 14 (by kernel_rfl) (by kernel_rfl) ?_
  simp only [List.take_succ_cons, List.take_zero, List.drop_succ_cons, List.drop_zero]
  change wpStill _ _ w.drew (fun a' => wpList _ _ _ _ a' w.drew) _ _
  have HFD := Lib.hid ((Fr.refl (fun _ => False) w).drew)
  clear c0 c5
  generalize w.drew = wx at HSD d0 d1 f1 R42 HFD ⊢
  iterate 11 still_step
  still_call R42.out
  iterate 2 still_step
  refine wpStill_nil ?_
  go_upto_region 3 with (fail)
  have hb1 : Blk (wx.setCell ⟨sc, 1, none⟩ (.int .u32 y)) sc 67 ((scA C S).setIfInBounds 1 (.int .u32 y)) := by rw [HSC.out]; exact HSD.out.blk.set 1 _
  have g1 : Fr (fun k => k = sc) wx (wx.setCell ⟨sc, 1, none⟩ (.int .u32 y)) := (Fr.refl (fun k => k = sc) wx).setCell (p := ⟨sc, 1, none⟩) (fun _ => rfl) _
  have HB1 := Lib.hid hb1
  have HG1 := Lib.hid g1
  have c0 := hb1.cell 0 (v := S.lv) rfl
  have f0 := hb1.free 0
  rw [HLV.out] at c0
  clear hb1 g1 f1 d1 d0 R42 HC
  generalize wx.setCell ⟨sc, 1, none⟩ (.int .u32 y) = w1 at *
  by_cases hc1 : cap = 1
  · go_wp2_with (fail)
    have HEND : ∀ wz, wz = w1.setCell ⟨sc, 0, none⟩ (.slice (some ⟨g, o, none⟩) n (cap - 1)) → ∃ lv', SC C { S with lv := lv', L := r } wz ∧ Fr (fun k => ¬ C.K k) w wz := by
      intro wz hz
      have g2 : Fr (fun k => k = sc) w1 wz := by rw [hz]; exact (Fr.refl (fun k => k = sc) w1).setCell (p := ⟨sc, 0, none⟩) (fun _ => rfl) _
      have F : Fr (fun k => k = C.sc ∨ S.lv.ownBlock = some k) wx wz := (HG1.out.mono (fun k _ q => .inl (q.trans HSC.out))).trans g2 (fun k _ q => .inl (q.trans HSC.out))
      refine ⟨(.slice (some ⟨g, o, none⟩) n (cap - 1)), HSD.out.left _ _ F ?_ ?_ (fun k q => .inl ?_), (HFD.out.mono (fun _ _ q => q.elim)).trans F (fun k _ q => ?_)⟩
      · have := HB1.out.set 0 (.slice (some ⟨g, o, none⟩) n (cap - 1))
        rw [HY.out, HSC.out] at this
        rw [hz, HSC.out]; exact this
      · have ht := HSD.out.lft
        unfold SlB at ht
        rw [HLV.out, HL.out, List.length_cons, ← HN.out, List.map_cons] at ht
        have ht := ht.tail
        rw [if_pos hc1] at ht
        have h9 := ht.fr (HG1.out.trans g2 (fun _ _ q => q)) (fun k hk e => by
          have h8 := HSD.out.lft
          rw [HLV.out] at h8
          exact h8.ne HSD.out.blk (by decide) k hk (e.trans HSC.out))
        unfold SlB
        rw [← HN.out]; exact h9
      · rw [HLV.out]; exact q
      · rcases q with q | q
        · rw [q]; exact HSD.out.ls
        · exact HSD.out.ll k q
    obtain ⟨lv', e1, e2⟩ := HEND _ rfl
    rw [show cap - 1 = 0 by omega] at e1 e2
    go_ret
    exact ⟨lv', rfl, e1, e2⟩
  · go_wp2_with (fail)
    have HEND : ∀ wz, wz = w1.setCell ⟨sc, 0, none⟩ (.slice (some ⟨g, o + 1, none⟩) n (cap - 1)) → ∃ lv', SC C { S with lv := lv', L := r } wz ∧ Fr (fun k => ¬ C.K k) w wz := by
      intro wz hz
      have g2 : Fr (fun k => k = sc) w1 wz := by rw [hz]; exact (Fr.refl (fun k => k = sc) w1).setCell (p := ⟨sc, 0, none⟩) (fun _ => rfl) _
      have F : Fr (fun k => k = C.sc ∨ S.lv.ownBlock = some k) wx wz := (HG1.out.mono (fun k _ q => .inl (q.trans HSC.out))).trans g2 (fun k _ q => .inl (q.trans HSC.out))
      refine ⟨(.slice (some ⟨g, o + 1, none⟩) n (cap - 1)), HSD.out.left _ _ F ?_ ?_ (fun k q => .inl ?_), (HFD.out.mono (fun _ _ q => q.elim)).trans F (fun k _ q => ?_)⟩
      · have := HB1.out.set 0 (.slice (some ⟨g, o + 1, none⟩) n (cap - 1))
        rw [HY.out, HSC.out] at this
        rw [hz, HSC.out]; exact this
      · have ht := HSD.out.lft
        unfold SlB at ht
        rw [HLV.out, HL.out, List.length_cons, ← HN.out, List.map_cons] at ht
        have ht := ht.tail
        rw [if_neg hc1] at ht
        have h9 := ht.fr (HG1.out.trans g2 (fun _ _ q => q)) (fun k hk e => by
          have h8 := HSD.out.lft
          rw [HLV.out] at h8
          exact h8.ne HSD.out.blk (by decide) k hk (e.trans HSC.out))
        unfold SlB
        rw [← HN.out]; exact h9
      · rw [HLV.out]; exact q
      · rcases q with q | q
        · rw [q]; exact HSD.out.ls
        · exact HSD.out.ll k q
    obtain ⟨lv', e1, e2⟩ := HEND _ rfl
    go_ret
    exact ⟨lv', rfl, e1, e2⟩
end Go.Proofs.Ytphjebbjhfnhoaa
