/- delta: ops put together, in plain words; and the joiner's memory. -/
import Derived.Test.YtphjebbjhfnhoaaQi
import Derived.Test.YtphjebbjhfnhoaaLn
namespace Go.Proofs.Ytphjebbjhfnhoaa
open Go.RowKit
theorem OpV.ext' {a b : OpV} (h1 : a.off = b.off) (h2 : a.len = b.len) (h3 : a.dv = b.dv) (h4 : a.d = b.d) : a = b := by
  cases a; cases b; simp_all
def toldS (O : List (Nat × Nat × List UInt8)) : Nat := (O.map (fun o => o.2.2.length)).sum
theorem toldS_append (A B : List (Nat × Nat × List UInt8)) : toldS (A ++ B) = toldS A + toldS B := by simp [toldS]
theorem toldS_one (o : Nat × Nat × List UInt8) : toldS [o] = o.2.2.length := by simp [toldS]
/-- One op more, put together with the last where it can be. -/
inductive AddR (O : List (Nat × Nat × List UInt8)) (o : Nat × Nat × List UInt8) : List (Nat × Nat × List UInt8) → Prop
  | zero : lenV o.2.2.length o.2.1 = 0 → AddR O o O
  | join (I : List (Nat × Nat × List UInt8)) (p : Nat × Nat × List UInt8) : O = I ++ [p] → p.2.2 ≠ [] → o.2.2 ≠ [] → AddR O o (I ++ [(p.1, p.2.1, p.2.2 ++ o.2.2)])
  | run (I : List (Nat × Nat × List UInt8)) (p : Nat × Nat × List UInt8) : O = I ++ [p] → p.2.2 = [] → o.2.2 = [] → p.1 + p.2.1 = o.1 → AddR O o (I ++ [(p.1, p.2.1 + o.2.1, p.2.2)])
  | told : o.2.2 ≠ [] → AddR O o (O ++ [(0, 0, o.2.2)])
  | copy : o.2.2 = [] → o.2.1 ≠ 0 → AddR O o (O ++ [o])
theorem AddR.told_eq {O : List (Nat × Nat × List UInt8)} {o : Nat × Nat × List UInt8} {O' : List (Nat × Nat × List UInt8)} (h : AddR O o O') : toldS O' = toldS O + o.2.2.length := by
  cases h with
  | zero h =>
    unfold lenV at h
    split at h <;> omega
  | join I p h1 h2 h3 => subst h1; rw [toldS_append, toldS_append, toldS_one, toldS_one, List.length_append]; omega
  | run I p h1 h2 h3 => subst h1; rw [toldS_append, toldS_append, toldS_one, toldS_one, h3]; simp
  | told h => rw [toldS_append, toldS_one]
  | copy h => rw [toldS_append, toldS_one]
/-- Ops put together one by one. -/
inductive NormR : List (Nat × Nat × List UInt8) → List (Nat × Nat × List UInt8) → Prop
  | nil : NormR [] []
  | snoc (l O O' : List (Nat × Nat × List UInt8)) (o : Nat × Nat × List UInt8) : NormR l O → AddR O o O' → NormR (l ++ [o]) O'
theorem NormR.told_eq {l O : List (Nat × Nat × List UInt8)} (h : NormR l O) : toldS O = toldS l := by
  induction h with
  | nil => rfl
  | snoc l O O' o _ h ih => rw [h.told_eq, ih, toldS_append, toldS_one]
theorem Sl.setAt {w : World} {e : TypeId} {sz : Nat} {g o n cap : Nat} {xs : List Value} (h : Sl w e sz (.slice (some ⟨g, o, none⟩) n cap) n xs) (i : Nat) (u : Value) (hi : i < xs.length) : Sl (w.setCell ⟨g, o + i, none⟩ u) e sz (.slice (some ⟨g, o, none⟩) n cap) n (xs.set i u) := by
  refine ⟨by rw [List.length_set]; exact h.1, ?_⟩
  rcases h.2 with ⟨h2, _⟩ | ⟨g', o', cap', cur, h2, hb, h3, h4, h5, h6⟩
  · cases h2
  · cases h2
    refine .inr ⟨g, o, cap, _, rfl, hb.set (o + i) u, h3, h4, by rw [Array.size_setIfInBounds]; exact h5, fun j v hj => ?_⟩
    by_cases e : j = i
    · subst e
      rw [List.getElem?_set_self hi] at hj
      have hlt : o + j < cur.size := by
        have := h6 j xs[j] (List.getElem?_eq_getElem hi)
        exact (Array.getElem?_eq_some_iff.1 this).1
      rw [Array.getElem?_setIfInBounds_self_of_lt hlt]; exact hj
    · rw [List.getElem?_set_ne (Ne.symm e)] at hj
      rw [Array.getElem?_setIfInBounds_ne (by omega)]; exact h6 j v hj
theorem Sl.cellAt {w : World} {e : TypeId} {sz : Nat} {g o n cap : Nat} {xs : List Value} (h : Sl w e sz (.slice (some ⟨g, o, none⟩) n cap) n xs) (i : Nat) (u : Value) (hi : xs[i]? = some u) : w.cell? ⟨g, o + i, none⟩ = some u ∧ w.frozen? ⟨g, o + i, none⟩ = false := by
  rcases h.2 with ⟨h2, _⟩ | ⟨g', o', cap', cur, h2, hb, h3, h4, h5, h6⟩
  · cases h2
  · cases h2
    exact ⟨hb.cell _ (h6 i u hi), hb.free _⟩
theorem opsC_at (I : List OpV) (p : OpV) (J : List OpV) (i : Nat) (hi : i < 3) : (opsC (I ++ p :: J))[I.length * 3 + i]? = (opC p)[i]? := by
  have : opsC (I ++ p :: J) = opsC I ++ (opC p ++ opsC J) := by simp [opsC]
  rw [this, List.getElem?_append_right (by rw [opsC_length]; omega), opsC_length, show I.length * 3 + i - I.length * 3 = i by omega, List.getElem?_append_left (by simp [opC]; omega)]
theorem opsC_set (I : List OpV) (p p' : OpV) (i : Nat) (u : Value) (hi : i < 3) (h : (opC p).set i u = opC p') : (opsC (I ++ [p])).set (I.length * 3 + i) u = opsC (I ++ [p']) := by
  rw [opsC_snoc, opsC_snoc, List.set_append_right _ _ (by rw [opsC_length]; omega), opsC_length, show I.length * 3 + i - I.length * 3 = i by omega, h]
/-- The joiner's variable and what stands in it. -/
structure JN (jb h0 : Nat) (ov : Value) (O : List OpV) (w : World) : Prop where
  box : Blk w jb 30 #[ov]
  ops : Sl w 48 3 ov O.length (opsC O)
  dat : ∀ o ∈ O, SlB w o.dv o.d
  jh : h0 ≤ jb
  oh : ∀ k, ov.ownBlock = some k → h0 ≤ k
  dh : ∀ I p, O = I ++ [p] → p.d ≠ [] → ∀ k, p.dv.ownBlock = some k → h0 ≤ k ∧ ∀ o ∈ I, o.dv.ownBlock ≠ some k
  bd : ∀ o ∈ O, o.off + o.len ≤ 131072
theorem JN.frF {jb h0 : Nat} {ov : Value} {O : List OpV} {w w' : World} (h : JN jb h0 ov O w) (f : Fr (fun _ => False) w w') : JN jb h0 ov O w' :=
  ⟨h.box.fr f (fun x => x), h.ops.fr f (fun _ _ x => x), fun o ho => Sl.fr (h.dat o ho) f (fun _ _ x => x), h.jh, h.oh, h.dh, h.bd⟩
theorem JN.push {jb h0 : Nat} {ov : Value} {O : List OpV} {w w9 : World} (h : JN jb h0 ov O w) (o : OpV) (v' : Value) (ho : SlB w o.dv o.d) (hb : o.off + o.len ≤ 131072) (hd : o.d ≠ [] → ∀ k, o.dv.ownBlock = some k → h0 ≤ k ∧ ∀ p ∈ O, p.dv.ownBlock ≠ some k)
    (hw : h0 ≤ w.heap.size) (q1 : Sl w9 48 3 v' (O.length + 1) (opsC O ++ opC o)) (q2 : Fr (fun k => ov.ownBlock = some k) w w9) (q3 : v'.ownBlock = ov.ownBlock ∨ ∃ k, v'.ownBlock = some k ∧ w.heap.size ≤ k) :
    JN jb h0 v' (O ++ [o]) (w9.setCell ⟨jb, 0, none⟩ v') ∧ Fr (fun k => h0 ≤ k) w (w9.setCell ⟨jb, 0, none⟩ v') := by
  have hj : Blk w9 jb 30 #[ov] := h.box.fr q2 (fun e => h.ops.ne h.box (by decide) jb e rfl)
  have g : Fr (fun k => k = jb) w9 (w9.setCell ⟨jb, 0, none⟩ v') := (Fr.refl (fun k => k = jb) w9).setCell (p := ⟨jb, 0, none⟩) (fun _ => rfl) _
  have F : Fr (fun k => k = jb ∨ ov.ownBlock = some k) w (w9.setCell ⟨jb, 0, none⟩ v') := (q2.mono (fun _ _ x => .inr x)).trans g (fun _ _ x => .inl x)
  have key : ∀ p : OpV, SlB w p.dv p.d → SlB (w9.setCell ⟨jb, 0, none⟩ v') p.dv p.d := fun p hp => Sl.fr hp F (fun k hk q => by
    rcases q with q | q
    · exact Sl.ne hp h.box (by decide) k hk q
    · exact Sl.ne2 hp h.ops (by decide) k hk q)
  refine ⟨⟨hj.set 0 v', ?_, ?_, h.jh, ?_, ?_, ?_⟩, F.mono (fun k _ q => ?_)⟩
  · rw [List.length_append, opsC_snoc]
    exact q1.fr g (fun k hk e => q1.ne hj (by decide) k hk e)
  · intro p hp
    rcases List.mem_append.1 hp with hp | hp
    · exact key p (h.dat p hp)
    · rw [List.mem_singleton] at hp; subst hp; exact key _ ho
  · intro k hk
    rcases q3 with e | ⟨k', e, hk'⟩
    · exact h.oh k (e ▸ hk)
    · rw [e] at hk; cases hk; exact Nat.le_trans hw hk'
  · intro I p e
    obtain ⟨rfl, e2⟩ := List.append_inj' e rfl
    cases e2
    exact hd
  · intro p hp
    rcases List.mem_append.1 hp with hp | hp
    · exact h.bd p hp
    · rw [List.mem_singleton] at hp; subst hp; exact hb
  · rcases q with rfl | q
    · exact h.jh
    · exact h.oh k q
theorem JN.join {jb h0 g oo cap : Nat} {I : List OpV} {p : OpV} {w w9 : World} (h : JN jb h0 (.slice (some ⟨g, oo, none⟩) (I ++ [p]).length cap) (I ++ [p]) w) (hp : p.d ≠ []) (d : List UInt8) (v' : Value) (hw : h0 ≤ w.heap.size)
    (q1 : Sl w9 5 1 v' (p.d.length + d.length) (p.d.map u8v ++ d.map u8v)) (q2 : Fr (fun k => p.dv.ownBlock = some k) w w9) (q3 : v'.ownBlock = p.dv.ownBlock ∨ v'.ownBlock = some w.heap.size) :
    JN jb h0 (.slice (some ⟨g, oo, none⟩) (I ++ [p]).length cap) (I ++ [⟨p.off, p.len, v', p.d ++ d⟩]) (w9.setCell ⟨g, oo + (I.length * 3 + 2), none⟩ v') ∧ Fr (fun k => h0 ≤ k) w (w9.setCell ⟨g, oo + (I.length * 3 + 2), none⟩ v') := by
  have pin : p ∈ I ++ [p] := List.mem_append.2 (.inr (List.mem_singleton.2 rfl))
  have hpd := h.dat p pin
  have hops9 : Sl w9 48 3 (.slice (some ⟨g, oo, none⟩) (I ++ [p]).length cap) (I ++ [p]).length (opsC (I ++ [p])) := h.ops.fr q2 (fun k hk q => Sl.ne2 hpd h.ops (by decide) k q hk)
  have hj9 : Blk w9 jb 30 #[.slice (some ⟨g, oo, none⟩) (I ++ [p]).length cap] := h.box.fr q2 (fun e => Sl.ne hpd h.box (by decide) jb e rfl)
  have gg : Fr (fun k => k = g) w9 (w9.setCell ⟨g, oo + (I.length * 3 + 2), none⟩ v') := (Fr.refl (fun k => k = g) w9).setCell (p := ⟨g, oo + (I.length * 3 + 2), none⟩) (fun _ => rfl) _
  have F : Fr (fun k => p.dv.ownBlock = some k ∨ k = g) w (w9.setCell ⟨g, oo + (I.length * 3 + 2), none⟩ v') := (q2.mono (fun _ _ x => .inl x)).trans gg (fun _ _ x => .inr x)
  have gown : (Value.slice (some ⟨g, oo, none⟩) (I ++ [p]).length cap).ownBlock = some g := rfl
  have hs := hops9.setAt (I.length * 3 + 2) v' (by rw [opsC_length, List.length_append]; simp; omega)
  rw [opsC_set I p ⟨p.off, p.len, v', p.d ++ d⟩ 2 v' (by decide) rfl] at hs
  refine ⟨⟨?_, ?_, ?_, h.jh, h.oh, ?_, ?_⟩, F.mono (fun k _ q => ?_)⟩
  · exact hj9.fr gg (fun e => h.ops.ne h.box (by decide) g gown e.symm)
  · rw [show (I ++ [(⟨p.off, p.len, v', p.d ++ d⟩ : OpV)]).length = (I ++ [p]).length by simp]; exact hs
  · intro o ho
    rcases List.mem_append.1 ho with ho | ho
    · have hoo := h.dat o (List.mem_append.2 (.inl ho))
      refine Sl.fr hoo F (fun k hk q => ?_)
      rcases q with q | q
      · exact (h.dh I p rfl hp k q).2 o ho hk
      · exact Sl.ne2 hoo h.ops (by decide) k hk (by rw [q]; exact gown)
    · rw [List.mem_singleton] at ho; subst ho
      show Sl _ 5 1 v' (p.d ++ d).length ((p.d ++ d).map u8v)
      rw [List.length_append, List.map_append]
      exact q1.fr gg (fun k hk e => Sl.ne2 q1 hops9 (by decide) k hk (by rw [e]; exact gown))
  · intro I' p' e hne k hk
    obtain ⟨rfl, e2⟩ := List.append_inj' e rfl
    cases e2
    rcases q3 with z | z
    · exact h.dh I p rfl hp k (z ▸ hk)
    · rw [z] at hk; cases hk
      exact ⟨hw, fun o ho q => absurd (Sl.lt (h.dat o (List.mem_append.2 (.inl ho))) _ q) (Nat.lt_irrefl _)⟩
  · intro o ho
    rcases List.mem_append.1 ho with ho | ho
    · exact h.bd o (List.mem_append.2 (.inl ho))
    · rw [List.mem_singleton] at ho; subst ho; exact h.bd p pin
  · rcases q with q | rfl
    · exact (h.dh I p rfl hp k q).1
    · exact h.oh k gown
theorem JN.run {jb h0 g oo cap : Nat} {I : List OpV} {p : OpV} {w : World} (h : JN jb h0 (.slice (some ⟨g, oo, none⟩) (I ++ [p]).length cap) (I ++ [p]) w) (hp : p.d = []) (m : Nat) (hm : p.off + (p.len + m) ≤ 131072) :
    JN jb h0 (.slice (some ⟨g, oo, none⟩) (I ++ [p]).length cap) (I ++ [⟨p.off, p.len + m, p.dv, p.d⟩]) (w.setCell ⟨g, oo + (I.length * 3 + 1), none⟩ (.int .i64 ((p.len + m : Nat) : Int))) ∧ Fr (fun k => h0 ≤ k) w (w.setCell ⟨g, oo + (I.length * 3 + 1), none⟩ (.int .i64 ((p.len + m : Nat) : Int))) := by
  have pin : p ∈ I ++ [p] := List.mem_append.2 (.inr (List.mem_singleton.2 rfl))
  have gg : Fr (fun k => k = g) w (w.setCell ⟨g, oo + (I.length * 3 + 1), none⟩ (.int .i64 ((p.len + m : Nat) : Int))) := (Fr.refl (fun k => k = g) w).setCell (p := ⟨g, oo + (I.length * 3 + 1), none⟩) (fun _ => rfl) _
  have gown : (Value.slice (some ⟨g, oo, none⟩) (I ++ [p]).length cap).ownBlock = some g := rfl
  have hs := h.ops.setAt (I.length * 3 + 1) (.int .i64 ((p.len + m : Nat) : Int)) (by rw [opsC_length, List.length_append]; simp; omega)
  rw [opsC_set I p ⟨p.off, p.len + m, p.dv, p.d⟩ 1 (.int .i64 ((p.len + m : Nat) : Int)) (by decide) rfl] at hs
  have key : ∀ o ∈ I ++ [p], SlB (w.setCell ⟨g, oo + (I.length * 3 + 1), none⟩ (.int .i64 ((p.len + m : Nat) : Int))) o.dv o.d := fun o ho => Sl.fr (h.dat o ho) gg (fun k hk q => Sl.ne2 (h.dat o ho) h.ops (by decide) k hk (by rw [q]; exact gown))
  refine ⟨⟨?_, ?_, ?_, h.jh, h.oh, ?_, ?_⟩, gg.mono (fun k _ q => ?_)⟩
  · exact h.box.fr gg (fun e => h.ops.ne h.box (by decide) g gown e.symm)
  · rw [show (I ++ [(⟨p.off, p.len + m, p.dv, p.d⟩ : OpV)]).length = (I ++ [p]).length by simp]; exact hs
  · intro o ho
    rcases List.mem_append.1 ho with ho | ho
    · exact key o (List.mem_append.2 (.inl ho))
    · rw [List.mem_singleton] at ho; subst ho; exact key p pin
  · intro I' p' e hne
    obtain ⟨rfl, e2⟩ := List.append_inj' e rfl
    cases e2
    exact absurd hp hne
  · intro o ho
    rcases List.mem_append.1 ho with ho | ho
    · exact h.bd o (List.mem_append.2 (.inl ho))
    · rw [List.mem_singleton] at ho; subst ho; exact hm
  · rw [q]; exact h.oh g gown
end Go.Proofs.Ytphjebbjhfnhoaa
