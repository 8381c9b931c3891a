/- delta: one op more (the joiner's first function, 43). -/
import Derived.Test.YtphjebbjhfnhoaaCl
import Derived.Test.YtphjebbjhfnhoaaTe
import Derived.Deep.RegionHeld3
import Derived.Deep.RegionLaw
namespace Go.Proofs.Ytphjebbjhfnhoaa
open Go.RowKit
theorem step_app {P : Program} {w : World} {ops : Array Oper} {o : Oper} {a : Act} {K : Act → World → Prop} {Q : Exit → Act → World → Prop} {E : Prop} (hgd : o.guard = none) (s x : Operand) (t tx : TypeId)
    (ho : o.op = .call { callee := .builtin .append, args := #[s, x], argTypes := #[t, tx] }) (e : TypeId) (z : Value) (sz by_ : Nat) (ht : P.underlying t = some (.slice e)) (hi : (P.info? e).map (fun i => (i.zero, i.size, i.bytes)) = some (some z, sz, by_)) (hzs : z.cells.size = sz)
    (v : Value) (n : Nat) (xs : List Value) (hv : a.eval s = v) (hown : Sl w e sz v n xs) (vx : Value) (m : Nat) (news : List Value) (hx : a.eval x = vx) (hs : Src P sz tx vx m news w)
    (h63 : n + m ≤ maxLen) (hbytes : (n + m) * by_ ≤ 140737488355328)
    (h : ∀ v' w', Sl w' e sz v' (n + m) (xs ++ news) → Fr (fun k => v.ownBlock = some k) w w' → (v'.ownBlock = v.ownBlock ∨ v'.ownBlock = some w.heap.size) → K (a.put o.dst v') w') :
    if Region.wanted o (yielded ops a.tmps) = true then Oper.wp P o a w K Q else E := by
  have hw : Region.wanted o (yielded ops a.tmps) = true := by simp [Region.wanted, hgd]
  rw [if_pos hw]
  obtain ⟨i, hi1, hi2, hi3, hi4⟩ := info_parts hi
  obtain ⟨v', w', hr, h2, h3, h4⟩ := run_append_sl (P := P) w t tx o.type e i z sz by_ ht hi1 hi2 hi3 hi4 hzs v n xs hown vx m news hs h63 hbytes
  unfold Oper.wp execOp
  simp only [ho, resolve, invoke, builtin, Sem.run_bind, Sem.run_pure, Result.andThen_ok, List.map_toArray, List.map_cons, List.map_nil, hv, hx, hr]
  exact h v' w' h2 h3 h4
structure AW (jb h0 : Nat) (ov : Value) (O : List OpV) (dv : Value) (d : List UInt8) (a b c : Value) (w w' : World) : Prop where
  j0 : JN jb h0 ov O w
  bx : Blk w' w.heap.size 48 #[a, b, c]
  dv' : SlB w' dv d
  fr : Fr (fun _ => False) w w'
section
variable {jb h0 : Nat} {ov : Value} {O : List OpV} {dv : Value} {d : List UInt8} {a b c : Value} {w w1 w2 : World}
theorem AW.jn (h : AW jb h0 ov O dv d a b c w w1) : JN jb h0 ov O w1 := h.j0.frF h.fr
theorem AW.frF (h : AW jb h0 ov O dv d a b c w w1) (f : Fr (fun _ => False) w1 w2) : AW jb h0 ov O dv d a b c w w2 :=
  ⟨h.j0, h.bx.fr f (fun x => x), Sl.fr h.dv' f (fun _ _ x => x), h.fr.trans f (fun _ _ x => x)⟩
theorem AW.cells (h : AW jb h0 ov O dv d a b c w w1) :
    w1.cell? ⟨w.heap.size, 0, none⟩ = some a ∧ w1.cell? ⟨w.heap.size, 1, none⟩ = some b ∧ w1.cell? ⟨w.heap.size, 2, none⟩ = some c ∧ w1.cell? ⟨jb, 0, none⟩ = some ov ∧ w1.frozen? ⟨w.heap.size, 0, none⟩ = false ∧ w1.frozen? ⟨w.heap.size, 1, none⟩ = false ∧ w1.frozen? ⟨w.heap.size, 2, none⟩ = false ∧ w1.frozen? ⟨jb, 0, none⟩ = false :=
  ⟨h.bx.cell 0 rfl, h.bx.cell 1 rfl, h.bx.cell 2 rfl, h.jn.box.cell 0 rfl, h.bx.free 0, h.bx.free 1, h.bx.free 2, h.jn.box.free 0⟩
theorem AW.box9 (h : AW jb h0 ov O dv d a b c w w1) (q2 : Fr (fun k => ov.ownBlock = some k) w1 w2) : w2.cell? ⟨jb, 0, none⟩ = some ov ∧ w2.frozen? ⟨jb, 0, none⟩ = false := by
  have hj : Blk w2 jb 30 #[ov] := h.jn.box.fr q2 (fun e => h.jn.ops.ne h.jn.box (by decide) jb e rfl)
  exact ⟨hj.cell 0 rfl, hj.free 0⟩
theorem AW.put (h : AW jb h0 ov O dv d a b c w w1) {v : Value} {d' : List UInt8} (hv : SlB w1 v d') (a' b' : Value) : AW jb h0 ov O v d' a' b' v w (w1.setCells w.heap.size 0 [a', b', v]) := by
  have g : Fr (fun k => k = w.heap.size) w1 (w1.setCells w.heap.size 0 [a', b', v]) := fr_setCells _ _ _
  refine ⟨h.j0, ?_, Sl.fr hv g (fun k hk e => Sl.ne hv h.bx (by decide) k hk e), h.fr.trans g (fun k hk e => by rw [e] at hk; exact absurd hk (Nat.lt_irrefl _))⟩
  exact Blk.setCells [a', b', v] w1 _ 0 h.bx
end

theorem JN.lastC {jb h0 g oo n cap ki : Nat} {I : List OpV} {p : OpV} {w : World} (h : JN jb h0 (.slice (some ⟨g, oo, none⟩) n cap) (I ++ [p]) w) (hn : n = (I ++ [p]).length) (hk : ki = I.length) :
    w.cell? ⟨g, oo + ki * 3, none⟩ = some (.int .i64 (p.off : Int)) ∧ w.cell? ⟨g, oo + ki * 3 + 1, none⟩ = some (.int .i64 (p.len : Int)) ∧ w.cell? ⟨g, oo + ki * 3 + 2, none⟩ = some p.dv := by
  subst hk; subst hn
  have k := fun i hi u hu => (h.ops.cellAt (I.length * 3 + i) u (by rw [opsC_at I p [] i hi]; exact hu)).1
  exact ⟨k 0 (by decide) _ rfl, k 1 (by decide) _ rfl, k 2 (by decide) _ rfl⟩
theorem AW.rd9 {jb h0 g oo n cap ki po pl : Nat} {I : List OpV} {p : OpV} {dv pv : Value} {d : List UInt8} {a b c : Value} {w w1 : World} (h : AW jb h0 (.slice (some ⟨g, oo, none⟩) n cap) (I ++ [p]) dv d a b c w w1) (hn : n = (I ++ [p]).length) (hk : ki = I.length) (hpo : po = p.off) (hpl : pl = p.len) (hpv : p.dv = pv) :
    w1.cell? ⟨w.heap.size, 0, none⟩ = some a ∧ w1.cell? ⟨w.heap.size, 1, none⟩ = some b ∧ w1.cell? ⟨w.heap.size, 2, none⟩ = some c ∧
    w1.cell? ⟨g, oo + ki * 3, none⟩ = some (.int .i64 (po : Int)) ∧ w1.cell? ⟨g, oo + ki * 3 + 1, none⟩ = some (.int .i64 (pl : Int)) ∧ w1.cell? ⟨g, oo + ki * 3 + 2, none⟩ = some pv := by
  subst hpo; subst hpl; subst hpv
  exact ⟨h.bx.cell 0 rfl, h.bx.cell 1 rfl, h.bx.cell 2 rfl, h.jn.lastC hn hk⟩
theorem Sl.opF {w : World} {g oo n cap ki : Nat} {I : List OpV} {p : OpV} (h : Sl w 48 3 (.slice (some ⟨g, oo, none⟩) n cap) n (opsC (I ++ [p]))) (hk : ki = I.length) :
    w.frozen? ⟨g, oo + ki * 3 + 1, none⟩ = false ∧ w.frozen? ⟨g, oo + ki * 3 + 2, none⟩ = false ∧ w.cell? ⟨g, oo + ki * 3 + 1, none⟩ = some (.int .i64 (p.len : Int)) ∧ w.cell? ⟨g, oo + ki * 3 + 2, none⟩ = some p.dv := by
  subst hk
  have k := fun i hi u hu => h.cellAt (I.length * 3 + i) u (by rw [opsC_at I p [] i hi]; exact hu)
  exact ⟨(k 1 (by decide) _ rfl).2, (k 2 (by decide) _ rfl).2, (k 1 (by decide) _ rfl).1, (k 2 (by decide) _ rfl).1⟩
theorem src_op {w : World} (g : Nat) (a b : Int) (v : Value) (h1 : v.oneCell' = true) (hb : Blk w g 48 #[.int .i64 a, .int .i64 b, v]) : Src Try.prog 3 30 (.slice (some ⟨g, 0, none⟩) 1 1) 1 [.int .i64 a, .int .i64 b, v] w :=
  src_one (P := Try.prog) (tx := 30) Try.underlying30 g 3 48 [.int .i64 a, .int .i64 b, v] rfl (fun u hu => by
    simp only [List.mem_cons, List.not_mem_nil, or_false] at hu
    rcases hu with rfl | rfl | rfl
    · rfl
    · rfl
    · exact h1) hb
def AddG (jb h0 : Nat) (O : List OpV) (o : OpV) (w : World) (e : Ending) (w' : World) : Prop := ∃ ov' O', e = .returned (.tuple #[]) ∧ AddR (O.map OpV.p) o.p (O'.map OpV.p) ∧ JN jb h0 ov' O' w' ∧ O'.length ≤ O.length + 1 ∧ Fr (fun k => h0 ≤ k) w w'
theorem AddG.push {jb h0 : Nat} {ov : Value} {O : List OpV} {o : OpV} {dv' a b c : Value} {w w' : World} (H : AW jb h0 ov O dv' o.d a b c w w') (o' : OpV) (hw : h0 ≤ w.heap.size)
    (hr : AddR (O.map OpV.p) o.p (O.map OpV.p ++ [o'.p])) (hdv : o'.dv = dv') (hd0 : o'.d = o.d) (hb : o'.off + o'.len ≤ 131072) (hfresh : o'.d ≠ [] → ∀ k, dv'.ownBlock = some k → w.heap.size ≤ k) {w9 : World} {v' : Value}
    (q1 : Sl w9 48 3 v' (O.length + 1) (opsC O ++ opC o')) (q2 : Fr (fun k => ov.ownBlock = some k) w' w9) (q3 : v'.ownBlock = ov.ownBlock ∨ ∃ k, v'.ownBlock = some k ∧ w'.heap.size ≤ k) :
    AddG jb h0 O o w (.returned (.tuple #[])) (w9.setCell ⟨jb, 0, none⟩ v') := by
  obtain ⟨x, y⟩ := H.jn.push o' v' (by rw [hdv, hd0]; exact H.dv') hb (fun hne k hk => ⟨Nat.le_trans hw (hfresh hne k (hdv ▸ hk)), fun p hp q => absurd (Nat.lt_of_lt_of_le (Sl.lt (H.j0.dat p hp) k q) (hfresh hne k (hdv ▸ hk))) (Nat.lt_irrefl _)⟩) (Nat.le_trans hw H.fr.size) q1 q2 q3
  exact ⟨_, _, rfl, by rw [List.map_append]; exact hr, x, by rw [List.length_append]; exact Nat.le_refl _, (H.fr.mono (fun _ _ x => x.elim)).trans y (fun _ _ x => x)⟩
set_option maxRecDepth 100000 in
set_option maxHeartbeats 8000000 in
theorem add_zero (jb h0 : Nat) (ov : Value) (O : List OpV) (o : OpV) (w : World) (h : JN jb h0 ov O w) (hw : h0 ≤ w.heap.size) (ho : SlB w o.dv o.d) (hb : o.off + o.len ≤ 131072) (hO : O.length ≤ 500000) (ht : toldS (O.map OpV.p) + o.d.length ≤ 1000000) (hcase : lenV o.d.length o.len = 0) :
    Calls Try.prog 43 #[.agg #[.int .i64 (o.off : Int), .int .i64 (o.len : Int), o.dv], .pointer (some ⟨jb, 0, none⟩)] w (AddG jb h0 O o w) := by
  obtain ⟨ad, cap, hdv, _, _⟩ := Sl.slice ho
  obtain ⟨n, hn⟩ : ∃ n, n = o.d.length := ⟨_, rfl⟩
  rw [← hn] at hdv hcase
  have hn6 : n ≤ 1000000 := by omega
  have HLS := Lib.hid (fun wx => length_spec (o.off : Int) o.len ad n cap wx hn6 (by omega))
  have HTO := Lib.hid (fun wx => told_spec (o.off : Int) (o.len : Int) ad n cap wx hn6)
  rw [hdv] at ho
  have HW := Lib.hid (show AW jb h0 ov O (.slice ad n cap) o.d (.int .i64 (o.off : Int)) (.int .i64 (o.len : Int)) (.slice ad n cap) w (w.alloc (.cells #[.int .i64 (o.off : Int), .int .i64 (o.len : Int), .slice ad n cap] 48)) from by
    have f : Fr (fun _ => False) w (w.alloc (.cells #[.int .i64 (o.off : Int), .int .i64 (o.len : Int), .slice ad n cap] 48)) := (Fr.refl (fun _ => False) w).alloc _
    exact ⟨h, Blk.new w 48 _, Sl.fr ho f (fun _ _ x => x), f⟩)
  have HDV := Lib.hid hdv
  have HN := Lib.hid hn
  have HB := Lib.hid hb
  have HO := Lib.hid hO
  have HHW := Lib.hid hw
  have HT := Lib.hid ht
  obtain ⟨on, hon⟩ : ∃ on, on = O.length := ⟨_, rfl⟩
  have HON := Lib.hid hon
  obtain ⟨off, hoff⟩ : ∃ off, off = o.off := ⟨_, rfl⟩
  obtain ⟨len, hlen⟩ : ∃ len, len = o.len := ⟨_, rfl⟩
  try rw [← hlen] at hcase
  rw [← hoff, ← hlen] at HLS HTO HW
  rw [← hoff, ← hlen, hdv]
  have HOFF := Lib.hid hoff
  have HLEN := Lib.hid hlen
  have HC := Lib.hid hcase
  have b1 : (off : Int) + (len : Int) ≤ 131072 := by omega
  have b2 : (on : Int) ≤ 500000 := by omega
  have b3 : (n : Int) ≤ 1000000 := by omega
  clear h ho hb hO ht hw hdv hn hn6 hon hoff hlen hcase
  rw [show lenV n len = 0 from HC.out] at HLS
  go_enter Try.func43, Try.ntmps43
  go_wp2_with (first
    | (go_at_call 15; (refine (HLS.out _).mono ?_); rintro e w2 ⟨rfl, hf⟩; replace HW := Lib.hid (HW.out.frF hf); obtain ⟨c0, c1, c2, cj, f0, f1, f2, fj⟩ := HW.out.cells; clear hf)
    | fail)
  go_end0
  exact ⟨_, O, rfl, .zero (by show lenV o.d.length o.len = 0; rw [← HN.out, ← HLEN.out]; exact HC.out), HW.out.jn, Nat.le_succ _, HW.out.fr.mono (fun _ _ x => x.elim)⟩
set_option maxRecDepth 100000 in
set_option maxHeartbeats 8000000 in
theorem add_told_nil (jb h0 : Nat) (ov : Value) (o : OpV) (w : World) (h : JN jb h0 ov [] w) (hw : h0 ≤ w.heap.size) (ho : SlB w o.dv o.d) (hb : o.off + o.len ≤ 131072) (hO : ([] : List OpV).length ≤ 500000) (ht : toldS (([] : List OpV).map OpV.p) + o.d.length ≤ 1000000) (hcase : 0 < o.d.length) :
    Calls Try.prog 43 #[.agg #[.int .i64 (o.off : Int), .int .i64 (o.len : Int), o.dv], .pointer (some ⟨jb, 0, none⟩)] w (AddG jb h0 [] o w) := by
  obtain ⟨ad, cap, hdv, _, _⟩ := Sl.slice ho
  obtain ⟨n, hn⟩ : ∃ n, n = o.d.length := ⟨_, rfl⟩
  rw [← hn] at hdv hcase
  have hn6 : n ≤ 1000000 := by omega
  have HLS := Lib.hid (fun wx => length_spec (o.off : Int) o.len ad n cap wx hn6 (by omega))
  have HTO := Lib.hid (fun wx => told_spec (o.off : Int) (o.len : Int) ad n cap wx hn6)
  rw [hdv] at ho
  have HW := Lib.hid (show AW jb h0 ov [] (.slice ad n cap) o.d (.int .i64 (o.off : Int)) (.int .i64 (o.len : Int)) (.slice ad n cap) w (w.alloc (.cells #[.int .i64 (o.off : Int), .int .i64 (o.len : Int), .slice ad n cap] 48)) from by
    have f : Fr (fun _ => False) w (w.alloc (.cells #[.int .i64 (o.off : Int), .int .i64 (o.len : Int), .slice ad n cap] 48)) := (Fr.refl (fun _ => False) w).alloc _
    exact ⟨h, Blk.new w 48 _, Sl.fr ho f (fun _ _ x => x), f⟩)
  have HDV := Lib.hid hdv
  have HN := Lib.hid hn
  have HB := Lib.hid hb
  have HO := Lib.hid hO
  have HHW := Lib.hid hw
  have HT := Lib.hid ht
  obtain ⟨on, hon⟩ : ∃ on, on = [].length := ⟨_, rfl⟩
  have HON := Lib.hid hon
  obtain ⟨off, hoff⟩ : ∃ off, off = o.off := ⟨_, rfl⟩
  obtain ⟨len, hlen⟩ : ∃ len, len = o.len := ⟨_, rfl⟩
  try rw [← hlen] at hcase
  rw [← hoff, ← hlen] at HLS HTO HW
  rw [← hoff, ← hlen, hdv]
  have HOFF := Lib.hid hoff
  have HLEN := Lib.hid hlen
  have HC := Lib.hid hcase
  have b1 : (off : Int) + (len : Int) ≤ 131072 := by omega
  have b2 : (on : Int) ≤ 500000 := by omega
  have b3 : (n : Int) ≤ 1000000 := by omega
  obtain ⟨oa, oc, hov, _, _⟩ := h.ops.slice
  rw [← hon] at hov
  subst hov
  have HCL := Lib.hid (fun wx (hx : SlB wx (.slice ad n cap) o.d) => clone_spec (.slice ad n cap) o.d wx hx (fun e => by rw [e] at hn; rw [hn] at hcase; exact Nat.lt_irrefl _ hcase) (by omega))
  clear h ho hb hO ht hw hdv hn hn6 hon hoff hlen hcase
  rw [show lenV n len = n from if_pos HC.out] at HLS
  rw [decide_eq_true HC.out] at HTO
  have n1 : (0 : Int) < (n : Int) := by have := HC.out; omega
  have on0 : on = 0 := HON.out
  subst on0
  go_enter Try.func43, Try.ntmps43
  go_upto_region 4 with (first
    | (go_at_call 15; (refine (HLS.out _).mono ?_); rintro e w2 ⟨rfl, hf⟩; replace HW := Lib.hid (HW.out.frF hf); obtain ⟨c0, c1, c2, cj, f0, f1, f2, fj⟩ := HW.out.cells; clear hf)
    | (go_at_call 14; (refine (HTO.out _).mono ?_); rintro e w3 ⟨rfl, hf⟩; replace HW := Lib.hid (HW.out.frF hf); obtain ⟨c0, c1, c2, cj, f0, f1, f2, fj⟩ := HW.out.cells; clear hf)
    | (go_at_call 44; (refine (HCL.out _ HW.out.dv').mono ?_); rintro e w4 ⟨v4, rfl, hs, hv4, hf⟩; obtain ⟨a4, p4, e4, _, _⟩ := Sl.slice hs; rw [← HN.out] at e4; subst e4; have HV4 := Lib.hid (fun k (hk : (Value.slice a4 n p4).ownBlock = some k) => Nat.le_trans HW.out.fr.size (hv4 k hk)); replace HW := Lib.hid (HW.out.frF hf); have HS4 := Lib.hid hs; obtain ⟨c0, c1, c2, cj, f0, f1, f2, fj⟩ := HW.out.cells; clear hf hs hv4)
    | fail)
  generalize hw5 : World.setCell _ _ _ = w5
  have HX : Hid (AW jb h0 (.slice oa 0 oc) [] (.slice a4 n p4) o.d (.int .i64 0) (.int .i64 0) (.slice a4 n p4) w w5) := Lib.hid (by rw [← hw5]; exact HW.out.put HS4.out (.int .i64 0) (.int .i64 0))
  clear HW HS4 hw5 c0 c1 c2 cj f0 f1 f2 fj HLS HTO HCL
  have HW := HX
  clear HX
  obtain ⟨c0, c1, c2, cj, f0, f1, f2, fj⟩ := HW.out.cells
  have HSRC := Lib.hid (src_op w5.heap.size 0 0 (.slice a4 n p4) rfl (Blk.new w5 48 #[.int .i64 0, .int .i64 0, (.slice a4 n p4)]))
  have HG := Lib.hid ((Fr.refl (fun _ => False) w5).alloc (.cells #[.int .i64 0, .int .i64 0, (.slice a4 n p4)] 48))
  go_wp2_with (first
    | (at_builtin; refine wpList_app rfl (.tmp 104) (.tmp 106) 30 30 rfl 48 (.agg #[.int .i64 0, .int .i64 0, .slice none 0 0]) 3 40 Try.underlying30 Try.info48 rfl (.slice oa 0 oc) 0 (opsC []) rfl (by have := HW.out.jn.ops; rw [← HON.out] at this; exact this.fr HG.out (fun _ _ x => x)) _ 1 _ rfl HSRC.out (by have := HO.out; have := HON.out; unfold maxLen; omega) (by have := HO.out; have := HON.out; omega) ?_; intro v' w9 q1 q2 q3; have Q1 := Lib.hid q1; have Q2 := Lib.hid ((HG.out.mono (fun _ _ x => x.elim)).trans q2 (fun _ _ x => x)); have Q3 := Lib.hid q3; obtain ⟨cj9, fj9⟩ := HW.out.box9 Q2.out; obtain ⟨ad9, cap9, hv9, _, _⟩ := q1.slice; subst hv9; clear q1 q2 q3)
    | fail)
  go_end0
  refine AddG.push HW.out ⟨0, 0, .slice a4 n p4, o.d⟩ HHW.out (.told (fun e => absurd HC.out (by rw [HN.out, show o.d = [] from e]; exact Nat.lt_irrefl _))) rfl rfl (by show (0 : Nat) + 0 ≤ 131072; decide) (fun _ k hk => HV4.out k hk) (v' := .slice ad9 (0 + 1) cap9) (by rw [← HON.out]; exact Q1.out) Q2.out ?_
  rcases Q3.out with e | e
  · exact .inl e
  · exact .inr ⟨_, e, HG.out.size⟩
set_option maxRecDepth 100000 in
set_option maxHeartbeats 8000000 in
theorem add_join (jb h0 : Nat) (ov : Value) (I : List OpV) (p : OpV) (o : OpV) (w : World) (h : JN jb h0 ov (I ++ [p]) w) (hw : h0 ≤ w.heap.size) (ho : SlB w o.dv o.d) (hb : o.off + o.len ≤ 131072) (hO : (I ++ [p]).length ≤ 500000) (ht : toldS ((I ++ [p]).map OpV.p) + o.d.length ≤ 1000000) (hcase : 0 < o.d.length) (hpc : 0 < p.d.length) :
    Calls Try.prog 43 #[.agg #[.int .i64 (o.off : Int), .int .i64 (o.len : Int), o.dv], .pointer (some ⟨jb, 0, none⟩)] w (AddG jb h0 (I ++ [p]) o w) := by
  obtain ⟨ad, cap, hdv, _, _⟩ := Sl.slice ho
  obtain ⟨n, hn⟩ : ∃ n, n = o.d.length := ⟨_, rfl⟩
  rw [← hn] at hdv hcase
  have hn6 : n ≤ 1000000 := by omega
  have HLS := Lib.hid (fun wx => length_spec (o.off : Int) o.len ad n cap wx hn6 (by omega))
  have HTO := Lib.hid (fun wx => told_spec (o.off : Int) (o.len : Int) ad n cap wx hn6)
  rw [hdv] at ho
  have HW := Lib.hid (show AW jb h0 ov (I ++ [p]) (.slice ad n cap) o.d (.int .i64 (o.off : Int)) (.int .i64 (o.len : Int)) (.slice ad n cap) w (w.alloc (.cells #[.int .i64 (o.off : Int), .int .i64 (o.len : Int), .slice ad n cap] 48)) from by
    have f : Fr (fun _ => False) w (w.alloc (.cells #[.int .i64 (o.off : Int), .int .i64 (o.len : Int), .slice ad n cap] 48)) := (Fr.refl (fun _ => False) w).alloc _
    exact ⟨h, Blk.new w 48 _, Sl.fr ho f (fun _ _ x => x), f⟩)
  have HDV := Lib.hid hdv
  have HN := Lib.hid hn
  have HB := Lib.hid hb
  have HO := Lib.hid hO
  have HHW := Lib.hid hw
  have HT := Lib.hid ht
  obtain ⟨on, hon⟩ : ∃ on, on = (I ++ [p]).length := ⟨_, rfl⟩
  have HON := Lib.hid hon
  obtain ⟨off, hoff⟩ : ∃ off, off = o.off := ⟨_, rfl⟩
  obtain ⟨len, hlen⟩ : ∃ len, len = o.len := ⟨_, rfl⟩
  try rw [← hlen] at hcase
  rw [← hoff, ← hlen] at HLS HTO HW
  rw [← hoff, ← hlen, hdv]
  have HOFF := Lib.hid hoff
  have HLEN := Lib.hid hlen
  have HC := Lib.hid hcase
  have b1 : (off : Int) + (len : Int) ≤ 131072 := by omega
  have b2 : (on : Int) ≤ 500000 := by omega
  have b3 : (n : Int) ≤ 1000000 := by omega
  obtain ⟨ki, hki⟩ : ∃ ki, ki = I.length := ⟨_, rfl⟩
  have honk : on = ki + 1 := by rw [hon, hki, List.length_append]; rfl
  have HKI := Lib.hid hki
  have e1 : IntKind.i64.wrap ((on : Int) - 1) = (ki : Int) := by rw [IntWalk.i64_in _ (by omega)]; omega
  have e2 : (ki : Int) < (on : Int) := by omega
  have e3 : (0 : Int) ≤ (ki : Int) := by omega
  obtain ⟨g, oo, oc, cur, hov, _, _, _, _, _⟩ := h.ops.pos (by rw [← hon]; omega)
  rw [← hon] at hov
  subst hov
  have pin : p ∈ I ++ [p] := List.mem_append.2 (.inr (List.mem_singleton.2 rfl))
  obtain ⟨pa, pc, hpv, _, _⟩ := Sl.slice (h.dat p pin)
  obtain ⟨pn, hpn⟩ : ∃ pn, pn = p.d.length := ⟨_, rfl⟩
  rw [← hpn] at hpv
  have hpb := h.bd p pin
  have HPB := Lib.hid hpb
  have hpn6 : pn ≤ 1000000 := by
    rw [List.map_append, toldS_append] at ht
    have : toldS ([p].map OpV.p) = p.d.length := toldS_one p.p
    omega
  obtain ⟨po, hpo⟩ : ∃ po, po = p.off := ⟨_, rfl⟩
  obtain ⟨pl, hpl⟩ : ∃ pl, pl = p.len := ⟨_, rfl⟩
  have HTP := Lib.hid (fun wx => told_spec (po : Int) (pl : Int) pa pn pc wx hpn6)
  have HPV := Lib.hid hpv
  have HPN := Lib.hid hpn
  have HPO := Lib.hid hpo
  have HPL := Lib.hid hpl
  have HP := Lib.hid hpc
  have b4 : (po : Int) + (pl : Int) ≤ 131072 := by omega
  have b5 : (pn : Int) ≤ 1000000 := by omega
  have HNB := Lib.hid hn6
  clear hpv hpn hpb hpo hpl honk hki pin hpc
  rw [decide_eq_true (show 0 < pn from by rw [HPN.out]; exact HP.out)] at HTP
  have HCL := Lib.hid (fun wx (hx : SlB wx (.slice ad n cap) o.d) => clone_spec (.slice ad n cap) o.d wx hx (fun e => by rw [e] at hn; rw [hn] at hcase; exact Nat.lt_irrefl _ hcase) (by omega))
  clear h ho hb hO ht hw hdv hn hn6 hon hoff hlen hcase
  rw [show lenV n len = n from if_pos HC.out] at HLS
  rw [decide_eq_true HC.out] at HTO
  have n1 : (0 : Int) < (n : Int) := by have := HC.out; omega
  go_enter Try.func43, Try.ntmps43
  go_upto_region 4 with (first
    | (go_at_call 15; (refine (HLS.out _).mono ?_); rintro e w2 ⟨rfl, hf⟩; replace HW := Lib.hid (HW.out.frF hf); obtain ⟨c0, c1, c2, cj, f0, f1, f2, fj⟩ := HW.out.cells; clear hf)
    | (go_at_call 14; (refine (HTO.out _).mono ?_); rintro e w3 ⟨rfl, hf⟩; replace HW := Lib.hid (HW.out.frF hf); obtain ⟨c0, c1, c2, cj, f0, f1, f2, fj⟩ := HW.out.cells; clear hf)
    | (go_at_call 44; (refine (HCL.out _ HW.out.dv').mono ?_); rintro e w4 ⟨v4, rfl, hs, hv4, hf⟩; obtain ⟨a4, p4, e4, _, _⟩ := Sl.slice hs; rw [← HN.out] at e4; subst e4; have HV4 := Lib.hid (fun k (hk : (Value.slice a4 n p4).ownBlock = some k) => Nat.le_trans HW.out.fr.size (hv4 k hk)); replace HW := Lib.hid (HW.out.frF hf); have HS4 := Lib.hid hs; obtain ⟨c0, c1, c2, cj, f0, f1, f2, fj⟩ := HW.out.cells; clear hf hs hv4)
    | fail)
  generalize hw5 : World.setCell _ _ _ = w5
  have HX : Hid (AW jb h0 (.slice (some ⟨g, oo, none⟩) on oc) (I ++ [p]) (.slice a4 n p4) o.d (.int .i64 0) (.int .i64 0) (.slice a4 n p4) w w5) := Lib.hid (by rw [← hw5]; exact HW.out.put HS4.out (.int .i64 0) (.int .i64 0))
  clear HW HS4 hw5 c0 c1 c2 cj f0 f1 f2 fj HLS HTO HCL
  have HW := HX
  clear HX
  obtain ⟨c0, c1, c2, cj, f0, f1, f2, fj⟩ := HW.out.cells
  have HTN := Lib.hid (fun wx => told_spec 0 0 a4 n p4 wx (by have := HNB.out; omega))
  rw [decide_eq_true HC.out] at HTN
  obtain ⟨c0, c1, c2, d0, d1, d2⟩ := HW.out.rd9 HON.out HKI.out HPO.out HPL.out HPV.out
  go_upto_region 8 with (first
    | (go_at_call 14; (refine (HTP.out _).mono ?_); rintro e w6 ⟨rfl, hf⟩; replace HW := Lib.hid (HW.out.frF hf); obtain ⟨c0, c1, c2, d0, d1, d2⟩ := HW.out.rd9 HON.out HKI.out HPO.out HPL.out HPV.out; clear hf)
    | (go_at_call 14; (refine (HTN.out _).mono ?_); rintro e w7 ⟨rfl, hf⟩; replace HW := Lib.hid (HW.out.frF hf); obtain ⟨c0, c1, c2, d0, d1, d2⟩ := HW.out.rd9 HON.out HKI.out HPO.out HPL.out HPV.out; clear hf)
    | fail)
  replace HW := Lib.hid (HW.out.frF ((Fr.refl (fun _ => False) w7).drew))
  clear c0 c1 c2 d0 d1 d2 cj f0 f1 f2 fj
  obtain ⟨c0, c1, c2, d0, d1, d2⟩ := HW.out.rd9 HON.out HKI.out HPO.out HPL.out HPV.out
  have HSRC := Lib.hid (src_byt (P := Try.prog) (tx := 22) Try.underlying22 (cap := p4) (SlB.bytAt (n := n) (cap := p4) HW.out.dv'))
  rw [← HN.out] at HSRC
  have HPS := Lib.hid (show Sl w7.drew 5 1 (.slice pa pn pc) pn (p.d.map u8v) from by
    have := HW.out.jn.dat p (List.mem_append.2 (.inr (List.mem_singleton.2 rfl)))
    rw [HPV.out] at this
    unfold SlB at this
    rw [← HPN.out] at this
    exact this)
  have HPN6 := Lib.hid (show pn + n ≤ 1000000 from by
    have ht := HT.out
    rw [List.map_append, toldS_append, show toldS ([p].map OpV.p) = p.d.length from toldS_one p.p, ← HN.out, ← HPN.out] at ht
    omega)
  clear c0 c1 d0 d1
  go_region_law (first
      | (refine step_app rfl (.tmp 34) (.tmp 36) 22 22 rfl 5 (.int .u8 0) 1 1 Try.underlying22 Try.info5 rfl (.slice pa pn pc) pn (p.d.map u8v) rfl HPS.out _ n (o.d.map u8v) rfl HSRC.out (by have := HPN6.out; unfold maxLen; omega) (by have := HPN6.out; omega) ?_; intro v' w9 q1 q2 q3; have Q1 := Lib.hid q1; have Q2 := Lib.hid q2; have Q3 := Lib.hid q3; have hs9 : Sl w9 48 3 (.slice (some ⟨g, oo, none⟩) on oc) on (opsC (I ++ [p])) := (by have := HW.out.jn.ops; rw [← HON.out] at this; exact this.fr q2 (fun k hk q => Sl.ne2 HPS.out this (by decide) k q hk)); obtain ⟨_, f92, _, c92⟩ := hs9.opF HKI.out; rw [HPV.out] at c92; obtain ⟨ad9, cap9, hv9, _, _⟩ := q1.slice; subst hv9; clear q1 q2 q3 hs9))
  all_goals (
    go_wp2_with (fail)
    go_end0
    have hj := HW.out.jn
    have hq2 := Q2.out
    rw [HON.out] at hj
    rw [← HPV.out] at hq2
    obtain ⟨x, y⟩ := hj.join (p := p) (fun e => by have := HP.out; rw [e] at this; exact Nat.lt_irrefl _ this) o.d (.slice ad9 (pn + n) cap9) (Nat.le_trans HHW.out HW.out.fr.size) (by rw [← HPN.out, ← HN.out]; exact Q1.out) hq2 (by rw [HPV.out]; exact Q3.out)
    rw [← HKI.out, ← Nat.add_assoc] at x y
    refine ⟨_, _, rfl, ?_, x, by simp, (HW.out.fr.mono (fun _ _ x => x.elim)).trans y (fun _ _ x => x)⟩
    rw [List.map_append, List.map_append]
    exact .join _ p.p rfl (fun e => by have := HP.out; rw [show p.d = [] from e] at this; exact Nat.lt_irrefl _ this) (fun e => absurd HC.out (by rw [HN.out, show o.d = [] from e]; exact Nat.lt_irrefl _)))
end Go.Proofs.Ytphjebbjhfnhoaa
