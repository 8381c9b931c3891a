/- An argument opened: a list of rules; the row's wrap with the world's shape kept. -/
import Derived.Test.YtmmobhmiemmioaaDoorTo
import Derived.ProofKit
import Derived.OpenShut
import Derived.Deep.Slices
import Derived.Deep.MidRow
import Derived.HandedShaped
import Derived.Handed
namespace Go.Proofs.YtmmobhmiemmioaaDoor
open Go.ChangeShapes Go.WideShapes Go.ChangeAt Go.RowKit Go.Deep

section
variable {H : Type} {enc : TypeId × Value → H} {w : World} {base : Nat} {spare : Nat → Bool} {held : Bool}
theorem cells36 : Tryd.prog.cellsOf 36 = 4 := by kernel_rfl
theorem cl3 : Tryd.prog.cellsOf 3 = 1 := by kernel_rfl
theorem cl9 : Tryd.prog.cellsOf 9 = 1 := by kernel_rfl
theorem cl4 : Tryd.prog.cellsOf 4 = 1 := by kernel_rfl
theorem one_at {cs : List Value} {k : Nat} {v : Value} (h : (cs.drop k).take 1 = [v]) : cs[k]? = some v := by
  have : ((cs.drop k).take 1)[0]? = some v := by rw [h]; rfl
  rw [List.getElem?_take_of_lt (by decide), List.getElem?_drop] at this
  exact this
theorem open_rule {n : Nat} {cs : List Value} {x : DataW H × List MemPlace} (h : DataW.trod enc Tryd.prog w base spare held n 36 cs = some x) (hl : cs.length = 4) :
    ∃ r : R, cs = r.cs ∧ r.pat.size ≤ maxLen := by
  obtain ⟨xs, n', _, _, _, hxl, hff⟩ := DataW.trod_struct Tryd.underlying36 h
  have g : ∀ (j : Nat) (hj : j < 4), xs[j]? = some (xs[j]'(by rw [hxl]; exact hj)) := fun j hj => List.getElem?_eq_getElem _
  have h0 := hff 0 _ rfl
  have h1 := hff 1 _ rfl
  have h2 := hff 2 _ rfl
  have h3 := hff 3 _ rfl
  rw [g 0 (by decide)] at h0
  rw [g 1 (by decide)] at h1
  rw [g 2 (by decide)] at h2
  rw [g 3 (by decide)] at h3
  have h0' : DataW.trod enc Tryd.prog w base spare held n' 3 ((cs.drop 0).take (Tryd.prog.cellsOf 3)) = _ := h0
  have h1' : DataW.trod enc Tryd.prog w base spare held n' 9 ((cs.drop 1).take (Tryd.prog.cellsOf 9)) = _ := h1
  have h2' : DataW.trod enc Tryd.prog w base spare held n' 4 ((cs.drop 2).take (Tryd.prog.cellsOf 4)) = _ := h2
  have h3' : DataW.trod enc Tryd.prog w base spare held n' 4 ((cs.drop 3).take (Tryd.prog.cellsOf 4)) = _ := h3
  rw [cl3] at h0'
  rw [cl9] at h1'
  rw [cl4] at h2' h3'
  obtain ⟨a, e0, _⟩ := DataW.trod_int Tryd.underlying3 h0'
  obtain ⟨p, e1, _, hp⟩ := DataW.trod_string Tryd.underlying9 h1'
  obtain ⟨d, e2, _⟩ := DataW.trod_bool Tryd.underlying4 h2'
  obtain ⟨c, e3, _⟩ := DataW.trod_bool Tryd.underlying4 h3'
  refine ⟨⟨a, p, d, c⟩, ?_, hp⟩
  have f0 := one_at e0
  have f1 := one_at e1
  have f2 := one_at e2
  have f3 := one_at e3
  match cs, hl with
  | [x0, x1, x2, x3], _ =>
    simp at f0 f1 f2 f3
    subst f0 f1 f2 f3
    rfl
theorem choose_ltR {Pq : Nat → R → Prop} {n : Nat} (h : ∀ i, i < n → ∃ k, Pq i k) : ∃ K : Nat → R, ∀ i, i < n → Pq i (K i) :=
  ⟨fun i => if hi : i < n then (h i hi).choose else ⟨0, ⟨#[]⟩, false, false⟩, fun i hi => by simp only [dif_pos hi]; exact (h i hi).choose_spec⟩
theorem open_R {r : Reach} {b0 : Nat} {v : Value} {d : DataW H} {p : List MemPlace} (hv : Value.okWide Tryd.prog w r b0 22 v) (h : DataW.Trod enc Tryd.prog w base spare held 22 v d p) :
    ∃ a L cap, v = .slice a (List.length L) cap ∧ RRow w a L ∧ L.length ≤ 9223372036854775807 ∧ ∀ x ∈ L, x.pat.size ≤ 9223372036854775807 := by
  obtain ⟨a, n, cap, rfl⟩ := okWide_slice Tryd.underlying22 hv
  obtain ⟨fuel, hf⟩ := h
  rcases open_slice Tryd.underlying22 hf with ⟨hcs, _⟩ | ⟨x, l, c, m, nn, D, Pl, hcs, _, hl, hm, hmm, _, hx⟩
  · simp [Value.cells] at hcs
    obtain ⟨rfl, rfl, rfl⟩ := hcs
    exact ⟨none, [], 0, rfl, RRow.nil w none, by simp, fun x hx => by cases hx⟩
  · simp [Value.cells] at hcs
    obtain ⟨rfl, rfl, rfl⟩ := hcs
    unfold maxLen at hm
    have hle : n ≤ m := by rw [hmm]; split <;> omega
    have hk : ∀ i, i < n → ∃ k : R, RAt w (x.add (i * 4)) k ∧ k.pat.size ≤ 9223372036854775807 := fun i hi => by
      obtain ⟨cs', hc, ht⟩ := hx i (by omega)
      rw [cells36] at hc
      obtain ⟨_, hl, hat⟩ := World.cells?_some hc
      obtain ⟨k, hcs, hp⟩ := open_rule ht hl
      subst hcs
      have hb : w.cell? (x.add (i * 4)) = some (.int .i64 k.act) := by
        have := hat 0 (by omega)
        exact this
      exact ⟨k, ⟨World.block_lt_of_cell? _ _ hb, fun j v hj => by
        rw [hat j (by have h9 := (List.getElem?_eq_some_iff.1 hj).1; rw [hl] at h9; exact h9)]; exact hj⟩, hp⟩
    obtain ⟨K, hK⟩ := choose_ltR hk
    refine ⟨some x, (List.range n).map K, cap, by simp, fun i k hi => ?_, by simp; omega, fun y hy => ?_⟩
    · rw [List.getElem?_map] at hi
      have hin : i < n := by
        rcases Nat.lt_or_ge i n with h | h
        · exact h
        · rw [List.getElem?_eq_none (by simpa using h)] at hi; cases hi
      rw [List.getElem?_range hin] at hi
      injection hi with hi
      subst hi
      exact ⟨x, rfl, (hK i hin).1⟩
    · obtain ⟨i, hi, rfl⟩ := List.mem_map.1 hy
      exact (hK i (List.mem_range.1 hi)).2
end

section
variable {H : Type} {enc : TypeId × Value → H}
/-- The wrap of a row with listed variables, the world's shape kept. -/
theorem wrap_shaped {a : Assume} {C : Checked} {os : Os} {f : FuncId} {fn : Func} {s : ChangeSpec} {conds : List PathCond} {apart fresh handsOn again : Bool} {X : World → Array Value → Prop}
    (hX : ∀ (w w' : World) (args : Array Value), w.heap = w'.heap → X w args → X w' args)
    (own : ownKnob C.prog.godebug = none) (started : os.Started) (noInit : C.prog.inits.idxOf? f = none) (hfn : C.prog.funcs[f]? = some fn)
    (witness : ∃ (w : World) (tape : Tape) (i : Input), w.os = os ∧ (w.forCall tape i).Shaped C.prog ∧ i.vars = [] ∧ Input.okWide C.prog (w.forCall tape i) .any w.heap.size f i ∧
      ((s.pre enc C.prog fn conds apart (w.forCall tape i).memory i.args ∧ X (w.forCall tape i).memory i.args) ∧ sizedMet enc C.prog fn (OpenSpec.ofChange s) apart (w.forCall tape i).memory i.args) ∧ a.holds C.prog (lone (Frame.enter C.prog f i.args .normal) [] (w.forCall tape i)))
    (contract : ∀ (W : World) (base : Nat) (args : Array Value) (ds gs : List (DataW H)) (before : List MemPlace),
      (∀ (j : Nat) t v, fn.params[j]? = some t → args[j]? = some v → Value.okWide C.prog W .any base t v) →
      DataW.Whole enc C.prog fn.params.toList s.vars apart W args.toList ds gs before →
      conds.all (PathCond.test C.prog ⟨fn.params.toList, ds, s.plain.varTypes C.prog, gs⟩) = true →
      X W args → W.ShapedOpen C.prog →
      Calls C.prog f args W fun e W' => ∃ v, e = .returned v ∧ s.post enc C.prog fn apart fresh handsOn again W args v W') :
    ReturnsInHanded a C os f .any (fun w args => (s.pre enc C.prog fn conds apart w args ∧ X w args) ∧ sizedMet enc C.prog fn (OpenSpec.ofChange s) apart w args) (s.post enc C.prog fn apart fresh handsOn again) := by
  refine returnsInHanded_of_calls own started noInit witness ?_
  intro w tape i _ hsh _ hok hpre _
  obtain ⟨_, _, _, fn', hfn', _, _, _, _, hval⟩ := hok
  have e : fn' = fn := Option.some.inj (hfn'.symm.trans hfn)
  subst e
  obtain ⟨⟨⟨ds, gs, before, hw, hc⟩, hx⟩, _⟩ := hpre
  have hw' := DataW.Whole.of_heap (w' := w.forCall tape i) (by rfl) hw
  refine (contract (w.forCall tape i) w.heap.size i.args ds gs before hval hw' hc (hX _ _ _ (by rfl) hx) hsh).mono fun e W' ⟨v, he, hp⟩ => ?_
  subst he
  exact ChangeSpec.post_blind hp
end
theorem max_cell (w : World) (h : w.ShapedOpen Tryd.prog) : ∃ m, w.cell? ⟨0, 0, none⟩ = some (.int .i64 m) :=
  Go.Proofs.cell_of_shapedOpen_int (zero := #[.int .i64 0]) (t := 3) h (of_decide_eq_true (by kernel_rfl)) (by kernel_rfl) rfl (by kernel_rfl) (by kernel_rfl) Tryd.underlying3
theorem seen_below (ad : Option Addr) (L : List R) (cap : Nat) (p : ByteArray) (dir : Bool) (w : World) (hL : L.length ≤ 9223372036854775807) (hps : p.size ≤ maxLen) (hr : RRow w ad L) (hp : ∀ r ∈ L, r.pat.size ≤ 9223372036854775807) (hsh : w.ShapedOpen Tryd.prog) :
    Calls Tryd.prog 3 #[.slice ad L.length cap, .string p, .bool dir] w fun e w' => e = .returned (.bool true) ∧ Below w.heap.size w w' := by
  obtain ⟨m, hm⟩ := max_cell w hsh
  refine (seen_spec ad L cap p dir w m hL hps hr hp hm).mono ?_
  rintro e w' ⟨h1, h2⟩
  exact ⟨h1, h2.below (Nat.le_refl _) (fun _ _ h => h)⟩
end Go.Proofs.YtmmobhmiemmioaaDoor
