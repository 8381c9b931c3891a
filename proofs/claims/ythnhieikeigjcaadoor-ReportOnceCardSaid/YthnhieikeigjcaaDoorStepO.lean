/- An argument opened: a list of steps; a whole struct read at an address. -/
import Derived.Test.YthnhieikeigjcaaDoorDg
import Derived.ProofKit
import Derived.OpenShut
import Derived.Deep.Slices
import Derived.Deep.MidRow
namespace Go.Proofs.YthnhieikeigjcaaDoor
open Go.ChangeShapes Go.WideShapes Go.ChangeAt Go.RowKit Go.Deep

/-- A step of a kind lies at an address: fifteen cells. -/
def StepAt (w : World) (p : Addr) (k : Int) (cs : List Value) : Prop :=
  p.block < w.heap.size ∧ cs.length = 15 ∧ cs[0]? = some (.int .i64 k) ∧ (∀ j v, cs[j]? = some v → w.cell? (p.add j) = some v) ∧ ∀ v ∈ cs, v.oneCell' = true
/-- A slice of steps, by their kinds. -/
def Steps (w : World) (a : Option Addr) (ks : List Int) : Prop :=
  ∀ i k, ks[i]? = some k → ∃ x cs, a = some x ∧ StepAt w (x.add (i * 15)) k cs

theorem addr_add_block (a : Addr) (k : Nat) : (a.add k).block = a.block := by unfold Addr.add; split <;> rfl
theorem StepAt.fr {w w' : World} {p : Addr} {k : Int} {cs : List Value} (h : StepAt w p k cs) (f : Fr (fun _ => False) w w') : StepAt w' p k cs :=
  ⟨Nat.lt_of_lt_of_le h.1 f.size, h.2.1, h.2.2.1, fun j v hj => by rw [f.cell (a := p.add j) (by rw [addr_add_block]; exact h.1) (fun h => h)]; exact h.2.2.2.1 j v hj, h.2.2.2.2⟩
theorem Steps.fr {w w' : World} {a : Option Addr} {ks : List Int} (h : Steps w a ks) (f : Fr (fun _ => False) w w') : Steps w' a ks := fun i k hk => by
  obtain ⟨x, cs, hx, hs⟩ := h i k hk
  exact ⟨x, cs, hx, hs.fr f⟩
theorem StepAt.cell0 {w : World} {p : Addr} {k : Int} {cs : List Value} (h : StepAt w p k cs) : w.cell? p = some (.int .i64 k) := by
  have := h.2.2.2.1 0 _ h.2.2.1
  rwa [show p.add 0 = p from rfl] at this

section
variable {H : Type} {enc : TypeId × Value → H} {w : World} {base : Nat} {spare : Nat → Bool} {held : Bool}

/-- Every cell of what reads as a struct whose fields' cells are single. -/
theorem struct_one {P : Program} {t : TypeId} {fs : Array Field} (hs : P.underlying t = some (.struct fs))
    (hcov : ((List.range (P.cellsOf t)).all fun j => fs.toList.any fun f => decide (f.offset ≤ j) && decide (j < f.offset + P.cellsOf f.type)) = true)
    (hleaf : ∀ f ∈ fs.toList, ∀ (n : Nat) (cs : List Value) (x : DataW H × List MemPlace), DataW.trod enc P w base spare held n f.type cs = some x → ∀ v ∈ cs, v.oneCell' = true)
    (fuel : Nat) (cs : List Value) (x : DataW H × List MemPlace) (h : DataW.trod enc P w base spare held fuel t cs = some x) : ∀ v ∈ cs, v.oneCell' = true := by
  obtain ⟨xs, n, _, _, hl, hxl, hf⟩ := DataW.trod_struct hs h
  intro v hv
  obtain ⟨j, hj, rfl⟩ := List.getElem_of_mem hv
  have hc := List.all_eq_true.1 hcov j (List.mem_range.2 (by omega))
  obtain ⟨f, hfm, hfj⟩ := List.any_eq_true.1 hc
  simp only [Bool.and_eq_true, decide_eq_true_eq] at hfj
  obtain ⟨i, hi, hfi⟩ := List.getElem_of_mem hfm
  have hi' : i < fs.size := by simpa using hi
  have hat : fs[i]? = some f := by rw [Array.getElem?_eq_getElem hi']; rw [← hfi]; simp
  have h1 := hf i f hat
  rw [List.getElem?_eq_getElem (by omega)] at h1
  refine hleaf f hfm n _ _ h1 _ ?_
  rw [List.mem_iff_getElem?]
  refine ⟨j - f.offset, ?_⟩
  rw [List.getElem?_take_of_lt (by omega), List.getElem?_drop, show f.offset + (j - f.offset) = j by omega, List.getElem?_eq_getElem hj]

theorem leaf_int (n : Nat) (cs : List Value) (x : DataW H × List MemPlace) (h : DataW.trod enc Tryd.prog w base spare held n 3 cs = some x) : ∀ v ∈ cs, v.oneCell' = true := by
  obtain ⟨m, rfl, _⟩ := DataW.trod_int Tryd.underlying3 h
  intro v hv; rw [List.mem_singleton] at hv; subst hv; rfl
theorem leaf_str (n : Nat) (cs : List Value) (x : DataW H × List MemPlace) (h : DataW.trod enc Tryd.prog w base spare held n 9 cs = some x) : ∀ v ∈ cs, v.oneCell' = true := by
  obtain ⟨m, rfl, _⟩ := DataW.trod_string Tryd.underlying9 h
  intro v hv; rw [List.mem_singleton] at hv; subst hv; rfl
theorem leaf_meta (n : Nat) (cs : List Value) (x : DataW H × List MemPlace) (h : DataW.trod enc Tryd.prog w base spare held n 37 cs = some x) : ∀ v ∈ cs, v.oneCell' = true :=
  struct_one Tryd.underlying37 (by kernel_rfl) (fun f hf => by
    simp only [List.mem_cons, List.not_mem_nil, or_false] at hf
    rcases hf with rfl | rfl | rfl | rfl | rfl <;> exact leaf_int) n cs x h
theorem leaf_entry (n : Nat) (cs : List Value) (x : DataW H × List MemPlace) (h : DataW.trod enc Tryd.prog w base spare held n 39 cs = some x) : ∀ v ∈ cs, v.oneCell' = true :=
  struct_one Tryd.underlying39 (by kernel_rfl) (fun f hf => by
    simp only [List.mem_cons, List.not_mem_nil, or_false] at hf
    rcases hf with rfl | rfl | rfl | rfl | rfl | rfl | rfl
    · exact leaf_str
    · exact leaf_int
    · exact leaf_int
    · exact leaf_meta
    · exact leaf_str
    · exact leaf_str
    · exact leaf_int) n cs x h
theorem leaf_step (n : Nat) (cs : List Value) (x : DataW H × List MemPlace) (h : DataW.trod enc Tryd.prog w base spare held n 41 cs = some x) : ∀ v ∈ cs, v.oneCell' = true :=
  struct_one Tryd.underlying41 (by kernel_rfl) (fun f hf => by
    simp only [List.mem_cons, List.not_mem_nil, or_false] at hf
    rcases hf with rfl | rfl | rfl | rfl | rfl
    · exact leaf_int
    · exact leaf_str
    · exact leaf_str
    · exact leaf_entry
    · exact leaf_int) n cs x h

theorem cells41 : Tryd.prog.cellsOf 41 = 15 := by kernel_rfl
theorem cells3 : Tryd.prog.cellsOf 3 = 1 := by kernel_rfl

theorem open_S {r : Reach} {b0 : Nat} {v : Value} {d : DataW H} {p : List MemPlace} (hv : Value.okWide Tryd.prog w r b0 26 v) (h : DataW.Trod enc Tryd.prog w base spare held 26 v d p) :
    ∃ a ks cap, v = .slice a (List.length ks) cap ∧ Steps w a ks ∧ ks.length ≤ 9223372036854775807 := by
  obtain ⟨a, n, cap, rfl⟩ := okWide_slice Tryd.underlying26 hv
  obtain ⟨fuel, hf⟩ := h
  rcases open_slice Tryd.underlying26 hf with ⟨hcs, _⟩ | ⟨x, l, c, m, nn, D, Pl, hcs, _, hl, hm, hmm, _, hx⟩
  · simp [Value.cells] at hcs
    obtain ⟨rfl, rfl, rfl⟩ := hcs
    exact ⟨none, [], 0, rfl, fun i k hk => by simp at hk, by simp⟩
  · simp [Value.cells] at hcs
    obtain ⟨rfl, rfl, rfl⟩ := hcs
    unfold maxLen at hm
    have hle : n ≤ m := by rw [hmm]; split <;> omega
    have hk : ∀ i, i < n → ∃ k cs, StepAt w (x.add (i * 15)) k cs := fun i hi => by
      obtain ⟨cs', hc, ht⟩ := hx i (by omega)
      rw [cells41] at hc
      obtain ⟨_, hl, hat⟩ := World.cells?_some hc
      have h1 := leaf_step nn cs' _ ht
      obtain ⟨xs, n', _, _, _, hxl, hff⟩ := DataW.trod_struct Tryd.underlying41 ht
      have h0 := hff 0 _ rfl
      have hx0 : xs[0]? = some (xs[0]'(by rw [hxl]; decide)) := List.getElem?_eq_getElem _
      rw [hx0] at h0
      have h0' : DataW.trod enc Tryd.prog w base spare held n' 3 ((cs'.drop 0).take (Tryd.prog.cellsOf 3)) = _ := h0
      rw [cells3] at h0'
      obtain ⟨k, ek, _⟩ := DataW.trod_int Tryd.underlying3 h0'
      have e0 : cs'[0]? = some (.int .i64 k) := by
        have : ((cs'.drop 0).take 1)[0]? = some (.int .i64 k) := by rw [ek]; rfl
        simpa using this
      have hb : w.cell? (x.add (i * 15)) = some (.int .i64 k) := by
        have := hat 0 (by omega)
        rw [e0] at this
        exact this
      exact ⟨k, cs', World.block_lt_of_cell? _ _ hb, hl, e0, fun j v hj => by
        rw [hat j (by have := (List.getElem?_eq_some_iff.1 hj).1; omega)]; exact hj, h1⟩
    obtain ⟨K, hK⟩ := choose_lt hk
    refine ⟨some x, (List.range n).map K, cap, by simp, fun i k hi => ?_, by simp; omega⟩
    rw [List.getElem?_map] at hi
    have hin : i < n := by
      rcases Nat.lt_or_ge i n with h | h
      · exact h
      · rw [List.getElem?_eq_none (by simpa using h)] at hi; cases hi
    rw [List.getElem?_range hin] at hi
    injection hi with hi
    subst hi
    obtain ⟨cs, hcs⟩ := hK i hin
    exact ⟨x, cs, rfl, hcs⟩
end

section
variable {P : Program}
/-- A whole struct read at any address. -/
theorem run_loadVar_any (w : World) (p : Addr) (ty : TypeId) (cs : List Value) (d : TypeDesc) (hc : ∀ j v, cs[j]? = some v → w.cell? (p.add j) = some v)
    (hu : P.underlying ty = some d) (hd : d.isRow = true) (hi : (P.info? ty).map (·.size) = some cs.length) :
    (loadVar ty p).run P w = .ok (.agg cs.toArray) w := by
  have hl : (loadCells p cs.length).run P w = .ok cs.toArray w := run_loadCells_list (P := P) w p cs hc
  cases hq : P.info? ty with
  | none => simp [hq] at hi
  | some i =>
    have hs : i.size = cs.length := by simpa [hq] using hi
    have hagg : (isAgg ty).run P w = .ok true w := by
      unfold isAgg
      rw [Sem.run_bind, run_underlying hu w]
      cases d <;> simp_all
    simp [loadVar, Sem.run_bind, hagg, sizeOf, typeInfo, hq, hs, hl]
theorem wp_load_any {op : Oper} {a : Act} {w : World} {K : Act → World → Prop} {Q : Exit → Act → World → Prop} (ty : TypeId) (x : Operand) (ho : op.op = .load ty x)
    (p : Addr) (hx : a.eval x = .pointer (some p)) (cs : List Value) (d : TypeDesc) (hc : ∀ j v, cs[j]? = some v → w.cell? (p.add j) = some v)
    (hu : P.underlying ty = some d) (hd : d.isRow = true) (hi : (P.info? ty).map (·.size) = some cs.length)
    (h : K (a.put op.dst (.agg cs.toArray)) w) : op.wp P a w K Q := by
  unfold Oper.wp execOp
  simp only [ho, hx, Instr.loadAt, Instr.sureAddr, Sem.run_bind, Sem.run_pure, Result.andThen_ok, run_loadVar_any w p ty cs d hc hu hd hi]
  exact h
theorem wpList_load_any {ops : Array Oper} {rest : List Oper} {op : Oper} {a : Act} {w : World} {Q : Exit → Act → World → Prop} (hgd : op.guard = none) (ty : TypeId) (x : Operand) (ho : op.op = .load ty x)
    (p : Addr) (hx : a.eval x = .pointer (some p)) (cs : List Value) (d : TypeDesc) (hc : ∀ j v, cs[j]? = some v → w.cell? (p.add j) = some v)
    (hu : P.underlying ty = some d) (hd : d.isRow = true) (hi : (P.info? ty).map (·.size) = some cs.length)
    (h : wpList P ops Q rest (a.put op.dst (.agg cs.toArray)) w) : wpList P ops Q (op :: rest) a w :=
  wpList_plain hgd fun _ hK => wp_load_any ty x ho p hx cs d hc hu hd hi (hK _ _ h)
end
end Go.Proofs.YthnhieikeigjcaaDoor
