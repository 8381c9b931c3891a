/- A range over a function: one law, where the iterator's word speaks of the memory that a round is handed. No program. -/
import Derived.Test.YtphjebbjhfnhoaaFr
import Derived.RangeFuncFrom
namespace Go.Proofs.Ytphjebbjhfnhoaa
open Go.RowKit

/-- How a round's body may be left. -/
def roundQ (I : Nat → World → Prop) (i : Nat) (W : World) : Exit → Act → World → Prop
  | .normal, _, W' => KeepsOthers W W' ∧ I (i + 1) W'
  | _, _, _ => False

theorem fr_putObj (S : Nat → Prop) (W : World) (l : Nat) (o : Obj) (hS : S l) : Fr S W (W.putObj l o) :=
  have hg := grownBy_putObj' W l o
  ⟨hg.os, hg.tape, hg.output, hg.size, fun k hk hn => hg.block k hk (fun e => hn (by cases e; exact hS))⟩
theorem KeepsOthers.frCells {S : Nat → Prop} {W W' : World} (f : Fr S W W') (hS : ∀ k o, S k → W.heap[k]? = some o → o.isCells = true) : KeepsOthers W W' :=
  ⟨f.size, fun k o hk ho => (f.block k (Array.getElem?_eq_some_iff.1 hk).1 (fun hs => by rw [hS k o hs hk] at ho; cases ho)).trans hk⟩

theorem wpIn_range_mine {F : Fence} {n : Nat} {P : Program} {g : Operand} {ps : Array Tmp} {assign body : Code} {Q : Exit → Act → World → Prop} {a : Act} {w : World}
    (hro : F.round = none) (h1 : 1 ≤ n) {gf : Nat} {lb : Array Value} (hg : a.eval g = .func (.func gf) #[] lb) (hFg : F.fn gf) (eg : ∀ args w, (callFunc gf args).run P w = .ok (.enter gf args) w)
    {N : Nat} (Pay : Nat → World → Array Value → Prop) (hps : ∀ i A args, Pay i A args → args.size = ps.size)
    (hPay : ∀ i A args k o o', Pay i A args → A.heap[k]? = some o → o.isCells = false → Pay i (A.putObj k o') args)
    (I : Nat → World → Prop) (hI : ∀ i A B, I i A → Fr (fun _ => False) A B → I i B) (hIp : ∀ i A k o o', I i A → w.heap.size ≤ k → A.heap[k]? = some o → o.isCells = false → I i (A.putObj k o'))
    (hseq : ∀ (l : Nat) (J : Nat → World → Prop) (W : World), (∀ i A, J i A → I i A) → (∀ i A B, J i A → Fr (fun _ => False) A B → J i B) →
      (∀ i A args, i < N → J i A → Pay i A args → YieldAt F (n - 1 - 1) P l args A fun e A' => e = .returned (.bool true) ∧ J (i + 1) A') → J 0 W →
      CallsIn F (n - 1) P gf (#[.func (.yield l) #[] #[]] ++ lb) W fun e W' => (∃ v, e = .returned v) ∧ J N W')
    (h0 : I 0 w) (a₁ : Nat → Array Value → Act)
    (hassign : ∀ (l i : Nat) (args : Array Value) (W : World) (K : Act → World → Prop), Pay i W args → K (a₁ i args) W →
      assign.wpIn (F.inRound l) (n - 1 - 1) P (Exit.then K (fun _ _ _ => False)) { tmps := (ps.zip args).foldl (fun t (p, v) => t.setIfInBounds p v) a.tmps, defers := [] } W)
    (hbody : ∀ (l i : Nat) (args : Array Value) (W : World), i < N → I i W → Pay i W args → body.wpIn (F.inRound l) (n - 1 - 1) P (roundQ I i W) (a₁ i args) W)
    (hdone : ∀ (D : Nat) (W : World), w.heap.size ≤ D → I N W → W.heap[D]? = some (.deferred (some [])) → Q .normal { a with defers := { target := .collected D, args := #[] } :: a.defers } W) :
    (Code.rangeFunc g ps assign body).wpIn F n P Q a w := by
  refine wpIn_rangeFunc ?_
  intro fn hfn
  rw [hro]
  obtain ⟨rec, hrec⟩ : ∃ rec : LoopState → Option Code → Loop, rec = fun st pe => { state := st, pending := pe, fn, tmps := a.tmps, params := ps, assign, body, defers := w.heap.size } := ⟨_, rfl⟩
  obtain ⟨W1, hW1⟩ : ∃ W1, (w.alloc (.deferred (some []))).alloc (.loop (rec .ready none)) = W1 := ⟨_, rfl⟩
  have hL1 : W1.heap[w.heap.size + 1]? = some (.loop (rec .ready none)) := by
    rw [← hW1]; have := World.alloc_heap_new (w.alloc (.deferred (some []))) (.loop (rec .ready none)); rwa [World.size_alloc] at this
  have hK1 : W1.heap[w.heap.size]? = some (.deferred (some [])) := by
    rw [← hW1]; exact (Below.heap_alloc _ _ _ (by simp)).trans (World.alloc_heap_new w _)
  have hI1 : I 0 W1 := by rw [← hW1]; exact hI _ _ _ h0 (((Fr.refl _ w).alloc _).alloc _)
  refine ⟨w.heap.size + 1, [{ target := .collected w.heap.size, args := #[] }], W1, { target := .fn (.func gf) lb, args := #[.func (.yield (w.heap.size + 1)) #[] #[]] }, W1, gf,
    #[.func (.yield (w.heap.size + 1)) #[] #[]] ++ lb, W1, ?_, ?_, ?_, ?_, fun _ => h1, ?_⟩
  · rw [← hW1, hrec]; exact run_enterLoop_outer _ _ _ _ _
  · simp only [resolve, hg]
    simp [go_sem]
  · intro f' hf'; simp [Target.leads] at hf'; subst hf'; exact hFg
  · simp [invoke, go_sem, eg]
  · refine (hseq (w.heap.size + 1)
      (fun i W => I i W ∧ W.heap[w.heap.size + 1]? = some (.loop (rec .ready none)) ∧ W.heap[w.heap.size]? = some (.deferred (some [])))
      W1 (fun i A h => h.1)
      (fun i A B h f => ⟨hI i A B h.1 f, (f.block _ (Array.getElem?_eq_some_iff.1 h.2.1).1 (fun x => x)).trans h.2.1, (f.block _ (Array.getElem?_eq_some_iff.1 h.2.2).1 (fun x => x)).trans h.2.2⟩)
      ?_ ⟨hI1, hL1, hK1⟩).mono ?_
    · rintro i W args hi ⟨hi', hl, hk⟩ hp
      have hlt : w.heap.size + 1 < W.heap.size := (Array.getElem?_eq_some_iff.1 hl).1
      have hy := run_yield (P := P) (args := args) hl (by rw [hrec]; exact hps i W args hp)
      rw [hrec] at hy
      refine ⟨fn, _, assign, body, hy, roundIn_of_wpIn hfn (hassign _ i args W _ hp ⟨_, run_beginRound hl (by rw [hrec]), ?_⟩)⟩
      have hl2 : (W.putObj (w.heap.size + 1) (.loop { rec .ready none with state := .busy })).heap[w.heap.size + 1]? = some (.loop { rec .ready none with state := .busy }) := World.putObj_heap_same hlt
      have hk2 : (W.putObj (w.heap.size + 1) (.loop { rec .ready none with state := .busy })).heap[w.heap.size]? = some (.deferred (some [])) := (World.putObj_heap_other (by omega)).trans hk
      refine wpIn_mono (hbody _ i args _ hi (hIp i W _ _ _ hi' (by omega) hl rfl) (hPay i W args _ _ _ hp hl rfl)) ?_
      rintro e a3 W3 hq
      cases e with
      | normal =>
        obtain ⟨hk3, hi3⟩ := hq
        have hl3 := hk3.same _ _ hl2 rfl
        have hr := run_endRound (P := P) none hl3
        rw [hrec] at hr hl3
        refine ⟨_, _, hr, rfl, hIp (i + 1) W3 _ _ _ hi3 (by omega) hl3 rfl, ?_, ?_⟩
        · rw [hrec]; exact World.putObj_heap_same (Array.getElem?_eq_some_iff.1 hl3).1
        · exact (World.putObj_heap_other (by omega)).trans (hk3.same _ _ hk2 rfl)
      | ret => exact hq.elim
      | exit id => exact hq.elim
      | goto t => exact hq.elim
      | panic ch => exact hq.elim
      | outgrown => exact hq.elim
    · rintro e W2 ⟨⟨v, rfl⟩, hi, hl, hk⟩
      exact ⟨none, _, by have := run_endLoop (P := P) hl (by rw [hrec]; simp); rw [hrec] at this; exact this, hdone _ _ (Nat.le_refl _) (hIp N W2 _ _ _ hi (by omega) hl rfl) ((World.putObj_heap_other (by omega)).trans hk)⟩
end Go.Proofs.Ytphjebbjhfnhoaa
