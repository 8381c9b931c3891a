/- One sign laid into a new row. -/
import Derived.Test.YtmmobhmiemmioaaDoorCls
namespace Go.Proofs.YtmmobhmiemmioaaDoor
open Go.RowKit
theorem run_bs (g : Sg) (w : World) : (Instr.buildSlice 56 1 #[(0, .agg (sgR g))]).run Tryd.prog w = .ok (.slice (some ⟨w.heap.size, 0, none⟩) 1 1) (w.alloc (.cells (sgR g) 62)) := by kernel_rfl
theorem wpList_bs {ops : Array Oper} {rest : List Oper} {o : Oper} {a : Act} {w : World} {Q : Exit → Act → World → Prop} (g : Sg) (hgd : o.guard = none) (x : Operand) (ho : o.op = .buildSlice 56 1 #[(0, x)]) (hx : a.eval x = .agg (sgR g))
    (h : wpList Tryd.prog ops Q rest (a.put o.dst (.slice (some ⟨w.heap.size, 0, none⟩) 1 1)) (w.alloc (.cells (sgR g) 62))) : wpList Tryd.prog ops Q (o :: rest) a w := by
  refine wpList_plain hgd fun _ hK => ?_
  have hp : (#[(0, x)].map fun (i, x) => (i, a.eval x)) = #[(0, Value.agg (sgR g))] := by rw [← hx]; simp
  have e := run_bs g w
  rw [← hp] at e
  unfold Oper.wp execOp
  simp only [ho, Sem.run_bind, e, Result.andThen_ok]
  exact hK _ _ h

/-! What is left is a suffix -/
theorem memS_suf {q r : List UInt8} {c : UInt8} (h : memS q = some (c, r)) : r <:+ q ∧ r.length < q.length := by
  rcases q with _ | ⟨x, t⟩
  · cases h
  simp only [memS] at h
  by_cases h92 : x = 92
  · rw [if_pos h92] at h
    rcases t with _ | ⟨d, u⟩
    · cases h
    injection h with h
    injection h with _ h
    subst h
    exact ⟨⟨[x, d], rfl⟩, by simp only [List.length_cons]; omega⟩
  · rw [if_neg h92] at h
    injection h with h
    injection h with _ h
    subst h
    exact ⟨⟨[x], rfl⟩, by simp⟩
theorem oneS_suf {q r : List UInt8} {S S' : Nat → Bool} (h : oneS q S = some (S', r)) : r <:+ q ∧ r.length < q.length := by
  rcases hm : memS q with _ | ⟨lo, r1⟩
  · rw [oneS_no hm] at h; cases h
  obtain ⟨h1, h2⟩ := memS_suf hm
  rcases r1 with _ | ⟨y, u⟩
  · rw [oneS_end hm] at h; cases h; exact ⟨h1, h2⟩
  rcases u with _ | ⟨x, u⟩
  · rw [oneS_one hm] at h; cases h; exact ⟨h1, h2⟩
  by_cases hh : y = 45 ∧ x ≠ 93
  · obtain ⟨rfl, hx⟩ := hh
    rcases hm2 : memS (x :: u) with _ | ⟨hi, r2⟩
    · rw [oneS_bad hm hx hm2] at h; cases h
    obtain ⟨h3, h4⟩ := memS_suf hm2
    by_cases hl : hi < lo
    · rw [oneS_less hm hx hm2 hl] at h; cases h
    · rw [oneS_rng hm hx hm2 hl] at h
      cases h
      exact ⟨(h3.trans ⟨[45], rfl⟩).trans h1, by simp only [List.length_cons] at h2 h4; omega⟩
  · rw [oneS_two hm hh] at h; cases h; exact ⟨h1, h2⟩
theorem clsS_suf : ∀ (n : Nat) {q r : List UInt8} {S S' : Nat → Bool}, clsS n q S = some (S', r) → r <:+ q ∧ r.length < q.length := by
  intro n
  induction n with
  | zero => intro q r S S' h; cases h
  | succ n ih =>
    intro q r S S' h
    rcases q with _ | ⟨c, t⟩
    · cases h
    by_cases h93 : c = 93
    · rw [clsS, if_pos h93] at h
      cases h
      exact ⟨⟨[c], rfl⟩, by simp⟩
    · rw [clsS, if_neg h93] at h
      rcases ho : oneS (c :: t) S with _ | ⟨S1, r1⟩
      · rw [ho] at h; cases h
      · rw [ho] at h
        obtain ⟨h1, h2⟩ := oneS_suf ho
        obtain ⟨h3, h4⟩ := ih (show clsS n r1 S1 = some (S', r) from h)
        exact ⟨h3.trans h1, by omega⟩
theorem clsF_suf {q r : List UInt8} {n : Bool} {S : Nat → Bool} (h : clsF q = some (n, S, r)) : r <:+ q ∧ r.length < q.length := by
  have key : ∀ x, clsG x = some (S, r) → r <:+ x ∧ r.length < x.length := fun x hx => by
    unfold clsG at hx
    split at hx
    · cases hx
    · exact clsS_suf _ hx
  unfold clsF at h
  split at h
  · rcases hg : clsG q.tail with _ | ⟨S1, r1⟩
    · rw [hg] at h; cases h
    · rw [hg] at h
      have e : some (true, S1, r1) = some (n, S, r) := h
      simp only [Option.some.injEq, Prod.mk.injEq] at e
      obtain ⟨h1, h2⟩ := key q.tail (by rw [hg, e.2.1, e.2.2])
      exact ⟨h1.trans (List.tail_suffix q), by rw [List.length_tail] at h2; omega⟩
  · rcases hg : clsG q with _ | ⟨S1, r1⟩
    · rw [hg] at h; cases h
    · rw [hg] at h
      have e : some (false, S1, r1) = some (n, S, r) := h
      simp only [Option.some.injEq, Prod.mk.injEq] at e
      exact key q (by rw [hg, e.2.1, e.2.2])
theorem drop_suf {s : ByteArray} {j : Nat} {q r : List UInt8} (hq : s.data.toList.drop j = q) (h : r <:+ q) : s.data.toList.drop (s.size - r.length) = r := by
  have h2 : r <:+ s.data.toList := h.trans (by rw [← hq]; exact List.drop_suffix _ _)
  rw [size_len]
  exact (List.suffix_iff_eq_drop.1 h2).symm
theorem strip_suf : ∀ q : List UInt8, strip q <:+ q := by
  intro q
  induction q with
  | nil => exact List.suffix_refl _
  | cons c t ih =>
    unfold strip
    split
    · exact ih.trans ⟨[c], rfl⟩
    · exact List.suffix_refl _

/-- classAt, in two. -/
theorem class_none (s : ByteArray) (i : Nat) (r : List UInt8) (w : World) (hi0 : i ≤ s.size) (hs : s.size ≤ 100) (hr : s.data.toList.drop i = r) (h : clsF r = none) :
    Calls Tryd.prog 43 #[.string s, .int .i64 i] w fun e w' => ∃ (A : Sg) (n : Int), e = .returned (.tuple #[.agg (sgR A), .int .i64 n, .bool false]) ∧ Fr (fun _ => False) w w' :=
  (class_spec s i r w hi0 hs hr).mono fun e w' ⟨A, n, ok, h1, h2, h3⟩ => by
    rw [h] at h3
    have h4 : ok = false := h3
    subst h4
    exact ⟨A, n, h1, h2⟩
theorem class_some (s : ByteArray) (i : Nat) (r t : List UInt8) (neg : Bool) (S : Nat → Bool) (w : World) (hi0 : i ≤ s.size) (hs : s.size ≤ 100) (hr : s.data.toList.drop i = r) (h : clsF r = some (neg, S, t)) :
    Calls Tryd.prog 43 #[.string s, .int .i64 i] w fun e w' => e = .returned (.tuple #[.agg (sgR ⟨4, 0, neg, S⟩), .int .i64 (s.size - t.length : Nat), .bool true]) ∧ Fr (fun _ => False) w w' :=
  (class_spec s i r w hi0 hs hr).mono fun e w' ⟨A, n, ok, h1, h2, h3⟩ => by
    rw [h] at h3
    obtain ⟨h4, h5, h6⟩ : ok = true ∧ A = ⟨4, 0, neg, S⟩ ∧ n = (s.size - t.length : Nat) := h3
    subst h4 h5 h6
    exact ⟨h1, h2⟩
end Go.Proofs.YtmmobhmiemmioaaDoor
