/- The walks of the meters' methods: the reference's. -/
import Derived.Test.YtncdmgngmgjmpaaProg
import Derived.Test.YtncdmgngmgjmpaaFr
import Derived.KernelRfl
import Derived.Deep.QuietTactic
import Derived.BigQuiet
import Derived.Lib.Hide
import Derived.Laws.AppendOwnNone
namespace Go.Proofs.Ytncdmgngmgjmpaa
open Go.RowKit

theorem Fr.grown {S : Nat → Prop} {a w w' : World} {row : Option Nat} (h : Fr S a w) (hg : w.grownBy w' row) (hr : ∀ k, row = some k → k < a.heap.size → S k) : Fr S a w' :=
  h.trans (T := fun k => row = some k) ⟨hg.os, hg.tape, hg.output, hg.size, fun k hk hS => hg.block k hk (fun e => hS e.symm)⟩ (fun i hi e => hr i e hi)

theorem Try.info3 : (Try.prog.info? 3).map (fun i => (i.zero, i.size, i.bytes)) = some (some (.int .i64 0), 1, 8) := by kernel_rfl

/-- The reference's meter at block r: its list L lies in a row of its own from block 'base' on. -/
def RMt (w : World) (r base : Nat) (total went now : Int) (L : List Int) : Prop :=
  ∃ (a : Option Addr) (cap : Nat), Blk w r 62 #[.int .i64 total, .int .i64 went, .int .i64 now, .slice a L.length cap] ∧
    ((L = [] ∧ a = none ∧ cap = 0) ∨ (L ≠ [] ∧ ∃ g off, a = some ⟨g, off, none⟩ ∧ base ≤ g ∧ g < w.heap.size ∧ ∀ j v, (L.map (Value.int .i64))[j]? = some v → w.cell? ⟨g, off + j, none⟩ = some v))

theorem RMt.lt {w : World} {r base : Nat} {t d n : Int} {L : List Int} (h : RMt w r base t d n L) : r < w.heap.size := by
  obtain ⟨_, _, hb, _⟩ := h; exact hb.lt

theorem RMt.fr {S : Nat → Prop} {w w' : World} {r base : Nat} {t d n : Int} {L : List Int} (h : RMt w r base t d n L) (f : Fr S w w') (hS : ¬ S r) (hS2 : ∀ g, base ≤ g → ¬ S g) : RMt w' r base t d n L := by
  obtain ⟨a, cap, hb, hL⟩ := h
  refine ⟨a, cap, hb.fr f hS, ?_⟩
  rcases hL with hL | ⟨hne, g, off, ha, hg, hgl, hc⟩
  · exact .inl hL
  · refine .inr ⟨hne, g, off, ha, hg, Nat.lt_of_lt_of_le hgl f.size, fun j v hj => ?_⟩
    rw [← hc j v hj]
    exact World.cell?_of_block (w := w) (f.block g hgl (hS2 g hg))

def rstep (s : Int × List Int) : Int × List Int := (0, if 8 < (s.2 ++ [s.1]).length then (s.2 ++ [s.1]).drop 1 else s.2 ++ [s.1])
def rsteps : Nat → Int × List Int → Int × List Int
  | 0, s => s
  | n + 1, s => rstep (rsteps n s)

theorem rsteps_len (n : Nat) (s : Int × List Int) (h : s.2.length ≤ 8) : (rsteps n s).2.length ≤ 8 := by
  induction n with
  | zero => exact h
  | succ n ih =>
    simp only [rsteps, rstep]
    split
    · simp; omega
    · simp_all

theorem upto_any (a n : Int) (w : World) (h0 : 0 ≤ a) (h1 : a ≤ 4611686018427387903) (n0 : 0 ≤ n) :
    Calls Try.prog 34 #[.int .i64 a, .int .i64 n] w fun e w' => e = .returned (.int .i64 (min (a + n) 4611686018427387903)) ∧ w = w' := by
  by_cases k : 4611686018427387903 - a < n
  · have f : min (a + n) 4611686018427387903 = 4611686018427387903 := by omega
    have F := Lib.hid f; clear f
    go_enter Try.func34, Try.ntmps34
    go_wp2
    go_ret
    rw [F.out]; exact ⟨rfl, rfl⟩
  · have f : min (a + n) 4611686018427387903 = a + n := by omega
    have F := Lib.hid f; clear f
    go_enter Try.func34, Try.ntmps34
    go_wp2
    go_ret
    rw [F.out]; exact ⟨rfl, rfl⟩

theorem rstart_ok (t : Int) (w : World) (h0 : 0 ≤ t) (h1 : t ≤ 4611686018427387903) (base : Nat) :
    Calls Try.prog 12 #[.int .i64 t] w fun e w' => e = .returned (.tuple #[.pointer (some ⟨w.heap.size, 0, none⟩), .int .i64 0]) ∧ RMt w' w.heap.size base t 0 0 [] ∧ Fr (fun _ => False) w w' := by
  go_enter Try.func12, Try.ntmps12
  go_wp2
  go_ret2
  exact ⟨rfl, ⟨none, 0, Blk.new _ _ _, .inl ⟨rfl, rfl, rfl⟩⟩, (Fr.refl _ _).alloc _⟩

theorem rstart_bad (t : Int) (w : World) (h : t < 0 ∨ 4611686018427387903 < t) :
    Calls Try.prog 12 #[.int .i64 t] w fun e w' => e = .returned (.tuple #[.pointer none, .int .i64 2]) ∧ w = w' := by
  go_enter Try.func12, Try.ntmps12
  go_wp2
  all_goals first | omega | (go_ret2; exact ⟨rfl, rfl⟩)

theorem rdone_any (r base : Nat) (total went now : Int) (L : List Int) (w : World) (hb : RMt w r base total went now L) :
    Calls Try.prog 20 #[.pointer (some ⟨r, 0, none⟩)] w fun e w' => e = .returned (.int .i64 went) ∧ w = w' := by
  obtain ⟨a, cap, hb, _⟩ := hb
  have c1 := hb.cell 1 (v := .int .i64 went) rfl
  go_enter Try.func20, Try.ntmps20
  go_wp2
  go_ret
  exact ⟨rfl, rfl⟩

def addR (a n : Int) : Int := if n ≤ 0 then a else min (a + n) 4611686018427387903

theorem radd_any (r base : Nat) (total went now n : Int) (L : List Int) (w : World) (hb : RMt w r base total went now L) (hrb : r < base) (d0 : 0 ≤ went) (d1 : went ≤ 4611686018427387903) (n0 : 0 ≤ now) (n1 : now ≤ 4611686018427387903) :
    Calls Try.prog 14 #[.pointer (some ⟨r, 0, none⟩), .int .i64 n] w fun e w' => e = .returned (.tuple #[]) ∧ RMt w' r base total (addR went n) (addR now n) L ∧ Fr (fun k => k = r) w w' := by
  by_cases k : n ≤ 0
  · have e1 : addR went n = went := if_pos k
    have e2 : addR now n = now := if_pos k
    rw [e1, e2]
    clear e1 e2
    go_enter Try.func14, Try.ntmps14
    go_wp2
    go_end0
    exact ⟨rfl, hb, Fr.refl _ _⟩
  · have e1 : addR went n = min (went + n) 4611686018427387903 := if_neg k
    have e2 : addR now n = min (now + n) 4611686018427387903 := if_neg k
    rw [e1, e2]
    obtain ⟨a, cap, hb, hL⟩ := hb
    have c1 := hb.cell 1 (v := .int .i64 went) rfl
    have c2 := hb.cell 2 (v := .int .i64 now) rfl
    have f1 := hb.free 1
    have f2 := hb.free 2
    have HB := Lib.hid hb
    have HL := Lib.hid hL
    clear e1 e2 hb hL
    go_enter Try.func14, Try.ntmps14
    go_wp2_with (fail)
    refine (upto_any went n _ d0 d1 (by omega)).mono ?_
    rintro e w1 ⟨rfl, rfl⟩
    go_wp2_with (fail)
    refine (upto_any now n _ n0 n1 (by omega)).mono ?_
    rintro e w1 ⟨rfl, rfl⟩
    go_wp2
    go_end0
    have hF : Fr (fun k => k = r) w ((w.setCell ⟨r, 1, none⟩ (.int .i64 (min (went + n) 4611686018427387903))).setCell ⟨r, 2, none⟩ (.int .i64 (min (now + n) 4611686018427387903))) :=
      ((Fr.refl (fun k => k = r) w).setCell (fun _ => rfl) _).setCell (fun _ => rfl) _
    refine ⟨rfl, ⟨a, cap, (HB.out.set 1 _).set 2 _, ?_⟩, hF⟩
    rcases HL.out with hL | ⟨hne, g, off, ha, hg, hgl, hc⟩
    · exact .inl hL
    · refine .inr ⟨hne, g, off, ha, hg, Nat.lt_of_lt_of_le hgl hF.size, fun j v hj => ?_⟩
      rw [← hc j v hj]
      exact World.cell?_of_block (w := w) (hF.block g hgl (by omega))

end Go.Proofs.Ytncdmgngmgjmpaa
