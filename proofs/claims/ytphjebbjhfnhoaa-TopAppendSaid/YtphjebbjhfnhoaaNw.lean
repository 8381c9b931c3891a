/- index: New. -/
import Derived.Test.YtphjebbjhfnhoaaHd
import Derived.Test.YtphjebbjhfnhoaaRk
import Derived.Deep.CutRange
namespace Go.Proofs.Ytphjebbjhfnhoaa
open Go.RowKit
def hdF (l : List UInt8) (B H : Nat) : Nat → Nat := fun i => hdN H (weak (blk l B i))
/-- An index in memory. -/
structure IX (l : List UInt8) (B st x : Nat) (vm : Value) (ch H al : Nat) (w : World) : Prop where
  H1 : 0 < H
  H2 : H ≤ 1048576
  xb : Blk w x 85 #[vm, .int .i64 (l.length : Int), .int .i64 (B : Int), .slice (some ⟨ch, 0, none⟩) H H]
  mks : Sl w 59 2 vm (cnt l.length B) (marks l B st (cnt l.length B))
  chb : Blk w ch 86 (rowV (fun j => chV (hdF l B H) (cnt l.length B) al j (cH (hdF l B H) (cnt l.length B) j)) H)
  alb : Blk w al 3 (rowK .i64 (gH (hdF l B H) (cnt l.length B) (cnt l.length B)) (cnt l.length B))
/-- Within the statement that makes it. -/
structure N7 (m B N H : Nat) (v : Value) (ms : List Value) (b1 : Nat) (w0 : World) (L : Nat → Bool) (u : Nat → Value) (vm : Value) (ch x : Nat) (w : World) : Prop where
  p0 : L 0 = true → u 28 = .pointer (some ⟨b1, 3, none⟩)
  p1 : L 1 = true → u 29 = v
  p2 : L 2 = true → u 30 = vm ∧ Sl w 59 2 vm N ms ∧ ∀ k, vm.ownBlock = some k → w0.heap.size ≤ k
  p3 : L 3 = true → u 31 = .pointer (some ⟨b1, 0, none⟩)
  p4 : L 4 = true → u 32 = .int .i64 (m : Int)
  p5 : L 5 = true → u 33 = .pointer (some ⟨b1, 1, none⟩)
  p6 : L 6 = true → u 34 = .int .i64 (B : Int)
  p7 : L 7 = true → u 35 = .int .i64 (H : Int)
  p8 : L 8 = true → u 36 = .slice (some ⟨ch, 0, none⟩) H H ∧ Blk w ch 86 (rowV (fun _ => .slice none 0 0) H) ∧ w0.heap.size ≤ ch
  p9 : L 9 = true → u 37 = .agg #[vm, .int .i64 (m : Int), .int .i64 (B : Int), .slice (some ⟨ch, 0, none⟩) H H]
  p10 : L 10 = true → u 38 = .pointer (some ⟨x, 0, none⟩) ∧ Blk w x 85 #[vm, .int .i64 (m : Int), .int .i64 (B : Int), .slice (some ⟨ch, 0, none⟩) H H] ∧ w0.heap.size ≤ x
  p11 : L 11 = true → u 6 = .pointer (some ⟨x, 0, none⟩)
  fr : Fr (fun _ => False) w0 w
def actN (c u : Nat → Value) : Act := { tmps := [c 0, c 1, c 2, c 3, c 4, c 5, u 6, c 7, c 8, c 9, c 10, c 11, c 12, c 13, c 14, c 15, c 16, c 17, c 18, c 19,
  c 20, c 21, c 22, c 23, c 24, c 25, c 26, c 27, u 28, u 29, u 30, u 31, u 32, u 33, u 34, u 35, u 36, u 37, u 38, c 39,
  c 40, c 41, c 42, c 43, c 44, c 45, c 46, c 47, c 48, c 49, c 50, c 51, c 52, c 53, c 54, c 55, c 56, c 57, c 58, c 59,
  c 60, c 61, c 62, c 63, c 64, c 65, c 66, c 67, c 68, c 69, c 70, c 71, c 72, c 73, c 74, c 75, c 76, c 77, c 78, c 79,
  c 80, c 81, c 82, c 83, c 84, c 85, c 86, c 87, c 88, c 89, c 90, c 91, c 92, c 93, c 94, c 95, c 96, c 97, c 98, c 99,
  c 100, c 101, c 102, c 103, c 104, c 105, c 106, c 107, c 108, c 109, c 110, c 111, c 112, c 113, c 114, c 115, c 116, c 117, c 118, c 119,
  c 120, c 121, c 122, c 123, c 124, c 125, c 126, c 127, c 128, c 129, c 130, c 131, c 132, c 133, c 134, c 135].toArray, defers := [] }
def baseN (m B st N H cap b1 : Nat) (ad : Option Addr) (u26 u27 : Value) : Nat → Value := fun k => ([.agg #[.int .i64 (m : Int), .int .i64 (B : Int), .int .i64 (st : Int), .slice ad N cap], .pointer (some ⟨b1, 0, none⟩), .pointer none, .int .i64 0, .int .i64 0, .int .i64 (H : Int), undef, undef, undef, undef, undef, undef, undef, undef, undef, undef, .agg #[.int .i64 (m : Int), .int .i64 (B : Int), .int .i64 (st : Int), .slice ad N cap], .int .i64 0, .int .i64 0, .bool false, undef, .int .i64 (H : Int), .pointer (some ⟨b1, 3, none⟩), .slice ad N cap, .int .i64 (N : Int), .bool false, u26, u27, undef, undef, undef, undef, undef, undef, undef, undef, undef, undef, undef, undef, undef, undef, undef, undef, undef, undef, undef, undef, undef, undef, undef, undef, undef, undef, undef, undef, undef, undef, undef, undef, undef, undef, undef, undef, undef, undef, undef, undef, undef, undef, undef, undef, undef, undef, undef, undef, undef, undef, undef, undef, undef, undef, undef, undef, undef, undef, undef, undef, undef, undef, undef, undef, undef, undef, undef, undef, undef, undef, undef, undef, undef, undef, undef, undef, undef, undef, undef, undef, undef, undef, undef, undef, undef, undef, undef, undef, undef, undef, undef, undef, undef, undef, undef, undef, undef, undef, undef, undef, undef, undef, undef, undef, undef, undef, undef, undef] : List Value).getD k undef
theorem N7.up {m B N H : Nat} {v : Value} {ms : List Value} {b1 : Nat} {w0 : World} {L : Nat → Bool} {u : Nat → Value} {vm : Value} {ch x : Nat} {w : World} (h : N7 m B N H v ms b1 w0 L u vm ch x w) (k : Nat) (hk : k < 12) (h2 : k ≠ 2) (h8 : k ≠ 8) (h10 : k ≠ 10) (h11 : k ≠ 11) (val : Value)
    (hval : (k = 0 → val = .pointer (some ⟨b1, 3, none⟩)) ∧ (k = 1 → val = v) ∧ (k = 3 → val = .pointer (some ⟨b1, 0, none⟩)) ∧ (k = 4 → val = .int .i64 (m : Int)) ∧ (k = 5 → val = .pointer (some ⟨b1, 1, none⟩)) ∧ (k = 6 → val = .int .i64 (B : Int)) ∧ (k = 7 → val = .int .i64 (H : Int)) ∧ (k = 9 → val = .agg #[vm, .int .i64 (m : Int), .int .i64 (B : Int), .slice (some ⟨ch, 0, none⟩) H H])) :
    N7 m B N H v ms b1 w0 (updB L k) (updU u (28 + k) val) vm ch x w := by
  refine ⟨?_, ?_, ?_, ?_, ?_, ?_, ?_, ?_, ?_, ?_, ?_, ?_, h.fr⟩
  · intro q
    by_cases e : k = 0
    · subst e; rw [updU_self]; exact hval.1 rfl
    · rw [updB_ne _ _ _ (Ne.symm e)] at q; rw [updU_ne _ _ _ _ (by omega)]; exact h.p0 q
  · intro q
    by_cases e : k = 1
    · subst e; rw [updU_self]; exact hval.2.1 rfl
    · rw [updB_ne _ _ _ (Ne.symm e)] at q; rw [updU_ne _ _ _ _ (by omega)]; exact h.p1 q
  · intro q
    rw [updB_ne _ _ _ (by omega)] at q; rw [updU_ne _ _ _ _ (by omega)]; exact h.p2 q
  · intro q
    by_cases e : k = 3
    · subst e; rw [updU_self]; exact hval.2.2.1 rfl
    · rw [updB_ne _ _ _ (Ne.symm e)] at q; rw [updU_ne _ _ _ _ (by omega)]; exact h.p3 q
  · intro q
    by_cases e : k = 4
    · subst e; rw [updU_self]; exact hval.2.2.2.1 rfl
    · rw [updB_ne _ _ _ (Ne.symm e)] at q; rw [updU_ne _ _ _ _ (by omega)]; exact h.p4 q
  · intro q
    by_cases e : k = 5
    · subst e; rw [updU_self]; exact hval.2.2.2.2.1 rfl
    · rw [updB_ne _ _ _ (Ne.symm e)] at q; rw [updU_ne _ _ _ _ (by omega)]; exact h.p5 q
  · intro q
    by_cases e : k = 6
    · subst e; rw [updU_self]; exact hval.2.2.2.2.2.1 rfl
    · rw [updB_ne _ _ _ (Ne.symm e)] at q; rw [updU_ne _ _ _ _ (by omega)]; exact h.p6 q
  · intro q
    by_cases e : k = 7
    · subst e; rw [updU_self]; exact hval.2.2.2.2.2.2.1 rfl
    · rw [updB_ne _ _ _ (Ne.symm e)] at q; rw [updU_ne _ _ _ _ (by omega)]; exact h.p7 q
  · intro q
    rw [updB_ne _ _ _ (by omega)] at q; rw [updU_ne _ _ _ _ (by omega)]; exact h.p8 q
  · intro q
    by_cases e : k = 9
    · subst e; rw [updU_self]; exact hval.2.2.2.2.2.2.2 rfl
    · rw [updB_ne _ _ _ (Ne.symm e)] at q; rw [updU_ne _ _ _ _ (by omega)]; exact h.p9 q
  · intro q
    rw [updB_ne _ _ _ (by omega)] at q; rw [updU_ne _ _ _ _ (by omega)]; exact h.p10 q
  · intro q
    rw [updB_ne _ _ _ (by omega)] at q; rw [updU_ne _ _ _ _ (by omega)]; exact h.p11 q
theorem N7.world {m B N H : Nat} {v : Value} {ms : List Value} {b1 : Nat} {w0 : World} {L : Nat → Bool} {u : Nat → Value} {vm : Value} {ch x : Nat} {w w' : World} (h : N7 m B N H v ms b1 w0 L u vm ch x w) (f : Fr (fun _ => False) w w') : N7 m B N H v ms b1 w0 L u vm ch x w' :=
  ⟨h.p0, h.p1, fun q => ⟨(h.p2 q).1, (h.p2 q).2.1.fr f (fun _ _ x => x), (h.p2 q).2.2⟩, h.p3, h.p4, h.p5, h.p6, h.p7, fun q => ⟨(h.p8 q).1, (h.p8 q).2.1.fr f (fun x => x), (h.p8 q).2.2⟩, h.p9, fun q => ⟨(h.p10 q).1, (h.p10 q).2.1.fr f (fun x => x), (h.p10 q).2.2⟩, h.p11, h.fr.trans f (fun _ _ x => x)⟩
theorem N7.setVm {m B N H : Nat} {v : Value} {ms : List Value} {b1 : Nat} {w0 : World} {L : Nat → Bool} {u : Nat → Value} {vm : Value} {ch x : Nat} {w : World} (h : N7 m B N H v ms b1 w0 L u vm ch x w) (vm2 : Value) (h9 : L 9 = false) (h10 : L 10 = false) (hs : Sl w 59 2 vm2 N ms) (hk : ∀ k, vm2.ownBlock = some k → w0.heap.size ≤ k) :
    N7 m B N H v ms b1 w0 (updB L 2) (updU u 30 vm2) vm2 ch x w := by
  refine ⟨?_, ?_, ?_, ?_, ?_, ?_, ?_, ?_, ?_, ?_, ?_, ?_, h.fr⟩
  · intro q; rw [updB_ne _ _ _ (by decide)] at q; rw [updU_ne _ _ _ _ (by decide)]; exact h.p0 q
  · intro q; rw [updB_ne _ _ _ (by decide)] at q; rw [updU_ne _ _ _ _ (by decide)]; exact h.p1 q
  · intro _; rw [updU_self]; exact ⟨rfl, hs, hk⟩
  · intro q; rw [updB_ne _ _ _ (by decide)] at q; rw [updU_ne _ _ _ _ (by decide)]; exact h.p3 q
  · intro q; rw [updB_ne _ _ _ (by decide)] at q; rw [updU_ne _ _ _ _ (by decide)]; exact h.p4 q
  · intro q; rw [updB_ne _ _ _ (by decide)] at q; rw [updU_ne _ _ _ _ (by decide)]; exact h.p5 q
  · intro q; rw [updB_ne _ _ _ (by decide)] at q; rw [updU_ne _ _ _ _ (by decide)]; exact h.p6 q
  · intro q; rw [updB_ne _ _ _ (by decide)] at q; rw [updU_ne _ _ _ _ (by decide)]; exact h.p7 q
  · intro q; rw [updB_ne _ _ _ (by decide)] at q; rw [updU_ne _ _ _ _ (by decide)]; exact h.p8 q
  · intro q; rw [updB_ne _ _ _ (by decide), h9] at q; cases q
  · intro q; rw [updB_ne _ _ _ (by decide), h10] at q; cases q
  · intro q; rw [updB_ne _ _ _ (by decide)] at q; rw [updU_ne _ _ _ _ (by decide)]; exact h.p11 q
theorem N7.setCh {m B N H : Nat} {v : Value} {ms : List Value} {b1 : Nat} {w0 : World} {L : Nat → Bool} {u : Nat → Value} {vm : Value} {ch x : Nat} {w : World} (h : N7 m B N H v ms b1 w0 L u vm ch x w) (c2 : Nat) (h9 : L 9 = false) (h10 : L 10 = false) (hs : Blk w c2 86 (rowV (fun _ => .slice none 0 0) H)) (hk : w0.heap.size ≤ c2) :
    N7 m B N H v ms b1 w0 (updB L 8) (updU u 36 (.slice (some ⟨c2, 0, none⟩) H H)) vm c2 x w := by
  refine ⟨?_, ?_, ?_, ?_, ?_, ?_, ?_, ?_, ?_, ?_, ?_, ?_, h.fr⟩
  · intro q; rw [updB_ne _ _ _ (by decide)] at q; rw [updU_ne _ _ _ _ (by decide)]; exact h.p0 q
  · intro q; rw [updB_ne _ _ _ (by decide)] at q; rw [updU_ne _ _ _ _ (by decide)]; exact h.p1 q
  · intro q; rw [updB_ne _ _ _ (by decide)] at q; rw [updU_ne _ _ _ _ (by decide)]; exact h.p2 q
  · intro q; rw [updB_ne _ _ _ (by decide)] at q; rw [updU_ne _ _ _ _ (by decide)]; exact h.p3 q
  · intro q; rw [updB_ne _ _ _ (by decide)] at q; rw [updU_ne _ _ _ _ (by decide)]; exact h.p4 q
  · intro q; rw [updB_ne _ _ _ (by decide)] at q; rw [updU_ne _ _ _ _ (by decide)]; exact h.p5 q
  · intro q; rw [updB_ne _ _ _ (by decide)] at q; rw [updU_ne _ _ _ _ (by decide)]; exact h.p6 q
  · intro q; rw [updB_ne _ _ _ (by decide)] at q; rw [updU_ne _ _ _ _ (by decide)]; exact h.p7 q
  · intro _; rw [updU_self]; exact ⟨rfl, hs, hk⟩
  · intro q; rw [updB_ne _ _ _ (by decide), h9] at q; cases q
  · intro q; rw [updB_ne _ _ _ (by decide), h10] at q; cases q
  · intro q; rw [updB_ne _ _ _ (by decide)] at q; rw [updU_ne _ _ _ _ (by decide)]; exact h.p11 q
theorem N7.setX {m B N H : Nat} {v : Value} {ms : List Value} {b1 : Nat} {w0 : World} {L : Nat → Bool} {u : Nat → Value} {vm : Value} {ch x : Nat} {w : World} (h : N7 m B N H v ms b1 w0 L u vm ch x w) (x2 : Nat) (h11 : L 11 = false) (hs : Blk w x2 85 #[vm, .int .i64 (m : Int), .int .i64 (B : Int), .slice (some ⟨ch, 0, none⟩) H H]) (hk : w0.heap.size ≤ x2) :
    N7 m B N H v ms b1 w0 (updB L 10) (updU u 38 (.pointer (some ⟨x2, 0, none⟩))) vm ch x2 w := by
  refine ⟨?_, ?_, ?_, ?_, ?_, ?_, ?_, ?_, ?_, ?_, ?_, ?_, h.fr⟩
  · intro q; rw [updB_ne _ _ _ (by decide)] at q; rw [updU_ne _ _ _ _ (by decide)]; exact h.p0 q
  · intro q; rw [updB_ne _ _ _ (by decide)] at q; rw [updU_ne _ _ _ _ (by decide)]; exact h.p1 q
  · intro q; rw [updB_ne _ _ _ (by decide)] at q; rw [updU_ne _ _ _ _ (by decide)]; exact h.p2 q
  · intro q; rw [updB_ne _ _ _ (by decide)] at q; rw [updU_ne _ _ _ _ (by decide)]; exact h.p3 q
  · intro q; rw [updB_ne _ _ _ (by decide)] at q; rw [updU_ne _ _ _ _ (by decide)]; exact h.p4 q
  · intro q; rw [updB_ne _ _ _ (by decide)] at q; rw [updU_ne _ _ _ _ (by decide)]; exact h.p5 q
  · intro q; rw [updB_ne _ _ _ (by decide)] at q; rw [updU_ne _ _ _ _ (by decide)]; exact h.p6 q
  · intro q; rw [updB_ne _ _ _ (by decide)] at q; rw [updU_ne _ _ _ _ (by decide)]; exact h.p7 q
  · intro q; rw [updB_ne _ _ _ (by decide)] at q; rw [updU_ne _ _ _ _ (by decide)]; exact h.p8 q
  · intro q; rw [updB_ne _ _ _ (by decide)] at q; rw [updU_ne _ _ _ _ (by decide)]; exact h.p9 q
  · intro _; rw [updU_self]; exact ⟨rfl, hs, hk⟩
  · intro q; rw [updB_ne _ _ _ (by decide), h11] at q; cases q
theorem N7.set6 {m B N H : Nat} {v : Value} {ms : List Value} {b1 : Nat} {w0 : World} {L : Nat → Bool} {u : Nat → Value} {vm : Value} {ch x : Nat} {w : World} (h : N7 m B N H v ms b1 w0 L u vm ch x w)  :
    N7 m B N H v ms b1 w0 (updB L 11) (updU u 6 (.pointer (some ⟨x, 0, none⟩))) vm ch x w := by
  refine ⟨?_, ?_, ?_, ?_, ?_, ?_, ?_, ?_, ?_, ?_, ?_, ?_, h.fr⟩
  · intro q; rw [updB_ne _ _ _ (by decide)] at q; rw [updU_ne _ _ _ _ (by decide)]; exact h.p0 q
  · intro q; rw [updB_ne _ _ _ (by decide)] at q; rw [updU_ne _ _ _ _ (by decide)]; exact h.p1 q
  · intro q; rw [updB_ne _ _ _ (by decide)] at q; rw [updU_ne _ _ _ _ (by decide)]; exact h.p2 q
  · intro q; rw [updB_ne _ _ _ (by decide)] at q; rw [updU_ne _ _ _ _ (by decide)]; exact h.p3 q
  · intro q; rw [updB_ne _ _ _ (by decide)] at q; rw [updU_ne _ _ _ _ (by decide)]; exact h.p4 q
  · intro q; rw [updB_ne _ _ _ (by decide)] at q; rw [updU_ne _ _ _ _ (by decide)]; exact h.p5 q
  · intro q; rw [updB_ne _ _ _ (by decide)] at q; rw [updU_ne _ _ _ _ (by decide)]; exact h.p6 q
  · intro q; rw [updB_ne _ _ _ (by decide)] at q; rw [updU_ne _ _ _ _ (by decide)]; exact h.p7 q
  · intro q; rw [updB_ne _ _ _ (by decide)] at q; rw [updU_ne _ _ _ _ (by decide)]; exact h.p8 q
  · intro q; rw [updB_ne _ _ _ (by decide)] at q; rw [updU_ne _ _ _ _ (by decide)]; exact h.p9 q
  · intro q; rw [updB_ne _ _ _ (by decide)] at q; rw [updU_ne _ _ _ _ (by decide)]; exact h.p10 q
  · intro _; exact updU_self _ _ _
theorem one2 (a b : Value) (h1 : a.oneCell' = true) (h2 : b.oneCell' = true) : (#[a, b] : Array Value).all (·.oneCell') = true :=
  all_oneCell_toArray (cs := [a, b]) (fun v hv => by
    simp only [List.mem_cons, List.not_mem_nil, or_false] at hv
    rcases hv with rfl | rfl <;> assumption)
/-- A new block, its row stored at once. -/
theorem new_row (w : World) (T : TypeId) (z cs : Array Value) : Blk ((w.alloc (.cells z T)).setRow w.heap.size cs) w.heap.size T cs ∧ Fr (fun _ => False) w ((w.alloc (.cells z T)).setRow w.heap.size cs) :=
  ⟨setRow_heap _ _ _ _ T _ (Blk.new w T z), ((Fr.refl _ w).alloc _).trans (fr_setRow _ _ _) (fun i hi e => by omega)⟩
theorem Try.sl86 : Try.prog.underlying 86 = some (.slice (Try.prog.elem 86)) := by kernel_rfl
theorem Try.elem86 (w : World) : (sizeOf (Try.prog.elem 86)).run Try.prog w = .ok 1 w := by kernel_rfl
theorem Try.info3 : (Try.prog.info? 3).map (fun i => (i.zero, i.size, i.bytes)) = some (some (.int .i64 0), 1, 8) := by kernel_rfl
/-- Behind it. -/
structure NS (w0 : World) (m B st N H : Nat) (v vm : Value) (ms : List Value) (b1 x ch eb : Nat) (e : Nat → Int) (f : Nat → Value) (w : World) : Prop where
  bx : Blk w b1 27 #[.int .i64 (m : Int), .int .i64 (B : Int), .int .i64 (st : Int), v]
  src : Sl w 59 2 v N ms
  mks : Sl w 59 2 vm N ms
  xb : Blk w x 85 #[vm, .int .i64 (m : Int), .int .i64 (B : Int), .slice (some ⟨ch, 0, none⟩) H H]
  chb : Blk w ch 86 (rowV f H)
  ebb : Blk w eb 3 (rowK .i64 e (H + 1))
  fr : Fr (fun _ => False) w0 w
  lc : w0.heap.size ≤ ch
  le : w0.heap.size ≤ eb
theorem NS.frF {w0 : World} {m B st N H : Nat} {v vm : Value} {ms : List Value} {b1 x ch eb : Nat} {e : Nat → Int} {f : Nat → Value} {w w' : World} (h : NS w0 m B st N H v vm ms b1 x ch eb e f w) (g : Fr (fun _ => False) w w') : NS w0 m B st N H v vm ms b1 x ch eb e f w' :=
  ⟨h.bx.fr g (fun x => x), h.src.fr g (fun _ _ x => x), h.mks.fr g (fun _ _ x => x), h.xb.fr g (fun x => x), h.chb.fr g (fun x => x), h.ebb.fr g (fun x => x), h.fr.trans g (fun _ _ x => x), h.lc, h.le⟩
theorem NS.putE {w0 : World} {m B st N H : Nat} {v vm : Value} {ms : List Value} {b1 x ch eb : Nat} {e : Nat → Int} {f : Nat → Value} {w : World} (h : NS w0 m B st N H v vm ms b1 x ch eb e f w) (k : Nat) (y : Int) : NS w0 m B st N H v vm ms b1 x ch eb (updN e k y) f (w.setCell ⟨eb, k, none⟩ (.int .i64 y)) := by
  have g : Fr (fun j => j = eb) w (w.setCell ⟨eb, k, none⟩ (.int .i64 y)) := (Fr.refl (fun j => j = eb) w).setCell (p := ⟨eb, k, none⟩) (fun _ => rfl) _
  exact ⟨h.bx.fr g (blk_ne h.bx h.ebb (by decide)), h.src.fr g (h.src.ne h.ebb (by decide)), h.mks.fr g (h.mks.ne h.ebb (by decide)), h.xb.fr g (blk_ne h.xb h.ebb (by decide)), h.chb.fr g (blk_ne h.chb h.ebb (by decide)),
    by have := h.ebb.set k (.int .i64 y); rwa [rowK_set] at this, h.fr.trans g (fun i hi q => by have := h.le; omega), h.lc, h.le⟩
theorem NS.putC {w0 : World} {m B st N H : Nat} {v vm : Value} {ms : List Value} {b1 x ch eb : Nat} {e : Nat → Int} {f : Nat → Value} {w : World} (h : NS w0 m B st N H v vm ms b1 x ch eb e f w) (k : Nat) (y : Value) : NS w0 m B st N H v vm ms b1 x ch eb e (updU f k y) (w.setCell ⟨ch, k, none⟩ y) := by
  have g : Fr (fun j => j = ch) w (w.setCell ⟨ch, k, none⟩ y) := (Fr.refl (fun j => j = ch) w).setCell (p := ⟨ch, k, none⟩) (fun _ => rfl) _
  exact ⟨h.bx.fr g (blk_ne h.bx h.chb (by decide)), h.src.fr g (h.src.ne h.chb (by decide)), h.mks.fr g (h.mks.ne h.chb (by decide)), h.xb.fr g (blk_ne h.xb h.chb (by decide)),
    by have := h.chb.set k y; rwa [rowV_set] at this, h.ebb.fr g (blk_ne h.ebb h.chb (by decide)), h.fr.trans g (fun i hi q => by have := h.lc; omega), h.lc, h.le⟩
/-- And all numbers in one row. -/
structure NA (w0 : World) (m B st N H : Nat) (v vm : Value) (ms : List Value) (b1 x ch eb al : Nat) (e : Nat → Int) (f : Nat → Value) (g : Nat → Int) (w : World) : Prop where
  ns : NS w0 m B st N H v vm ms b1 x ch eb e f w
  alb : Blk w al 3 (rowK .i64 g N)
  ne : eb ≠ al
  la : w0.heap.size ≤ al
theorem NA.frF {w0 : World} {m B st N H : Nat} {v vm : Value} {ms : List Value} {b1 x ch eb al : Nat} {e : Nat → Int} {f : Nat → Value} {g : Nat → Int} {w w' : World} (h : NA w0 m B st N H v vm ms b1 x ch eb al e f g w) (k : Fr (fun _ => False) w w') : NA w0 m B st N H v vm ms b1 x ch eb al e f g w' :=
  ⟨h.ns.frF k, h.alb.fr k (fun x => x), h.ne, h.la⟩
theorem NA.putC {w0 : World} {m B st N H : Nat} {v vm : Value} {ms : List Value} {b1 x ch eb al : Nat} {e : Nat → Int} {f : Nat → Value} {g : Nat → Int} {w : World} (h : NA w0 m B st N H v vm ms b1 x ch eb al e f g w) (k : Nat) (y : Value) : NA w0 m B st N H v vm ms b1 x ch eb al e (updU f k y) g (w.setCell ⟨ch, k, none⟩ y) :=
  ⟨h.ns.putC k y, h.alb.setOther (a := ⟨ch, k, none⟩) (blk_ne h.alb h.ns.chb (by decide)) y, h.ne, h.la⟩
theorem NA.putA {w0 : World} {m B st N H : Nat} {v vm : Value} {ms : List Value} {b1 x ch eb al : Nat} {e : Nat → Int} {f : Nat → Value} {g : Nat → Int} {w : World} (h : NA w0 m B st N H v vm ms b1 x ch eb al e f g w) (k : Nat) (y : Int) : NA w0 m B st N H v vm ms b1 x ch eb al e f (updN g k y) (w.setCell ⟨al, k, none⟩ (.int .i64 y)) := by
  have q : Fr (fun j => j = al) w (w.setCell ⟨al, k, none⟩ (.int .i64 y)) := (Fr.refl (fun j => j = al) w).setCell (p := ⟨al, k, none⟩) (fun _ => rfl) _
  have n := h.ns
  exact ⟨⟨n.bx.fr q (blk_ne n.bx h.alb (by decide)), n.src.fr q (n.src.ne h.alb (by decide)), n.mks.fr q (n.mks.ne h.alb (by decide)), n.xb.fr q (blk_ne n.xb h.alb (by decide)), n.chb.fr q (blk_ne n.chb h.alb (by decide)), n.ebb.fr q h.ne,
    n.fr.trans q (fun i hi z => by have := h.la; omega), n.lc, n.le⟩, by have := h.alb.set k (.int .i64 y); rwa [rowK_set] at this, h.ne, h.la⟩
def actP (c u : Nat → Value) : Act := { tmps := [c 0, c 1, c 2, c 3, c 4, c 5, c 6, c 7, c 8, c 9, c 10, c 11, c 12, c 13, c 14, c 15, c 16, c 17, c 18, c 19,
  c 20, c 21, c 22, c 23, c 24, c 25, c 26, c 27, c 28, c 29, c 30, c 31, c 32, c 33, c 34, c 35, c 36, c 37, c 38, c 39,
  c 40, c 41, c 42, c 43, c 44, c 45, c 46, c 47, c 48, c 49, c 50, c 51, c 52, c 53, c 54, c 55, c 56, c 57, c 58, c 59,
  c 60, c 61, c 62, c 63, c 64, c 65, c 66, c 67, c 68, c 69, c 70, c 71, c 72, c 73, c 74, c 75, c 76, c 77, c 78, c 79,
  c 80, c 81, c 82, c 83, c 84, c 85, c 86, c 87, c 88, c 89, c 90, c 91, c 92, c 93, c 94, c 95, c 96, c 97, c 98, c 99,
  c 100, c 101, c 102, c 103, c 104, c 105, c 106, c 107, c 108, c 109, c 110, c 111, c 112, c 113, c 114, c 115, c 116, c 117, u 118, u 119,
  u 120, u 121, u 122, u 123, u 124, u 125, u 126, u 127, u 128, u 129, u 130, u 131, u 132, u 133, c 134, c 135].toArray, defers := [] }
/-- What the plain operations of that statement yield. -/
def valP (x ch H d i : Nat) (V0 V1 : Value) : Nat → Value
  | 2 => .pointer (some ⟨x, 3, none⟩)
  | 3 => .slice (some ⟨ch, 0, none⟩) H H
  | 4 => .int .i64 (d : Int)
  | 7 => .pointer (some ⟨x, 3, none⟩)
  | 8 => .slice (some ⟨ch, 0, none⟩) H H
  | 9 => .int .i64 (d : Int)
  | 10 => .pointer (some ⟨ch, d, none⟩)
  | 11 => V0
  | 12 => .int .i64 (i : Int)
  | 14 => V1
  | 15 => .pointer (some ⟨ch, d, none⟩)
  | _ => .pointer (some ⟨x, 0, none⟩)
structure P29 (A : (Nat → Value) → (Nat → Int) → World → Prop) (f f' : Nat → Value) (g g' : Nat → Int) (x ch H d i : Nat) (V0 V1 : Value) (L : Nat → Bool) (u : Nat → Value) (w : World) : Prop where
  fp : ∀ k, k < 16 → k ≠ 13 → L k = true → u (118 + k) = valP x ch H d i V0 V1 k
  f13 : L 13 = true → ∃ q, u 131 = .slice (some ⟨q, 0, none⟩) 1 1 ∧ (L 14 = false → w.cell? ⟨q, 0, none⟩ = some (.int .i64 (i : Int)))
  n0 : L 14 = false → A f g w
  n1 : L 14 = true → L 16 = false → A f g' w
  n2 : L 16 = true → A f' g' w
theorem P29.up {A : (Nat → Value) → (Nat → Int) → World → Prop} {f f' : Nat → Value} {g g' : Nat → Int} {x ch H d i : Nat} {V0 V1 : Value} {L : Nat → Bool} {u : Nat → Value} {w : World} (h : P29 A f f' g g' x ch H d i V0 V1 L u w) (k : Nat) (hk : k < 16) (h13 : k ≠ 13) (h14 : k ≠ 14) (val : Value) (hv : val = valP x ch H d i V0 V1 k) :
    P29 A f f' g g' x ch H d i V0 V1 (updB L k) (updU u (118 + k) val) w := by
  refine ⟨fun j hj hj13 hL => ?_, fun hL => ?_, fun hL => ?_, fun hL hL2 => ?_, fun hL => ?_⟩
  · by_cases e : j = k
    · subst e; rw [updU_self]; exact hv
    · rw [updB_ne _ _ _ e] at hL; rw [updU_ne _ _ _ _ (by omega)]; exact h.fp j hj hj13 hL
  · rw [updB_ne _ _ _ (Ne.symm h13)] at hL
    rw [updU_ne _ _ _ _ (by omega), updB_ne _ _ _ (Ne.symm h14)]; exact h.f13 hL
  · rw [updB_ne _ _ _ (Ne.symm h14)] at hL; exact h.n0 hL
  · rw [updB_ne _ _ _ (Ne.symm h14)] at hL; rw [updB_ne _ _ _ (by omega)] at hL2; exact h.n1 hL hL2
  · rw [updB_ne _ _ _ (by omega)] at hL; exact h.n2 hL
theorem P29.new {A : (Nat → Value) → (Nat → Int) → World → Prop} (hA : ∀ f g w w', A f g w → Fr (fun _ => False) w w' → A f g w') {f f' : Nat → Value} {g g' : Nat → Int} {x ch H d i : Nat} {V0 V1 : Value} {L : Nat → Bool} {u : Nat → Value} {w : World} (h : P29 A f f' g g' x ch H d i V0 V1 L u w) :
    P29 A f f' g g' x ch H d i V0 V1 (updB L 13) (updU u 131 (.slice (some ⟨w.heap.size, 0, none⟩) 1 1)) (w.alloc (.cells #[.int .i64 (i : Int)] 3)) := by
  have F := (Fr.refl (fun _ => False) w).alloc (.cells #[.int .i64 (i : Int)] 3)
  refine ⟨fun j hj hj13 hL => ?_, fun hL => ⟨_, updU_self _ _ _, fun _ => (Blk.new w 3 #[.int .i64 (i : Int)]).cell 0 rfl⟩, fun hL => ?_, fun hL hL2 => ?_, fun hL => ?_⟩
  · rw [updB_ne _ _ _ hj13] at hL; rw [updU_ne _ _ _ _ (by omega)]; exact h.fp j hj hj13 hL
  · rw [updB_ne _ _ _ (by decide)] at hL; exact hA _ _ _ _ (h.n0 hL) F
  · rw [updB_ne _ _ _ (by decide)] at hL hL2; exact hA _ _ _ _ (h.n1 hL hL2) F
  · rw [updB_ne _ _ _ (by decide)] at hL; exact hA _ _ _ _ (h.n2 hL) F
theorem P29.app {A : (Nat → Value) → (Nat → Int) → World → Prop} {f f' : Nat → Value} {g g' : Nat → Int} {x ch H d i : Nat} {V0 V1 : Value} {L : Nat → Bool} {u : Nat → Value} {w w' : World} (h : P29 A f f' g g' x ch H d i V0 V1 L u w) (h16 : L 16 = false) (hn : A f g' w') :
    P29 A f f' g g' x ch H d i V0 V1 (updB L 14) (updU u 132 V1) w' := by
  refine ⟨fun j hj hj13 hL => ?_, fun hL => ?_, fun hL => ?_, fun hL hL2 => hn, fun hL => ?_⟩
  · by_cases e : j = 14
    · subst e; rw [updU_self]; rfl
    · rw [updB_ne _ _ _ e] at hL; rw [updU_ne _ _ _ _ (by omega)]; exact h.fp j hj hj13 hL
  · rw [updB_ne _ _ _ (by decide)] at hL
    obtain ⟨q, h1, _⟩ := h.f13 hL
    exact ⟨q, by rw [updU_ne _ _ _ _ (by decide)]; exact h1, fun hh => by rw [updB_self] at hh; cases hh⟩
  · rw [updB_self] at hL; cases hL
  · rw [updB_ne _ _ _ (by decide), h16] at hL; cases hL
theorem P29.put {A : (Nat → Value) → (Nat → Int) → World → Prop} {f f' : Nat → Value} {g g' : Nat → Int} {x ch H d i : Nat} {V0 V1 : Value} {L : Nat → Bool} {u : Nat → Value} {w w' : World} (h : P29 A f f' g g' x ch H d i V0 V1 L u w) (h14 : L 14 = true) (hn : A f' g' w') :
    P29 A f f' g g' x ch H d i V0 V1 (updB L 16) u w' := by
  refine ⟨fun j hj hj13 hL => ?_, fun hL => ?_, fun hL => ?_, fun hL hL2 => ?_, fun hL => hn⟩
  · rw [updB_ne _ _ _ (by omega)] at hL; exact h.fp j hj hj13 hL
  · rw [updB_ne _ _ _ (by decide)] at hL
    obtain ⟨q, h1, _⟩ := h.f13 hL
    exact ⟨q, h1, fun hh => by rw [updB_ne _ _ _ (by decide), h14] at hh; cases hh⟩
  · rw [updB_ne _ _ _ (by decide), h14] at hL; cases hL
  · rw [updB_self] at hL2; cases hL2
theorem step_app_in {ops : Array Oper} {o : Oper} {a : Act} {w : World} {K : Act → World → Prop} {Q : Exit → Act → World → Prop} {E : Prop} (hgd : o.guard = none) (s x : Operand)
    (ho : o.op = .call { callee := .builtin .append, args := #[s, x], argTypes := #[86, 86] }) (al p n c N : Nat) (g : Nat → Int) (hs : a.eval s = .slice (some ⟨al, p, none⟩) n c) (hn : n < c) (hb : Blk w al 3 (rowK .i64 g N)) (hp : p + n < N)
    (q : Nat) (k : Int) (hx : a.eval x = .slice (some ⟨q, 0, none⟩) 1 1) (hq : w.cell? ⟨q, 0, none⟩ = some (.int .i64 k))
    (h : K (a.put o.dst (.slice (some ⟨al, p, none⟩) (n + 1) c)) (w.setCell ⟨al, p + n, none⟩ (.int .i64 k))) :
    if Region.wanted o (yielded ops a.tmps) = true then Oper.wp Try.prog o a w K Q else E := by
  have hw : Region.wanted o (yielded ops a.tmps) = true := by simp [Region.wanted, hgd]
  rw [if_pos hw]
  obtain ⟨i, hi1, hi2, hi3, hi4⟩ := info_parts Try.info3
  have hr := run_append_room_src (P := Try.prog) w 86 86 o.type 3 i Try.underlying86 hi1 al p n c (.slice (some ⟨q, 0, none⟩) 1 1) 1 [.int .i64 k]
    (by rw [hi3]; exact Src.ofSlice w Try.underlying86 ⟨q, 0, none⟩ 1 1 [.int .i64 k] rfl (fun j u hj => by
      match j, hj with
      | 0, hj => cases hj; rw [Addr.add_mid]; exact hq) (fun u hu => by rw [List.mem_singleton] at hu; subst hu; rfl))
    (by omega) (fun j hj => by
      have : j = 0 := by simpa using hj
      subst this
      rw [hi3, Nat.mul_one, Nat.add_zero, hb.cell (p + n) (rowK_at _ _ _ _ hp)]; rfl) (fun j _ => hb.free _)
  rw [hi3, Nat.mul_one] at hr
  unfold Oper.wp execOp
  simp only [ho, resolve, invoke, builtin, Sem.run_bind, Sem.run_pure, Result.andThen_ok, List.map_toArray, List.map_cons, List.map_nil, hs, hx, hr]
  exact h
theorem sl_lhm (al N lo hi : Nat) (h1 : lo ≤ hi) (h2 : hi ≤ N) (w : World) : (Instr.slice 86 (.slice (some ⟨al, 0, none⟩) N N) (some (.int .i64 (lo : Int))) (some (.int .i64 (lo : Int))) (some (.int .i64 (hi : Int)))).run Try.prog w =
    .ok (.slice (some (if hi - lo = 0 then ⟨al, 0, none⟩ else ⟨al, lo, none⟩)) 0 (hi - lo)) w := by
  rw [run_slice_lhm (h := (lo : Int)) (l := (lo : Int)) (m := (hi : Int)) (ht := Try.sl86) (h0 := by omega) (h1 := by omega) (h2 := by omega) (h3 := by omega), Try.elem86]
  show Result.ok (sliced (some ⟨al, 0, none⟩) (lo : Int).toNat (lo : Int).toNat (hi : Int).toNat 1) w = _
  unfold sliced
  rw [Int.toNat_natCast, Int.toNat_natCast, Nat.sub_self, Nat.mul_one]
  by_cases h : hi = lo
  · rw [if_pos h, if_pos (by omega)]
  · rw [if_neg h, if_neg (by omega)]
    simp only [Option.map_some, Addr.add_mid, Nat.zero_add]
theorem Try.info86 : (Try.prog.info? 86).map (fun i => (i.zero, i.size, i.bytes)) = some (some (.slice none 0 0), 1, 24) := by kernel_rfl
set_option maxRecDepth 100000 in
set_option maxHeartbeats 8000000 in
theorem inew_spec (l : List UInt8) (B st : Nat) (v : Value) (w : World) (hm : l.length ≤ 131072) (hB : isB B) (h1 : 1 ≤ st) (h2 : st ≤ 32) (hv : Sl w 59 2 v (cnt l.length B) (marks l B st (cnt l.length B))) :
    Calls Try.prog 22 #[.agg #[.int .i64 (l.length : Int), .int .i64 (B : Int), .int .i64 (st : Int), v]] w fun e w' => ∃ x vm ch H al, e = .returned (.tuple #[.pointer (some ⟨x, 0, none⟩), .int .i64 0]) ∧ IX l B st x vm ch H al w' ∧ Fr (fun _ => False) w w' ∧ w.heap.size ≤ x ∧ w.heap.size ≤ ch ∧ w.heap.size ≤ al ∧ ∀ k, vm.ownBlock = some k → w.heap.size ≤ k := by
  have HCK := Lib.hid (fun wx hvx => check_spec l B st v wx hm hB h1 h2 hvx)
  have hN := Nat.le_trans (cnt_le l.length B hB) hm
  have HV := Lib.hid hv
  obtain ⟨ad, cap, hvs, hcap, _⟩ := hv.slice
  have HVS := Lib.hid hvs
  obtain ⟨ms, hms⟩ : ∃ ms, ms = marks l B st (cnt l.length B) := ⟨_, rfl⟩
  rw [← hms] at HV HCK
  have HMS := Lib.hid hms
  have HB1 := Lib.hid (Blk.new w 27 #[.int .i64 (l.length : Int), .int .i64 (B : Int), .int .i64 (st : Int), v])
  have HF0 := Lib.hid ((Fr.refl (fun _ => False) w).alloc (.cells #[.int .i64 (l.length : Int), .int .i64 (B : Int), .int .i64 (st : Int), v] 27))
  obtain ⟨N, hNN⟩ : ∃ N, N = cnt l.length B := ⟨_, rfl⟩
  rw [← hNN] at hN HV HCK hvs HVS
  have HNN := Lib.hid hNN
  have n1 : (N : Int) ≤ 131072 := by omega
  obtain ⟨m, hmm⟩ : ∃ m, m = l.length := ⟨_, rfl⟩
  rw [← hmm] at HB1 HCK HF0 ⊢
  have HMM := Lib.hid hmm
  have HN1 := Lib.hid hN
  clear hm hB h1 h2 hv hN hms hNN hmm hcap
  subst hvs
  go_enter Try.func22, Try.ntmps22
  go_wp2_with (first
    | (go_at_call 35; (refine (HCK.out _ (HV.out.fr HF0.out (fun _ _ x => x))).mono ?_); rintro e w1 ⟨rfl, hf⟩; have HF1 := Lib.hid (HF0.out.trans hf (fun _ _ h => h)); have HB2 := Lib.hid (HB1.out.fr hf (fun x => x)); clear hf)
    | fail)
  have HV1 := Lib.hid (HV.out.fr HF1.out (fun _ _ x => x))
  clear HF0 HB1 HCK HV
  generalize w.heap.size = b1 at HB2 ⊢
  have c3 := HB2.out.cell 3 rfl
  go_loopg [5] N (fun gk x5 wr => ∃ H : Nat, Hid (gk = N + 1 - H) ∧ x5 = .int .i64 (H : Int) ∧ 0 < H ∧ H ≤ 2 * N + 1 ∧ wr = w1)
  case atStart => exact ⟨1, Lib.hid (by omega), rfl, by omega, by omega, rfl⟩
  case round =>
    obtain ⟨H, HG, rfl, H1, H2, rfl⟩ := hrel
    have HN2 := HN1.out
    have i1 : (H : Int) ≤ 262145 := by omega
    by_cases hlt : H < N
    · have i2 : (H : Int) < (N : Int) := by omega
      have HLT := Lib.hid hlt
      clear hlt HN2
      go_wp2_with (fail)
      go_roundg (N + 1 - 2 * H)
      case measure => have := HG.out; have := HLT.out; omega
      case rel => exact ⟨2 * H, Lib.hid rfl, by go_num, by omega, by have := HLT.out; omega, rfl⟩
    · have i2 : ¬ (H : Int) < (N : Int) := by omega
      have H3 : N ≤ H := by omega
      have HLE := Lib.hid H3
      clear hlt HN2 H3 HG
      go_wp2_with (fail)
      go_cut [6] from 7 (fun x6 wc => ∃ x vm ch, x6 = .pointer (some ⟨x, 0, none⟩) ∧ Hid (Sl wc 59 2 vm N ms) ∧ Hid (∀ k, vm.ownBlock = some k → wr.heap.size ≤ k) ∧ Hid (Blk wc ch 86 (rowV (fun _ => .slice none 0 0) H)) ∧ Hid (Blk wc x 85 #[vm, .int .i64 (m : Int), .int .i64 (B : Int), .slice (some ⟨ch, 0, none⟩) H H]) ∧ Hid (wr.heap.size ≤ ch) ∧ Hid (wr.heap.size ≤ x) ∧ Hid (Fr (fun _ => False) wr wc))
      case first =>
        rename_i hA hJ
        have e1 : baseN m B st N H cap b1 ad u26 u27 1 = .pointer (some ⟨b1, 0, none⟩) := rfl
        have e5 : baseN m B st N H cap b1 ad u26 u27 5 = .int .i64 (H : Int) := rfl
        show Code.wp _ _ _ (actN (baseN m B st N H cap b1 ad u26 u27) (fun _ => undef)) wr
        refine wp_region_cl (by kernel_rfl) [[], [0], [1], [], [3], [], [5], [], [7, 7], [2, 4, 6, 8], [9], [10, 2, 0, 1, 2, 3, 4, 5, 6, 7, 8, 9, 10]] (by kernel_rfl) (by decide) (fun L a w' => ∃ u vm ch x, a = actN (baseN m B st N H cap b1 ad u26 u27) u ∧ N7 m B N H (.slice ad N cap) ms b1 wr L u vm ch x w') ?_ ?_ ?_
        · exact ⟨fun _ => undef, undef, 0, 0, rfl, ⟨fun q => absurd q Bool.false_ne_true, fun q => absurd q Bool.false_ne_true, fun q => absurd q Bool.false_ne_true, fun q => absurd q Bool.false_ne_true, fun q => absurd q Bool.false_ne_true, fun q => absurd q Bool.false_ne_true, fun q => absurd q Bool.false_ne_true, fun q => absurd q Bool.false_ne_true, fun q => absurd q Bool.false_ne_true, fun q => absurd q Bool.false_ne_true, fun q => absurd q Bool.false_ne_true, fun q => absurd q Bool.false_ne_true, (Fr.refl _ wr).drew⟩⟩
        · intro j hj L a w' hI hcl h0 hd
          obtain ⟨u, vm, ch, x, rfl, hI⟩ := hI
          generalize baseN m B st N H cap b1 ad u26 u27 = c at e1 e5 ⊢
          have hc : j = 0 ∨ j = 1 ∨ j = 2 ∨ j = 3 ∨ j = 4 ∨ j = 5 ∨ j = 6 ∨ j = 7 ∨ j = 8 ∨ j = 9 ∨ j = 10 ∨ j = 11 := by have : j < 12 := hj; omega
          have c9 : L 9 = true → L 2 = true ∧ L 8 = true := fun h => ⟨hcl 9 2 h (by decide), hcl 9 8 h (by decide)⟩
          have c10 : L 10 = true → L 9 = true := fun h => hcl 10 9 h (by decide)
          have c11 : L 11 = true → L 10 = true := fun h => hcl 11 10 h (by decide)
          have hVn : True := trivial
          clear hj
          rcases hc with rfl | rfl | rfl | rfl | rfl | rfl | rfl | rfl | rfl | rfl | rfl | rfl
          · refine wpOp_one rfl ?_
            have HH := Lib.hid hI
            clear hd h0 hcl hI hVn
            unfold actN
            go_wp2_with (fail)
            exact ⟨updU u 28 (.pointer (some ⟨b1, 3, none⟩)), vm, ch, x, by simp [updU, e1, e5], HH.out.up 0 (by decide) (by decide) (by decide) (by decide) (by decide) (.pointer (some ⟨b1, 3, none⟩)) (by simp)⟩
          · refine wpOp_one rfl ?_
            have HH := Lib.hid hI
            have e28 : u 28 = (.pointer (some ⟨b1, 3, none⟩)) := hI.p0 (hd 0 (by decide))
            have c0 := (HB2.out.fr hI.fr (fun q => q)).cell 0 rfl
            have c1 := (HB2.out.fr hI.fr (fun q => q)).cell 1 rfl
            have c3 := (HB2.out.fr hI.fr (fun q => q)).cell 3 rfl
            clear hd h0 hcl hI hVn
            unfold actN
            go_wp2_with (fail)
            exact ⟨updU u 29 (.slice ad N cap), vm, ch, x, by simp [updU, e1, e5, e28], HH.out.up 1 (by decide) (by decide) (by decide) (by decide) (by decide) (.slice ad N cap) (by simp)⟩
          · refine wpOp_one rfl ?_
            have e29 : u 29 = .slice ad N cap := hI.p1 (hd 1 (by decide))
            have n9 : L 9 = false := by
              cases h : L 9 with
              | false => rfl
              | true => exact absurd (c9 h).1 (by rw [h0]; decide)
            have n10 : L 10 = false := by
              cases h : L 10 with
              | false => rfl
              | true => exact absurd (c10 h) (by rw [n9]; decide)
            have hvx := HV1.out.fr hI.fr (fun _ _ x => x)
            have hsrc : Src Try.prog 2 25 (.slice ad N cap) N ms w' := Sl.src Try.underlying25 hvx (by rw [HMS.out]; exact marks_one _ _ _ _)
            have HSRC := Lib.hid hsrc
            have HFRS := Lib.hid hI.fr.size
            have HH := Lib.hid hI
            have hA1 : N ≤ maxLen := by have := HN1.out; unfold maxLen; omega
            have hA2 : N * 24 ≤ 140737488355328 := by have := HN1.out; omega
            have HA := Lib.hid (And.intro hA1 hA2)
            clear hd h0 hcl hVn hvx hsrc hI hA1 hA2
            refine wpList_app rfl (.const (.slice none 0 0)) (.tmp 29) 25 25 rfl 59 _ 2 24 Try.underlying25 Try.info59 rfl (.slice none 0 0) 0 [] rfl (Sl.nil w' 59 2) (.slice ad N cap) N ms e29 HSRC.out (by rw [Nat.zero_add]; exact HA.out.1) (by rw [Nat.zero_add]; exact HA.out.2) ?_
            intro v2 w2 g1 g2 g3
            rw [Nat.zero_add, List.nil_append] at g1
            have g2' : Fr (fun _ => False) w' w2 := g2.mono (fun k _ e => by cases e)
            have hko : ∀ k, v2.ownBlock = some k → wr.heap.size ≤ k := fun k hk => by
              rcases g3 with g3 | g3
              · rw [g3] at hk; cases hk
              · rw [g3] at hk; cases hk; exact HFRS.out
            exact ⟨updU u 30 v2, v2, ch, x, by simp [actN, updU, Act.put], (HH.out.world g2').setVm v2 n9 n10 g1 hko⟩
          · refine wpOp_one rfl ?_
            have HH := Lib.hid hI
            clear hd h0 hcl hI hVn
            unfold actN
            go_wp2_with (fail)
            exact ⟨updU u 31 (.pointer (some ⟨b1, 0, none⟩)), vm, ch, x, by simp [updU, e1, e5], HH.out.up 3 (by decide) (by decide) (by decide) (by decide) (by decide) (.pointer (some ⟨b1, 0, none⟩)) (by simp)⟩
          · refine wpOp_one rfl ?_
            have HH := Lib.hid hI
            have e31 : u 31 = (.pointer (some ⟨b1, 0, none⟩)) := hI.p3 (hd 3 (by decide))
            have c0 := (HB2.out.fr hI.fr (fun q => q)).cell 0 rfl
            have c1 := (HB2.out.fr hI.fr (fun q => q)).cell 1 rfl
            have c3 := (HB2.out.fr hI.fr (fun q => q)).cell 3 rfl
            clear hd h0 hcl hI hVn
            unfold actN
            go_wp2_with (fail)
            exact ⟨updU u 32 (.int .i64 (m : Int)), vm, ch, x, by simp [updU, e1, e5, e31], HH.out.up 4 (by decide) (by decide) (by decide) (by decide) (by decide) (.int .i64 (m : Int)) (by simp)⟩
          · refine wpOp_one rfl ?_
            have HH := Lib.hid hI
            clear hd h0 hcl hI hVn
            unfold actN
            go_wp2_with (fail)
            exact ⟨updU u 33 (.pointer (some ⟨b1, 1, none⟩)), vm, ch, x, by simp [updU, e1, e5], HH.out.up 5 (by decide) (by decide) (by decide) (by decide) (by decide) (.pointer (some ⟨b1, 1, none⟩)) (by simp)⟩
          · refine wpOp_one rfl ?_
            have HH := Lib.hid hI
            have e33 : u 33 = (.pointer (some ⟨b1, 1, none⟩)) := hI.p5 (hd 5 (by decide))
            have c0 := (HB2.out.fr hI.fr (fun q => q)).cell 0 rfl
            have c1 := (HB2.out.fr hI.fr (fun q => q)).cell 1 rfl
            have c3 := (HB2.out.fr hI.fr (fun q => q)).cell 3 rfl
            clear hd h0 hcl hI hVn
            unfold actN
            go_wp2_with (fail)
            exact ⟨updU u 34 (.int .i64 (B : Int)), vm, ch, x, by simp [updU, e1, e5, e33], HH.out.up 6 (by decide) (by decide) (by decide) (by decide) (by decide) (.int .i64 (B : Int)) (by simp)⟩
          · refine wpOp_one rfl ?_
            have HH := Lib.hid hI
            clear hd h0 hcl hI hVn
            unfold actN
            go_wp2_with (fail)
            exact ⟨updU u 35 (.int .i64 (H : Int)), vm, ch, x, by simp [updU, e1, e5], HH.out.up 7 (by decide) (by decide) (by decide) (by decide) (by decide) (.int .i64 (H : Int)) (by simp)⟩
          · refine wpOp_one rfl ?_
            have e35 : u 35 = .int .i64 (H : Int) := hI.p7 (hd 7 (by decide))
            have n9 : L 9 = false := by
              cases h : L 9 with
              | false => rfl
              | true => exact absurd (c9 h).2 (by rw [h0]; decide)
            have n10 : L 10 = false := by
              cases h : L 10 with
              | false => rfl
              | true => exact absurd (c10 h) (by rw [n9]; decide)
            have hmk := run_make_row' (P := Try.prog) 83 86 (.slice none 0 0) 24 Try.underlying83 Try.info86 rfl .i64 .i64 H (by omega) (by omega) w'
            rw [made_row] at hmk
            have HH := Lib.hid ((hI.world ((Fr.refl (fun _ => False) w').alloc (.cells (rowV (fun _ => .slice none 0 0) H) 86))).setCh w'.heap.size n9 n10 (Blk.new _ _ _) hI.fr.size)
            clear hd h0 hcl hI hVn
            unfold actN
            go_wp2_with (fail)
            exact ⟨updU u 36 (.slice (some ⟨w'.heap.size, 0, none⟩) H H), vm, w'.heap.size, x, by simp [updU, e1, e5, e35], HH.out⟩
          · refine wpOp_one rfl ?_
            have HH := Lib.hid hI
            have e30 : u 30 = vm := (hI.p2 (hd 2 (by decide))).1
            have e32 : u 32 = .int .i64 (m : Int) := hI.p4 (hd 4 (by decide))
            have e34 : u 34 = .int .i64 (B : Int) := hI.p6 (hd 6 (by decide))
            have e36 : u 36 = .slice (some ⟨ch, 0, none⟩) H H := (hI.p8 (hd 8 (by decide))).1
            obtain ⟨adm, capm, em, _⟩ := (hI.p2 (hd 2 (by decide))).2.1.slice
            clear hd h0 hcl hI hVn
            unfold actN
            subst em
            go_wp2_with (fail)
            exact ⟨updU u 37 (.agg #[.slice adm N capm, .int .i64 (m : Int), .int .i64 (B : Int), .slice (some ⟨ch, 0, none⟩) H H]), .slice adm N capm, ch, x, by simp [updU, e1, e5, e30, e32, e34, e36], HH.out.up 9 (by decide) (by decide) (by decide) (by decide) (by decide) _ (by simp)⟩
          · refine wpOp_one rfl ?_
            have e37 : u 37 = .agg #[vm, .int .i64 (m : Int), .int .i64 (B : Int), .slice (some ⟨ch, 0, none⟩) H H] := hI.p9 (hd 9 (by decide))
            have n11 : L 11 = false := by
              cases h : L 11 with
              | false => rfl
              | true => exact absurd (c11 h) (by rw [h0]; decide)
            have HH := Lib.hid ((hI.world ((Fr.refl (fun _ => False) w').alloc (.cells #[vm, .int .i64 (m : Int), .int .i64 (B : Int), .slice (some ⟨ch, 0, none⟩) H H] 85))).setX w'.heap.size n11 (Blk.new _ _ _) hI.fr.size)
            clear hd h0 hcl hI hVn
            unfold actN
            go_wp2_with (fail)
            exact ⟨updU u 38 (.pointer (some ⟨w'.heap.size, 0, none⟩)), vm, ch, w'.heap.size, by simp [updU, e1, e5, e37], HH.out⟩
          · refine wpOp_one rfl ?_
            have e38 := (hI.p10 (hd 10 (by decide))).1
            have HH := Lib.hid hI
            clear hd h0 hcl hI hVn
            unfold actN
            go_wp2_with (fail)
            exact ⟨updU u 6 (.pointer (some ⟨x, 0, none⟩)), vm, ch, x, by simp [updU, e1, e5, e38], HH.out.set6⟩
        · intro L a w' hI hall
          obtain ⟨u, vm, ch, x, rfl, hI⟩ := hI
          refine hJ _ _ (Met.intro (hA _ _ ?_))
          (repeat apply Exists.intro)
          refine ⟨?rel, rfl⟩
          case rel => exact ⟨x, vm, ch, hI.p11 (hall 11 (by decide)), Lib.hid (hI.p2 (hall 2 (by decide))).2.1, Lib.hid (hI.p2 (hall 2 (by decide))).2.2, Lib.hid (hI.p8 (hall 8 (by decide))).2.1, Lib.hid (hI.p10 (hall 10 (by decide))).2.1, Lib.hid (hI.p8 (hall 8 (by decide))).2.2, Lib.hid (hI.p10 (hall 10 (by decide))).2.2, Lib.hid hI.fr⟩
      case rest =>
        obtain ⟨x, vm, ch, rfl, KM, KO, KC, KX, KL, KY, KF⟩ := hcut
        have HNS0 := Lib.hid (show NS w m B st N H (.slice ad N cap) vm ms b1 x ch wc.heap.size (e2H (hdF l B H) 0) (fun _ => .slice none 0 0) (wc.alloc (.cells (rowK .i64 zN (H + 1)) 3)) from by
          have g := (Fr.refl (fun _ => False) wc).alloc (.cells (rowK .i64 zN (H + 1)) 3)
          have k := HF1.out.trans KF.out (fun _ _ x => x)
          exact ⟨(HB2.out.fr KF.out (fun x => x)).fr g (fun x => x), (HV1.out.fr KF.out (fun _ _ x => x)).fr g (fun _ _ x => x), KM.out.fr g (fun _ _ x => x), KX.out.fr g (fun x => x), KC.out.fr g (fun x => x),
            by rw [show e2H (hdF l B H) 0 = zN by (funext j; unfold e2H zN; split <;> rfl)]; exact Blk.new _ _ _, k.trans g (fun _ _ x => x), Nat.le_trans HF1.out.size KL.out, Nat.le_trans HF1.out.size KF.out.size⟩)
        have hmk : (Instr.makeSlice 86 (.int .i64 ((H : Int) + 1)) (.int .i64 ((H : Int) + 1))).run Try.prog wc = .ok (.slice (some ⟨wc.heap.size, 0, none⟩) (H + 1) (H + 1)) (wc.alloc (.cells (rowK .i64 zN (H + 1)) 3)) := by
          have := run_make_row' (P := Try.prog) 86 3 (.int .i64 0) 8 Try.underlying86 Try.info3 rfl .i64 .i64 (H + 1) (by omega) (by omega) wc
          rw [made_row] at this
          exact this
        have c3 := HNS0.out.bx.cell 3 rfl
        have KOO := Lib.hid (fun k hk => Nat.le_trans HF1.out.size (KO.out k hk))
        have KYY := Lib.hid (Nat.le_trans HF1.out.size KY.out)
        clear HB2 HF1 HV1 KM KC KX KF KL KO KY
        go_wp2_with (fail)
        generalize wc.alloc (.cells (rowK .i64 zN (H + 1)) 3) = wd at HNS0 ⊢
        generalize wc.heap.size = eb at HNS0 ⊢
        have hH2 : H ≤ 1048576 := by have := HN1.out; omega
        have HHD := Lib.hid (fun (k : Nat) (wx : World) (hx : Blk wx x 85 #[vm, .int .i64 (m : Int), .int .i64 (B : Int), .slice (some ⟨ch, 0, none⟩) H H]) => head_spec x _ _ _ _ H H (weak (blk l B k)) wx hx H1 hH2)
        have HLT := Lib.hid (fun k => hdN_lt H (weak (blk l B k)) H1)
        have HMK := Lib.hid (show ms = marks l B st N by rw [HMS.out, HNN.out])
        have HH2 := Lib.hid hH2
        have i4 : (H : Int) ≤ 1048576 := by omega
        clear c3 hmk hH2
        go_loopg [45] N (fun gk x45 wr => ∃ k : Nat, k ≤ N ∧ Hid (gk = N - k) ∧ x45 = .int .i64 k ∧ Hid (NS w m B st N H (.slice ad N cap) vm ms b1 x ch eb (e2H (hdF l B H) k) (fun _ => .slice none 0 0) wr))
        case atStart => exact ⟨0, Nat.zero_le _, Lib.hid rfl, rfl, HNS0⟩
        case round =>
          clear HNS0
          obtain ⟨k, hk, HG2, rfl, HNS⟩ := hrel
          by_cases hkn : k < N
          · have k1 : (k : Int) < (N : Int) := by omega
            obtain ⟨g, o, cap', ecap, c1, c2⟩ := (show Sl wr 59 2 (.slice ad N cap) N (marks l B st N) by rw [← HMK.out]; exact HNS.out.src).mark k hkn
            cases ecap
            have HKN := Lib.hid hkn
            have hdl : hdN H (weak (blk l B k)) < H := HLT.out k
            obtain ⟨d, hd⟩ : ∃ d, d = hdN H (weak (blk l B k)) := ⟨_, rfl⟩
            have HD := Lib.hid hd
            have HHK := Lib.hid (HHD.out k)
            rw [← hd] at hdl HHK
            have d1 : (d : Int) < (H : Int) := by omega
            have HDL := Lib.hid hdl
            obtain ⟨wk, hwk⟩ : ∃ wk, wk = weak (blk l B k) := ⟨_, rfl⟩
            obtain ⟨sk, hsk⟩ : ∃ sk, sk = cutS (blk l B k) st := ⟨_, rfl⟩
            rw [← hwk] at c1 HHK
            rw [← hsk] at c2
            clear hkn hk hd hdl hwk hsk
            go_wp2_with (first
              | (refine wpList_store_row rfl 59 _ _ rfl wr.heap.size #[.int .u32 wk, .string sk] rfl rfl 59 _ (Blk.new wr 59 _) Try.size59 rfl (one2 _ _ rfl rfl) ?_; obtain ⟨B9, F9⟩ := new_row wr 59 #[.int .u32 0, .string ⟨#[]⟩] #[.int .u32 wk, .string sk]; generalize ((wr.alloc (.cells #[.int .u32 0, .string ⟨#[]⟩] 59)).setRow wr.heap.size #[.int .u32 wk, .string sk]) = w9 at B9 F9 ⊢; have c9 := B9.cell 0 rfl; have HNS9 := Lib.hid (HNS.out.frF F9); clear B9 F9)
              | (go_at_call 36; (refine (HHK.out _ HNS9.out.xb).mono ?_); rintro e w2 ⟨rfl, rfl⟩; have ce := HNS9.out.ebb.cell (d + 1) (rowK_at _ _ _ _ (by have := HDL.out; omega)); have fe := HNS9.out.ebb.free (d + 1))
              | fail)
            have hw : wrap64 (e2H (hdF l B H) k (d + 1) + 1) = e2H (hdF l B H) k (d + 1) + 1 := by
              have b1 := cH_le (hdF l B H) k d
              have b2 : e2H (hdF l B H) k (d + 1) = (cH (hdF l B H) k d : Int) := by unfold e2H; rw [if_neg (by omega)]; rfl
              have b3 := HKN.out
              rw [b2]; unfold wrap64; omega
            rw [hw]
            have HP := Lib.hid (show NS w m B st N H (.slice (some ⟨g, o, none⟩) N cap) vm ms b1 x ch eb (e2H (hdF l B H) (k + 1)) (fun _ => .slice none 0 0) _ by
              rw [← e2H_step, show hdF l B H k = d from HD.out.symm]; exact HNS9.out.putE (d + 1) (e2H (hdF l B H) k (d + 1) + 1))
            go_roundg (N - (k + 1))
            case measure => have := HG2.out; have := HKN.out; omega
            case rel => exact ⟨k + 1, HKN.out, Lib.hid rfl, by go_num, HP⟩
          · obtain rfl : k = N := by omega
            have HNS0 := Lib.hid (show NS w m B st k H (.slice ad k cap) vm ms b1 x ch eb (e3H (hdF l B H) k 0) (fun _ => .slice none 0 0) wr by rw [← e3H_zero]; exact HNS.out)
            clear hkn hk HG2 HNS
            go_wp2_with (fail)
            go_loopg [61] H (fun gk x61 wr => ∃ h : Nat, h ≤ H ∧ Hid (gk = H - h) ∧ x61 = .int .i64 h ∧ Hid (NS w m B st k H (.slice ad k cap) vm ms b1 x ch eb (e3H (hdF l B H) k h) (fun _ => .slice none 0 0) wr))
            case atStart => exact ⟨0, Nat.zero_le _, Lib.hid rfl, rfl, HNS0⟩
            case round =>
              clear HNS0
              obtain ⟨h, hh, HG2, rfl, HNS⟩ := hrel
              by_cases hhn : h < H
              · have h1 : (h : Int) < (H : Int) := by omega
                have HHN := Lib.hid hhn
                clear hhn hh
                go_wp2_with (fail)
                have HSD := Lib.hid (HNS.out.frF ((Fr.refl (fun _ => False) wr).drew))
                have e1 := HSD.out.ebb.cell (h + 1) (rowK_at _ _ _ _ (by have := HHN.out; omega))
                have e0 := HSD.out.ebb.cell h (rowK_at _ _ _ _ (by have := HHN.out; omega))
                have f1 := HSD.out.ebb.free (h + 1)
                have hw : IntKind.i64.wrap (e3H (hdF l B H) k h (h + 1) + e3H (hdF l B H) k h h) = e3H (hdF l B H) k h (h + 1) + e3H (hdF l B H) k h h := IntWalk.i64_in _ (by
                  have b1 := cH_le (hdF l B H) k h
                  have b2 := eH_le (hdF l B H) k h
                  have b3 : e3H (hdF l B H) k h (h + 1) = (cH (hdF l B H) k h : Int) := by unfold e3H; rw [if_neg (by omega)]; rfl
                  have b4 : e3H (hdF l B H) k h h = (eH (hdF l B H) k h : Int) := by unfold e3H; rw [if_pos (Nat.le_refl _)]
                  have b5 := HN1.out
                  rw [b3, b4]; omega)
                have g1 : IntKind.i64.wrap ((h : Int) + 1) = (h : Int) + 1 := IntWalk.i64_in _ (by omega)
                have g2 : (0 : Int) ≤ (h : Int) + 1 := by omega
                have g3 : (h : Int) + 1 < (H : Int) + 1 := by omega
                have g4 : ((h : Int) + 1).toNat = h + 1 := by omega
                have g5 : (h : Int) < (H : Int) + 1 := by omega
                refine wp_region_still_tail 11 (by kernel_rfl) (by kernel_rfl) ?_
                simp only [List.take_succ_cons, List.take_zero, List.drop_succ_cons, List.drop_zero]
                change wpStill _ _ wr.drew (fun a' => wpList _ _ _ _ a' wr.drew) _ _
                generalize wr.drew = wx at HSD e1 e0 f1 ⊢
                iterate 11 still_step
                refine wpStill_nil ?_
                go_wp2_with (fail)
                have HP := Lib.hid (show NS w m B st k H (.slice ad k cap) vm ms b1 x ch eb (e3H (hdF l B H) k (h + 1)) (fun _ => .slice none 0 0) _ by
                  rw [← e3H_step]; exact HSD.out.putE (h + 1) (e3H (hdF l B H) k h (h + 1) + e3H (hdF l B H) k h h))
                go_roundg (H - (h + 1))
                case measure => have := HG2.out; have := HHN.out; omega
                case rel => exact ⟨h + 1, HHN.out, Lib.hid rfl, by go_num, HP⟩
              · obtain rfl : h = H := by omega
                have HNE := Lib.hid (show NS w m B st k h (.slice ad k cap) vm ms b1 x ch eb (fun j => (eH (hdF l B h) k j : Int)) (fun _ => .slice none 0 0) wr from
                  ⟨HNS.out.bx, HNS.out.src, HNS.out.mks, HNS.out.xb, HNS.out.chb, by
                    have := HNS.out.ebb
                    rwa [rowK_congr .i64 (e3H (hdF l B h) k h) (fun j => (eH (hdF l B h) k j : Int)) (h + 1) (fun i hi => by unfold e3H; rw [if_pos (by omega)])] at this, HNS.out.fr, HNS.out.lc, HNS.out.le⟩)
                have c3 := HNE.out.bx.cell 3 rfl
                have hmk := run_make_row' (P := Try.prog) 86 3 (.int .i64 0) 8 Try.underlying86 Try.info3 rfl .i64 .i64 k (by omega) (by omega) wr
                rw [made_row] at hmk
                have HNA0 := Lib.hid (show NA w m B st k h (.slice ad k cap) vm ms b1 x ch eb wr.heap.size (fun j => (eH (hdF l B h) k j : Int)) (f4H (hdF l B h) k wr.heap.size 0) zN (wr.alloc (.cells (rowV (fun _ => .int .i64 0) k) 3)) from
                  ⟨by rw [show f4H (hdF l B h) k wr.heap.size 0 = (fun _ => .slice none 0 0) by (funext j; unfold f4H; rw [if_neg (by omega)])]; exact HNE.out.frF ((Fr.refl (fun _ => False) wr).alloc _), Blk.new wr 3 _, Nat.ne_of_lt HNE.out.ebb.lt, HNE.out.fr.size⟩)
                clear HNS hhn hh HG2 HNE
                go_wp2_with (fail)
                generalize wr.alloc (.cells (rowV (fun _ => .int .i64 0) k) 3) = wa at HNA0 ⊢
                generalize wr.heap.size = al at HNA0 ⊢
                clear c3 hmk
                go_loopg [81] h (fun gk x81 wr => ∃ j : Nat, j ≤ h ∧ Hid (gk = h - j) ∧ x81 = .int .i64 j ∧ Hid (NA w m B st k h (.slice ad k cap) vm ms b1 x ch eb al (fun j => (eH (hdF l B h) k j : Int)) (f4H (hdF l B h) k al j) zN wr))
                case atStart => exact ⟨0, Nat.zero_le _, Lib.hid rfl, rfl, HNA0⟩
                case round =>
                  clear HNA0
                  obtain ⟨j, hj, HG2, rfl, HNA⟩ := hrel
                  by_cases hjn : j < h
                  · have j1 : (j : Int) < (h : Int) := by omega
                    have HJN := Lib.hid hjn
                    have hsl := fun wx => sl_lhm al k (eH (hdF l B h) k j) (eH (hdF l B h) k (j + 1)) (eH_mono _ _ (by omega)) (eH_le _ _ _) wx
                    have hcv : (Value.slice (some (if eH (hdF l B h) k (j + 1) - eH (hdF l B h) k j = 0 then (⟨al, 0, none⟩ : Addr) else ⟨al, eH (hdF l B h) k j, none⟩)) 0 (eH (hdF l B h) k (j + 1) - eH (hdF l B h) k j)) = chV (hdF l B h) k al j 0 := by
                      unfold chV; rw [eH_succ, Nat.add_sub_cancel_left]
                    clear hjn hj
                    go_wp2_with (fail)
                    have HSD := Lib.hid (HNA.out.frF ((Fr.refl (fun _ => False) wr).drew))
                    have cx := HSD.out.ns.xb.cell 3 rfl
                    have e1 := HSD.out.ns.ebb.cell (j + 1) (rowK_at _ _ _ _ (by have := HJN.out; omega))
                    have e0 := HSD.out.ns.ebb.cell j (rowK_at _ _ _ _ (by have := HJN.out; omega))
                    have cc := HSD.out.ns.chb.cell j (rowV_at _ _ _ HJN.out)
                    have fc := HSD.out.ns.chb.free j
                    have g1 : IntKind.i64.wrap ((j : Int) + 1) = (j : Int) + 1 := IntWalk.i64_in _ (by omega)
                    have g2 : (0 : Int) ≤ (j : Int) + 1 := by omega
                    have g3 : (j : Int) + 1 < (h : Int) + 1 := by omega
                    have g4 : ((j : Int) + 1).toNat = j + 1 := by omega
                    have g5 : (j : Int) < (h : Int) + 1 := by omega
                    have hslx := hsl wr.drew
                    rw [hcv] at hslx
                    generalize hE0 : eH (hdF l B h) k j = E0 at hslx e0
                    generalize hE1 : eH (hdF l B h) k (j + 1) = E1 at hslx e1
                    obtain ⟨a0, c0, hCV⟩ : ∃ a0 c0, chV (hdF l B h) k al j 0 = .slice a0 0 c0 := ⟨_, _, rfl⟩
                    rw [hCV] at hslx
                    have HCV := Lib.hid hCV
                    clear hsl hcv hE0 hE1 hCV
                    refine wp_region_still_tail 21 (by kernel_rfl) (by kernel_rfl) ?_
                    simp only [List.take_succ_cons, List.take_zero, List.drop_succ_cons, List.drop_zero]
                    change wpStill _ _ wr.drew (fun a' => wpList _ _ _ _ a' wr.drew) _ _
                    generalize wr.drew = wx at HSD cx e1 e0 cc fc hslx ⊢
                    iterate 21 still_step
                    refine wpStill_nil ?_
                    go_wp2_with (fail)
                    have HP := Lib.hid (show NA w m B st k h (.slice ad k cap) vm ms b1 x ch eb al (fun j => (eH (hdF l B h) k j : Int)) (f4H (hdF l B h) k al (j + 1)) zN _ by
                      rw [← f4H_step, HCV.out]; exact HSD.out.putC j (.slice a0 0 c0))
                    go_roundg (h - (j + 1))
                    case measure => have := HG2.out; have := HJN.out; omega
                    case rel => exact ⟨j + 1, HJN.out, Lib.hid rfl, by go_num, HP⟩
                  · obtain rfl : j = h := by omega
                    have HNB0 := Lib.hid (show NA w m B st k j (.slice ad k cap) vm ms b1 x ch eb al (fun i => (eH (hdF l B j) k i : Int)) (f5H (hdF l B j) k al 0) (gH (hdF l B j) k 0) wr from by
                      obtain ⟨n, a, b, c⟩ := HNA.out
                      exact ⟨⟨n.bx, n.src, n.mks, n.xb, by have := n.chb; rwa [rowV_congr (f4H (hdF l B j) k al j) (f5H (hdF l B j) k al 0) j (fun i hi => by unfold f4H f5H; rw [if_pos hi, cH_zero])] at this, n.ebb, n.fr, n.lc, n.le⟩, a, b, c⟩)
                    have c3 := HNA.out.ns.bx.cell 3 rfl
                    clear hjn hj HG2 HNA
                    go_wp2_with (fail)
                    clear c3
                    go_loopg [109] k (fun gk x109 wr => ∃ i : Nat, i ≤ k ∧ Hid (gk = k - i) ∧ x109 = .int .i64 i ∧ Hid (NA w m B st k j (.slice ad k cap) vm ms b1 x ch eb al (fun i => (eH (hdF l B j) k i : Int)) (f5H (hdF l B j) k al i) (gH (hdF l B j) k i) wr))
                    case atStart => exact ⟨0, Nat.zero_le _, Lib.hid rfl, rfl, HNB0⟩
                    case round =>
                      clear HNB0
                      obtain ⟨i, hi, HG2, rfl, HNA⟩ := hrel
                      by_cases hin : i < k
                      · have i1 : (i : Int) < (k : Int) := by omega
                        obtain ⟨g, o, cap', ecap, c1, c2⟩ := (show Sl wr 59 2 (.slice ad k cap) k (marks l B st k) by rw [← HMK.out]; exact HNA.out.ns.src).mark i hin
                        cases ecap
                        have HIN := Lib.hid hin
                        have hdl : hdN j (weak (blk l B i)) < j := HLT.out i
                        obtain ⟨d, hd⟩ : ∃ d, d = hdN j (weak (blk l B i)) := ⟨_, rfl⟩
                        have HHK := Lib.hid (HHD.out i)
                        rw [← hd] at hdl HHK
                        have HD := Lib.hid (show hdF l B j i = d from hd.symm)
                        have d1 : (d : Int) < (j : Int) := by omega
                        have HDL := Lib.hid hdl
                        obtain ⟨wk, hwk⟩ : ∃ wk, wk = weak (blk l B i) := ⟨_, rfl⟩
                        obtain ⟨sk, hsk⟩ : ∃ sk, sk = cutS (blk l B i) st := ⟨_, rfl⟩
                        rw [← hwk] at c1 HHK
                        rw [← hsk] at c2
                        clear hin hi hd hdl hwk hsk
                        go_wp2_with (first
                          | (refine wpList_store_row rfl 59 _ _ rfl wr.heap.size #[.int .u32 wk, .string sk] rfl rfl 59 _ (Blk.new wr 59 _) Try.size59 rfl (one2 _ _ rfl rfl) ?_; obtain ⟨B9, F9⟩ := new_row wr 59 #[.int .u32 0, .string ⟨#[]⟩] #[.int .u32 wk, .string sk]; generalize ((wr.alloc (.cells #[.int .u32 0, .string ⟨#[]⟩] 59)).setRow wr.heap.size #[.int .u32 wk, .string sk]) = w9 at B9 F9 ⊢; have c9 := B9.cell 0 rfl; have HNA9 := Lib.hid (HNA.out.frF F9); clear B9 F9)
                          | (go_at_call 36; (refine (HHK.out _ HNA9.out.ns.xb).mono ?_); rintro e w2 ⟨rfl, rfl⟩)
                          | fail)
                        clear c1 c2
                        obtain ⟨p, hp⟩ : ∃ p, p = eH (hdF l B j) k d := ⟨_, rfl⟩
                        obtain ⟨n, hn⟩ : ∃ n, n = cH (hdF l B j) i d := ⟨_, rfl⟩
                        obtain ⟨c, hc⟩ : ∃ c, c = cH (hdF l B j) k d := ⟨_, rfl⟩
                        have hnc : n < c := by rw [hn, hc, ← HD.out]; exact cH_lt _ _ _ HIN.out
                        have hpk : p + c ≤ k := by rw [hp, hc, ← eH_succ]; exact eH_le _ _ _
                        have hpn : p + n < k := by omega
                        have hcv : f5H (hdF l B j) k al i d = .slice (some ⟨al, p, none⟩) n c := by
                          unfold f5H chV
                          rw [if_neg (by rw [← hc]; omega), ← hc, ← hp, ← hn]
                        have HCV := Lib.hid hcv
                        have HPOS := Lib.hid (show posH (hdF l B j) k i = p + n by unfold posH; rw [HD.out, ← hp, ← hn])
                        have HNX := Lib.hid (show chV (hdF l B j) k al d (n + 1) = .slice (some ⟨al, p, none⟩) (n + 1) c by
                          unfold chV; rw [if_neg (by rw [← hc]; omega), ← hc, ← hp])
                        have HNN2 := Lib.hid hn
                        have HNC := Lib.hid hnc
                        have HPN := Lib.hid hpn
                        clear hp hn hc hpk hcv hnc hpn
                        obtain ⟨cc, hcc⟩ : ∃ cc : Nat → Value, cc = fun zz => (([Value.agg #[Value.int IntKind.i64 ↑m, Value.int IntKind.i64 ↑B, Value.int IntKind.i64 ↑st, Value.slice (some { block := g, off := o }) k cap], Value.pointer (some { block := b1, off := 0 }), Value.pointer none, Value.int IntKind.i64 0, Value.int IntKind.i64 0, Value.int IntKind.i64 ↑j, Value.pointer (some { block := x, off := 0 }), Value.slice (some { block := eb, off := 0 }) (j + 1) (j + 1), u8, u9, u10, Value.slice (some { block := al, off := 0 }) k k, u12, Value.int IntKind.i64 ↑i, Value.pointer (some { block := wr.heap.size, off := 0 }), Value.int IntKind.i64 ↑d, u16, u17, u18, u19, u20, u21, u22, u23, u24, u25, u26, u27, u28, u29, u30, u31, u32, u33] ++ [u34, u35, u36, u37, u38, Value.int IntKind.i64 ↑j, Value.int IntKind.i64 (↑j + 1), Value.slice (some { block := eb, off := 0 }) (j + 1) (j + 1), Value.pointer (some { block := b1, off := 3 }), Value.slice (some { block := g, off := o }) k cap, Value.int IntKind.i64 ↑k, Value.int IntKind.i64 ↑k, Value.bool false, u47, u48, u49, u50, u51, u52, u53, u54, u55, u56, u57, u58, u59, Value.int IntKind.i64 ↑j, Value.int IntKind.i64 ↑j, Value.bool false, u63, u64, u65, u66, u67] ++ [u68, u69, u70, u71, u72, u73, u74, u75, Value.pointer (some { block := b1, off := 3 }), Value.slice (some { block := g, off := o }) k cap, Value.int IntKind.i64 ↑k, Value.slice (some { block := al, off := 0 }) k k, Value.int IntKind.i64 ↑j, Value.int IntKind.i64 ↑j, Value.bool false, u83, u84, u85, u86, u87, u88, u89, u90, u91, u92, u93, u94, u95, u96, u97, u98, u99, u100, u101] ++ [u102, u103, u104, u105, Value.pointer (some { block := b1, off := 3 }), Value.slice (some { block := g, off := o }) k cap, Value.int IntKind.i64 ↑k, Value.int IntKind.i64 ↑i, Value.bool true, Value.int IntKind.i64 ↑i, Value.pointer (some { block := g, off := o + i * 2 }), Value.agg #[Value.int IntKind.u32 wk, Value.string sk], Value.pointer (some { block := x, off := 0 }), Value.pointer (some { block := wr.heap.size, off := 0 }), Value.int IntKind.u32 wk, Value.int IntKind.i64 ↑d, u118, u119, u120, u121, u122, u123, u124, u125, u126, u127, u128, u129, u130, u131, u132, u133, u134, u135]) : List Value).getD zz undef := ⟨_, rfl⟩
                        have q6 : cc 6 = .pointer (some ⟨x, 0, none⟩) := by rw [hcc]; rfl
                        have q13 : cc 13 = .int .i64 (i : Int) := by rw [hcc]; rfl
                        have q15 : cc 15 = .int .i64 (d : Int) := by rw [hcc]; rfl
                        obtain ⟨g0, hg0⟩ : ∃ g0, g0 = g := ⟨_, rfl⟩
                        have HNA9' := Lib.hid (show (fun f g w' => NA w m B st k j (.slice (some ⟨g0, o, none⟩) k cap) vm ms b1 x ch eb al (fun i => (eH (hdF l B j) k i : Int)) f g w') (f5H (hdF l B j) k al i) (gH (hdF l B j) k i) w9.drew from by rw [hg0]; exact HNA9.out.frF ((Fr.refl (fun _ => False) w9).drew))
                        obtain ⟨IV, hIV⟩ : ∃ IV : (Nat → Bool) → (Nat → Value) → World → Prop, IV = fun L u w' => P29 (fun f g w' => NA w m B st k j (.slice (some ⟨g0, o, none⟩) k cap) vm ms b1 x ch eb al (fun i => (eH (hdF l B j) k i : Int)) f g w') (f5H (hdF l B j) k al i) (updU (f5H (hdF l B j) k al i) d (.slice (some ⟨al, p, none⟩) (n + 1) c)) (gH (hdF l B j) k i) (updN (gH (hdF l B j) k i) (p + n) (i : Int)) x ch j d i (.slice (some ⟨al, p, none⟩) n c) (.slice (some ⟨al, p, none⟩) (n + 1) c) L u w' := ⟨_, rfl⟩
                        have HIV := Lib.hid hIV
                        clear hIV
                        show Code.wp _ _ _ (actP (fun zz => (([Value.agg #[Value.int IntKind.i64 ↑m, Value.int IntKind.i64 ↑B, Value.int IntKind.i64 ↑st, Value.slice (some { block := g, off := o }) k cap], Value.pointer (some { block := b1, off := 0 }), Value.pointer none, Value.int IntKind.i64 0, Value.int IntKind.i64 0, Value.int IntKind.i64 ↑j, Value.pointer (some { block := x, off := 0 }), Value.slice (some { block := eb, off := 0 }) (j + 1) (j + 1), u8, u9, u10, Value.slice (some { block := al, off := 0 }) k k, u12, Value.int IntKind.i64 ↑i, Value.pointer (some { block := wr.heap.size, off := 0 }), Value.int IntKind.i64 ↑d, u16, u17, u18, u19, u20, u21, u22, u23, u24, u25, u26, u27, u28, u29, u30, u31, u32, u33] ++ [u34, u35, u36, u37, u38, Value.int IntKind.i64 ↑j, Value.int IntKind.i64 (↑j + 1), Value.slice (some { block := eb, off := 0 }) (j + 1) (j + 1), Value.pointer (some { block := b1, off := 3 }), Value.slice (some { block := g, off := o }) k cap, Value.int IntKind.i64 ↑k, Value.int IntKind.i64 ↑k, Value.bool false, u47, u48, u49, u50, u51, u52, u53, u54, u55, u56, u57, u58, u59, Value.int IntKind.i64 ↑j, Value.int IntKind.i64 ↑j, Value.bool false, u63, u64, u65, u66, u67] ++ [u68, u69, u70, u71, u72, u73, u74, u75, Value.pointer (some { block := b1, off := 3 }), Value.slice (some { block := g, off := o }) k cap, Value.int IntKind.i64 ↑k, Value.slice (some { block := al, off := 0 }) k k, Value.int IntKind.i64 ↑j, Value.int IntKind.i64 ↑j, Value.bool false, u83, u84, u85, u86, u87, u88, u89, u90, u91, u92, u93, u94, u95, u96, u97, u98, u99, u100, u101] ++ [u102, u103, u104, u105, Value.pointer (some { block := b1, off := 3 }), Value.slice (some { block := g, off := o }) k cap, Value.int IntKind.i64 ↑k, Value.int IntKind.i64 ↑i, Value.bool true, Value.int IntKind.i64 ↑i, Value.pointer (some { block := g, off := o + i * 2 }), Value.agg #[Value.int IntKind.u32 wk, Value.string sk], Value.pointer (some { block := x, off := 0 }), Value.pointer (some { block := wr.heap.size, off := 0 }), Value.int IntKind.u32 wk, Value.int IntKind.i64 ↑d, u118, u119, u120, u121, u122, u123, u124, u125, u126, u127, u128, u129, u130, u131, u132, u133, u134, u135]) : List Value).getD zz undef) (fun zz => (([Value.agg #[Value.int IntKind.i64 ↑m, Value.int IntKind.i64 ↑B, Value.int IntKind.i64 ↑st, Value.slice (some { block := g, off := o }) k cap], Value.pointer (some { block := b1, off := 0 }), Value.pointer none, Value.int IntKind.i64 0, Value.int IntKind.i64 0, Value.int IntKind.i64 ↑j, Value.pointer (some { block := x, off := 0 }), Value.slice (some { block := eb, off := 0 }) (j + 1) (j + 1), u8, u9, u10, Value.slice (some { block := al, off := 0 }) k k, u12, Value.int IntKind.i64 ↑i, Value.pointer (some { block := wr.heap.size, off := 0 }), Value.int IntKind.i64 ↑d, u16, u17, u18, u19, u20, u21, u22, u23, u24, u25, u26, u27, u28, u29, u30, u31, u32, u33] ++ [u34, u35, u36, u37, u38, Value.int IntKind.i64 ↑j, Value.int IntKind.i64 (↑j + 1), Value.slice (some { block := eb, off := 0 }) (j + 1) (j + 1), Value.pointer (some { block := b1, off := 3 }), Value.slice (some { block := g, off := o }) k cap, Value.int IntKind.i64 ↑k, Value.int IntKind.i64 ↑k, Value.bool false, u47, u48, u49, u50, u51, u52, u53, u54, u55, u56, u57, u58, u59, Value.int IntKind.i64 ↑j, Value.int IntKind.i64 ↑j, Value.bool false, u63, u64, u65, u66, u67] ++ [u68, u69, u70, u71, u72, u73, u74, u75, Value.pointer (some { block := b1, off := 3 }), Value.slice (some { block := g, off := o }) k cap, Value.int IntKind.i64 ↑k, Value.slice (some { block := al, off := 0 }) k k, Value.int IntKind.i64 ↑j, Value.int IntKind.i64 ↑j, Value.bool false, u83, u84, u85, u86, u87, u88, u89, u90, u91, u92, u93, u94, u95, u96, u97, u98, u99, u100, u101] ++ [u102, u103, u104, u105, Value.pointer (some { block := b1, off := 3 }), Value.slice (some { block := g, off := o }) k cap, Value.int IntKind.i64 ↑k, Value.int IntKind.i64 ↑i, Value.bool true, Value.int IntKind.i64 ↑i, Value.pointer (some { block := g, off := o + i * 2 }), Value.agg #[Value.int IntKind.u32 wk, Value.string sk], Value.pointer (some { block := x, off := 0 }), Value.pointer (some { block := wr.heap.size, off := 0 }), Value.int IntKind.u32 wk, Value.int IntKind.i64 ↑d, u118, u119, u120, u121, u122, u123, u124, u125, u126, u127, u128, u129, u130, u131, u132, u133, u134, u135]) : List Value).getD zz undef)) w9
                        rw [← hcc]
                        refine wp_region_cl (by kernel_rfl) [[], [0], [1], [2], [], [], [5], [6], [7], [], [8, 9], [10], [], [12], [11, 13], [3, 4, 0, 1, 2, 3, 4, 5, 6, 7, 8, 9, 10, 11, 12, 13, 14], [15, 14, 14, 0, 1, 2, 3, 4, 5, 6, 7, 8, 9, 10, 11, 12, 13, 14]] (by kernel_rfl) (by decide) (fun L a w' => ∃ u, a = actP cc u ∧ IV L u w') ?_ ?_ ?_
                        · refine ⟨_, rfl, ?_⟩
                          rw [HIV.out]
                          exact ⟨fun _ _ _ q => absurd q Bool.false_ne_true, fun q => absurd q Bool.false_ne_true, fun _ => HNA9'.out, fun q => absurd q Bool.false_ne_true, fun q => absurd q Bool.false_ne_true⟩
                        · intro jj hj L a w' hI hcl h0 hd2
                          obtain ⟨u, rfl, hP⟩ := hI
                          rw [HIV.out] at hP
                          have hc : jj = 0 ∨ jj = 1 ∨ jj = 2 ∨ jj = 3 ∨ jj = 4 ∨ jj = 5 ∨ jj = 6 ∨ jj = 7 ∨ jj = 8 ∨ jj = 9 ∨ jj = 10 ∨ jj = 11 ∨ jj = 12 ∨ jj = 13 ∨ jj = 14 ∨ jj = 15 ∨ jj = 16 := by have : jj < 17 := hj; omega
                          have c14 : L 14 = true → L 8 = true ∧ L 11 = true := fun h => ⟨hcl 10 8 (hcl 11 10 (hcl 14 11 h (by decide)) (by decide)) (by decide), hcl 14 11 h (by decide)⟩
                          have c16 : L 16 = true → ∀ jj, jj < 16 → L jj = true := fun h jj hjj => by
                            have h15 := hcl 16 15 h (by decide)
                            by_cases e : jj = 15
                            · subst e; exact h15
                            · exact hcl 15 jj h15 (by
                                have : jj < 15 := by omega
                                obtain rfl | rfl | rfl | rfl | rfl | rfl | rfl | rfl | rfl | rfl | rfl | rfl | rfl | rfl | rfl : jj = 0 ∨ jj = 1 ∨ jj = 2 ∨ jj = 3 ∨ jj = 4 ∨ jj = 5 ∨ jj = 6 ∨ jj = 7 ∨ jj = 8 ∨ jj = 9 ∨ jj = 10 ∨ jj = 11 ∨ jj = 12 ∨ jj = 13 ∨ jj = 14 := by omega
                                all_goals decide)
                          have n16 : jj < 16 → L 16 = false := fun hjj => by
                            cases h : L 16 with
                            | false => rfl
                            | true => exact absurd (c16 h jj hjj) (by rw [h0]; decide)
                          have n14 : jj = 8 ∨ jj = 11 → L 14 = false := fun hjj => by
                            cases h : L 14 with
                            | false => rfl
                            | true =>
                              obtain ⟨a8, a11⟩ := c14 h
                              rcases hjj with rfl | rfl
                              · exact absurd a8 (by rw [h0]; decide)
                              · exact absurd a11 (by rw [h0]; decide)
                          clear hj c14 c16
                          rcases hc with rfl | rfl | rfl | rfl | rfl | rfl | rfl | rfl | rfl | rfl | rfl | rfl | rfl | rfl | rfl | rfl | rfl
                          · have HH := Lib.hid hP
                            have r6 : (actP cc u).eval (.tmp 6) = (.pointer (some ⟨x, 0, none⟩)) := q6
                            refine wpOp_run rfl rfl (v := (.pointer (some ⟨x, 0, none⟩))) (w' := w') ?_ ⟨updU u 118 (.pointer (some ⟨x, 0, none⟩)), rfl, (by rw [HIV.out]; exact HH.out.up 0 (by decide) (by decide) (by decide) (.pointer (some ⟨x, 0, none⟩)) rfl)⟩
                            generalize (actP cc u).eval = ev at r6 ⊢
                            clear hd2 h0 hcl hP n14 n16 HH
                            go_simp
                          · have HH := Lib.hid hP
                            have e118 : (actP cc u).eval (.tmp 118) = (.pointer (some ⟨x, 0, none⟩)) := hP.fp 0 (by decide) (by decide) (hd2 0 (by decide))
                            refine wpOp_run rfl rfl (v := (.pointer (some ⟨x, 0, none⟩))) (w' := w') ?_ ⟨updU u 119 (.pointer (some ⟨x, 0, none⟩)), rfl, (by rw [HIV.out]; exact HH.out.up 1 (by decide) (by decide) (by decide) (.pointer (some ⟨x, 0, none⟩)) rfl)⟩
                            generalize (actP cc u).eval = ev at e118 ⊢
                            clear hd2 h0 hcl hP n14 n16 HH
                            go_simp
                          · have HH := Lib.hid hP
                            have e119 : (actP cc u).eval (.tmp 119) = (.pointer (some ⟨x, 0, none⟩)) := hP.fp 1 (by decide) (by decide) (hd2 1 (by decide))
                            refine wpOp_run rfl rfl (v := (.pointer (some ⟨x, 3, none⟩))) (w' := w') ?_ ⟨updU u 120 (.pointer (some ⟨x, 3, none⟩)), rfl, (by rw [HIV.out]; exact HH.out.up 2 (by decide) (by decide) (by decide) (.pointer (some ⟨x, 3, none⟩)) rfl)⟩
                            generalize (actP cc u).eval = ev at e119 ⊢
                            clear hd2 h0 hcl hP n14 n16 HH
                            go_simp
                          · have HH := Lib.hid hP
                            have e120 : (actP cc u).eval (.tmp 120) = (.pointer (some ⟨x, 3, none⟩)) := hP.fp 2 (by decide) (by decide) (hd2 2 (by decide))
                            have cx : w'.cell? ⟨x, 3, none⟩ = some (.slice (some ⟨ch, 0, none⟩) j j) := by
                              cases hq : L 14 with
                              | false => exact (hP.n0 hq).ns.xb.cell 3 rfl
                              | true => exact (hP.n1 hq (n16 (by decide))).ns.xb.cell 3 rfl
                            refine wpOp_run rfl rfl (v := (.slice (some ⟨ch, 0, none⟩) j j)) (w' := w') ?_ ⟨updU u 121 (.slice (some ⟨ch, 0, none⟩) j j), rfl, (by rw [HIV.out]; exact HH.out.up 3 (by decide) (by decide) (by decide) (.slice (some ⟨ch, 0, none⟩) j j) rfl)⟩
                            generalize (actP cc u).eval = ev at e120 ⊢
                            clear hd2 h0 hcl hP n14 n16 HH
                            go_simp
                          · have HH := Lib.hid hP
                            have r15 : (actP cc u).eval (.tmp 15) = (.int .i64 (d : Int)) := q15
                            refine wpOp_run rfl rfl (v := (.int .i64 (d : Int))) (w' := w') ?_ ⟨updU u 122 (.int .i64 (d : Int)), rfl, (by rw [HIV.out]; exact HH.out.up 4 (by decide) (by decide) (by decide) (.int .i64 (d : Int)) rfl)⟩
                            generalize (actP cc u).eval = ev at r15 ⊢
                            clear hd2 h0 hcl hP n14 n16 HH
                            go_simp
                          · have HH := Lib.hid hP
                            have r6 : (actP cc u).eval (.tmp 6) = (.pointer (some ⟨x, 0, none⟩)) := q6
                            refine wpOp_run rfl rfl (v := (.pointer (some ⟨x, 0, none⟩))) (w' := w') ?_ ⟨updU u 123 (.pointer (some ⟨x, 0, none⟩)), rfl, (by rw [HIV.out]; exact HH.out.up 5 (by decide) (by decide) (by decide) (.pointer (some ⟨x, 0, none⟩)) rfl)⟩
                            generalize (actP cc u).eval = ev at r6 ⊢
                            clear hd2 h0 hcl hP n14 n16 HH
                            go_simp
                          · have HH := Lib.hid hP
                            have e123 : (actP cc u).eval (.tmp 123) = (.pointer (some ⟨x, 0, none⟩)) := hP.fp 5 (by decide) (by decide) (hd2 5 (by decide))
                            refine wpOp_run rfl rfl (v := (.pointer (some ⟨x, 0, none⟩))) (w' := w') ?_ ⟨updU u 124 (.pointer (some ⟨x, 0, none⟩)), rfl, (by rw [HIV.out]; exact HH.out.up 6 (by decide) (by decide) (by decide) (.pointer (some ⟨x, 0, none⟩)) rfl)⟩
                            generalize (actP cc u).eval = ev at e123 ⊢
                            clear hd2 h0 hcl hP n14 n16 HH
                            go_simp
                          · have HH := Lib.hid hP
                            have e124 : (actP cc u).eval (.tmp 124) = (.pointer (some ⟨x, 0, none⟩)) := hP.fp 6 (by decide) (by decide) (hd2 6 (by decide))
                            refine wpOp_run rfl rfl (v := (.pointer (some ⟨x, 3, none⟩))) (w' := w') ?_ ⟨updU u 125 (.pointer (some ⟨x, 3, none⟩)), rfl, (by rw [HIV.out]; exact HH.out.up 7 (by decide) (by decide) (by decide) (.pointer (some ⟨x, 3, none⟩)) rfl)⟩
                            generalize (actP cc u).eval = ev at e124 ⊢
                            clear hd2 h0 hcl hP n14 n16 HH
                            go_simp
                          · have HH := Lib.hid hP
                            have e125 : (actP cc u).eval (.tmp 125) = (.pointer (some ⟨x, 3, none⟩)) := hP.fp 7 (by decide) (by decide) (hd2 7 (by decide))
                            have cx := (hP.n0 (n14 (by decide))).ns.xb.cell 3 rfl
                            refine wpOp_run rfl rfl (v := (.slice (some ⟨ch, 0, none⟩) j j)) (w' := w') ?_ ⟨updU u 126 (.slice (some ⟨ch, 0, none⟩) j j), rfl, (by rw [HIV.out]; exact HH.out.up 8 (by decide) (by decide) (by decide) (.slice (some ⟨ch, 0, none⟩) j j) rfl)⟩
                            generalize (actP cc u).eval = ev at e125 ⊢
                            clear hd2 h0 hcl hP n14 n16 HH
                            go_simp
                          · have HH := Lib.hid hP
                            have r15 : (actP cc u).eval (.tmp 15) = (.int .i64 (d : Int)) := q15
                            refine wpOp_run rfl rfl (v := (.int .i64 (d : Int))) (w' := w') ?_ ⟨updU u 127 (.int .i64 (d : Int)), rfl, (by rw [HIV.out]; exact HH.out.up 9 (by decide) (by decide) (by decide) (.int .i64 (d : Int)) rfl)⟩
                            generalize (actP cc u).eval = ev at r15 ⊢
                            clear hd2 h0 hcl hP n14 n16 HH
                            go_simp
                          · have HH := Lib.hid hP
                            have e126 : (actP cc u).eval (.tmp 126) = (.slice (some ⟨ch, 0, none⟩) j j) := hP.fp 8 (by decide) (by decide) (hd2 8 (by decide))
                            have e127 : (actP cc u).eval (.tmp 127) = (.int .i64 (d : Int)) := hP.fp 9 (by decide) (by decide) (hd2 9 (by decide))
                            refine wpOp_run rfl rfl (v := (.pointer (some ⟨ch, d, none⟩))) (w' := w') ?_ ⟨updU u 128 (.pointer (some ⟨ch, d, none⟩)), rfl, (by rw [HIV.out]; exact HH.out.up 10 (by decide) (by decide) (by decide) (.pointer (some ⟨ch, d, none⟩)) rfl)⟩
                            generalize (actP cc u).eval = ev at e126 e127 ⊢
                            clear hd2 h0 hcl hP n14 n16 HH
                            go_simp
                          · have HH := Lib.hid hP
                            have e128 : (actP cc u).eval (.tmp 128) = (.pointer (some ⟨ch, d, none⟩)) := hP.fp 10 (by decide) (by decide) (hd2 10 (by decide))
                            have cx := (hP.n0 (n14 (by decide))).ns.chb.cell d (rowV_at _ _ _ HDL.out)
                            rw [HCV.out] at cx
                            refine wpOp_run rfl rfl (v := (.slice (some ⟨al, p, none⟩) n c)) (w' := w') ?_ ⟨updU u 129 (.slice (some ⟨al, p, none⟩) n c), rfl, (by rw [HIV.out]; exact HH.out.up 11 (by decide) (by decide) (by decide) (.slice (some ⟨al, p, none⟩) n c) rfl)⟩
                            generalize (actP cc u).eval = ev at e128 ⊢
                            clear hd2 h0 hcl hP n14 n16 HH
                            go_simp
                          · have HH := Lib.hid hP
                            have r13 : (actP cc u).eval (.tmp 13) = (.int .i64 (i : Int)) := q13
                            refine wpOp_run rfl rfl (v := (.int .i64 (i : Int))) (w' := w') ?_ ⟨updU u 130 (.int .i64 (i : Int)), rfl, (by rw [HIV.out]; exact HH.out.up 12 (by decide) (by decide) (by decide) (.int .i64 (i : Int)) rfl)⟩
                            generalize (actP cc u).eval = ev at r13 ⊢
                            clear hd2 h0 hcl hP n14 n16 HH
                            go_simp
                          · have e130 : (actP cc u).eval (.tmp 130) = .int .i64 (i : Int) := hP.fp 12 (by decide) (by decide) (hd2 12 (by decide))
                            have HH := Lib.hid (P29.new (fun f g w w' h k => h.frF k) hP)
                            refine wpOp_run rfl rfl (v := .slice (some ⟨w'.heap.size, 0, none⟩) 1 1) (w' := w'.alloc (.cells #[.int .i64 (i : Int)] 3)) ?_ ⟨updU u 131 (.slice (some ⟨w'.heap.size, 0, none⟩) 1 1), rfl, (by rw [HIV.out]; exact HH.out)⟩
                            generalize (actP cc u).eval = ev at e130 ⊢
                            clear hd2 h0 hcl hP n14 n16 HH
                            go_simp
                          · refine wpOp_one rfl ?_
                            have e129 : u 129 = .slice (some ⟨al, p, none⟩) n c := hP.fp 11 (by decide) (by decide) (hd2 11 (by decide))
                            obtain ⟨q, e131, hq⟩ := hP.f13 (hd2 13 (by decide))
                            have hna := hP.n0 h0
                            refine wpList_step fun K hK => step_app_in rfl (.tmp 129) (.tmp 131) rfl al p n c k (gH (hdF l B j) k i) e129 HNC.out hna.alb HPN.out q (i : Int) e131 (hq h0) ?_
                            exact hK _ _ ⟨updU u 132 (.slice (some ⟨al, p, none⟩) (n + 1) c), by simp [actP, updU, Act.put], (by rw [HIV.out]; exact hP.app (n16 (by decide)) (hna.putA (p + n) (i : Int)))⟩
                          · have HH := Lib.hid hP
                            have e121 : (actP cc u).eval (.tmp 121) = (.slice (some ⟨ch, 0, none⟩) j j) := hP.fp 3 (by decide) (by decide) (hd2 3 (by decide))
                            have e122 : (actP cc u).eval (.tmp 122) = (.int .i64 (d : Int)) := hP.fp 4 (by decide) (by decide) (hd2 4 (by decide))
                            refine wpOp_run rfl rfl (v := (.pointer (some ⟨ch, d, none⟩))) (w' := w') ?_ ⟨updU u 133 (.pointer (some ⟨ch, d, none⟩)), rfl, (by rw [HIV.out]; exact HH.out.up 15 (by decide) (by decide) (by decide) (.pointer (some ⟨ch, d, none⟩)) rfl)⟩
                            generalize (actP cc u).eval = ev at e121 e122 ⊢
                            clear hd2 h0 hcl hP n14 n16 HH
                            go_simp
                          · have e132 : (actP cc u).eval (.tmp 132) = (.slice (some ⟨al, p, none⟩) (n + 1) c) := hP.fp 14 (by decide) (by decide) (hd2 14 (by decide))
                            have e133 : (actP cc u).eval (.tmp 133) = (.pointer (some ⟨ch, d, none⟩)) := hP.fp 15 (by decide) (by decide) (hd2 15 (by decide))
                            have hna := hP.n1 (hd2 14 (by decide)) h0
                            have cc0 := hna.ns.chb.cell d (rowV_at _ _ _ HDL.out)
                            have fc := hna.ns.chb.free d
                            have HH := Lib.hid (hP.put (hd2 14 (by decide)) (hna.putC d (.slice (some ⟨al, p, none⟩) (n + 1) c)))
                            refine wpOp_skip rfl rfl (w' := w'.setCell ⟨ch, d, none⟩ (.slice (some ⟨al, p, none⟩) (n + 1) c)) ?_ ⟨u, rfl, (by rw [HIV.out]; exact HH.out)⟩
                            generalize (actP cc u).eval = ev at e132 e133 ⊢
                            clear hd2 h0 hcl hP n14 n16 hna HH
                            go_simp
                        · intro L a w' hI hall
                          obtain ⟨u, rfl, hP⟩ := hI
                          rw [HIV.out] at hP
                          have HF := Lib.hid (show NA w m B st k j (.slice (some ⟨g, o, none⟩) k cap) vm ms b1 x ch eb al (fun i => (eH (hdF l B j) k i : Int)) (f5H (hdF l B j) k al (i + 1)) (gH (hdF l B j) k (i + 1)) w' by
                            have h := hP.n2 (hall 16 (by decide))
                            rw [← f5H_step, HD.out, ← HNN2.out, HNX.out]
                            show NA _ _ _ _ _ _ _ _ _ _ _ _ _ _ _ _ (updN (gH (hdF l B j) k i) (posH (hdF l B j) k i) (i : Int)) _
                            rw [HPOS.out, ← hg0]; exact h)
                          clear hP hall HNA9' HNA9 HIV HHK
                          rw [hcc]
                          unfold actP
                          go_wp2_with (fail)
                          go_roundg (k - (i + 1))
                          case measure => have := HG2.out; have := HIN.out; omega
                          case rel => exact ⟨i + 1, HIN.out, Lib.hid rfl, by go_num, HF⟩
                      · obtain rfl : i = k := by omega
                        clear hin hi HG2
                        go_wp2_with (fail)
                        go_ret2
                        have hk : i = cnt l.length B := HNN.out
                        have hmk := HMK.out
                        have hm2 := HMM.out
                        refine ⟨x, vm, ch, j, al, rfl, ⟨H1, HH2.out, ?_, ?_, ?_, ?_⟩, HNA.out.ns.fr, KYY.out, HNA.out.ns.lc, HNA.out.la, fun q hq => KOO.out q hq⟩
                        · rw [← hm2]; exact HNA.out.ns.xb
                        · rw [← hk, ← hmk]; exact HNA.out.ns.mks
                        · rw [← hk]; exact HNA.out.ns.chb
                        · rw [← hk]; exact HNA.out.alb
end Go.Proofs.Ytphjebbjhfnhoaa
