/- sig: Of, its rounds. -/
import Derived.Test.YtphjebbjhfnhoaaEa
import Derived.Test.YtphjebbjhfnhoaaMk
import Derived.Test.YtphjebbjhfnhoaaBl
import Derived.Test.YtphjebbjhfnhoaaRk
namespace Go.Proofs.Ytphjebbjhfnhoaa
open Go.RowKit Go.Shelf
attribute [local go_sem] Oper.semAt_some
def actM (c : Nat → Value) (x iv : Value) (u : Nat → Value) : Act := { tmps := [c 0, c 1, c 2, c 3, c 4, c 5, c 6, c 7, c 8, c 9, x, c 11, c 12, c 13, c 14, c 15, c 16, c 17,
  c 18, c 19, c 20, c 21, c 22, c 23, c 24, c 25, c 26, c 27, c 28, c 29, c 30, c 31, c 32, c 33, c 34, c 35,
  c 36, c 37, c 38, c 39, c 40, c 41, c 42, iv, x, u 45, u 46, u 47, u 48, u 49, u 50, u 51, u 52, c 53].toArray, defers := [] }
def baseM (ad : Option Addr) (m cap B st b5 b6 b8 b1 b2 : Nat) : Nat → Value := fun k => ([.slice ad m cap, .int .i64 (B : Int), .int .i64 (st : Int), undef, undef, .pointer (some ⟨b5, 0, none⟩), .pointer (some ⟨b6, 0, none⟩), .int .i64 0, .pointer (some ⟨b8, 0, none⟩), undef, undef, .bool false, .int .i64 (st : Int), .bool true, .bool false, .bool false, .int .i64 (B : Int), .bool ((B : Int) != 0), .bool ((B : Int) != 0), .int .i64 (B : Int), .bool true, .bool false, .bool false, .bool false, undef, .bool (decide (131072 < (m : Int))), .slice ad m cap, .int .i64 (m : Int), .bool (decide (131072 < (m : Int))), undef, .int .i64 (B : Int), .bool false, undef, undef, undef, .slice ad m cap, .int .i64 (m : Int), .int .i64 (B : Int), .int .i64 (st : Int), .agg #[.int .i64 (m : Int), .int .i64 (B : Int), .int .i64 (st : Int), .slice none 0 0], .slice ad m cap, .int .i64 (B : Int), .func (.func 30) #[] #[.pointer (some ⟨b1, 0, none⟩), .pointer (some ⟨b2, 0, none⟩)], undef, undef, undef, undef, undef, undef, undef, undef, undef, undef, undef] : List Value).getD k undef
/-- The marks of the first blocks, as cells. -/
def marks (l : List UInt8) (B st N : Nat) : List Value := (List.range N).flatMap fun i => (mkA (blk l B i) st).toList
theorem marks_succ (l : List UInt8) (B st N : Nat) : marks l B st (N + 1) = marks l B st N ++ (mkA (blk l B N) st).toList := by
  unfold marks; rw [List.range_succ, List.flatMap_append]; simp
/-- Blocks of cells and a turn of something else. -/
theorem ne_other {W : World} {b k : Nat} {T : TypeId} {vs : Array Value} {o : Obj} (h : Blk W b T vs) (hk : W.heap[k]? = some o) (ho : o.isCells = false) : b ≠ k := fun e => by
  subst e
  have h' : W.heap[b]? = some (.cells vs T (0, 0)) := h
  rw [h'] at hk; cases hk; cases ho
theorem Blk.putObj {W : World} {b k : Nat} {T : TypeId} {vs : Array Value} {o : Obj} (h : Blk W b T vs) (o' : Obj) (hk : W.heap[k]? = some o) (ho : o.isCells = false) : Blk (W.putObj k o') b T vs :=
  h.fr (fr_putObj (fun j => j = k) W k o' rfl) (ne_other h hk ho)
theorem Sl.putObj {W : World} {k : Nat} {o : Obj} {e : TypeId} {sz : Nat} {v : Value} {n : Nat} {xs : List Value} (h : Sl W e sz v n xs) (o' : Obj) (hk : W.heap[k]? = some o) (ho : o.isCells = false) : Sl (W.putObj k o') e sz v n xs :=
  h.fr (fr_putObj (fun j => j = k) W k o' rfl) (fun j hj he => by
    rcases h.2 with ⟨rfl, _⟩ | ⟨g, _, _, _, rfl, hb, _⟩
    · cases hj
    · have : g = j := by simpa [Value.ownBlock] using hj
      subst this; exact ne_other hb hk ho he)
theorem Byt.frS {S : Nat → Prop} {w w' : World} {ad : Option Addr} {l : List UInt8} (h : Byt w ad l) (f : Fr S w w') (hS : ∀ j c g o, l[j]? = some c → ad = some ⟨g, o, none⟩ → w.cell? ⟨g, o + j, none⟩ = some (.int .u8 (c.toNat : Int)) → ¬ S g) : Byt w' ad l := by
  intro j c hj
  obtain ⟨g, o, e, hl, hc⟩ := h j c hj
  refine ⟨g, o, e, Nat.lt_of_lt_of_le hl f.size, ?_⟩
  rw [show w'.cell? ⟨g, o + j, none⟩ = w.cell? ⟨g, o + j, none⟩ from World.cell?_of_block (f.block g hl (hS j c g o hj e hc))]
  exact hc
theorem Byt.putObj {W : World} {ad : Option Addr} {l : List UInt8} {k : Nat} {o : Obj} (h : Byt W ad l) (o' : Obj) (hk : W.heap[k]? = some o) (ho : o.isCells = false) : Byt (W.putObj k o') ad l :=
  h.frS (fr_putObj (fun j => j = k) W k o' rfl) (fun j c g o2 _ _ hc e => by
    subst e
    simp only [World.cell?, hk] at hc
    cases o <;> simp [Obj.isCells] at ho <;> simp at hc)
theorem blk_ne {W : World} {b b' : Nat} {T T' : TypeId} {vs vs' : Array Value} (h : Blk W b T vs) (h' : Blk W b' T' vs') (hT : T ≠ T') : b ≠ b' := fun e => by
  subst e
  have h1 : W.heap[b]? = _ := h
  have h2 : W.heap[b]? = _ := h'
  rw [h1] at h2; cases h2; exact hT rfl
theorem Sl.ne {W : World} {e : TypeId} {sz : Nat} {v : Value} {n : Nat} {xs : List Value} (h : Sl W e sz v n xs) {b : Nat} {T : TypeId} {vs : Array Value} (hb : Blk W b T vs) (hT : e ≠ T) (k : Nat) (hk : v.ownBlock = some k) : k ≠ b := by
  rcases h.2 with ⟨rfl, _⟩ | ⟨g, _, _, _, rfl, hg, _⟩
  · cases hk
  · have : g = k := by simpa [Value.ownBlock] using hk
    subst this; exact blk_ne hg hb hT
/-- Between two rounds. -/
structure SI (w : World) (l : List UInt8) (ad : Option Addr) (m cap B st b5 b6 b8 b1 b2 : Nat) (i : Nat) (W : World) : Prop where
  v : ∃ v, Blk W b8 27 #[.int .i64 (m : Int), .int .i64 (B : Int), .int .i64 (st : Int), v] ∧ Sl W 59 2 v i (marks l B st i) ∧ ∀ k, v.ownBlock = some k → w.heap.size ≤ k
  k5 : Blk W b5 3 #[.int .i64 (st : Int)]
  k6 : Blk W b6 27 #[.int .i64 0, .int .i64 0, .int .i64 0, .slice none 0 0]
  k1 : Blk W b1 22 #[.slice ad m cap]
  k2 : Blk W b2 3 #[.int .i64 (B : Int)]
  by_ : Byt W ad l
  ne : b6 ≠ b8
  l8 : w.heap.size ≤ b8
  l6 : w.heap.size ≤ b6
  fr : Fr (fun _ => False) w W
theorem SI.frF {w : World} {l : List UInt8} {ad : Option Addr} {m cap B st b5 b6 b8 b1 b2 i : Nat} {W W' : World} (h : SI w l ad m cap B st b5 b6 b8 b1 b2 i W) (f : Fr (fun _ => False) W W') : SI w l ad m cap B st b5 b6 b8 b1 b2 i W' := by
  obtain ⟨v, h1, h2, h3⟩ := h.v
  exact ⟨⟨v, h1.fr f (fun x => x), h2.fr f (fun _ _ x => x), h3⟩, h.k5.fr f (fun x => x), h.k6.fr f (fun x => x), h.k1.fr f (fun x => x), h.k2.fr f (fun x => x), h.by_.fr f, h.ne, h.l8, h.l6, h.fr.trans f (fun _ _ h => h)⟩
theorem SI.putObj {w : World} {l : List UInt8} {ad : Option Addr} {m cap B st b5 b6 b8 b1 b2 i : Nat} {W : World} (h : SI w l ad m cap B st b5 b6 b8 b1 b2 i W) {k : Nat} {o : Obj} (o' : Obj) (hl : w.heap.size ≤ k) (hk : W.heap[k]? = some o) (ho : o.isCells = false) :
    SI w l ad m cap B st b5 b6 b8 b1 b2 i (W.putObj k o') := by
  obtain ⟨v, h1, h2, h3⟩ := h.v
  exact ⟨⟨v, h1.putObj o' hk ho, h2.putObj o' hk ho, h3⟩, h.k5.putObj o' hk ho, h.k6.putObj o' hk ho, h.k1.putObj o' hk ho, h.k2.putObj o' hk ho, h.by_.putObj o' hk ho, h.ne, h.l8, h.l6,
    h.fr.trans (fr_putObj (fun j => j = k) W k o' rfl) (fun j hj e => by omega)⟩
/-- Within a round's one statement. -/
structure MI (l : List UInt8) (B st m b8 i : Nat) (v x : Value) (W : World) (L : Nat → Bool) (u : Nat → Value) (bq : Nat) (v' : Value) (W' : World) : Prop where
  p0 : L 0 = true → u 45 = .pointer (some ⟨b8, 3, none⟩)
  p1 : L 1 = true → u 46 = v
  p2 : L 2 = true → u 47 = x
  p3 : L 3 = true → u 48 = .int .i64 (st : Int)
  p4 : L 4 = true → u 49 = .agg (mkA (blk l B i) st)
  p5 : L 5 = true → u 50 = .slice (some ⟨bq, 0, none⟩) 1 1 ∧ (L 6 = false → Blk W' bq 59 (mkA (blk l B i) st))
  p6 : L 6 = true → u 51 = v' ∧ Sl W' 59 2 v' (i + 1) (marks l B st (i + 1)) ∧ (v'.ownBlock = v.ownBlock ∨ ∃ k, v'.ownBlock = some k ∧ W.heap.size ≤ k)
  p7 : L 7 = true → u 52 = .pointer (some ⟨b8, 3, none⟩)
  p8 : L 8 = true → Blk W' b8 27 #[.int .i64 (m : Int), .int .i64 (B : Int), .int .i64 (st : Int), v']
  fr : Fr (fun k => (L 6 = true ∧ v.ownBlock = some k) ∨ (L 8 = true ∧ k = b8)) W W'
def InvM (l : List UInt8) (B st m b8 i : Nat) (v x : Value) (c : Nat → Value) (W : World) (L : Nat → Bool) (a : Act) (W' : World) : Prop := ∃ u bq v', a = actM c x (.int .i64 (i : Int)) u ∧ MI l B st m b8 i v x W L u bq v' W'
end Go.Proofs.Ytphjebbjhfnhoaa
