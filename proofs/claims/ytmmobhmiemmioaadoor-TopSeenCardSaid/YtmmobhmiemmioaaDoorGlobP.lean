/- Patterns: their signs, and what they match. -/
import Derived.Test.YtmmobhmiemmioaaDoorFr
namespace Go.Proofs.YtmmobhmiemmioaaDoor
open Go.RowKit

/-- A sign of a pattern. -/
structure Sg where
  kind : Nat
  c : UInt8
  neg : Bool
  set : Nat → Bool
/-- Its cells. -/
def setC (S : Nat → Bool) : List Value := (List.range 256).map fun i => .bool (S i)
def sgA (g : Sg) : List Value := .int .i64 g.kind :: .int .u8 (g.c.toNat : Int) :: .bool g.neg :: setC g.set
theorem setC_len (S : Nat → Bool) : (setC S).length = 256 := by simp [setC]
theorem sgA_len (g : Sg) : (sgA g).length = 259 := by simp [sgA, setC_len]
theorem setC_at (S : Nat → Bool) (i : Nat) (h : i < 256) : (setC S)[i]? = some (.bool (S i)) := by
  unfold setC; rw [List.getElem?_map, List.getElem?_range h]; rfl
theorem sgA_0 (g : Sg) : (sgA g)[0]? = some (.int .i64 g.kind) := rfl
theorem sgA_1 (g : Sg) : (sgA g)[1]? = some (.int .u8 (g.c.toNat : Int)) := rfl
theorem sgA_2 (g : Sg) : (sgA g)[2]? = some (.bool g.neg) := rfl
theorem sgA_3 (g : Sg) (i : Nat) (h : i < 256) : (sgA g)[3 + i]? = some (.bool (g.set i)) := by
  rw [Nat.add_comm]; exact setC_at g.set i h
theorem sgA_one (g : Sg) : ∀ v ∈ sgA g, v.oneCell' = true := by
  intro v hv
  simp only [sgA, List.mem_cons] at hv
  rcases hv with rfl | rfl | rfl | hv
  · rfl
  · rfl
  · rfl
  · unfold setC at hv
    obtain ⟨i, _, rfl⟩ := List.mem_map.1 hv
    rfl
/-- One more byte in a class. -/
def addS (S : Nat → Bool) (k : Nat) : Nat → Bool := fun i => if i = k then true else S i
theorem setC_set (S : Nat → Bool) (k : Nat) : (setC S).set k (.bool true) = setC (addS S k) := by
  apply List.ext_getElem?
  intro i
  by_cases hi : i < 256
  · rw [setC_at _ i hi, List.getElem?_set]
    unfold addS
    by_cases hk : k = i
    · subst hk; rw [if_pos rfl, if_pos (by rw [setC_len]; exact hi), if_pos rfl]
    · rw [if_neg hk, setC_at S i hi, if_neg (Ne.symm hk)]
  · rw [List.getElem?_eq_none (by rw [List.length_set, setC_len]; omega), List.getElem?_eq_none (by rw [setC_len]; omega)]

/-- A byte within a class, and what stands behind it. -/
def memS : List UInt8 → Option (UInt8 × List UInt8)
  | [] => none
  | c :: t => if c = 92 then (match t with | [] => none | d :: u => some (d, u)) else some (c, t)
/-- A range of bytes laid into a class: n of them from lo on. -/
def rngS (S : Nat → Bool) (lo : Nat) : Nat → Nat → Bool
  | 0 => S
  | n + 1 => addS (rngS S lo n) (lo + n)
/-- The member or the range that stands first: the class behind it, and what is left. -/
def oneS (r : List UInt8) (S : Nat → Bool) : Option ((Nat → Bool) × List UInt8) :=
  match memS r with
  | none => none
  | some (lo, r1) =>
    match r1 with
    | y :: x :: u =>
      if y = 45 ∧ x ≠ 93 then
        match memS (x :: u) with
        | none => none
        | some (hi, r2) => if hi < lo then none else some (rngS S lo.toNat (hi.toNat - lo.toNat + 1), r2)
      else some (rngS S lo.toNat 1, r1)
    | _ => some (rngS S lo.toNat 1, r1)
theorem oneS_no {q : List UInt8} {S : Nat → Bool} (hm : memS q = none) : oneS q S = none := by unfold oneS; rw [hm]
theorem oneS_end {q : List UInt8} {S : Nat → Bool} {lo : UInt8} (hm : memS q = some (lo, [])) : oneS q S = some (rngS S lo.toNat 1, []) := by unfold oneS; rw [hm]
theorem oneS_one {q : List UInt8} {S : Nat → Bool} {lo y : UInt8} (hm : memS q = some (lo, [y])) : oneS q S = some (rngS S lo.toNat 1, [y]) := by unfold oneS; rw [hm]
theorem oneS_two {q u : List UInt8} {S : Nat → Bool} {lo y x : UInt8} (hm : memS q = some (lo, y :: x :: u)) (h : ¬ (y = 45 ∧ x ≠ 93)) : oneS q S = some (rngS S lo.toNat 1, y :: x :: u) := by
  unfold oneS; rw [hm]; simp only; rw [if_neg h]
theorem oneS_bad {q u : List UInt8} {S : Nat → Bool} {lo x : UInt8} (hm : memS q = some (lo, 45 :: x :: u)) (h : x ≠ 93) (h2 : memS (x :: u) = none) : oneS q S = none := by
  unfold oneS; rw [hm]; simp [h, h2]
theorem oneS_less {q u r2 : List UInt8} {S : Nat → Bool} {lo x hi : UInt8} (hm : memS q = some (lo, 45 :: x :: u)) (h : x ≠ 93) (h2 : memS (x :: u) = some (hi, r2)) (hl : hi < lo) : oneS q S = none := by
  unfold oneS; rw [hm]; simp [h, h2, hl]
theorem oneS_rng {q u r2 : List UInt8} {S : Nat → Bool} {lo x hi : UInt8} (hm : memS q = some (lo, 45 :: x :: u)) (h : x ≠ 93) (h2 : memS (x :: u) = some (hi, r2)) (hl : ¬ hi < lo) : oneS q S = some (rngS S lo.toNat (hi.toNat - lo.toNat + 1), r2) := by
  unfold oneS; rw [hm]; simp [h, h2, hl]

/-- A class's members up to its end; what is left behind it. -/
def clsS : Nat → List UInt8 → (Nat → Bool) → Option ((Nat → Bool) × List UInt8)
  | 0, _, _ => none
  | _ + 1, [], _ => none
  | n + 1, c :: t, S => if c = 93 then some (S, t) else
      (oneS (c :: t) S).bind fun x => clsS n x.2 x.1
def noSet : Nat → Bool := fun _ => false
/-- A class's members, one at least; what is left. -/
def clsG (r : List UInt8) : Option ((Nat → Bool) × List UInt8) := if r.head? = some 93 then none else clsS (r.length + 1) r noSet
/-- A class: whether it is turned, its members, what is left. -/
def clsF (r : List UInt8) : Option (Bool × (Nat → Bool) × List UInt8) :=
  if r.head? = some 33 then (clsG r.tail).map fun x => (true, x.1, x.2) else (clsG r).map fun x => (false, x.1, x.2)
/-- Stars passed over. -/
def strip : List UInt8 → List UInt8
  | [] => []
  | c :: t => if c = 42 then strip t else c :: t
/-- A pattern's signs. -/
def sigS : Nat → List UInt8 → Option (List Sg)
  | 0, _ => none
  | _ + 1, [] => some []
  | n + 1, c :: t =>
    if c = 42 then (sigS n (strip t)).map (⟨if strip t = t then 2 else 1, 0, false, noSet⟩ :: ·)
    else if c = 63 then (sigS n t).map (⟨3, 0, false, noSet⟩ :: ·)
    else if c = 91 then (match clsF t with | none => none | some (neg, S, r) => (sigS n r).map (⟨4, 0, neg, S⟩ :: ·))
    else if c = 92 then (match t with | [] => none | d :: u => (sigS n u).map (⟨0, d, false, noSet⟩ :: ·))
    else (sigS n t).map (⟨0, c, false, noSet⟩ :: ·)
def sigF (p : List UInt8) : Option (List Sg) := if 100 < p.length then none else sigS (p.length + 1) p

theorem sigS_nil (n : Nat) : sigS (n + 1) [] = some [] := rfl
theorem sigS_star (n : Nat) (t : List UInt8) : sigS (n + 1) (42 :: t) = (sigS n (strip t)).map (⟨if strip t = t then 2 else 1, 0, false, noSet⟩ :: ·) := rfl
theorem sigS_any (n : Nat) (t : List UInt8) : sigS (n + 1) (63 :: t) = (sigS n t).map (⟨3, 0, false, noSet⟩ :: ·) := rfl
theorem sigS_cls (n : Nat) (t : List UInt8) : sigS (n + 1) (91 :: t) = (match clsF t with | none => none | some (neg, S, r) => (sigS n r).map (⟨4, 0, neg, S⟩ :: ·)) := rfl
theorem sigS_esc (n : Nat) (t : List UInt8) : sigS (n + 1) (92 :: t) = (match t with | [] => none | d :: u => (sigS n u).map (⟨0, d, false, noSet⟩ :: ·)) := rfl
theorem sigS_byte (n : Nat) (c : UInt8) (t : List UInt8) (h1 : c ≠ 42) (h2 : c ≠ 63) (h3 : c ≠ 91) (h4 : c ≠ 92) : sigS (n + 1) (c :: t) = (sigS n t).map (⟨0, c, false, noSet⟩ :: ·) := by
  show (if c = 42 then _ else if c = 63 then _ else if c = 91 then _ else if c = 92 then _ else (sigS n t).map (⟨0, c, false, noSet⟩ :: ·)) = _
  rw [if_neg h1, if_neg h2, if_neg h3, if_neg h4]
theorem map_app (X : Option (List Sg)) (L : List Sg) (g : Sg) : (X.map (g :: ·)).map (L ++ ·) = X.map ((L ++ [g]) ++ ·) := by
  cases X <;> simp

/-- Does a sign match a byte? -/
def tkS (g : Sg) (c : UInt8) : Bool :=
  if g.kind = 0 then c == g.c else if g.kind = 1 then true else if g.kind = 4 then (c != 47 && (g.set c.toNat != g.neg)) else c != 47
def star (g : Sg) : Bool := g.kind == 1 || g.kind == 2
def zeroSg : Sg := ⟨0, 0, false, noSet⟩
/-- Signs that may match nothing are passed over: the first k. -/
def emS (L : List Sg) (A : Nat → Bool) : Nat → Nat → Bool
  | 0 => A
  | k + 1 => if emS L A k k && star (L.getD k zeroSg) then addS (emS L A k) (k + 1) else emS L A k
/-- One byte more: of the first k signs. -/
def nxS (L : List Sg) (A : Nat → Bool) (c : UInt8) : Nat → Nat → Bool
  | 0 => noSet
  | k + 1 => if A k && tkS (L.getD k zeroSg) c then (if star (L.getD k zeroSg) then addS (nxS L A c k) k else addS (nxS L A c k) (k + 1)) else nxS L A c k
/-- The states behind a text's bytes. -/
def stS (L : List Sg) (A : Nat → Bool) : List UInt8 → Nat → Bool
  | [] => A
  | c :: t => stS L (emS L (nxS L A c L.length) L.length) t
def matL (L : List Sg) (s : List UInt8) : Bool := stS L (emS L (addS noSet 0) L.length) s L.length
/-- Does a pattern match a text? -/
def matS (p s : List UInt8) : Bool := match sigF p with | none => false | some L => matL L s
/-- May a pattern be? 0: yes. -/
def gckS (p : List UInt8) : Int := if 100 < p.length then 7 else match sigF p with | none => 5 | some _ => 0

example : matS [120] [120] = true := by decide +kernel
example : matS [120] [121] = false := by decide +kernel
example : matS [42] [120] = true := by decide +kernel
example : matS [91, 97, 45, 99, 93, 120] [98, 120] = true := by decide +kernel
example : matS [91, 33, 97, 45, 99, 93, 120] [98, 120] = false := by decide +kernel
example : gckS [91, 93] = 5 ∧ gckS [91, 98, 45, 97, 93] = 5 ∧ gckS [97, 92] = 5 ∧ gckS [97, 42, 42, 99] = 0 := by decide +kernel
end Go.Proofs.YtmmobhmiemmioaaDoor
