/- What Parse computes, in plain words. -/
import Derived.Test.YtlfaeabbfejjcaaDoorSay
import Derived.Test.YtlfaeabbfejjcaaDoorChk
namespace Go.Proofs.YtlfaeabbfejjcaaDoor
open Go.RowKit

/-- What field i says of a word. -/
def fS (i : Nat) (w : List UInt8) : Int × Bool := sayS (nm i).data.toList (kd i) w

/-- The first of the last k fields that a word speaks of, and its number. -/
def findF (w : List UInt8) : Nat → Option (Nat × Int)
  | 0 => none
  | k + 1 => if (fS (20 - k) w).2 = true then some (20 - k, (fS (20 - k) w).1) else findF w k

def updB (s : Nat → Bool) (i : Nat) : Nat → Bool := fun j => if j = i then true else s j

/-- The rest of the words, read on. -/
def parseL : List ByteArray → Nat → (Nat → Int) → (Nat → Bool) → (Nat → Int) × Nat × Int
  | [], at', f, _ => if okS f = true then (f, at', 0) else (zf, at', 2)
  | w :: t, at', f, s => match findF w.data.toList 21 with
    | none => (zf, at', 5)
    | some (i, n) => if s i = true then (zf, at', 11) else parseL t (at' + 1) (upd f i n) (updB s i)

def parseS (L : List ByteArray) : (Nat → Int) × Nat × Int := parseL L 0 dflt (fun _ => false)

theorem findF_lt (w : List UInt8) : ∀ k i n, k ≤ 21 → findF w k = some (i, n) → i < 21 := by
  intro k
  induction k with
  | zero => intro i n _ h; cases h
  | succ k ih =>
    intro i n hk h
    rw [findF] at h
    split at h
    · injection h with h; injection h with h1 h2; omega
    · exact ih i n (by omega) h

/-- The cells of the row of fields that were said. -/
def bcells (s : Nat → Bool) : Array Value := #[.bool (s 0), .bool (s 1), .bool (s 2), .bool (s 3), .bool (s 4), .bool (s 5), .bool (s 6), .bool (s 7), .bool (s 8), .bool (s 9), .bool (s 10), .bool (s 11), .bool (s 12), .bool (s 13), .bool (s 14), .bool (s 15), .bool (s 16), .bool (s 17), .bool (s 18), .bool (s 19), .bool (s 20)]
theorem bcells_upd (s : Nat → Bool) : ∀ i, i < 21 → (bcells s).setIfInBounds i (.bool true) = bcells (updB s i) := by21 rfl rfl rfl rfl rfl rfl rfl rfl rfl rfl rfl rfl rfl rfl rfl rfl rfl rfl rfl rfl rfl
theorem bcells_get (s : Nat → Bool) : ∀ i, i < 21 → (bcells s)[i]? = some (.bool (s i)) := by21 rfl rfl rfl rfl rfl rfl rfl rfl rfl rfl rfl rfl rfl rfl rfl rfl rfl rfl rfl rfl rfl
theorem fcells_0 (bs : Nat → Nat) : ∀ i, i < 21 → (fcells bs)[4 * i]? = some (.string (nm i)) := by21 rfl rfl rfl rfl rfl rfl rfl rfl rfl rfl rfl rfl rfl rfl rfl rfl rfl rfl rfl rfl rfl
theorem fcells_1 (bs : Nat → Nat) : ∀ i, i < 21 → (fcells bs)[4 * i + 1]? = some (.int .i64 (kd i)) := by21 rfl rfl rfl rfl rfl rfl rfl rfl rfl rfl rfl rfl rfl rfl rfl rfl rfl rfl rfl rfl rfl
theorem fcells_2 (bs : Nat → Nat) : ∀ i, i < 21 → (fcells bs)[4 * i + 2]? = some (clo (gF i) (bs i)) := by21 rfl rfl rfl rfl rfl rfl rfl rfl rfl rfl rfl rfl rfl rfl rfl rfl rfl rfl rfl rfl rfl
theorem fcells_3 (bs : Nat → Nat) : ∀ i, i < 21 → (fcells bs)[4 * i + 3]? = some (clo (sF i) (bs i)) := by21 rfl rfl rfl rfl rfl rfl rfl rfl rfl rfl rfl rfl rfl rfl rfl rfl rfl rfl rfl rfl rfl
theorem nm_small : ∀ i, i < 21 → (nm i).size ≤ 100 := by21 (by decide) (by decide) (by decide) (by decide) (by decide) (by decide) (by decide) (by decide) (by decide) (by decide) (by decide) (by decide) (by decide) (by decide) (by decide) (by decide) (by decide) (by decide) (by decide) (by decide) (by decide)
end Go.Proofs.YtlfaeabbfejjcaaDoor
