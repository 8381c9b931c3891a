/- What steps did, as a text: counts, lines. -/
import Derived.Test.YthnhieikeigjcaaDoorHum
import Derived.Test.YthnhieikeigjcaaDoorPct
namespace Go.Proofs.YthnhieikeigjcaaDoor
open Go.RowKit

/-- How many steps of a kind there are, of the kinds from 1 on. -/
def cOf (ks : List Int) (j : Nat) : Nat := if j = 0 then 0 else ks.countP (fun k => decide (k = (j : Int)))
theorem cOf_nil (j : Nat) : cOf [] j = 0 := by unfold cOf; split <;> rfl
theorem cOf_le (ks : List Int) (j : Nat) : cOf ks j ≤ ks.length := by
  unfold cOf; split
  · exact Nat.zero_le _
  · exact List.countP_le_length
theorem cOf_snoc (l : List Int) (k : Int) (j : Nat) : cOf (l ++ [k]) j = cOf l j + if 1 ≤ j ∧ k = (j : Int) then 1 else 0 := by
  unfold cOf
  by_cases hj : j = 0
  · rw [if_pos hj, if_pos hj, if_neg (by omega)]
  · rw [if_neg hj, if_neg hj, List.countP_append, List.countP_singleton]
    by_cases hk : k = (j : Int)
    · rw [if_pos (by simpa using hk), if_pos ⟨by omega, hk⟩]
    · rw [if_neg (by simpa using hk), if_neg (fun h => hk h.2)]
theorem cOf_append (l m : List Int) (j : Nat) : cOf (l ++ m) j = cOf l j + cOf m j := by
  unfold cOf; split
  · rfl
  · rw [List.countP_append]
theorem cOf_reverse (l : List Int) (j : Nat) : cOf l.reverse j = cOf l j := by
  unfold cOf; split
  · rfl
  · rw [List.countP_reverse]

/-- The eight counts as cells. -/
def cntA (c : Nat → Nat) : Array Value := #[.int .i64 (c 0), .int .i64 (c 1), .int .i64 (c 2), .int .i64 (c 3), .int .i64 (c 4), .int .i64 (c 5), .int .i64 (c 6), .int .i64 (c 7)]
theorem by8 {p : Nat → Prop} (h0 : p 0) (h1 : p 1) (h2 : p 2) (h3 : p 3) (h4 : p 4) (h5 : p 5) (h6 : p 6) (h7 : p 7) : ∀ k, k < 8 → p k := fun k h => by
  match k, h with
  | 0, _ => exact h0
  | 1, _ => exact h1
  | 2, _ => exact h2
  | 3, _ => exact h3
  | 4, _ => exact h4
  | 5, _ => exact h5
  | 6, _ => exact h6
  | 7, _ => exact h7
theorem cnt_at (c : Nat → Nat) : ∀ k, k < 8 → (cntA c)[k]? = some (.int .i64 (c k)) := by8 rfl rfl rfl rfl rfl rfl rfl rfl
theorem cnt_set (c : Nat → Nat) (m : Nat) : ∀ k, k < 8 → (cntA c).setIfInBounds k (.int .i64 m) = cntA (fun j => if j = k then m else c j) := by8 rfl rfl rfl rfl rfl rfl rfl rfl
theorem cnt_one (c : Nat → Nat) : (cntA c).all (·.oneCell') = true := by simp [cntA, Value.oneCell']
theorem cntA_congr {c d : Nat → Nat} (h : ∀ j, j < 8 → c j = d j) : cntA c = cntA d := by
  unfold cntA
  rw [h 0 (by omega), h 1 (by omega), h 2 (by omega), h 3 (by omega), h 4 (by omega), h 5 (by omega), h 6 (by omega), h 7 (by omega)]

/-- The kinds' words. -/
def wd : Nat → ByteArray
  | 1 => ⟨#[100, 105, 114, 115]⟩
  | 2 => ⟨#[102, 105, 108, 101, 115]⟩
  | 3 => ⟨#[108, 105, 110, 107, 115]⟩
  | 4 => ⟨#[110, 97, 109, 101, 115]⟩
  | 5 => ⟨#[115, 101, 116]⟩
  | 6 => ⟨#[103, 111, 110, 101]⟩
  | 7 => ⟨#[109, 111, 118, 101, 100]⟩
  | _ => ⟨#[]⟩
def wdA : Array Value := #[.string (wd 0), .string (wd 1), .string (wd 2), .string (wd 3), .string (wd 4), .string (wd 5), .string (wd 6), .string (wd 7)]
theorem wd_at : ∀ k, k < 8 → wdA[k]? = some (.string (wd k)) := by8 rfl rfl rfl rfl rfl rfl rfl rfl
theorem wd_size : ∀ k, k < 8 → (wd k).size ≤ 5 := by decide

/-- A kind's line; the lines of the first kinds. -/
def lineB (k n : Nat) : ByteArray := wd k ++ ⟨#[32]⟩ ++ digB n ++ ⟨#[10]⟩
def linS (c : Nat → Nat) : Nat → ByteArray
  | 0 => ⟨#[]⟩
  | j + 1 => if 0 < c (j + 1) then linS c j ++ lineB (j + 1) (c (j + 1)) else linS c j
theorem line_size (k n : Nat) (hk : k < 8) (hn : n ≤ 9223372036854775807) : (lineB k n).size ≤ 26 := by
  have h1 := wd_size k hk
  have h2 := digB_size n hn
  unfold lineB
  rw [ByteArray.size_append, ByteArray.size_append, ByteArray.size_append]
  have : (⟨#[32]⟩ : ByteArray).size = 1 := rfl
  have : (⟨#[10]⟩ : ByteArray).size = 1 := rfl
  omega
theorem lin_size (c : Nat → Nat) (hc : ∀ j, c j ≤ 9223372036854775807) : ∀ j, j < 8 → (linS c j).size ≤ j * 26 := by
  intro j
  induction j with
  | zero => intro _; exact Nat.le_refl 0
  | succ j ih =>
    intro hj
    have h1 := ih (by omega)
    have h2 := line_size (j + 1) (c (j + 1)) hj (hc _)
    unfold linS
    split
    · rw [ByteArray.size_append]; omega
    · omega
theorem linS_congr {c d : Nat → Nat} : ∀ m, (∀ j, j ≤ m → 1 ≤ j → c j = d j) → linS c m = linS d m := by
  intro m
  induction m with
  | zero => intro _; rfl
  | succ m ih =>
    intro h
    unfold linS
    rw [ih (fun j hj h1 => h j (by omega) h1), h (m + 1) (Nat.le_refl _) (by omega)]

/-- The two last lines. -/
def headB (t k : Nat) : ByteArray := ⟨#[116, 111, 108, 100, 32]⟩ ++ humB t ++ ⟨#[44, 32, 99, 111, 112, 105, 101, 100, 32]⟩ ++ humB k ++ ⟨#[10]⟩
def spaB (k a : Nat) : ByteArray := ⟨#[115, 112, 97, 114, 101, 100, 32]⟩ ++ pctB k a ++ ⟨#[10]⟩
def allN (t k : Nat) : Nat := if t + k ≤ 9223372036854775807 then t + k else 9223372036854775807
/-- What steps did. -/
def totB (c : Nat → Nat) (t k : Nat) : ByteArray := linS c 7 ++ headB t k ++ spaB k (allN t k)

theorem hum_size (m : Nat) (h : m ≤ 9223372036854775807) : (humB m).size ≤ 41 := by
  unfold humB
  split
  · rw [ByteArray.size_append]
    have := digB_size m h
    have : (⟨#[66]⟩ : ByteArray).size = 1 := rfl
    omega
  · rw [ByteArray.size_append, ByteArray.size_append, ByteArray.size_append]
    have hu : 1024 ≤ unitN m := by unfold unitN; split; omega; split <;> omega
    have hq : m / unitN m ≤ m := Nat.div_le_self _ _
    have hu2 : unitN m ≤ 1073741824 := by unfold unitN; split; omega; split <;> omega
    have hr : m % unitN m * 10 / unitN m ≤ m % unitN m * 10 := Nat.div_le_self _ _
    have hr2 : m % unitN m < unitN m := Nat.mod_lt _ (by omega)
    have := digB_size (m / unitN m) (by omega)
    have := digB_size (m % unitN m * 10 / unitN m) (by omega)
    have : (⟨#[46]⟩ : ByteArray).size = 1 := rfl
    have : (letB m).size = 1 := by unfold letB; split; rfl; split <;> rfl
    omega
theorem pct_size (a b : Nat) : (pctB a b).size ≤ 20 := by
  unfold pctB
  rw [ByteArray.size_append]
  have := digB_size (pctN a b) (by have := pctN_le a b; omega)
  have : (⟨#[37]⟩ : ByteArray).size = 1 := rfl
  omega
theorem head_size (t k : Nat) (ht : t ≤ 9223372036854775807) (hk : k ≤ 9223372036854775807) : (headB t k).size ≤ 100 := by
  have := hum_size t ht
  have := hum_size k hk
  unfold headB
  rw [ByteArray.size_append, ByteArray.size_append, ByteArray.size_append, ByteArray.size_append]
  have : (⟨#[116, 111, 108, 100, 32]⟩ : ByteArray).size = 5 := rfl
  have : (⟨#[44, 32, 99, 111, 112, 105, 101, 100, 32]⟩ : ByteArray).size = 9 := rfl
  have : (⟨#[10]⟩ : ByteArray).size = 1 := rfl
  omega
theorem spa_size (k a : Nat) : (spaB k a).size ≤ 30 := by
  have := pct_size k a
  unfold spaB
  rw [ByteArray.size_append, ByteArray.size_append]
  have : (⟨#[115, 112, 97, 114, 101, 100, 32]⟩ : ByteArray).size = 7 := rfl
  have : (⟨#[10]⟩ : ByteArray).size = 1 := rfl
  omega
theorem tot_size (c : Nat → Nat) (hc : ∀ j, c j ≤ 9223372036854775807) (t k : Nat) (ht : t ≤ 9223372036854775807) (hk : k ≤ 9223372036854775807) : (totB c t k).size ≤ 312 := by
  have := lin_size c hc 7 (by omega)
  have := head_size t k ht hk
  have := spa_size k (allN t k)
  unfold totB
  rw [ByteArray.size_append, ByteArray.size_append]
  omega
end Go.Proofs.YthnhieikeigjcaaDoor
