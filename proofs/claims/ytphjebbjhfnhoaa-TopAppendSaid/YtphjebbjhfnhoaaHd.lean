/- index: heads, counted, in plain Lean; rows of values · index: head. -/
import Derived.Test.YtphjebbjhfnhoaaCk
import Derived.Deep.OwnRows
namespace Go.Proofs.Ytphjebbjhfnhoaa
open Go.RowKit
/-- A row of values. -/
def rowV (f : Nat → Value) (n : Nat) : Array Value := ((List.range n).map f).toArray
theorem rowV_at (f : Nat → Value) (n i : Nat) (h : i < n) : (rowV f n)[i]? = some (f i) := by
  unfold rowV; rw [List.getElem?_toArray, List.getElem?_map, List.getElem?_range h]; rfl
theorem rowV_size (f : Nat → Value) (n : Nat) : (rowV f n).size = n := by simp [rowV]
theorem rowV_set (f : Nat → Value) (n k : Nat) (v : Value) : (rowV f n).setIfInBounds k v = rowV (updU f k v) n := by
  apply Array.ext_getElem?
  intro i
  by_cases h : i < n
  · rw [rowV_at _ _ _ h]
    by_cases e : i = k
    · subst e; rw [updU_self, Array.getElem?_setIfInBounds_self_of_lt (by rw [rowV_size]; exact h)]
    · rw [updU_ne _ _ _ _ e, Array.getElem?_setIfInBounds_ne (Ne.symm e), rowV_at _ _ _ h]
  · rw [Array.getElem?_eq_none (by simp [rowV_size]; omega), Array.getElem?_eq_none (by rw [rowV_size]; omega)]
theorem rowV_congr (f g : Nat → Value) (n : Nat) (h : ∀ i, i < n → f i = g i) : rowV f n = rowV g n := by
  unfold rowV
  congr 1
  exact List.map_congr_left (fun i hi => h i (List.mem_range.1 hi))
theorem rowK_rowV (kd : IntKind) (f : Nat → Int) (n : Nat) : rowK kd f n = rowV (fun i => .int kd (f i)) n := rfl
theorem made_row (z : Value) (n : Nat) : madeCells #[z] n = rowV (fun _ => z) n := by
  apply Array.ext'
  rw [toList_madeCells_one]
  simp [rowV]
  apply List.ext_getElem
  · simp
  · intro i h1 h2; simp
/-- A mark's head. -/
def hdN (H : Nat) (x : Int) : Nat := (BitVec.ofInt 32 (bits BinOp.xor IntKind.u32 x (x / 65536))).toNat &&& (H - 1)
theorem hdN_lt (H : Nat) (x : Int) (h : 0 < H) : hdN H x < H := by
  unfold hdN
  have := Nat.and_le_right (n := (BitVec.ofInt 32 (bits BinOp.xor IntKind.u32 x (x / 65536))).toNat) (m := H - 1)
  omega
theorem hdN_bits (H : Nat) (x : Int) (h : 0 < H) (h2 : H ≤ 1048576) : bits BinOp.and IntKind.u32 (bits BinOp.xor IntKind.u32 x (x / 65536)) ((H : Int) - 1) = (hdN H x : Int) := by
  have hl := hdN_lt H x h
  show IntKind.u32.wrap (((BitVec.ofInt 32 (bits BinOp.xor IntKind.u32 x (x / 65536))) &&& (BitVec.ofInt 32 ((H : Int) - 1))).toNat : Int) = _
  have e : (H : Int) - 1 = ((H - 1 : Nat) : Int) := by omega
  rw [BitVec.toNat_and, e, toNat_ofInt32 (H - 1) (by omega), wrap_u32]
  show ((hdN H x : Nat) : Int) % 4294967296 = _
  omega
/-- How many of the first k have head h; how many of N lie below it. -/
def cH (hd : Nat → Nat) (k h : Nat) : Nat := (List.range k).countP (fun j => hd j == h)
def eH (hd : Nat → Nat) (N h : Nat) : Nat := (List.range N).countP (fun j => decide (hd j < h))
theorem cH_succ (hd : Nat → Nat) (k h : Nat) : cH hd (k + 1) h = cH hd k h + if hd k = h then 1 else 0 := by
  unfold cH
  rw [List.range_succ, List.countP_append, List.countP_singleton]
  simp
theorem cH_zero (hd : Nat → Nat) (h : Nat) : cH hd 0 h = 0 := rfl
theorem eH_zero (hd : Nat → Nat) (N : Nat) : eH hd N 0 = 0 := by
  unfold eH
  rw [List.countP_eq_zero]
  intro j _; simp
theorem eH_snoc (hd : Nat → Nat) (N h : Nat) : eH hd (N + 1) h = eH hd N h + if hd N < h then 1 else 0 := by
  unfold eH
  rw [List.range_succ, List.countP_append, List.countP_singleton]
  simp
theorem eH_succ (hd : Nat → Nat) : ∀ (N h : Nat), eH hd N (h + 1) = eH hd N h + cH hd N h
  | 0, _ => rfl
  | N + 1, h => by
    rw [eH_snoc, eH_snoc, cH_succ, eH_succ hd N h]
    by_cases h1 : hd N < h
    · rw [if_pos h1, if_pos (by omega), if_neg (by omega)]; omega
    · by_cases h2 : hd N = h
      · rw [if_neg h1, if_pos (by omega), if_pos h2]; omega
      · rw [if_neg h1, if_neg (by omega), if_neg h2]; omega
theorem eH_le (hd : Nat → Nat) (N h : Nat) : eH hd N h ≤ N := by
  unfold eH
  have := List.countP_le_length (p := fun j => decide (hd j < h)) (l := List.range N)
  rwa [List.length_range] at this
theorem eH_mono (hd : Nat → Nat) (N : Nat) {a b : Nat} (h : a ≤ b) : eH hd N a ≤ eH hd N b := by
  induction b with
  | zero => rw [show a = 0 by omega]; exact Nat.le_refl _
  | succ b ih =>
    by_cases e : a = b + 1
    · subst e; exact Nat.le_refl _
    · exact Nat.le_trans (ih (by omega)) (by rw [eH_succ]; omega)
theorem cH_mono (hd : Nat → Nat) (h : Nat) {a b : Nat} (hab : a ≤ b) : cH hd a h ≤ cH hd b h := by
  induction b with
  | zero => rw [show a = 0 by omega]; exact Nat.le_refl _
  | succ b ih =>
    by_cases e : a = b + 1
    · subst e; exact Nat.le_refl _
    · exact Nat.le_trans (ih (by omega)) (by rw [cH_succ]; omega)
theorem cH_le (hd : Nat → Nat) (k h : Nat) : cH hd k h ≤ k := by
  unfold cH
  have := List.countP_le_length (p := fun j => hd j == h) (l := List.range k)
  rwa [List.length_range] at this
theorem cH_lt (hd : Nat → Nat) (N k : Nat) (h : k < N) : cH hd k (hd k) < cH hd N (hd k) := by
  have := cH_mono hd (hd k) (show k + 1 ≤ N by omega)
  rw [cH_succ, if_pos rfl] at this
  omega
/-- Where mark k's number stands. -/
def posH (hd : Nat → Nat) (N k : Nat) : Nat := eH hd N (hd k) + cH hd k (hd k)
theorem posH_lt (hd : Nat → Nat) (N k : Nat) (h : k < N) : posH hd N k < eH hd N (hd k + 1) := by
  unfold posH; rw [eH_succ]; have := cH_lt hd N k h; omega
theorem posH_inj (hd : Nat → Nat) (N i k : Nat) (hik : i < k) (hk : k < N) : posH hd N i ≠ posH hd N k := by
  by_cases e : hd i = hd k
  · have := cH_mono hd (hd i) (show i + 1 ≤ k by omega)
    rw [cH_succ, if_pos rfl] at this
    unfold posH
    rw [← e]; omega
  · have h1 := posH_lt hd N i (by omega)
    have h2 := posH_lt hd N k hk
    have l1 : eH hd N (hd i) ≤ posH hd N i := Nat.le_add_right _ _
    have l2 : eH hd N (hd k) ≤ posH hd N k := Nat.le_add_right _ _
    rcases Nat.lt_or_gt_of_ne e with h | h
    · have := eH_mono hd N (show hd i + 1 ≤ hd k by omega)
      omega
    · have := eH_mono hd N (show hd k + 1 ≤ hd i by omega)
      omega
/-- What the row of all numbers holds after k marks. -/
def gH (hd : Nat → Nat) (N : Nat) : Nat → (Nat → Int)
  | 0 => zN
  | k + 1 => updN (gH hd N k) (posH hd N k) (k : Int)
theorem gH_at (hd : Nat → Nat) (N : Nat) : ∀ (k i : Nat), i < k → k ≤ N → gH hd N k (posH hd N i) = (i : Int)
  | 0, i, h, _ => absurd h (Nat.not_lt_zero i)
  | k + 1, i, h, hk => by
    unfold gH updN
    by_cases e : i = k
    · subst e; rw [if_pos rfl]
    · rw [if_neg (posH_inj hd N i k (by omega) (by omega))]
      exact gH_at hd N k i (by omega) (by omega)
theorem gH_bound (hd : Nat → Nat) (N : Nat) (hN : 0 < N) : ∀ (k p : Nat), k ≤ N → 0 ≤ gH hd N k p ∧ gH hd N k p < (N : Int)
  | 0, p, _ => ⟨Int.le_refl _, by show (0 : Int) < N; omega⟩
  | k + 1, p, hk => by
    unfold gH updN
    by_cases e : p = posH hd N k
    · rw [if_pos e]; omega
    · rw [if_neg e]; exact gH_bound hd N hN k p (by omega)
/-- The row of ends: counted, then summed. -/
def e2H (hd : Nat → Nat) (k : Nat) : Nat → Int := fun j => if j = 0 then 0 else (cH hd k (j - 1) : Int)
theorem e2H_step (hd : Nat → Nat) (k : Nat) : updN (e2H hd k) (hd k + 1) (e2H hd k (hd k + 1) + 1) = e2H hd (k + 1) := by
  funext j
  unfold updN e2H
  by_cases e : j = hd k + 1
  · subst e
    rw [if_pos rfl, if_neg (by omega), if_neg (by omega), cH_succ, if_pos (by omega)]
    simp
  · rw [if_neg e]
    by_cases e0 : j = 0
    · rw [if_pos e0, if_pos e0]
    · rw [if_neg e0, if_neg e0, cH_succ, if_neg (by omega)]; simp
def e3H (hd : Nat → Nat) (N h : Nat) : Nat → Int := fun j => if j ≤ h then (eH hd N j : Int) else (cH hd N (j - 1) : Int)
theorem e3H_zero (hd : Nat → Nat) (N : Nat) : e2H hd N = e3H hd N 0 := by
  funext j
  unfold e2H e3H
  by_cases e : j = 0
  · subst e; rw [if_pos rfl, if_pos (Nat.le_refl _), eH_zero]; rfl
  · rw [if_neg e, if_neg (by omega)]
theorem e3H_step (hd : Nat → Nat) (N h : Nat) : updN (e3H hd N h) (h + 1) (e3H hd N h (h + 1) + e3H hd N h h) = e3H hd N (h + 1) := by
  funext j
  unfold updN e3H
  by_cases e : j = h + 1
  · subst e
    rw [if_pos rfl, if_neg (by omega), if_pos (Nat.le_refl _), if_pos (Nat.le_refl _), eH_succ]
    simp; omega
  · rw [if_neg e]
    by_cases e1 : j ≤ h
    · rw [if_pos e1, if_pos (by omega)]
    · rw [if_neg e1, if_neg (by omega)]
/-- A chain's slice. -/
def chV (hd : Nat → Nat) (N al j n : Nat) : Value := .slice (some (if cH hd N j = 0 then ⟨al, 0, none⟩ else ⟨al, eH hd N j, none⟩)) n (cH hd N j)
def f4H (hd : Nat → Nat) (N al h : Nat) : Nat → Value := fun j => if j < h then chV hd N al j 0 else .slice none 0 0
theorem f4H_step (hd : Nat → Nat) (N al h : Nat) : updU (f4H hd N al h) h (chV hd N al h 0) = f4H hd N al (h + 1) := by
  funext j
  unfold updU f4H
  by_cases e : j = h
  · subst e; rw [if_pos rfl, if_pos (by omega)]
  · rw [if_neg e]
    by_cases e1 : j < h
    · rw [if_pos e1, if_pos (by omega)]
    · rw [if_neg e1, if_neg (by omega)]
def f5H (hd : Nat → Nat) (N al k : Nat) : Nat → Value := fun j => chV hd N al j (cH hd k j)
theorem f5H_step (hd : Nat → Nat) (N al k : Nat) : updU (f5H hd N al k) (hd k) (chV hd N al (hd k) (cH hd k (hd k) + 1)) = f5H hd N al (k + 1) := by
  funext j
  unfold updU f5H
  by_cases e : j = hd k
  · subst e; rw [if_pos rfl, cH_succ, if_pos rfl]
  · rw [if_neg e, cH_succ, if_neg (fun h => e h.symm)]; rfl
end Go.Proofs.Ytphjebbjhfnhoaa

namespace Go.Proofs.Ytphjebbjhfnhoaa
open Go.RowKit
set_option maxHeartbeats 1000000 in
theorem head_spec (x : Nat) (v0 v1 v2 : Value) (ad : Option Addr) (H cap : Nat) (wk : Int) (w : World) (hb : Blk w x 85 #[v0, v1, v2, .slice ad H cap]) (h1 : 0 < H) (h2 : H ≤ 1048576) :
    Calls Try.prog 36 #[.pointer (some ⟨x, 0, none⟩), .int .u32 wk] w fun e w' => e = .returned (.int .i64 (hdN H wk : Int)) ∧ w = w' := by
  have c3 := hb.cell 3 rfl
  have H1 : (0 : Int) < (H : Int) := by omega
  have H2 : (H : Int) ≤ 1048576 := by omega
  have HH := Lib.hid (hdN_bits H wk h1 h2)
  have hlt := hdN_lt H wk h1
  have d1 : (hdN H wk : Int) ≤ 1048576 := by omega
  generalize hdN H wk = d at HH d1 ⊢
  clear hb h1 h2 hlt
  go_enter Try.func36, Try.ntmps36
  go_wp2_with (fail)
  have hw : wrap64 (d : Int) = d := by unfold wrap64; omega
  rw [HH.out, hw]
  go_ret
  exact ⟨rfl, rfl⟩
end Go.Proofs.Ytphjebbjhfnhoaa
