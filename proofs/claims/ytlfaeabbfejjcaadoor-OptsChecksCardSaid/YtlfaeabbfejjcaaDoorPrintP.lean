/- Plain laws of options printed as words: they are parsed as the same options; no more words than there were. No program. -/
import Derived.Test.YtlfaeabbfejjcaaDoorNumP
import Derived.Test.YtlfaeabbfejjcaaDoorOrdP
namespace Go.Proofs.YtlfaeabbfejjcaaDoor
open Go.Lib

/-- A flag as a number. -/
def pbit (f : Nat → Int) (i : Nat) : Int := if f i = 1 then 1 else 0
/-- Field i's number. -/
def nf (f : Nat → Int) (i : Nat) : Int := if 2 ≤ i ∧ i ≤ 17 then pbit f i else f i
/-- Options whose flags are 0 or 1. -/
def normP (f : Nat → Int) : Prop := ∀ i, 2 ≤ i → i ≤ 17 → f i = pbit f i

/-- The word that says field i. -/
def wordOf (f : Nat → Int) (i : Nat) : List UInt8 :=
  if kd i = 1 then pf i ++ decDigits (f i).toNat else if kd i = 2 then pf i ++ (whn (f i).toNat).data.toList
  else if f i = 1 then [45, 45] ++ (nm i).data.toList else [45, 45, 110, 111, 45] ++ (nm i).data.toList
def wordB (f : Nat → Int) (i : Nat) : ByteArray := ⟨(wordOf f i).toArray⟩
/-- The fields below k that are not as they are by default. -/
def difs (f : Nat → Int) (k : Nat) : List Nat := (List.range k).filter fun i => decide (nf f i ≠ nf dflt i)
/-- The words of the fields below k. -/
def printL (f : Nat → Int) (k : Nat) : List ByteArray := (difs f k).map (wordB f)

theorem difs_skip {f : Nat → Int} {k : Nat} (h : nf f k = nf dflt k) : difs f (k + 1) = difs f k := by
  unfold difs; rw [List.range_succ, List.filter_append]; simp [h]
theorem difs_take {f : Nat → Int} {k : Nat} (h : nf f k ≠ nf dflt k) : difs f (k + 1) = difs f k ++ [k] := by
  unfold difs; rw [List.range_succ, List.filter_append]; simp [h]
theorem printL_skip {f : Nat → Int} {k : Nat} (h : nf f k = nf dflt k) : printL f (k + 1) = printL f k := by unfold printL; rw [difs_skip h]
theorem printL_take {f : Nat → Int} {k : Nat} (h : nf f k ≠ nf dflt k) : printL f (k + 1) = printL f k ++ [wordB f k] := by unfold printL; rw [difs_take h, List.map_append]; rfl
theorem printL_len (f : Nat → Int) (k : Nat) : (printL f k).length ≤ k := by
  unfold printL difs; rw [List.length_map]; exact Nat.le_trans (List.length_filter_le _ _) (by simp)

/-! Digits are read back. -/
theorem digL_dec (n : Nat) : digL (decDigits n) 0 = some (n : Int) := by
  induction n using Nat.strongRecOn with
  | _ n ih =>
    by_cases h : n < 10
    · rw [decDigits_one h, digL, digL]
      rw [if_neg (by rw [UInt8.toNat_ofNat']; omega), UInt8.toNat_ofNat']
      congr 1; omega
    · rw [decDigits, dif_neg h, digL_app, ih _ (by omega), Option.bind_some]
      rw [if_neg (by rw [UInt8.toNat_ofNat']; omega), UInt8.toNat_ofNat']
      congr 1; omega
theorem nDig_le : ∀ (k u : Nat), u < 10 ^ (k + 1) → nDigits u ≤ k + 1 := by
  intro k
  induction k with
  | zero => intro u h; rw [nDigits_small (by simpa using h)]; exact Nat.le_refl _
  | succ k ih =>
    intro u h
    by_cases hu : u < 10
    · rw [nDigits_small hu]; omega
    · rw [nDigits_big hu]
      have := ih (u / 10) (by rw [Nat.pow_succ] at h; omega)
      omega
theorem digS_dec {n : Nat} (h : n < 10000000000) : digS (decDigits n) = ((n : Int), true) := by
  refine digS_some ?_ (digL_dec n)
  have hl := decDigits_length n
  have h1 := nDigits_pos n
  have h2 := nDig_le 9 n h
  rintro (h3 | h3 | ⟨h3, h4⟩)
  · omega
  · omega
  · have := dec_head n h4
    subst this
    rw [decDigits_one (by decide)] at h3
    simp at h3

/-! No other field reads the word. -/
def apA : Bool := (List.range 21).all fun i => (decide (2 ≤ i) && decide (i ≤ 17)) || (List.range 21).all fun j => decide (i = j) || (if 2 ≤ j ∧ j ≤ 17 then apartS i j && apartN i j else apart2 i j)
theorem apA_true : apA = true := by decide +kernel
def apB : Bool := (List.range 21).all fun i => !(decide (2 ≤ i) && decide (i ≤ 17)) || (List.range 21).all fun j => decide (i = j) ||
  (!(fS j ([45, 45] ++ (nm i).data.toList)).2 && !(fS j ([45, 45, 110, 111, 45] ++ (nm i).data.toList)).2)
theorem apB_true : apB = true := by decide +kernel
def apC : Bool := (List.range 21).all fun i => !(decide (2 ≤ i) && decide (i ≤ 17)) ||
  (decide (fS i ([45, 45] ++ (nm i).data.toList) = (1, true)) && decide (fS i ([45, 45, 110, 111, 45] ++ (nm i).data.toList) = (0, true)))
theorem apC_true : apC = true := by decide +kernel

theorem fS_apart {i j : Nat} (hi : i < 21) (hj : j < 21) (hij : i ≠ j) (h : ¬ (2 ≤ i ∧ i ≤ 17)) (t : List UInt8) : (fS j (pf i ++ t)).2 = false := by
  have h1 := List.all_eq_true.1 apA_true i (List.mem_range.2 hi)
  rw [Bool.or_eq_true] at h1
  rcases h1 with h1 | h1
  · simp at h1; exact absurd h1 h
  · have h2 := List.all_eq_true.1 h1 j (List.mem_range.2 hj)
    rw [decide_eq_false hij, Bool.false_or] at h2
    by_cases hk : 2 ≤ j ∧ j ≤ 17
    · rw [if_pos hk, Bool.and_eq_true] at h2
      rw [fS_sw hj hk, if_neg (apart_ne h2.1 t), if_neg (apart_ne h2.2 t)]
    · rw [if_neg hk] at h2
      rw [fS_val hj hk, apart2_ok h2 t]; rfl
theorem fS_flags {i j : Nat} (hi : i < 21) (hj : j < 21) (hij : i ≠ j) (h : 2 ≤ i ∧ i ≤ 17) : (fS j ([45, 45] ++ (nm i).data.toList)).2 = false ∧ (fS j ([45, 45, 110, 111, 45] ++ (nm i).data.toList)).2 = false := by
  have h1 := List.all_eq_true.1 apB_true i (List.mem_range.2 hi)
  rw [Bool.or_eq_true] at h1
  rcases h1 with h1 | h1
  · simp at h1; omega
  · have h2 := List.all_eq_true.1 h1 j (List.mem_range.2 hj)
    rw [decide_eq_false hij, Bool.false_or] at h2
    simpa using h2
theorem fS_own {i : Nat} (hi : i < 21) (h : 2 ≤ i ∧ i ≤ 17) : fS i ([45, 45] ++ (nm i).data.toList) = (1, true) ∧ fS i ([45, 45, 110, 111, 45] ++ (nm i).data.toList) = (0, true) := by
  have h1 := List.all_eq_true.1 apC_true i (List.mem_range.2 hi)
  rw [Bool.or_eq_true] at h1
  rcases h1 with h1 | h1
  · simp at h1; omega
  · rw [Bool.and_eq_true, decide_eq_true_eq, decide_eq_true_eq] at h1; exact h1

theorem findF_first (w : List UInt8) (i : Nat) (n : Int) (hi : i < 21) (hw : fS i w = (n, true)) (ho : ∀ j, j < 21 → i ≠ j → (fS j w).2 = false) : ∀ k, k ≤ 21 → 21 - k ≤ i → findF w k = some (i, n) := by
  intro k
  induction k with
  | zero => intro _ h; omega
  | succ k ih =>
    intro hk h
    rw [findF]
    by_cases he : 20 - k = i
    · rw [he, hw]; rfl
    · rw [ho (20 - k) (by omega) (fun e => he e.symm)]
      simp only [Bool.false_eq_true, if_false]
      exact ih (by omega) (by omega)

theorem pre_self (p t : List UInt8) : hasPrefix (p ++ t) p = true ∧ trimPrefix (p ++ t) p = t := by
  have h : hasPrefix (p ++ t) p = true := by unfold hasPrefix; rw [List.isPrefixOf_iff_prefix]; exact ⟨t, rfl⟩
  exact ⟨h, by unfold trimPrefix; rw [if_pos h]; simp⟩

theorem kd_three : ∀ i, i < 21 → (kd i = 1 ∧ ¬ (2 ≤ i ∧ i ≤ 17) ∧ (i = 1 ∨ i = 18 ∨ i = 19 ∨ i = 20)) ∨ (kd i = 2 ∧ i = 0) ∨ (kd i = 0 ∧ 2 ≤ i ∧ i ≤ 17) := by decide

theorem ok_bd {f : Nat → Int} (h : okS f = true) (i : Nat) (hi : i = 1 ∨ i = 18 ∨ i = 19 ∨ i = 20) : 0 ≤ f i ∧ f i ≤ 2147483647 := by
  obtain ⟨_, _, h2, h3, h4, h5, h6, h7, h8, _⟩ := (okS_iff f).1 h
  rcases hi with rfl | rfl | rfl | rfl <;> omega

/-- A printed word says its field and its number. -/
theorem find_word {f : Nat → Int} (hok : okS f = true) (hn : normP f) (i : Nat) (hi : i < 21) : findF (wordOf f i) 21 = some (i, f i) := by
  unfold wordOf
  rcases kd_three i hi with ⟨hk, hs, hx⟩ | ⟨hk, rfl⟩ | ⟨hk, hs⟩
  · rw [if_pos hk]
    obtain ⟨b0, b1⟩ := ok_bd hok i hx
    refine findF_first _ i _ hi ?_ (fun j hj hij => fS_apart hi hj hij hs _) 21 (Nat.le_refl _) (by omega)
    obtain ⟨p1, p2⟩ := pre_self (pf i) (decDigits (f i).toNat)
    rw [fS_val hi hs, if_pos p1, if_pos hk, p2, digS_dec (by omega)]
    congr 1; omega
  · rw [if_neg (by rw [hk]; decide), if_pos hk]
    obtain ⟨a0, a1, _⟩ := (okS_iff f).1 hok
    refine findF_first _ 0 _ hi ?_ (fun j hj hij => fS_apart hi hj hij (by omega) _) 21 (Nat.le_refl _) (by omega)
    obtain ⟨p1, p2⟩ := pre_self (pf 0) (whn (f 0).toNat).data.toList
    rw [fS_val hi (by omega), if_pos p1, if_neg (by rw [hk]; decide), p2, whenS_hit (k := (f 0).toNat) (by omega) rfl]
    congr 1; omega
  · rw [if_neg (by rw [hk]; decide), if_neg (by rw [hk]; decide)]
    have hf := hn i hs.1 hs.2
    by_cases h1 : f i = 1
    · rw [if_pos h1]
      exact findF_first _ i _ hi (by rw [(fS_own hi hs).1, h1]) (fun j hj hij => (fS_flags hi hj hij hs).1) 21 (Nat.le_refl _) (by omega)
    · rw [if_neg h1]
      have h0 : f i = 0 := by unfold pbit at hf; rw [if_neg h1] at hf; exact hf
      exact findF_first _ i _ hi (by rw [(fS_own hi hs).2, h0]) (fun j hj hij => (fS_flags hi hj hij hs).2) 21 (Nat.le_refl _) (by omega)

theorem difs_lt (f : Nat → Int) (k : Nat) : ∀ i ∈ difs f k, i < k := fun i hi => by
  unfold difs at hi; exact List.mem_range.1 (List.mem_filter.1 hi).1
theorem difs_nodup (f : Nat → Int) (k : Nat) : (difs f k).Nodup := by
  unfold difs; exact List.Pairwise.filter _ List.nodup_range

/-- The numbers that the words say. -/
def pairs (f : Nat → Int) : List (Nat × Int) := (difs f 21).map fun i => (i, f i)
theorem pairs_fst (f : Nat → Int) : (pairs f).map Prod.fst = difs f 21 := by unfold pairs; rw [List.map_map]; simp [Function.comp_def]

theorem good_print {f : Nat → Int} (hok : okS f = true) (hn : normP f) : Good (printL f 21) (fun _ => false) (pairs f) := by
  refine ⟨?_, by rw [pairs_fst]; exact difs_nodup f 21, fun _ _ => rfl⟩
  unfold printL pairs
  rw [List.map_map, List.map_map]
  apply List.map_congr_left
  intro i hi
  show findF (wordB f i).data.toList 21 = some (i, f i)
  exact find_word hok hn i (difs_lt f 21 i hi)

theorem norm_dflt : normP dflt := by
  have h : ∀ i, i < 18 → 2 ≤ i → dflt i = pbit dflt i := by decide
  exact fun i h1 h2 => h i (by omega) h1

theorem nf_norm {f : Nat → Int} (hn : normP f) (i : Nat) : nf f i = f i := by
  unfold nf
  by_cases h : 2 ≤ i ∧ i ≤ 17
  · rw [if_pos h]; exact (hn i h.1 h.2).symm
  · rw [if_neg h]

theorem ap_print {f : Nat → Int} (hn : normP f) : ∀ i, i < 21 → ap (pairs f) dflt i = f i := by
  intro i hi
  by_cases h : nf f i = nf dflt i
  · rw [ap_not _ _ (by rw [pairs_fst]; intro hm; unfold difs at hm; have := (List.mem_filter.1 hm).2; simp [h] at this)]
    rw [nf_norm hn, nf_norm norm_dflt] at h
    exact h.symm
  · have hm : i ∈ difs f 21 := by unfold difs; exact List.mem_filter.2 ⟨List.mem_range.2 hi, by simpa using h⟩
    exact ap_mem _ _ (by rw [pairs_fst]; exact difs_nodup f 21) (List.mem_map.2 ⟨i, hm, rfl⟩)

theorem ocells_extP {f g : Nat → Int} (h : ∀ i, i < 21 → f i = g i) : ocells f = ocells g := by
  have e := fun i (hi : i < 21) => h i hi
  simp only [ocells, e 0 (by decide), e 1 (by decide), e 2 (by decide), e 3 (by decide), e 4 (by decide), e 5 (by decide), e 6 (by decide), e 7 (by decide), e 8 (by decide), e 9 (by decide), e 10 (by decide), e 11 (by decide), e 12 (by decide), e 13 (by decide), e 14 (by decide), e 15 (by decide), e 16 (by decide), e 17 (by decide), e 18 (by decide), e 19 (by decide), e 20 (by decide)]
theorem okS_extP {f g : Nat → Int} (h : ∀ i, i < 21 → f i = g i) : okS f = okS g := by
  unfold okS; rw [h 0 (by decide), h 1 (by decide), h 2 (by decide), h 3 (by decide), h 18 (by decide), h 19 (by decide), h 20 (by decide)]

/-- What is printed is parsed as the same options. -/
theorem parse_print {f : Nat → Int} (hok : okS f = true) (hn : normP f) : ocells (parseS (printL f 21)).1 = ocells f ∧ (parseS (printL f 21)).2 = ((printL f 21).length, 0) := by
  have h := parse_good (printL f 21) (pairs f) 0 dflt _ (good_print hok hn)
  have he := ap_print hn
  unfold parseS
  rw [h, okS_extP he, hok, if_pos rfl, Nat.zero_add]
  exact ⟨ocells_extP he, rfl⟩

/-! What is parsed has flags of 0 and 1, and is printed in no more words. -/
theorem fS_bit {i : Nat} (hi : i < 21) (h : 2 ≤ i ∧ i ≤ 17) {w : List UInt8} {n : Int} (hf : fS i w = (n, true)) : n = 0 ∨ n = 1 := by
  rw [fS_sw hi h] at hf
  split at hf
  · simp at hf; exact .inr hf.symm
  · split at hf
    · simp at hf; exact .inl hf.symm
    · simp at hf
theorem findF_says (w : List UInt8) : ∀ k i n, k ≤ 21 → findF w k = some (i, n) → fS i w = (n, true) := by
  intro k
  induction k with
  | zero => intro i n _ h; cases h
  | succ k ih =>
    intro i n hk h
    rw [findF] at h
    split at h
    · rename_i h2
      injection h with h; injection h with h3 h4
      rw [← h3, ← h4, ← h2]
    · exact ih i n (by omega) h
theorem ap_norm : ∀ (L : List ByteArray) (ps : List (Nat × Int)) (f : Nat → Int), L.map fw = ps.map some → normP f → normP (ap ps f) := by
  intro L
  induction L with
  | nil => intro ps f h hn; have : ps = [] := by simpa using h.symm
           subst this; exact hn
  | cons w t ih =>
    intro ps f h hn
    cases ps with
    | nil => simp at h
    | cons p ps =>
      obtain ⟨i, n⟩ := p
      simp only [List.map_cons, List.cons.injEq] at h
      refine ih ps _ h.2 ?_
      intro j h2 h17
      show upd f i n j = pbit (upd f i n) j
      by_cases hj : j = i
      · have e : upd f i n j = n := by unfold upd; rw [if_pos hj]
        unfold pbit
        rw [e]
        rcases fS_bit (by omega) ⟨h2, h17⟩ (findF_says _ 21 j n (Nat.le_refl _) (by rw [hj]; exact h.1)) with e | e <;> rw [e] <;> simp
      · have e : upd f i n j = f j := by unfold upd; rw [if_neg hj]
        unfold pbit
        rw [e]; exact hn j h2 h17

theorem count_le {A B : List Nat} (hA : A.Nodup) (h : ∀ x ∈ A, x ∈ B) : A.length ≤ B.length := by
  induction A generalizing B with
  | nil => exact Nat.zero_le _
  | cons a A ih =>
    rw [List.nodup_cons] at hA
    have ha : a ∈ B := h a (by simp)
    have := ih (B := B.erase a) hA.2 (fun x hx => (List.mem_erase_of_ne (fun e => hA.1 (by rw [← e]; exact hx))).2 (h x (by simp [hx])))
    rw [List.length_erase_of_mem ha] at this
    have := List.length_pos_of_mem ha
    simp only [List.length_cons]
    omega

/-- What is parsed is printed as words that are parsed as the same, none more than there were. -/
theorem print_parse {l : List ByteArray} {g : Nat → Int} {k : Nat} (h : parseS l = (g, k, 0)) : okS g = true ∧ normP g ∧ (printL g 21).length ≤ l.length := by
  by_cases hg : ∃ ps, Good l (fun _ => false) ps
  · obtain ⟨ps, hg⟩ := hg
    have hp := parse_good l ps 0 dflt _ hg
    have h' : parseL l 0 dflt (fun _ => false) = (g, k, 0) := h
    rw [hp] at h'
    cases hok : okS (ap ps dflt)
    · rw [hok] at h'; simp at h'
    · rw [hok, if_pos rfl] at h'
      simp only [Prod.mk.injEq] at h'
      obtain ⟨hg1, _⟩ := h'
      subst hg1
      have hn := ap_norm l ps dflt hg.1 norm_dflt
      refine ⟨hok, hn, ?_⟩
      unfold printL
      rw [List.length_map]
      have hl : l.length = (ps.map Prod.fst).length := by have := congrArg List.length hg.1; simpa using this
      rw [hl]
      refine count_le (difs_nodup _ _) (fun x hx => ?_)
      unfold difs at hx
      have h2 := (List.mem_filter.1 hx).2
      rcases Classical.em (x ∈ ps.map Prod.fst) with hm | hm
      · exact hm
      · exfalso
        rw [nf_norm hn, nf_norm norm_dflt, ap_not ps dflt hm] at h2
        simp at h2
  · obtain ⟨_, b⟩ := parse_bad l 0 dflt _ hg
    have : (parseL l 0 dflt fun _ => false).2.2 = 0 := by have h2 : parseL l 0 dflt (fun _ => false) = (g, k, 0) := h; rw [h2]
    exact absurd this b
end Go.Proofs.YtlfaeabbfejjcaaDoor
