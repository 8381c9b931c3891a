/- Plain laws of the flags' sum. No program. -/
import Derived.Test.YtlfaeabbfejjcaaDoorEncP
namespace Go.Proofs.YtlfaeabbfejjcaaDoor

/-- A flag as a number. -/
def fbit (f : Nat → Int) (i : Nat) : Nat := if f i = 1 then 1 else 0
/-- The sum of the flags of the fields below k. -/
def fsum (f : Nat → Int) : Nat → Nat
  | 0 => 0
  | k + 1 => if 2 ≤ k ∧ k ≤ 17 then fsum f k + bw k * fbit f k else fsum f k

theorem fbit_le (f : Nat → Int) (i : Nat) : fbit f i ≤ 1 := by unfold fbit; split <;> omega

theorem fsum_lt (f : Nat → Int) : ∀ k, fsum f k < bw k := by
  intro k
  induction k with
  | zero => exact (by decide : 0 < 1)
  | succ k ih =>
    rw [fsum]
    by_cases h : 2 ≤ k ∧ k ≤ 17
    · rw [if_pos h, (bw_step k h).1]
      have h1 := fbit_le f k
      have : bw k * fbit f k ≤ bw k * 1 := Nat.mul_le_mul_left _ h1
      omega
    · rw [if_neg h, bw_skip k h]; exact ih

theorem fsum_bit (f : Nat → Int) : ∀ k i, 2 ≤ i → i ≤ 17 → i < k → fsum f k / 2 ^ (i - 2) % 2 = fbit f i := by
  intro k
  induction k with
  | zero => intro i _ _ h; omega
  | succ k ih =>
    intro i h1 h2 h3
    rw [fsum]
    by_cases h : 2 ≤ k ∧ k ≤ 17
    · rw [if_pos h]
      have hb := (bw_step k h).2
      by_cases hik : i = k
      · subst hik
        have hlt := fsum_lt f i
        rw [hb] at hlt ⊢
        rw [Nat.add_mul_div_left _ _ (Nat.two_pow_pos _), Nat.div_eq_of_lt hlt, Nat.zero_add, Nat.mod_eq_of_lt (by have := fbit_le f i; omega)]
      · have hlt : i < k := by omega
        rw [← ih i h1 h2 hlt, hb]
        obtain ⟨d, hd⟩ : ∃ d, k - 2 = (i - 2) + 1 + d := ⟨k - i - 1, by omega⟩
        rw [hd, Nat.pow_add, Nat.pow_succ, Nat.mul_assoc, Nat.mul_assoc, Nat.add_mul_div_left _ _ (Nat.two_pow_pos _)]
        rw [Nat.add_mul_mod_self_left]
    · rw [if_neg h]
      exact ih i h1 h2 (by omega)

/-- The sum of the bits of x is x. -/
theorem fsum_back (f : Nat → Int) (x : Nat) (hf : ∀ i, 2 ≤ i → i ≤ 17 → fbit f i = x / 2 ^ (i - 2) % 2) : ∀ k, k ≤ 18 → fsum f k = x % bw k := by
  intro k
  induction k with
  | zero => intro _; rw [fsum, show bw 0 = 1 from rfl, Nat.mod_one]
  | succ k ih =>
    intro hk
    have ih' := ih (by omega)
    rw [fsum]
    by_cases h : 2 ≤ k ∧ k ≤ 17
    · obtain ⟨b1, b2⟩ := bw_step k h
      rw [if_pos h, ih', b1, hf k h.1 h.2, Nat.mod_mul, b2]
    · rw [if_neg h, ih', bw_skip k h]

theorem fsum_end (f : Nat → Int) : fsum f 21 = fsum f 18 := by
  rw [fsum, if_neg (by omega), fsum, if_neg (by omega), fsum, if_neg (by omega)]

/-- The numbers that options are put as. -/
def nums (f : Nat → Int) : List Nat := [(f 0).toNat, (f 1).toNat, fsum f 21, (f 18).toNat, (f 19).toNat, (f 20).toNat]
def bytesS (f : Nat → Int) : List UInt8 := encs (nums f)

theorem nums_bd {f : Nat → Int} (h : okS f = true) : ∀ x ∈ nums f, x ≤ maxNum := by
  obtain ⟨h0, h1, h2, h3, h4, h5, h6, h7, h8, _⟩ := (okS_iff f).1 h
  have hf := fsum_lt f 21
  have hb : bw 21 = 65536 := rfl
  unfold maxNum
  intro x hx
  simp only [nums, List.mem_cons, List.not_mem_nil, or_false] at hx
  omega

theorem encs_app (xs ys : List Nat) : encs (xs ++ ys) = encs xs ++ encs ys := by
  induction xs with
  | nil => rfl
  | cons x xs ih => rw [List.cons_append, encs, encs, ih, List.append_assoc]
theorem encs_take {xs : List Nat} {k : Nat} (h : k < xs.length) : encs (xs.take (k + 1)) = encs (xs.take k) ++ encL (xs.getD k 0) := by
  rw [List.take_add_one, List.getElem?_eq_getElem h, encs_app, List.getD_eq_getElem?_getD, List.getElem?_eq_getElem h]
  simp [encs]
theorem encs_len : ∀ (xs : List Nat), (∀ x ∈ xs, x ≤ maxNum) → (encs xs).length ≤ 9 * xs.length := by
  intro xs
  induction xs with
  | nil => intro _; simp [encs]
  | cons x xs ih =>
    intro h
    rw [encs, List.length_append, List.length_cons]
    have h1 := encL_nine (h x (by simp))
    have h2 := ih (fun y hy => h y (by simp [hy]))
    omega

/-- Options as they are read: flags that are 0 or 1. -/
def norm1 (f : Nat → Int) : Prop := ∀ i, 2 ≤ i → i ≤ 17 → f i = (fbit f i : Int)

theorem lay_nums (f : Nat → Int) : ∀ i, i < 6 → lay (nums f) 0 zf i = ((nums f).getD i 0 : Nat) := by
  intro i hi
  have h : i = 0 ∨ i = 1 ∨ i = 2 ∨ i = 3 ∨ i = 4 ∨ i = 5 := by omega
  rcases h with rfl | rfl | rfl | rfl | rfl | rfl <;> rfl

theorem rF_nums {f : Nat → Int} (h : okS f = true) (hn : norm1 f) : ∀ i, i < 21 → rF (lay (nums f) 0 zf) i = f i := by
  obtain ⟨h0, h1, h2, h3, h4, h5, h6, h7, h8, _⟩ := (okS_iff f).1 h
  intro i hi
  unfold rF gF2
  by_cases hs : 2 ≤ i ∧ i ≤ 17 ∧ i < 21
  · rw [if_pos hs, lay_nums f 2 (by decide), hn i hs.1 hs.2.1]
    rw [← fsum_bit f 21 i hs.1 hs.2.1 (by omega)]
    show (((fsum f 21 : Nat) : Int) / 2 ^ (i - 2) % 2 : Int) = _
    rw [Int.natCast_emod, Int.natCast_ediv, Int.natCast_pow]; rfl
  · rw [if_neg hs]
    have hi2 : i = 0 ∨ i = 1 ∨ i = 18 ∨ i = 19 ∨ i = 20 := by omega
    unfold oF
    rcases hi2 with rfl | rfl | rfl | rfl | rfl
    · show lay (nums f) 0 zf 0 = f 0
      rw [lay_nums f 0 (by decide)]; show ((f 0).toNat : Int) = f 0; omega
    · show lay (nums f) 0 zf 1 = f 1
      rw [lay_nums f 1 (by decide)]; show ((f 1).toNat : Int) = f 1; omega
    · show lay (nums f) 0 zf 3 = f 18
      rw [lay_nums f 3 (by decide)]; show ((f 18).toNat : Int) = f 18; omega
    · show lay (nums f) 0 zf 4 = f 19
      rw [lay_nums f 4 (by decide)]; show ((f 19).toNat : Int) = f 19; omega
    · show lay (nums f) 0 zf 5 = f 20
      rw [lay_nums f 5 (by decide)]; show ((f 20).toNat : Int) = f 20; omega

theorem okS_ext {f g : Nat → Int} (h : ∀ i, i < 21 → f i = g i) : okS f = okS g := by
  unfold okS; rw [h 0 (by decide), h 1 (by decide), h 2 (by decide), h 3 (by decide), h 18 (by decide), h 19 (by decide), h 20 (by decide)]

/-- What is put is read, behind any bytes. -/
theorem read_bytes {f : Nat → Int} (h : okS f = true) (hn : norm1 f) (b : List UInt8) :
    ocells (readS (b ++ bytesS f) (b.length : Int)).1 = ocells f ∧ (readS (b ++ bytesS f) (b.length : Int)).2 = ((((b ++ bytesS f).length : Nat) : Int), 0) := by
  have hr := rd_encs (b ++ bytesS f) (nums f) b.length zf [] (Nat.le_refl 6) (nums_bd h) (by simp) (by rw [List.drop_left', List.append_nil]; rfl; rfl)
  rw [show (nums f).length = 6 from rfl] at hr
  have hv2 : lay (nums f) (6 - 6) zf 2 = (fsum f 21 : Nat) := lay_nums f 2 (by decide)
  have hlt := fsum_lt f 21
  have hb : bw 21 = 65536 := rfl
  have hext := rF_nums h hn
  rw [readS_ok hr (by rw [hv2]; omega) (by rw [okS_ext hext]; exact h)]
  exact ⟨ocells_ext hext, by rw [List.length_append]; rfl⟩

theorem get_bytes {f : Nat → Int} (h : okS f = true) : (getA (bytesS f) 0).1 = f 0 ∧ (getA (bytesS f) 0).2.2 = 0 := by
  obtain ⟨h0, h1, _⟩ := (okS_iff f).1 h
  have hx : (f 0).toNat ≤ maxNum := nums_bd h _ (by simp [nums])
  have e : getA (bytesS f) 0 = (((f 0).toNat : Int), ((0 + (encL (f 0).toNat).length : Nat) : Int), 0) := by
    rw [getA, if_neg (by omega)]
    exact getS_encL hx _ 0
  rw [e]
  exact ⟨by show ((f 0).toNat : Int) = f 0; omega, rfl⟩

/-- What is read is put as the same bytes. -/
theorem bytes_read {l : List UInt8} {p : Int} {g : Nat → Int} {q : Int} (h : readS l p = (g, q, 0)) :
    ∃ p' t : Nat, p = (p' : Int) ∧ q = ((p' + t : Nat) : Int) ∧ p' + t ≤ l.length ∧ okS g = true ∧ bytesS g = (l.drop p').take t := by
  unfold readS at h
  obtain ⟨e, q0, v, hr⟩ : ∃ e q0 v, rd l 6 p zf = (e, q0, v) := ⟨_, _, _, rfl⟩
  rw [hr] at h
  simp only at h
  by_cases he : e = 0
  · subst he
    rw [if_pos rfl] at h
    by_cases hb : 65536 ≤ v 2
    · rw [if_pos hb] at h; simp at h
    · rw [if_neg hb] at h
      by_cases ho : okS (rF v) = true
      · rw [if_pos ho] at h
        simp only [Prod.mk.injEq, and_true] at h
        obtain ⟨hg, hq⟩ := h
        subst hg
        obtain ⟨xs, t, p', hx, hm, hp, hpl, hd, hq2, hv⟩ := rd_back l 6 p zf v q0 (Nat.le_refl _) hr (by decide)
        refine ⟨p', (encs xs).length, hp, by rw [← hq, hq2], ?_, ho, ?_⟩
        · have := congrArg List.length hd; rw [List.length_drop, List.length_append] at this; omega
        · rw [hd, List.take_left']
          · match xs, hx with
            | [x0, x1, x2, x3, x4, x5], _ =>
              have hv2 : v 2 = (x2 : Int) := by rw [hv]; rfl
              have g0 : rF v 0 = (x0 : Int) := by rw [hv]; rfl
              have g1 : rF v 1 = (x1 : Int) := by rw [hv]; rfl
              have g3 : rF v 18 = (x3 : Int) := by rw [hv]; rfl
              have g4 : rF v 19 = (x4 : Int) := by rw [hv]; rfl
              have g5 : rF v 20 = (x5 : Int) := by rw [hv]; rfl
              have gs : ∀ i, 2 ≤ i → i ≤ 17 → fbit (rF v) i = x2 / 2 ^ (i - 2) % 2 := by
                intro i hi1 hi2
                have e1 : rF v i = ((x2 / 2 ^ (i - 2) % 2 : Nat) : Int) := by
                  unfold rF gF2
                  rw [if_pos ⟨hi1, hi2, by omega⟩, hv2, Int.natCast_emod, Int.natCast_ediv, Int.natCast_pow]; rfl
                unfold fbit
                rw [e1]
                have := Nat.mod_lt (x2 / 2 ^ (i - 2)) (show 0 < 2 by decide)
                split <;> omega
              have hfs : fsum (rF v) 21 = x2 := by
                rw [fsum_end, fsum_back (rF v) x2 gs 18 (Nat.le_refl _), show bw 18 = 65536 from rfl, Nat.mod_eq_of_lt (by omega)]
              unfold bytesS nums
              rw [hfs, g0, g1, g3, g4, g5]
              simp only [Int.toNat_natCast]
          · rfl
      · rw [if_neg ho] at h; simp at h
  · rw [if_neg he] at h
    simp only [Prod.mk.injEq] at h
    exact absurd h.2.2 he

theorem readS_bad {l : List UInt8} {p : Int} {g : Nat → Int} {q e : Int} (h : readS l p = (g, q, e)) (he : e ≠ 0) : g = zf ∧ q = 0 := by
  unfold readS at h
  split at h
  · split at h
    · simp only [Prod.mk.injEq] at h; exact ⟨h.1.symm, h.2.1.symm⟩
    · split at h
      · simp only [Prod.mk.injEq] at h; exact absurd h.2.2.symm he
      · simp only [Prod.mk.injEq] at h; exact ⟨h.1.symm, h.2.1.symm⟩
  · simp only [Prod.mk.injEq] at h; exact ⟨h.1.symm, h.2.1.symm⟩
end Go.Proofs.YtlfaeabbfejjcaaDoor
