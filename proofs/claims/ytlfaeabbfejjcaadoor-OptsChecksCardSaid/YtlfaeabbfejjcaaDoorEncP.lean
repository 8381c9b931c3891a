/- Plain laws of numbers and options put as bytes. No program. -/
import Derived.Test.YtlfaeabbfejjcaaDoorReadP
namespace Go.Proofs.YtlfaeabbfejjcaaDoor

/-- A number in groups of seven bits, the least ahead. -/
def encL (n : Nat) : List UInt8 := if h : n < 128 then [UInt8.ofNat n] else UInt8.ofNat (128 + n % 128) :: encL (n / 128)
termination_by n
decreasing_by omega

theorem encL_small {n : Nat} (h : n < 128) : encL n = [UInt8.ofNat n] := by rw [encL, dif_pos h]
theorem encL_big {n : Nat} (h : ¬ n < 128) : encL n = UInt8.ofNat (128 + n % 128) :: encL (n / 128) := by rw [encL, dif_neg h]
theorem encL_pos (n : Nat) : 0 < (encL n).length := by
  by_cases h : n < 128
  · rw [encL_small h]; simp
  · rw [encL_big h]; simp
theorem encL_len : ∀ (k n : Nat), n < 128 ^ (k + 1) → (encL n).length ≤ k + 1 := by
  intro k
  induction k with
  | zero => intro n h; rw [encL_small (by simpa using h)]; simp
  | succ k ih =>
    intro n h
    by_cases hn : n < 128
    · rw [encL_small hn]; simp
    · rw [encL_big hn, List.length_cons]
      have := ih (n / 128) (by rw [Nat.pow_succ] at h; omega)
      omega
theorem encL_nine {n : Nat} (h : n ≤ maxNum) : (encL n).length ≤ 9 := by
  unfold maxNum at h
  have h9 : (4611686018427387903 : Nat) < 128 ^ (8 + 1) := by decide
  exact encL_len 8 n (Nat.lt_of_le_of_lt h h9)

theorem gval_encL (n : Nat) : gval (encL n) = n := by
  induction n using Nat.strongRecOn with
  | _ n ih =>
    by_cases h : n < 128
    · rw [encL_small h, gval, gval, UInt8.toNat_ofNat']; omega
    · rw [encL_big h, gval, ih _ (by omega), UInt8.toNat_ofNat']; omega

theorem leadN_encL : ∀ (k n : Nat) (t : List UInt8), (encL n).length ≤ k → leadN k (encL n ++ t) = (encL n).length - 1 ∧ ((encL n ++ t).getD ((encL n).length - 1) 0).toNat ≤ 127 ∧ (((encL n ++ t).getD ((encL n).length - 1) 0).toNat = 0 → n = 0) := by
  intro k
  induction k with
  | zero => intro n t h; have := encL_pos n; omega
  | succ k ih =>
    intro n t hk
    by_cases h : n < 128
    · rw [encL_small h]
      simp only [List.singleton_append, leadN, List.length_singleton, Nat.sub_self, List.getD_cons_zero, UInt8.toNat_ofNat']
      refine ⟨by rw [if_neg (by omega)], by omega, by omega⟩
    · rw [encL_big h] at hk ⊢
      have hp := encL_pos (n / 128)
      have hk' : (encL (n / 128)).length ≤ k := by simpa using hk
      obtain ⟨h1, h2, h3⟩ := ih (n / 128) t hk'
      simp only [List.cons_append, leadN, List.length_cons, Nat.add_sub_cancel, UInt8.toNat_ofNat']
      have e : (UInt8.ofNat (128 + n % 128) :: (encL (n / 128) ++ t)).getD (encL (n / 128)).length 0 = (encL (n / 128) ++ t).getD ((encL (n / 128)).length - 1) 0 := by
        obtain ⟨m, hm⟩ : ∃ m, (encL (n / 128)).length = m + 1 := ⟨_, (Nat.succ_pred_eq_of_pos hp).symm⟩
        rw [hm]; simp
      rw [if_pos (by omega), h1, e]
      exact ⟨by omega, h2, fun h => by have := h3 h; omega⟩

theorem getS_encL {n : Nat} (hn : n ≤ maxNum) (t : List UInt8) (p : Nat) : getS (encL n ++ t) p = ((n : Int), ((p + (encL n).length : Nat) : Int), 0) := by
  have hp := encL_pos n
  have h9 := encL_nine hn
  obtain ⟨h1, h2, h3⟩ := leadN_encL 9 n t h9
  have h1' : (encL n).length - 1 + 1 = (encL n).length := by omega
  unfold getS
  rw [h1, if_neg (by omega), if_neg (by simp; omega), if_neg, h1', List.take_left', gval_encL, if_neg (by omega)]
  · rw [show p + ((encL n).length - 1) + 1 = p + (encL n).length by omega]
  · rfl
  · rintro ⟨ha, hb⟩
    have hn0 := h3 (by rw [ha]; rfl)
    rw [hn0, encL_small (by decide)] at hb
    simp at hb

/-- Groups as they should be are a number's own. -/
theorem encL_gval : ∀ (T : List UInt8), T ≠ [] → (∀ j, j + 1 < T.length → 127 < (T.getD j 0).toNat) → (T.getD (T.length - 1) 0).toNat ≤ 127 → ((T.getD (T.length - 1) 0).toNat ≠ 0 ∨ T.length = 1) → encL (gval T) = T ∧ ((T.getD (T.length - 1) 0).toNat ≠ 0 → 0 < gval T) := by
  intro T
  induction T with
  | nil => intro h; exact absurd rfl h
  | cons c t ih =>
    intro _ hall hlast hz
    have hc256 : c.toNat < 256 := UInt8.toNat_lt _
    cases t with
    | nil =>
      simp at hlast
      have e : gval [c] = c.toNat := by rw [gval, gval]; omega
      rw [e, encL_small (by omega)]
      exact ⟨by simp, fun h => by simp at h; omega⟩
    | cons d u =>
      have hl : (c :: d :: u).length - 1 = (d :: u).length - 1 + 1 := by simp
      have e1 : (c :: d :: u).getD ((c :: d :: u).length - 1) 0 = (d :: u).getD ((d :: u).length - 1) 0 := by rw [hl]; simp
      rw [e1] at hlast hz ⊢
      have hz' : ((d :: u).getD ((d :: u).length - 1) 0).toNat ≠ 0 := by
        rcases hz with h | h
        · exact h
        · simp at h
      obtain ⟨i1, i2⟩ := ih (by simp) (fun j hj => by have := hall (j + 1) (by simp at hj ⊢; omega); simpa using this) hlast (.inl hz')
      have hg := i2 hz'
      have h0 := hall 0 (by simp)
      simp at h0
      have eg : gval (c :: d :: u) = c.toNat % 128 + 128 * gval (d :: u) := rfl
      rw [eg, encL_big (by omega), show (c.toNat % 128 + 128 * gval (d :: u)) / 128 = gval (d :: u) by omega, i1, show 128 + (c.toNat % 128 + 128 * gval (d :: u)) % 128 = c.toNat by omega]
      exact ⟨by simp, fun _ => by omega⟩

theorem leadN_all : ∀ (k : Nat) (l : List UInt8), (∀ j, j < leadN k l → 127 < (l.getD j 0).toNat) ∧ (leadN k l < k → leadN k l < l.length → (l.getD (leadN k l) 0).toNat ≤ 127) := by
  intro k
  induction k with
  | zero => intro l; exact ⟨fun j hj => by rw [leadN] at hj; omega, fun h => by rw [leadN] at h; omega⟩
  | succ k ih =>
    intro l
    cases l with
    | nil =>
      have e : leadN (k + 1) ([] : List UInt8) = 0 := rfl
      exact ⟨fun j hj => by omega, fun _ h => by simp at h⟩
    | cons c t =>
      rw [leadN]
      obtain ⟨h1, h2⟩ := ih t
      by_cases hc : 127 < c.toNat
      · rw [if_pos hc]
        refine ⟨fun j hj => ?_, fun ha hb => ?_⟩
        · rcases j with _ | j
          · simpa using hc
          · have := h1 j (by omega); simpa using this
        · have := h2 (by omega) (by simpa using hb); simpa using this
      · rw [if_neg hc]
        exact ⟨fun j hj => by omega, fun _ _ => by simp; omega⟩

theorem getS_back {l : List UInt8} {p : Nat} {n q : Int} (h : getS l p = (n, q, 0)) : ∃ (x : Nat) (t : List UInt8), n = (x : Int) ∧ x ≤ maxNum ∧ l = encL x ++ t ∧ q = ((p + (encL x).length : Nat) : Int) := by
  unfold getS at h
  have hll := leadN_le 9 l
  have hla := leadN_all 9 l
  generalize leadN 9 l = m at h hll hla
  by_cases h1 : m = 9
  · rw [if_pos h1] at h; simp at h
  · rw [if_neg h1] at h
    by_cases h2 : m = l.length
    · rw [if_pos h2] at h; simp at h
    · rw [if_neg h2] at h
      by_cases h3 : l.getD m 0 = 0 ∧ 0 < m
      · rw [if_pos h3] at h; simp at h
      · rw [if_neg h3] at h
        by_cases h4 : maxNum < gval (l.take (m + 1))
        · rw [if_pos h4] at h; simp at h
        · rw [if_neg h4] at h
          simp only [Prod.mk.injEq, and_true] at h
          obtain ⟨hn, hq⟩ := h
          obtain ⟨a1, a2⟩ := hla
          have hlen : (l.take (m + 1)).length = m + 1 := by simp; omega
          have hgd : ∀ j, j < m + 1 → (l.take (m + 1)).getD j 0 = l.getD j 0 := fun j hj => by
            rw [List.getD_eq_getElem?_getD, List.getElem?_take_of_lt hj, ← List.getD_eq_getElem?_getD]
          have he := (encL_gval (l.take (m + 1)) (fun e => by rw [e] at hlen; simp at hlen) (fun j hj => by
            rw [hlen] at hj
            rw [hgd j (by omega)]; exact a1 j (by omega)) (by
            rw [hlen, Nat.add_sub_cancel, hgd m (by omega)]; exact a2 (by omega) (by omega)) (by
            rw [hlen, Nat.add_sub_cancel, hgd m (by omega)]
            by_cases hm : 0 < m
            · left; intro h0; exact h3 ⟨UInt8.toNat_inj.mp h0, hm⟩
            · right; omega)).1
          refine ⟨gval (l.take (m + 1)), l.drop (m + 1), hn.symm, by omega, ?_, ?_⟩
          · rw [he, List.take_append_drop]
          · rw [he, hlen, ← hq, Nat.add_assoc]

/-- Numbers one behind the other. -/
def encs : List Nat → List UInt8
  | [] => []
  | n :: t => encL n ++ encs t
/-- Numbers laid into v from place k on. -/
def lay : List Nat → Nat → (Nat → Int) → (Nat → Int)
  | [], _, v => v
  | n :: t, k, v => lay t (k + 1) (upd v k n)

theorem rd_encs (l : List UInt8) : ∀ (xs : List Nat) (p : Nat) (v : Nat → Int) (t : List UInt8), xs.length ≤ 6 → (∀ x ∈ xs, x ≤ maxNum) → p ≤ l.length → l.drop p = encs xs ++ t →
    rd l xs.length (p : Int) v = (0, ((p + (encs xs).length : Nat) : Int), lay xs (6 - xs.length) v) := by
  intro xs
  induction xs with
  | nil => intro p v t _ _ _ _; rfl
  | cons x xs ih =>
    intro p v t hk hm hp hd
    rw [encs, List.append_assoc] at hd
    have hx : x ≤ maxNum := hm x (by simp)
    have hg : getA l (p : Int) = ((x : Int), ((p + (encL x).length : Nat) : Int), 0) := by
      rw [getA, if_neg (by omega), Int.toNat_natCast, hd, getS_encL hx]
    have hl : (l.drop p).length = (encL x).length + ((encs xs).length + t.length) := by rw [hd]; simp
    rw [List.length_drop] at hl
    simp only [List.length_cons] at hk
    rw [List.length_cons, rd_ok hg, ih (p + (encL x).length) _ t (by omega) (fun y hy => hm y (by simp [hy])) (by omega) (by
      rw [← List.drop_drop, hd, List.drop_left'] ; rfl)]
    rw [encs, List.length_append, lay, show 6 - (xs.length + 1) + 1 = 6 - xs.length by omega, show 5 - xs.length = 6 - (xs.length + 1) by omega, Nat.add_assoc]

theorem rd_back (l : List UInt8) : ∀ (k : Nat) (p : Int) (v v' : Nat → Int) (q : Int), k ≤ 6 → rd l k p v = (0, q, v') → 0 < k → ∃ (xs : List Nat) (t : List UInt8) (p' : Nat), xs.length = k ∧ (∀ x ∈ xs, x ≤ maxNum) ∧ p = (p' : Int) ∧ p' ≤ l.length ∧ l.drop p' = encs xs ++ t ∧ q = ((p' + (encs xs).length : Nat) : Int) ∧ v' = lay xs (6 - k) v := by
  intro k
  induction k with
  | zero => intro p v v' q _ _ h; omega
  | succ k ih =>
    intro p v v' q hk h _
    obtain ⟨n, nx, e, hn⟩ : ∃ n nx e, getA l p = (n, nx, e) := ⟨_, _, _, rfl⟩
    by_cases he : e = 0
    · subst he
      rw [rd_ok hn] at h
      by_cases hp : p < 0 ∨ (l.length : Int) < p
      · rw [getA, if_pos hp] at hn; simp at hn
      · obtain ⟨p', rfl⟩ : ∃ p' : Nat, p = p' := ⟨p.toNat, by omega⟩
        rw [getA, if_neg hp, Int.toNat_natCast] at hn
        obtain ⟨x, t, hx, hxm, hd, hq⟩ := getS_back hn
        have hl : (l.drop p').length = (encL x).length + t.length := by rw [hd]; simp
        rw [List.length_drop] at hl
        subst hx
        subst hq
        by_cases hk0 : 0 < k
        · obtain ⟨xs, t2, p2, h1, h2, h3, h4, h5, h6, h7⟩ := ih _ _ _ _ (by omega) h hk0
          have hp2 : p2 = p' + (encL x).length := by omega
          subst hp2
          have ht : t = encs xs ++ t2 := by
            rw [← h5, ← List.drop_drop, hd, List.drop_left']; rfl
          refine ⟨x :: xs, t2, p', by simp [h1], fun y hy => ?_, rfl, by omega, by rw [hd, ht, encs, List.append_assoc], by rw [h6, encs, List.length_append, Nat.add_assoc], ?_⟩
          · rcases List.mem_cons.1 hy with rfl | hy
            · exact hxm
            · exact h2 y hy
          · rw [h7, lay, show 5 - k = 6 - (k + 1) by omega, show 6 - (k + 1) + 1 = 6 - k by omega]
        · obtain rfl : k = 0 := by omega
          rw [rd] at h
          simp only [Prod.mk.injEq, true_and] at h
          refine ⟨[x], t, p', rfl, fun y hy => by simp at hy; subst hy; exact hxm, rfl, by omega, by rw [encs, encs, List.append_nil]; exact hd, by rw [encs, encs, List.append_nil]; exact h.1.symm, h.2.symm⟩
    · rw [rd_err hn he] at h
      simp only [Prod.mk.injEq] at h
      exact absurd h.1 he
end Go.Proofs.YtlfaeabbfejjcaaDoor
