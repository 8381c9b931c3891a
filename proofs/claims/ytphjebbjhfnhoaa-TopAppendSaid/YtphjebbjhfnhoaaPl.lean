/- match: the plain law: how much is told of a text that was only added to. -/
import Derived.Test.YtphjebbjhfnhoaaJn
namespace Go.Proofs.Ytphjebbjhfnhoaa
open Go.RowKit
def p00 : Pst := ⟨[], 0, [], []⟩
def GoodP (base : Nat) (o : Nat × Nat × List UInt8) : Prop := (o.2.2 ≠ [] ∧ o.1 = 0 ∧ o.2.1 = 0) ∨ (o.2.2 = [] ∧ 1 ≤ o.2.1 ∧ o.1 + o.2.1 ≤ base)
/-- Told, or to be told. -/
def owed (s : Pst) : Nat := toldS s.O + s.T.length + s.L.length
theorem toldS_nil : toldS [] = 0 := rfl
theorem toldS_tell (T : List UInt8) : toldS (tellP T) = T.length := by
  unfold tellP
  split
  · next h => rw [h]; rfl
  · exact toldS_one _
theorem toldS_took (B : Nat) (s : Pst) (i : Nat) : toldS (tookP B s i).O = toldS s.O + s.T.length := by
  show toldS (s.O ++ tellP s.T ++ [(i * B, s.L.length, [])]) = _
  rw [toldS_append, toldS_append, toldS_tell, toldS_one]; rfl
theorem fit_le {l : List UInt8} {B st i : Nat} {L : List UInt8} {want : Nat} (h : IsFit l B st L want i) (hL : L ≠ []) : 1 ≤ L.length ∧ i * B + L.length ≤ l.length := by
  have h1 := h.2.1.1
  rw [blk_length] at h1
  have h2 : 0 < L.length := List.length_pos_iff.2 hL
  omega
theorem good_tell (base : Nat) (T : List UInt8) : ∀ o ∈ tellP T, GoodP base o := by
  intro o ho
  unfold tellP at ho
  split at ho
  · cases ho
  · next h => rw [List.mem_singleton] at ho; subst ho; exact .inl ⟨h, rfl, rfl⟩
theorem good_took {l : List UInt8} {B st i : Nat} {s : Pst} (h : IsFit l B st s.L s.want i) (hL : s.L ≠ []) (hg : ∀ o ∈ s.O, GoodP l.length o) : ∀ o ∈ (tookP B s i).O, GoodP l.length o := by
  intro o ho
  rcases List.mem_append.1 ho with ho | ho
  · rcases List.mem_append.1 ho with ho | ho
    · exact hg o ho
    · exact good_tell _ _ o ho
  · rw [List.mem_singleton] at ho; subst ho
    exact .inr ⟨rfl, fit_le h hL⟩
theorem FeedP.inv {l : List UInt8} {B st : Nat} {s0 : Pst} {xs : List UInt8} {s : Pst} (h : FeedP l B st s0 xs s) (h0 : ∀ o ∈ s0.O, GoodP l.length o) : owed s ≤ owed s0 + xs.length ∧ ∀ o ∈ s.O, GoodP l.length o := by
  induction h with
  | nil => exact ⟨Nat.le_refl _, h0⟩
  | more xs s c _ _ ih =>
    refine ⟨?_, ih.2⟩
    have := ih.1
    unfold owed at *
    simp only [List.length_append, List.length_singleton]; omega
  | took xs s c i _ _ hf ih =>
    refine ⟨?_, good_took (s := { s with L := s.L ++ [c] }) hf (by simp) ih.2⟩
    have := ih.1
    unfold owed at *
    rw [toldS_took]
    simp only [tookP, List.length_append, List.length_singleton, List.length_nil]; omega
  | slid xs s c h t _ _ _ e ih =>
    refine ⟨?_, ih.2⟩
    have h1 := ih.1
    have h2 := congrArg List.length e
    simp only [List.length_append, List.length_cons, List.length_nil] at h2
    unfold owed at *
    simp only [slidP, List.length_append, List.length_singleton]; omega
theorem DoneP.inv {l : List UInt8} {B st n : Nat} {s0 s : Pst} (h : DoneP l B st n s0 s) (h0 : ∀ o ∈ s0.O, GoodP l.length o) : owed s ≤ owed s0 ∧ ∀ o ∈ s.O, GoodP l.length o := by
  induction h with
  | nil => exact ⟨Nat.le_refl _, h0⟩
  | took s i _ hL _ hf ih =>
    refine ⟨?_, good_took hf hL ih.2⟩
    have := ih.1
    unfold owed at *
    rw [toldS_took]
    simp only [tookP, List.length_nil]; omega
  | slid s h t _ _ e ih =>
    refine ⟨?_, ih.2⟩
    have h1 := ih.1
    have h2 := congrArg List.length e
    simp only [List.length_cons] at h2
    unfold owed at *
    simp only [slidP, List.length_append, List.length_singleton]; omega
theorem isFit_self {l : List UInt8} {B st want i : Nat} {L : List UInt8} (h : IsFit l B st L want i) (hL : L = blk l B want) (hw : want < cnt l.length B) : i = want :=
  h.2.2 hw (by rw [hL]; exact ⟨rfl, rfl, rfl⟩)
theorem not_noFit {l : List UInt8} {B st j : Nat} {L : List UInt8} (h : NoFit l B st L) (hL : L = blk l B j) (hj : j < cnt l.length B) : False :=
  h j hj (by rw [hL]; exact ⟨rfl, rfl, rfl⟩)
theorem blk_full (l : List UInt8) (B q : Nat) (c : UInt8) (hc : l[q]? = some c) (hq : q % B + 1 = B) : (l.drop (q / B * B)).take (q % B) ++ [c] = blk l B (q / B) := by
  have h1 := Nat.div_add_mod q B
  rw [Nat.mul_comm] at h1
  have h2 : (l.drop (q / B * B))[q % B]? = some c := by rw [List.getElem?_drop, h1]; exact hc
  show _ = (l.drop (q / B * B)).take B
  have h3 : (l.drop (q / B * B)).take B = (l.drop (q / B * B)).take (q % B + 1) := by rw [hq]
  rw [h3, List.take_add_one, h2]; rfl
theorem div_step (q B : Nat) (hB : 0 < B) (h : q % B + 1 ≠ B) : (q + 1) / B = q / B ∧ (q + 1) % B = q % B + 1 := by
  have h1 := Nat.div_add_mod q B
  have h2 := Nat.mod_lt q hB
  have h3 : q + 1 = (q % B + 1) + B * (q / B) := by omega
  constructor
  · rw [h3, Nat.add_mul_div_left _ _ hB, Nat.div_eq_of_lt (by omega)]; omega
  · rw [h3, Nat.add_mul_mod_self_left, Nat.mod_eq_of_lt (by omega)]
theorem div_wrap (q B : Nat) (hB : 0 < B) (h : q % B + 1 = B) : (q + 1) / B = q / B + 1 ∧ (q + 1) % B = 0 := by
  have h1 := Nat.div_add_mod q B
  have h3 : q + 1 = B * (q / B + 1) := by rw [Nat.mul_add, Nat.mul_one]; omega
  constructor
  · rw [h3, Nat.mul_div_cancel_left _ hB]
  · rw [h3, Nat.mul_mod_right]
theorem lt_cnt (n B j : Nat) (hB : isB B) (h : j * B < n) : j < cnt n B := by
  unfold cnt
  rcases hB with rfl | rfl | rfl <;> omega
/-- While the text fed is the old one, each block is found. -/
theorem FeedP.old {l more : List UInt8} {B st : Nat} (hB : isB B) {xs : List UInt8} {s : Pst} (h : FeedP l B st p00 xs s) (hx : xs = (l ++ more).take xs.length) (hl : xs.length ≤ l.length) :
    s.want = xs.length / B ∧ s.L = (l.drop (xs.length / B * B)).take (xs.length % B) ∧ s.T = [] ∧ toldS s.O = 0 := by
  have B0 : 0 < B := by rcases hB with rfl | rfl | rfl <;> decide
  have step : ∀ (xs : List UInt8) (c : UInt8), xs ++ [c] = (l ++ more).take (xs ++ [c]).length → (xs ++ [c]).length ≤ l.length → xs = (l ++ more).take xs.length ∧ l[xs.length]? = some c := by
    intro xs c e hle
    rw [List.length_append, List.length_singleton] at e hle
    have h1 := congrArg (List.take xs.length) e
    rw [List.take_left, List.take_take, Nat.min_eq_left (Nat.le_succ _)] at h1
    refine ⟨h1, ?_⟩
    have h2 : ((l ++ more).take (xs.length + 1))[xs.length]? = some c := by rw [← e]; simp
    rw [List.getElem?_take_of_lt (Nat.lt_succ_self _), List.getElem?_append_left (by omega)] at h2
    exact h2
  induction h with
  | nil => simp [p00, toldS]
  | more xs s c _ hne ih =>
    obtain ⟨e1, e2⟩ := step xs c hx hl
    rw [List.length_append, List.length_singleton] at hl ⊢
    obtain ⟨i1, i2, i3, i4⟩ := ih e1 (by omega)
    have hll : s.L.length = xs.length % B := by
      rw [i2, List.length_take, List.length_drop]
      have := Nat.div_add_mod xs.length B
      rw [Nat.mul_comm] at this; omega
    obtain ⟨d1, d2⟩ := div_step xs.length B B0 (by omega)
    rw [d1, d2]
    refine ⟨i1, ?_, i3, i4⟩
    show s.L ++ [c] = _
    rw [List.take_add_one, List.getElem?_drop]
    have := Nat.div_add_mod xs.length B
    rw [Nat.mul_comm] at this
    rw [this, e2, i2]; rfl
  | took xs s c i _ hB' hf ih =>
    obtain ⟨e1, e2⟩ := step xs c hx hl
    rw [List.length_append, List.length_singleton] at hl ⊢
    obtain ⟨i1, i2, i3, i4⟩ := ih e1 (by omega)
    have hdm := Nat.div_add_mod xs.length B
    rw [Nat.mul_comm] at hdm
    have hll : s.L.length = xs.length % B := by
      rw [i2, List.length_take, List.length_drop]; omega
    obtain ⟨d1, d2⟩ := div_wrap xs.length B B0 (by omega)
    have hblk : s.L ++ [c] = blk l B (xs.length / B) := by rw [i2]; exact blk_full l B _ c e2 (by omega)
    have hi : i = s.want := isFit_self hf (by rw [i1]; exact hblk) (by rw [i1]; exact lt_cnt _ _ _ hB (by omega))
    rw [d1, d2]
    refine ⟨by show i + 1 = _; rw [hi, i1], rfl, rfl, ?_⟩
    rw [toldS_took]
    show toldS s.O + s.T.length = 0
    rw [i3, i4]; rfl
  | slid xs s c h t _ hB' hnf e ih =>
    obtain ⟨e1, e2⟩ := step xs c hx hl
    rw [List.length_append, List.length_singleton] at hl
    obtain ⟨i1, i2, i3, i4⟩ := ih e1 (by omega)
    have hdm := Nat.div_add_mod xs.length B
    rw [Nat.mul_comm] at hdm
    have hll : s.L.length = xs.length % B := by
      rw [i2, List.length_take, List.length_drop]; omega
    exact (not_noFit hnf (by rw [i2]; exact blk_full l B _ c e2 (by omega)) (lt_cnt _ _ _ hB (by omega))).elim
/-- Behind the old text's whole blocks no more is owed than was fed. -/
theorem FeedP.more_le {l more : List UInt8} {B st : Nat} (hB : isB B) {xs : List UInt8} {s : Pst} (h : FeedP l B st p00 xs s) (hx : xs = (l ++ more).take xs.length) (hl : l.length ≤ xs.length) : owed s ≤ xs.length - l.length + l.length % B := by
  have prev : ∀ (xs : List UInt8) (c : UInt8), xs ++ [c] = (l ++ more).take (xs ++ [c]).length → xs = (l ++ more).take xs.length := by
    intro xs c e
    rw [List.length_append, List.length_singleton] at e
    have h1 := congrArg (List.take xs.length) e
    rwa [List.take_left, List.take_take, Nat.min_eq_left (Nat.le_succ _)] at h1
  have base : ∀ {xs : List UInt8} {s : Pst}, FeedP l B st p00 xs s → xs = (l ++ more).take xs.length → xs.length = l.length → owed s ≤ l.length % B := by
    intro xs s h hx e
    obtain ⟨_, i2, i3, i4⟩ := h.old hB hx (by omega)
    unfold owed
    rw [i2, i3, i4, List.length_take, e]
    simp only [List.length_nil]; omega
  induction h with
  | nil =>
    have := base (.nil (l := l) (B := B) (st := st) (s0 := p00)) hx (by simp at hl; simp [hl])
    omega
  | more xs s c hp hne ih =>
    by_cases e : (xs ++ [c]).length = l.length
    · have := base (.more xs s c hp hne) hx e; omega
    · rw [List.length_append, List.length_singleton] at *
      have := ih (prev xs c (by rw [List.length_append, List.length_singleton]; exact hx)) (by omega)
      unfold owed at *
      simp only [List.length_append, List.length_singleton]; omega
  | took xs s c i hp hB' hf ih =>
    by_cases e : (xs ++ [c]).length = l.length
    · have := base (.took xs s c i hp hB' hf) hx e; omega
    · rw [List.length_append, List.length_singleton] at *
      have := ih (prev xs c (by rw [List.length_append, List.length_singleton]; exact hx)) (by omega)
      unfold owed at *
      rw [toldS_took]
      simp only [tookP, List.length_append, List.length_singleton, List.length_nil]; omega
  | slid xs s c h t hp hB' hnf e0 ih =>
    by_cases e : (xs ++ [c]).length = l.length
    · have := base (.slid xs s c h t hp hB' hnf e0) hx e; omega
    · rw [List.length_append, List.length_singleton] at *
      have := ih (prev xs c (by rw [List.length_append, List.length_singleton]; exact hx)) (by omega)
      have h2 := congrArg List.length e0
      simp only [List.length_append, List.length_cons, List.length_nil] at h2
      unfold owed at *
      simp only [slidP, List.length_append, List.length_singleton]; omega
/-- The last block is found too. -/
theorem DoneP.last {l : List UInt8} {B st : Nat} (hB : isB B) {s0 s : Pst} (h : DoneP l B st (lastN l B) s0 s) (hO : s0.O = []) (hT : s0.T = []) (hw : s0.want = l.length / B) (hL : s0.L = (l.drop (l.length / B * B)).take (l.length % B)) :
    s = s0 ∨ (s.L = [] ∧ toldS s.O + s.T.length = 0) := by
  have B0 : 0 < B := by rcases hB with rfl | rfl | rfl <;> decide
  have hdm := Nat.div_add_mod l.length B
  rw [Nat.mul_comm] at hdm
  have hm := Nat.mod_lt l.length B0
  have key : s0.L ≠ [] → s0.L = blk l B s0.want ∧ s0.want < cnt l.length B ∧ s0.L.length = lastN l B := by
    intro hne
    have h0 : l.length % B ≠ 0 := fun e => hne (by rw [hL, e]; rfl)
    have hb : s0.L = blk l B (l.length / B) := by
      rw [hL]
      show _ = (l.drop (l.length / B * B)).take B
      rw [List.take_of_length_le (by rw [List.length_drop]; omega), List.take_of_length_le (by rw [List.length_drop]; omega)]
    have hc : cnt l.length B = l.length / B + 1 := by
      unfold cnt
      rcases hB with rfl | rfl | rfl <;> omega
    refine ⟨by rw [hw]; exact hb, by rw [hw, hc]; exact Nat.lt_succ_self _, ?_⟩
    unfold lastN
    rw [hc, Nat.add_sub_cancel, ← hb]
  induction h with
  | nil => exact .inl rfl
  | took s i hp hne hn hf ih =>
    rcases ih with rfl | ⟨e, _⟩
    · refine .inr ⟨rfl, ?_⟩
      rw [toldS_took, hO, hT]; rfl
    · exact absurd e hne
  | slid s h t hp hnf e ih =>
    rcases ih with rfl | ⟨e2, _⟩
    · have hne : s.L ≠ [] := by rw [e]; exact List.cons_ne_nil _ _
      obtain ⟨k1, k2, k3⟩ := key hne
      exact (not_noFit (hnf k3) k1 k2).elim
    · rw [e2] at e; cases e
/-- What both ends hand out. -/
def outP (P1 P2 : Pst) : List (Nat × Nat × List UInt8) := (P1.O ++ tellP P1.T) ++ (P2.O ++ tellP P2.T)
/-- A search over a whole text. -/
structure RunP (l : List UInt8) (B st : Nat) (b : List UInt8) (P1 P2 : Pst) : Prop where
  fd : FeedP l B st p00 b P1
  dn : DoneP l B st (lastN l B) ⟨P1.L, P1.want, [], []⟩ P2
  le : P2.L = []
theorem RunP.told_le {l more : List UInt8} {B st : Nat} (hB : isB B) {P1 P2 : Pst} (h : RunP l B st (l ++ more) P1 P2) : toldS (outP P1 P2) ≤ more.length + l.length % B := by
  have h1 := h.fd.more_le (more := more) hB (by rw [List.take_length]) (by rw [List.length_append]; omega)
  have h2 := (h.dn.inv (fun o ho => by cases ho)).1
  unfold outP
  rw [toldS_append, toldS_append, toldS_append, toldS_tell, toldS_tell]
  unfold owed at h1 h2
  rw [List.length_append] at h1
  simp only [toldS_nil, List.length_nil] at h2
  omega
theorem RunP.told_zero {l : List UInt8} {B st : Nat} (hB : isB B) {P1 P2 : Pst} (h : RunP l B st l P1 P2) : toldS (outP P1 P2) = 0 := by
  obtain ⟨i1, i2, i3, i4⟩ := h.fd.old (more := []) hB (by rw [List.append_nil, List.take_length]) (Nat.le_refl _)
  unfold outP
  rw [toldS_append, toldS_append, toldS_append, toldS_tell, toldS_tell, i4, i3]
  rcases h.dn.last hB rfl rfl i1 i2 with e | ⟨_, e⟩
  · rw [e]; rfl
  · simp only [List.length_nil]; omega
theorem RunP.good {l b : List UInt8} {B st : Nat} {P1 P2 : Pst} (h : RunP l B st b P1 P2) : toldS (outP P1 P2) ≤ b.length ∧ ∀ o ∈ outP P1 P2, GoodP l.length o := by
  have h1 := h.fd.inv (fun o ho => by cases ho)
  have h2 := h.dn.inv (fun o ho => by cases ho)
  constructor
  · have h3 := h1.1
    have h4 := h2.1
    unfold outP
    rw [toldS_append, toldS_append, toldS_append, toldS_tell, toldS_tell]
    unfold owed p00 at *
    simp only [toldS_nil, List.length_nil] at h3 h4
    omega
  · intro o ho
    rcases List.mem_append.1 ho with ho | ho
    · rcases List.mem_append.1 ho with ho | ho
      · exact h1.2 o ho
      · exact good_tell _ _ o ho
    · rcases List.mem_append.1 ho with ho | ho
      · exact h2.2 o ho
      · exact good_tell _ _ o ho
/-- How much is copied. -/
def copyS (O : List (Nat × Nat × List UInt8)) : Nat := (O.map (fun o => if o.2.2.length = 0 then o.2.1 else 0)).sum
theorem copyS_append (A B : List (Nat × Nat × List UInt8)) : copyS (A ++ B) = copyS A + copyS B := by simp [copyS]
theorem copyS_one (o : Nat × Nat × List UInt8) : copyS [o] = if o.2.2.length = 0 then o.2.1 else 0 := by simp [copyS]
theorem copyS_tell (T : List UInt8) : copyS (tellP T) = 0 := by
  unfold tellP
  split
  · rfl
  · rw [copyS_one]; simp
theorem copyS_took (B : Nat) (s : Pst) (i : Nat) : copyS (tookP B s i).O = copyS s.O + s.L.length := by
  show copyS (s.O ++ tellP s.T ++ [(i * B, s.L.length, [])]) = _
  rw [copyS_append, copyS_append, copyS_tell, copyS_one]; rfl
theorem FeedP.copy_le {l : List UInt8} {B st : Nat} {s0 : Pst} {xs : List UInt8} {s : Pst} (h : FeedP l B st s0 xs s) : copyS s.O + s.L.length ≤ copyS s0.O + s0.L.length + xs.length := by
  induction h with
  | nil => exact Nat.le_refl _
  | more xs s c _ _ ih => simp only [List.length_append, List.length_singleton]; omega
  | took xs s c i _ _ hf ih =>
    rw [copyS_took]
    simp only [tookP, List.length_append, List.length_singleton, List.length_nil]; omega
  | slid xs s c h t _ _ _ e ih =>
    have h2 := congrArg List.length e
    simp only [List.length_append, List.length_cons, List.length_nil] at h2
    simp only [slidP, List.length_append, List.length_singleton]; omega
theorem DoneP.copy_le {l : List UInt8} {B st n : Nat} {s0 s : Pst} (h : DoneP l B st n s0 s) : copyS s.O + s.L.length ≤ copyS s0.O + s0.L.length := by
  induction h with
  | nil => exact Nat.le_refl _
  | took s i _ hL _ hf ih =>
    rw [copyS_took]
    simp only [tookP, List.length_nil]; omega
  | slid s h t _ _ e ih =>
    have h2 := congrArg List.length e
    simp only [List.length_cons] at h2
    simp only [slidP]; omega
theorem RunP.copy_le {l b : List UInt8} {B st : Nat} {P1 P2 : Pst} (h : RunP l B st b P1 P2) : copyS (outP P1 P2) ≤ b.length := by
  have h1 := h.fd.copy_le
  have h2 := h.dn.copy_le
  unfold outP
  rw [copyS_append, copyS_append, copyS_append, copyS_tell, copyS_tell]
  unfold p00 at h1
  simp only [show copyS [] = 0 from rfl, List.length_nil] at h1 h2
  omega
theorem AddR.copy_eq {O : List (Nat × Nat × List UInt8)} {o : Nat × Nat × List UInt8} {O' : List (Nat × Nat × List UInt8)} (h : AddR O o O') : copyS O' = copyS O + if o.2.2.length = 0 then o.2.1 else 0 := by
  cases h with
  | zero h =>
    unfold lenV at h
    split at h <;> split <;> omega
  | join I p h1 h2 h3 =>
    subst h1
    have a2 := List.length_pos_iff.2 h2
    have a3 := List.length_pos_iff.2 h3
    rw [copyS_append, copyS_append, copyS_one, copyS_one, List.length_append, if_neg (by omega), if_neg (by omega), if_neg (by omega)]
  | run I p h1 h2 h3 =>
    subst h1
    rw [copyS_append, copyS_append, copyS_one, copyS_one, h2, h3]; simp; omega
  | told h =>
    have a2 := List.length_pos_iff.2 h
    have e1 : copyS [(0, 0, o.2.2)] = 0 := by rw [copyS_one]; exact if_neg (by show ¬ o.2.2.length = 0; omega)
    rw [copyS_append, e1, if_neg (by omega)]
  | copy h => rw [copyS_append, copyS_one]
theorem NormR.copy_eq {l O : List (Nat × Nat × List UInt8)} (h : NormR l O) : copyS O = copyS l := by
  induction h with
  | nil => rfl
  | snoc l O O' o _ h ih => rw [h.copy_eq, ih, copyS_append, copyS_one]
end Go.Proofs.Ytphjebbjhfnhoaa
