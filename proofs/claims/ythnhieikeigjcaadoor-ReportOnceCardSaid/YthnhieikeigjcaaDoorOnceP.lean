/- One step more in the lines; lists of steps that the call owns. -/
import Derived.Test.YthnhieikeigjcaaDoorRTot
import Derived.Test.YthnhieikeigjcaaDoorNumW
import Derived.Laws.AppendOwnNone
namespace Go.Proofs.YthnhieikeigjcaaDoor
open Go.RowKit

/-! The lines -/
theorem tot_congr {c d : Nat → Nat} (h : ∀ j, j ≤ 7 → 1 ≤ j → c j = d j) (t k : Nat) : totB c t k = totB d t k := by
  unfold totB; rw [linS_congr 7 h]
theorem tot_reverse (ks : List Int) (t k : Nat) : totB (cOf ks.reverse) t k = totB (cOf ks) t k := tot_congr (fun j _ _ => cOf_reverse ks j) t k
theorem tot_odd (ks : List Int) (x : Int) (hx : x < 1 ∨ 7 < x) (t k : Nat) : totB (cOf (ks ++ [x])) t k = totB (cOf ks) t k :=
  tot_congr (fun j h1 h2 => by rw [cOf_snoc, if_neg (by omega), Nat.add_zero]) t k

/-- Behind kind m the lines are the same. -/
theorem lin_tail {c d : Nat → Nat} {m : Nat} (h : ∀ j, m < j → c j = d j) : ∀ K, m ≤ K → ∃ T : ByteArray, linS c K = linS c m ++ T ∧ linS d K = linS d m ++ T := by
  intro K hK
  induction K with
  | zero =>
    obtain rfl : m = 0 := by omega
    exact ⟨⟨#[]⟩, rfl, rfl⟩
  | succ K ih =>
    by_cases hm : m = K + 1
    · subst hm
      exact ⟨⟨#[]⟩, by apply ba_ext; simp, by apply ba_ext; simp⟩
    · obtain ⟨T, h1, h2⟩ := ih (by omega)
      have hc := h (K + 1) (by omega)
      by_cases hp : 0 < c (K + 1)
      · refine ⟨T ++ lineB (K + 1) (c (K + 1)), ?_, ?_⟩
        · show (if 0 < c (K + 1) then linS c K ++ lineB (K + 1) (c (K + 1)) else linS c K) = _
          rw [if_pos hp, h1]; apply ba_ext; simp only [pre_data2, List.append_assoc]
        · show (if 0 < d (K + 1) then linS d K ++ lineB (K + 1) (d (K + 1)) else linS d K) = _
          rw [← hc, if_pos hp, h2]; apply ba_ext; simp only [pre_data2, List.append_assoc]
      · refine ⟨T, ?_, ?_⟩
        · show (if 0 < c (K + 1) then linS c K ++ lineB (K + 1) (c (K + 1)) else linS c K) = _
          rw [if_neg hp, h1]
        · show (if 0 < d (K + 1) then linS d K ++ lineB (K + 1) (d (K + 1)) else linS d K) = _
          rw [← hc, if_neg hp, h2]

theorem wd_least : ∀ k, k < 8 → 1 ≤ k → 3 ≤ (wd k).size := by decide
theorem line_size_eq (k n : Nat) : (lineB k n).size = (wd k).size + (digB n).size + 2 := by
  unfold lineB
  rw [ByteArray.size_append, ByteArray.size_append, ByteArray.size_append]
  have : (⟨#[32]⟩ : ByteArray).size = 1 := rfl
  have : (⟨#[10]⟩ : ByteArray).size = 1 := rfl
  omega
theorem digB_grow (n : Nat) : (digB n).size ≤ (digB (n + 1)).size ∧ (digB (n + 1)).size ≤ (digB n).size + 1 := by
  induction n using Nat.strongRecOn with
  | _ n ih =>
    show (Lib.decDigits n).length ≤ (Lib.decDigits (n + 1)).length ∧ (Lib.decDigits (n + 1)).length ≤ (Lib.decDigits n).length + 1
    by_cases h : n < 10
    · by_cases h9 : n + 1 < 10
      · rw [Lib.decDigits_one h, Lib.decDigits_one h9]; simp
      · obtain rfl : n = 9 := by omega
        decide +kernel
    · have e1 : Lib.decDigits n = Lib.decDigits (n / 10) ++ [UInt8.ofNat (48 + n % 10)] := by rw [Lib.decDigits, dif_neg h]
      have e2 : Lib.decDigits (n + 1) = Lib.decDigits ((n + 1) / 10) ++ [UInt8.ofNat (48 + (n + 1) % 10)] := by rw [Lib.decDigits, dif_neg (by omega)]
      rw [e1, e2, List.length_append, List.length_append]
      by_cases hq : (n + 1) / 10 = n / 10
      · rw [hq]; simp
      · have hq2 : (n + 1) / 10 = n / 10 + 1 := by omega
        rw [hq2]
        have := ih (n / 10) (by omega)
        have h1 : (Lib.decDigits (n / 10)).length ≤ (Lib.decDigits (n / 10 + 1)).length ∧ (Lib.decDigits (n / 10 + 1)).length ≤ (Lib.decDigits (n / 10)).length + 1 := this
        simp only [List.length_singleton]
        omega
theorem digB_one_size : (digB 1).size = 1 := by decide +kernel

/-- One step more of a kind: what it does to the text. -/
theorem tot_more (ks : List Int) (m : Nat) (h1 : 1 ≤ m) (h7 : m ≤ 7) (t k : Nat) :
    (cOf ks m = 0 → (totB (cOf ks) t k).size + 6 ≤ (totB (cOf (ks ++ [(m : Int)])) t k).size) ∧
    (0 < cOf ks m → (totB (cOf ks) t k).size ≤ (totB (cOf (ks ++ [(m : Int)])) t k).size ∧ (totB (cOf (ks ++ [(m : Int)])) t k).size < (totB (cOf ks) t k).size + 6) ∧
    totB (cOf (ks ++ [(m : Int)])) t k ≠ totB (cOf ks) t k := by
  obtain ⟨c, hc⟩ : ∃ c, c = cOf ks := ⟨_, rfl⟩
  obtain ⟨d, hd⟩ : ∃ d, d = cOf (ks ++ [(m : Int)]) := ⟨_, rfl⟩
  have hdm : d m = c m + 1 := by rw [hd, hc, cOf_snoc, if_pos ⟨h1, rfl⟩]
  have hdj : ∀ j, j ≠ m → d j = c j := fun j hj => by rw [hd, hc, cOf_snoc, if_neg (by omega), Nat.add_zero]
  rw [← hc, ← hd]
  obtain ⟨j, rfl⟩ : ∃ j, m = j + 1 := ⟨m - 1, by omega⟩
  obtain ⟨T, e1, e2⟩ := lin_tail (c := c) (d := d) (m := j + 1) (fun i hi => (hdj i (by omega)).symm) 7 h7
  have ep : linS d j = linS c j := linS_congr j (fun i hi _ => hdj i (by omega))
  have ed : linS d (j + 1) = linS c j ++ lineB (j + 1) (c (j + 1) + 1) := by
    show (if 0 < d (j + 1) then linS d j ++ lineB (j + 1) (d (j + 1)) else linS d j) = _
    rw [if_pos (by omega), ep, hdm]
  have hw := wd_least (j + 1) (by omega) h1
  unfold totB
  rw [e1, e2, ed]
  rcases Nat.eq_zero_or_pos (c (j + 1)) with hz | hp
  · have ec : linS c (j + 1) = linS c j := by
      show (if 0 < c (j + 1) then _ else linS c j) = _
      rw [if_neg (by omega)]
    rw [ec, hz]
    have hl := line_size_eq (j + 1) (0 + 1)
    have h0 : (digB (0 + 1)).size = 1 := digB_one_size
    have key : (linS c j ++ T ++ headB t k ++ spaB k (allN t k)).size + 6 ≤ (linS c j ++ lineB (j + 1) (0 + 1) ++ T ++ headB t k ++ spaB k (allN t k)).size := by
      simp only [ByteArray.size_append]; omega
    refine ⟨fun _ => key, fun h => (Nat.lt_irrefl 0 h).elim, fun e => ?_⟩
    rw [e] at key; omega
  · have ec : linS c (j + 1) = linS c j ++ lineB (j + 1) (c (j + 1)) := by
      show (if 0 < c (j + 1) then _ else _) = _
      rw [if_pos hp]
    rw [ec]
    have hl := line_size_eq (j + 1) (c (j + 1))
    have hl2 := line_size_eq (j + 1) (c (j + 1) + 1)
    have hg := digB_grow (c (j + 1))
    refine ⟨fun h => absurd h (by omega), fun _ => ?_, fun e => ?_⟩
    · simp only [ByteArray.size_append]; omega
    · have e3 := congrArg (fun s : ByteArray => s.data.toList) e
      unfold lineB at e3
      simp only [pre_data2, List.append_assoc] at e3
      have e4 := List.append_cancel_left (List.append_cancel_left (List.append_cancel_left e3))
      -- the digits end where the line feed stands
      have hlen : (digB (c (j + 1) + 1)).data.toList.length = (digB (c (j + 1))).data.toList.length := by
        have := congrArg List.length e4
        simp only [List.length_append] at this
        omega
      have e5 := (List.append_inj e4 hlen).1
      rw [digB_data, digB_data] at e5
      have := congrArg numV e5
      rw [(dec_digits _).2, (dec_digits _).2] at this
      omega

/-! Lists of steps that the call owns -/
/-- Cells of steps of these kinds. -/
def GoodX (ks : List Int) (xs : List Value) : Prop :=
  xs.length = ks.length * 15 ∧ (∀ i k, ks[i]? = some k → xs[i * 15]? = some (.int .i64 k)) ∧ ∀ u ∈ xs, u.oneCell' = true
theorem GoodX.nil : GoodX [] [] := ⟨rfl, fun i k h => by simp at h, fun u h => by simp at h⟩
theorem GoodX.app {ks ls : List Int} {xs ys : List Value} (h : GoodX ks xs) (k : GoodX ls ys) : GoodX (ks ++ ls) (xs ++ ys) := by
  refine ⟨by rw [List.length_append, List.length_append, h.1, k.1, Nat.add_mul], fun i x hi => ?_, fun u hu => ?_⟩
  · by_cases hlt : i < ks.length
    · rw [List.getElem?_append_left hlt] at hi
      rw [List.getElem?_append_left (by rw [h.1]; omega)]
      exact h.2.1 i x hi
    · rw [List.getElem?_append_right (by omega)] at hi
      rw [List.getElem?_append_right (by rw [h.1]; omega), h.1, show i * 15 - ks.length * 15 = (i - ks.length) * 15 by omega]
      exact k.2.1 _ x hi
  · rcases List.mem_append.1 hu with h1 | h1
    · exact h.2.2 u h1
    · exact k.2.2 u h1
def OwnS (w : World) (B : Nat) (v : Value) (ks : List Int) : Prop := ∃ xs, w.ownsRow B 41 15 v ks.length xs ∧ GoodX ks xs
theorem OwnS.nil (w : World) (B : Nat) : OwnS w B (.slice none 0 0) [] := ⟨[], World.ownsRow_nil _ _ _ _, GoodX.nil⟩
theorem OwnS.steps {w : World} {B : Nat} {v : Value} {ks : List Int} (h : OwnS w B v ks) : ∃ ad cap, v = .slice ad ks.length cap ∧ Steps w ad ks ∧ (ad = none → cap = 0) := by
  obtain ⟨xs, ⟨hl, ho⟩, hg⟩ := h
  rcases ho with ⟨rfl, h0⟩ | ⟨g, cap, cur, rfl, _, hb, hn, _, hc, ht⟩
  · exact ⟨none, 0, by rw [h0], fun i k hk => (by rw [List.getElem?_eq_none (by omega)] at hk; cases hk), fun _ => rfl⟩
  · refine ⟨some ⟨g, 0, none⟩, cap, rfl, fun i k hk => ?_, fun e => by cases e⟩
    have hi : i < ks.length := (List.getElem?_eq_some_iff.1 hk).1
    have hle : i * 15 + 15 ≤ ks.length * 15 := by omega
    have hcell : ∀ j v, ((xs.drop (i * 15)).take 15)[j]? = some v → w.cell? (((⟨g, 0, none⟩ : Addr).add (i * 15)).add j) = some v := by
      intro j v hv
      have hj : j < 15 := by
        have := (List.getElem?_eq_some_iff.1 hv).1
        rw [List.length_take] at this; omega
      rw [List.getElem?_take_of_lt hj, List.getElem?_drop] at hv
      rw [Go.Deep.add_add, Addr.add_mid, Nat.zero_add]
      rw [← ht, List.getElem?_take_of_lt (by omega), Array.getElem?_toList] at hv
      exact Blk.cell hb _ hv
    refine ⟨_, (xs.drop (i * 15)).take 15, rfl, ?_, ?_, ?_, hcell, fun u hu => hg.2.2 u (List.mem_of_mem_drop (List.mem_of_mem_take hu))⟩
    · rw [addr_add_block]; exact lt_of_block hb
    · rw [List.length_take, List.length_drop, hl]; omega
    · rw [List.getElem?_take_of_lt (by omega), List.getElem?_drop, Nat.add_zero]; exact hg.2.1 i k hk
theorem OwnS.alloc {w : World} {B : Nat} {v : Value} {ks : List Int} (h : OwnS w B v ks) (o : Obj) : OwnS (w.alloc o) B v ks := by
  obtain ⟨xs, h1, h2⟩ := h
  exact ⟨xs, h1.alloc o, h2⟩

/-- Cells read at an address, out of steps. -/
theorem steps_cells {w : World} {x : Addr} {ks : List Int} (h : Steps w (some x) ks) : ∃ xs, GoodX ks xs ∧ ∀ j u, xs[j]? = some u → w.cell? (x.add j) = some u := by
  have key : ∀ j, j < ks.length * 15 → ∃ v, w.cell? (x.add j) = some v ∧ v.oneCell' = true ∧ (j % 15 = 0 → ∀ k, ks[j / 15]? = some k → v = .int .i64 k) := fun j hj => by
    have hi : j / 15 < ks.length := by omega
    obtain ⟨y, cs, hy, hst⟩ := h (j / 15) _ (List.getElem?_eq_getElem hi)
    injection hy with hy
    subst hy
    obtain ⟨_, hl, h0, hc, h1⟩ := hst
    have hr : j % 15 < cs.length := by omega
    refine ⟨cs[j % 15], ?_, h1 _ (List.getElem_mem _), fun hz k hk => ?_⟩
    · have := hc (j % 15) _ (List.getElem?_eq_getElem hr)
      rw [Go.Deep.add_add, show j / 15 * 15 + j % 15 = j by omega] at this
      exact this
    · have e : ks[j / 15] = k := by
        rw [List.getElem?_eq_getElem hi] at hk
        exact Option.some.inj hk
      have e0 : cs[j % 15]? = some (.int .i64 ks[j / 15]) := by rw [hz]; exact h0
      rw [List.getElem?_eq_getElem hr] at e0
      rw [Option.some.inj e0, e]
  refine ⟨(List.range (ks.length * 15)).map fun j => (w.cell? (x.add j)).getD undef, ⟨by simp, fun i k hk => ?_, fun u hu => ?_⟩, fun j u hu => ?_⟩
  · have hi : i < ks.length := (List.getElem?_eq_some_iff.1 hk).1
    obtain ⟨v, h1, _, h3⟩ := key (i * 15) (by omega)
    rw [List.getElem?_map, List.getElem?_range (by omega)]
    show some ((w.cell? (x.add (i * 15))).getD undef) = _
    rw [h1, h3 (by omega) k (by rw [show i * 15 / 15 = i by omega]; exact hk)]; rfl
  · obtain ⟨j, hj, rfl⟩ := List.mem_map.1 hu
    obtain ⟨v, h1, h2, _⟩ := key j (List.mem_range.1 hj)
    rw [h1]; exact h2
  · have hj : j < ks.length * 15 := by
      have := (List.getElem?_eq_some_iff.1 hu).1
      simpa using this
    obtain ⟨v, h1, _, _⟩ := key j hj
    rw [List.getElem?_map, List.getElem?_range hj] at hu
    have hu2 : some ((w.cell? (x.add j)).getD undef) = some u := hu
    rw [h1] at hu2 ⊢
    exact hu2

theorem one_steps (w : World) (k : Int) (cs : List Value) (hl : cs.length = 15) (h0 : cs[0]? = some (.int .i64 k)) (h1 : ∀ v ∈ cs, v.oneCell' = true) : Steps (w.alloc (.cells cs.toArray 41)) (some ⟨w.heap.size, 0, none⟩) [k] := by
  intro i x hi
  obtain rfl : i = 0 := by have := (List.getElem?_eq_some_iff.1 hi).1; simpa using this
  have hx : k = x := by simpa using hi
  subst hx
  refine ⟨_, cs, rfl, by rw [addr_add_block]; simp, hl, h0, fun j v hj => ?_, h1⟩
  rw [Go.Deep.add_add, Addr.add_mid, Nat.zero_add, Nat.zero_mul, Nat.zero_add]
  exact (Blk.new w 41 cs.toArray).cell j (by simpa using hj)

theorem Tryd.info41 : (Tryd.prog.info? 41).map (fun i => (i.zero, i.size, i.bytes)) = some (some (.agg zero15), 15, 160) := by kernel_rfl

/-- append of steps to steps that the call owns. -/
theorem wpList_app_steps {ops : Array Oper} {rest : List Oper} {o : Oper} {a : Act} {w : World} {Q : Exit → Act → World → Prop} (hgd : o.guard = none) (s x : Operand)
    (ho : o.op = .call { callee := .builtin .append, args := #[s, x], argTypes := #[26, 26] }) (B : Nat) (v : Value) (ls : List Int) (hs : a.eval s = v) (hown : OwnS w B v ls)
    (ad : Option Addr) (ks : List Int) (cap : Nat) (hx : a.eval x = .slice ad ks.length cap) (hst : Steps w ad ks) (hnil : ad = none → cap = 0) (hn : ls.length + ks.length ≤ 1000) (hB : B ≤ w.heap.size)
    (h : ∀ v' w', OwnS w' B v' (ls ++ ks) → w.grownBy w' v.ownBlock → (∀ k, v.ownBlock = some k → B ≤ k) → wpList Tryd.prog ops Q rest (a.put o.dst v') w') : wpList Tryd.prog ops Q (o :: rest) a w := by
  obtain ⟨i0, hi0, hz0, hz1, hz2⟩ := info_parts Tryd.info41
  obtain ⟨xs, ho1, hg⟩ := hown
  rcases ad with _ | ad
  · have hk : ks = [] := by
      cases ks with
      | nil => rfl
      | cons k t => obtain ⟨y, _, hy, _⟩ := hst 0 k rfl; cases hy
    subst hk
    have hc := hnil rfl
    subst hc
    refine wpList_append_own_none hgd s x 26 ho B 41 i0 15 Tryd.underlying26 hi0 v ls.length xs hs ho1 hx (h _ _ ⟨xs, by rw [List.append_nil]; exact ho1, by rw [List.append_nil]; exact hg⟩ ?_ (fun k hk => (ho1.lt k hk).1))
    exact ⟨rfl, rfl, rfl, Nat.le_refl _, fun _ _ _ => rfl⟩
  · obtain ⟨ys, hgy, hcy⟩ := steps_cells hst
    refine wpList_append_own w hgd s x 26 ho B 41 i0 (.agg zero15) 15 160 Tryd.underlying26 hi0 hz0 hz1 hz2 rfl (by decide) v ls.length xs hs ho1 ad ks.length cap ys hx hgy.1 hcy hgy.2.2 (by unfold maxLen; omega) (by omega) hB (fun v' w' h1 h2 _ => h v' w' ⟨xs ++ ys, by rw [List.length_append]; exact h1, hg.app hgy⟩ h2 (fun k hk => (ho1.lt k hk).1))

/-! A struct's cells laid into a new row -/
theorem fold_cells (cs : List Value) : ∀ (old : Array Value) (k : Nat), (List.foldl (fun (cs : Array Value) (x : Value × Nat) => cs.setIfInBounds x.snd x.fst) old (cs.zipIdx k)).size = old.size ∧
    ∀ i, (List.foldl (fun (cs : Array Value) (x : Value × Nat) => cs.setIfInBounds x.snd x.fst) old (cs.zipIdx k))[i]? = if k ≤ i ∧ i < k + cs.length ∧ i < old.size then cs[i - k]? else old[i]? := by
  induction cs with
  | nil => intro old k; exact ⟨rfl, fun i => by rw [if_neg (by simp; omega)]; rfl⟩
  | cons c t ih =>
    intro old k
    rw [List.zipIdx_cons, List.foldl_cons]
    obtain ⟨h1, h2⟩ := ih (old.setIfInBounds k c) (k + 1)
    refine ⟨by rw [h1, Array.size_setIfInBounds], fun i => ?_⟩
    rw [h2 i, Array.size_setIfInBounds]
    by_cases hi : k + 1 ≤ i ∧ i < k + 1 + t.length ∧ i < old.size
    · rw [if_pos hi, if_pos ⟨by omega, by rw [List.length_cons]; omega, hi.2.2⟩, show i - k = (i - (k + 1)) + 1 by omega, List.getElem?_cons_succ]
    · rw [if_neg hi]
      by_cases hk : i = k
      · subst hk
        by_cases hs : i < old.size
        · rw [if_pos ⟨Nat.le_refl _, by rw [List.length_cons]; omega, hs⟩, Nat.sub_self, Array.getElem?_setIfInBounds_self_of_lt hs]; rfl
        · rw [if_neg (fun h => hs h.2.2), Array.getElem?_eq_none (by rw [Array.size_setIfInBounds]; omega), Array.getElem?_eq_none (by omega)]
      · rw [if_neg (fun h => hi ⟨by omega, by rw [List.length_cons] at h; omega, h.2.2⟩), Array.getElem?_setIfInBounds_ne (Ne.symm hk)]
theorem fold_all (cs : List Value) (old : Array Value) (h : cs.length = old.size) : List.foldl (fun (cs : Array Value) (x : Value × Nat) => cs.setIfInBounds x.snd x.fst) old cs.zipIdx = cs.toArray := by
  obtain ⟨h1, h2⟩ := fold_cells cs old 0
  apply Array.ext'
  apply List.ext_getElem?
  intro i
  rw [Array.getElem?_toList, h2 i]
  by_cases hi : i < cs.length
  · rw [if_pos ⟨Nat.zero_le _, by omega, by omega⟩, Nat.sub_zero]
  · rw [if_neg (fun x => hi (by omega)), Array.getElem?_eq_none (by omega)]
    exact (List.getElem?_eq_none (by simpa using (show cs.length ≤ i by omega))).symm
end Go.Proofs.YthnhieikeigjcaaDoor
