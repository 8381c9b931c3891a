/- append onto a slice of the call's own, wherever in its row it lies. -/
import Derived.Test.YtphjebbjhfnhoaaEn
import Derived.Deep.AppendSrc
namespace Go.Proofs.Ytphjebbjhfnhoaa
open Go.RowKit

/-- A slice's row: n elements of sz cells, their cells xs. -/
def Sl (w : World) (e : TypeId) (sz : Nat) (v : Value) (n : Nat) (xs : List Value) : Prop :=
  xs.length = n * sz ∧ ((v = .slice none 0 0 ∧ n = 0) ∨
    ∃ g o cap cur, v = .slice (some ⟨g, o, none⟩) n cap ∧ Blk w g e cur ∧ n ≤ cap ∧ cap ≤ maxLen ∧ o + cap * sz ≤ cur.size ∧ ∀ j u, xs[j]? = some u → cur[o + j]? = some u)
theorem Sl.nil (w : World) (e : TypeId) (sz : Nat) : Sl w e sz (.slice none 0 0) 0 [] := ⟨by simp, .inl ⟨rfl, rfl⟩⟩
theorem Sl.fr {w w' : World} {e : TypeId} {sz : Nat} {v : Value} {n : Nat} {xs : List Value} {S : Nat → Prop} (h : Sl w e sz v n xs) (f : Fr S w w') (hS : ∀ k, v.ownBlock = some k → ¬ S k) : Sl w' e sz v n xs := by
  refine ⟨h.1, ?_⟩
  rcases h.2 with h | ⟨g, o, cap, cur, rfl, hb, h2, h3, h4, h5⟩
  · exact .inl h
  · exact .inr ⟨g, o, cap, cur, rfl, hb.fr f (hS g rfl), h2, h3, h4, h5⟩
theorem Sl.lt {w : World} {e : TypeId} {sz : Nat} {v : Value} {n : Nat} {xs : List Value} (h : Sl w e sz v n xs) (k : Nat) (hk : v.ownBlock = some k) : k < w.heap.size := by
  rcases h.2 with ⟨rfl, _⟩ | ⟨g, o, cap, cur, rfl, hb, _⟩
  · cases hk
  · have : g = k := by simpa [Value.ownBlock] using hk
    subst this; exact hb.lt
theorem Sl.slice {w : World} {e : TypeId} {sz : Nat} {v : Value} {n : Nat} {xs : List Value} (h : Sl w e sz v n xs) : ∃ ad cap, v = .slice ad n cap ∧ n ≤ cap ∧ cap ≤ maxLen := by
  rcases h.2 with ⟨rfl, rfl⟩ | ⟨g, o, cap, cur, rfl, hb, h2, h3, _⟩
  · exact ⟨_, _, rfl, Nat.le_refl _, by decide⟩
  · exact ⟨_, _, rfl, h2, h3⟩
/-- The first cell and where it lies. -/
theorem Sl.pos {w : World} {e : TypeId} {sz : Nat} {v : Value} {n : Nat} {xs : List Value} (h : Sl w e sz v n xs) (hn : 0 < n) :
    ∃ g o cap cur, v = .slice (some ⟨g, o, none⟩) n cap ∧ Blk w g e cur ∧ n ≤ cap ∧ cap ≤ maxLen ∧ o + cap * sz ≤ cur.size ∧ ∀ j u, xs[j]? = some u → cur[o + j]? = some u := by
  rcases h.2 with ⟨rfl, rfl⟩ | h
  · exact absurd hn (Nat.lt_irrefl _)
  · exact h

def setL (cur : Array Value) (o : Nat) : List Value → Array Value
  | [] => cur
  | v :: l => setL (cur.setIfInBounds o v) (o + 1) l
theorem setL_size : ∀ (l : List Value) (cur : Array Value) (o : Nat), (setL cur o l).size = cur.size
  | [], _, _ => rfl
  | v :: l, cur, o => by rw [setL, setL_size l]; simp
theorem setL_at : ∀ (l : List Value) (cur : Array Value) (o : Nat), o + l.length ≤ cur.size → ∀ j, (setL cur o l)[j]? = if o ≤ j ∧ j < o + l.length then l[j - o]? else cur[j]?
  | [], cur, o, _, j => by rw [if_neg (show ¬ (o ≤ j ∧ j < o + ([] : List Value).length) by rw [List.length_nil]; omega)]; rfl
  | v :: l, cur, o, h, j => by
    simp only [List.length_cons] at h
    rw [setL, setL_at l _ _ (by simp; omega), List.length_cons]
    by_cases e : j = o
    · subst e
      rw [if_neg (by omega), if_pos (by omega), Nat.sub_self, Array.getElem?_setIfInBounds_self_of_lt (by omega)]; rfl
    · by_cases e2 : o ≤ j ∧ j < o + (l.length + 1)
      · rw [if_pos (by omega), if_pos e2, show j - o = (j - (o + 1)) + 1 by omega, List.getElem?_cons_succ]
      · rw [if_neg (by omega), if_neg e2, Array.getElem?_setIfInBounds_ne (Ne.symm e)]
theorem Blk.setCells {T : TypeId} {b : Nat} : ∀ (l : List Value) (w : World) (cur : Array Value) (o : Nat), Blk w b T cur → Blk (w.setCells b o l) b T (setL cur o l)
  | [], _, _, _, h => h
  | v :: l, _, _, o, h => Blk.setCells l _ _ _ (h.set o v)
theorem fr_setCells {b : Nat} : ∀ (l : List Value) (w : World) (o : Nat), Fr (fun k => k = b) w (w.setCells b o l)
  | [], _, _ => Fr.refl _ _
  | v :: l, w, o => ((Fr.refl (fun k => k = b) w).setCell (p := ⟨b, o, none⟩) (fun _ => rfl) v).trans (fr_setCells l _ (o + 1)) (fun _ _ e => e)

section
variable {P : Program}
theorem run_append_sl (w : World) (t tx ty e : TypeId) (i : TypeInfo) (z : Value) (sz by_ : Nat) (ht : P.underlying t = some (.slice e)) (hi : P.info? e = some i) (hz : i.zero = some z) (hsz : i.size = sz) (hby : i.bytes = by_) (hzs : z.cells.size = sz)
    (v : Value) (n : Nat) (xs : List Value) (hown : Sl w e sz v n xs) (x : Value) (m : Nat) (news : List Value) (hs : Src P sz tx x m news w)
    (h63 : n + m ≤ maxLen) (hbytes : (n + m) * by_ ≤ 140737488355328) :
    ∃ v' w', (Builtin.append_ #[t, tx] ty #[v, x]).run P w = .ok v' w' ∧ Sl w' e sz v' (n + m) (xs ++ news) ∧ Fr (fun k => v.ownBlock = some k) w w' ∧ (v'.ownBlock = v.ownBlock ∨ v'.ownBlock = some w.heap.size) := by
  subst hsz
  subst hby
  have hlen : (xs ++ news).length = (n + m) * i.size := by rw [List.length_append, hown.1, hs.newsLen, Nat.add_mul]
  have grow : ∀ (base : Option Addr) (cap : Nat) (hold : (Builtin.firstCells i.size n (.slice base n cap)).run P w.drew = .ok xs.toArray w.drew), cap < n + m →
      ∃ v' w', (Builtin.append_ #[t, tx] ty #[.slice base n cap, x]).run P w = .ok v' w' ∧ Sl w' e i.size v' (n + m) (xs ++ news) ∧ Fr (fun k => (Value.slice base n cap).ownBlock = some k) w w' ∧ (v'.ownBlock = (Value.slice base n cap).ownBlock ∨ v'.ownBlock = some w.heap.size) := by
    intro base cap hold hg
    have hr := run_append_grow_src (P := P) w t tx ty e i z ht hi hz base n cap xs hold x m news hs hg (by simp only [maxLen] at h63; omega) (growslice_fits hg hbytes)
    refine ⟨_, _, hr, ⟨hlen, .inr ⟨w.heap.size, 0, _, _, rfl, Blk.new w.drew e _, grownCap_ge _ _ _ _, grownCap_le_maxLen w (n + m) cap e h63, ?_, ?_⟩⟩, ((Fr.refl _ w).drew).alloc _, .inr rfl⟩
    · rw [Array.size_append, size_zeroCells, List.size_toArray, hlen, hzs, ← Nat.add_mul, Nat.zero_add]
      have := grownCap_ge w (n + m) cap e
      rw [show n + m + (grownCap w (n + m) cap e - (n + m)) = grownCap w (n + m) cap e by omega]
      exact Nat.le_refl _
    · intro j u hj
      rw [Nat.zero_add, Array.getElem?_append_left (by rw [List.size_toArray]; exact (List.getElem?_eq_some_iff.1 hj).1), List.getElem?_toArray]
      exact hj
  rcases hown.2 with ⟨rfl, rfl⟩ | ⟨g, o, cap, cur, rfl, hb, hnc, hcm, hsz, hat⟩
  · have hx : xs = [] := List.eq_nil_of_length_eq_zero (by simpa using hown.1)
    subst hx
    by_cases hm : m = 0
    · subst hm
      have hn : news = [] := List.eq_nil_of_length_eq_zero (by simpa using hs.newsLen)
      subst hn
      refine ⟨.slice none 0 0, w, ?_, ⟨by simp, .inl ⟨rfl, rfl⟩⟩, Fr.refl _ _, .inl rfl⟩
      have h0 := hs.cells
      rcases hs.kind with ⟨e', hk⟩ | hk <;> simp [Builtin.append_, run_underlying ht, run_underlying hk, sizeOf, typeInfo, hi, hs.len, h0]
    · exact grow none 0 (run_firstCells_none w.drew i.size 0 0 0) (by omega)
  · by_cases hroom : n + m ≤ cap
    · have hmul : (n + m) * i.size ≤ cap * i.size := Nat.mul_le_mul_right _ hroom
      have hfit : o + n * i.size + news.length ≤ cur.size := by rw [hs.newsLen, Nat.add_assoc, ← Nat.add_mul]; omega
      have hr := run_append_room_src (P := P) w t tx ty e i ht hi g o n cap x m news hs hroom
        (fun j hj => by
          have hlt : o + n * i.size + j < cur.size := by omega
          rw [hb.cell (o + n * i.size + j) (Array.getElem?_eq_getElem hlt)]; rfl)
        (fun j _ => hb.free _)
      refine ⟨_, _, hr, ⟨hlen, .inr ⟨g, o, cap, _, rfl, Blk.setCells news w cur _ hb, hroom, hcm, by rw [setL_size]; exact hsz, ?_⟩⟩, (fr_setCells news w _).mono (fun k _ e => by subst e; rfl), .inl rfl⟩
      intro j u hj
      rw [setL_at _ _ _ hfit]
      by_cases hjn : j < n * i.size
      · rw [if_neg (by omega)]
        rw [List.getElem?_append_left (by rw [hown.1]; exact hjn)] at hj
        exact hat j u hj
      · rw [List.getElem?_append_right (by rw [hown.1]; omega), hown.1] at hj
        have hlt := (List.getElem?_eq_some_iff.1 hj).1
        rw [if_pos (by omega), show o + j - (o + n * i.size) = j - n * i.size by omega]
        exact hj
    · refine grow (some ⟨g, o, none⟩) cap ?_ (by omega)
      refine run_firstCells_some w.drew i.size n ⟨g, o, none⟩ n cap xs hown.1 (fun j u hj => ?_)
      rw [Addr.add_mid]
      exact hb.drew.cell (o + j) (hat j u hj)
end
theorem wpList_app {P : Program} {w : World} {ops : Array Oper} {rest : List Oper} {o : Oper} {a : Act} {Q : Exit → Act → World → Prop} (hgd : o.guard = none) (s x : Operand) (t tx : TypeId)
    (ho : o.op = .call { callee := .builtin .append, args := #[s, x], argTypes := #[t, tx] }) (e : TypeId) (z : Value) (sz by_ : Nat) (ht : P.underlying t = some (.slice e)) (hi : (P.info? e).map (fun i => (i.zero, i.size, i.bytes)) = some (some z, sz, by_)) (hzs : z.cells.size = sz)
    (v : Value) (n : Nat) (xs : List Value) (hv : a.eval s = v) (hown : Sl w e sz v n xs) (vx : Value) (m : Nat) (news : List Value) (hx : a.eval x = vx) (hs : Src P sz tx vx m news w)
    (h63 : n + m ≤ maxLen) (hbytes : (n + m) * by_ ≤ 140737488355328)
    (h : ∀ v' w', Sl w' e sz v' (n + m) (xs ++ news) → Fr (fun k => v.ownBlock = some k) w w' → (v'.ownBlock = v.ownBlock ∨ v'.ownBlock = some w.heap.size) → wpList P ops Q rest (a.put o.dst v') w') :
    wpList P ops Q (o :: rest) a w := by
  refine wpList_plain hgd fun K hK => ?_
  obtain ⟨i, hi1, hi2, hi3, hi4⟩ := info_parts hi
  obtain ⟨v', w', hr, h2, h3, h4⟩ := run_append_sl (P := P) w t tx o.type e i z sz by_ ht hi1 hi2 hi3 hi4 hzs v n xs hown vx m news hs h63 hbytes
  unfold Oper.wp execOp
  simp only [ho, resolve, invoke, builtin, Sem.run_bind, Sem.run_pure, Result.andThen_ok, List.map_toArray, List.map_cons, List.map_nil, hv, hx, hr]
  exact hK _ _ (h v' w' h2 h3 h4)
/-- Bytes. -/
def SlB (w : World) (v : Value) (l : List UInt8) : Prop := Sl w 5 1 v l.length (l.map u8v)
theorem SlB.byt {w : World} {v : Value} {l : List UInt8} (h : SlB w v l) : ∃ ad cap, v = .slice ad l.length cap ∧ Byt w ad l ∧ l.length ≤ cap := by
  rcases h.2 with ⟨rfl, h0⟩ | ⟨g, o, cap, cur, rfl, hg, hcap, _, _, hat⟩
  · exact ⟨none, 0, by rw [h0], fun j s hj => (by rw [List.getElem?_eq_none (by omega)] at hj; cases hj), by omega⟩
  · refine ⟨some ⟨g, o, none⟩, cap, rfl, fun j c hj => ⟨g, o, rfl, hg.lt, ?_⟩, hcap⟩
    exact hg.cell (o + j) (hat j (u8v c) (by rw [List.getElem?_map, hj]; rfl))
theorem src_byt {P : Program} {w : World} {tx e' : TypeId} (hk : P.underlying tx = some (.slice e')) {ad : Option Addr} {l : List UInt8} {cap : Nat} (hb : Byt w ad l) : Src P 1 tx (.slice ad l.length cap) l.length (l.map u8v) w := by
  cases l with
  | nil =>
    cases ad with
    | none => exact Src.ofNil w hk cap
    | some a => exact Src.ofSlice w hk a 0 cap [] rfl (fun j u h => by simp at h) (fun u h => by cases h)
  | cons c r =>
    obtain ⟨b, o, rfl, _⟩ := hb 0 c rfl
    refine Src.ofSlice w hk ⟨b, o, none⟩ _ cap _ (by simp) (fun j u h => ?_) (fun u h => ?_)
    · rw [List.getElem?_map] at h
      obtain ⟨c', hc', rfl⟩ := Option.map_eq_some_iff.1 h
      obtain ⟨b', o', e, _, hcell⟩ := hb j c' hc'
      cases e
      rw [Addr.add_mid]; exact hcell
    · obtain ⟨c', _, rfl⟩ := List.mem_map.1 h; rfl
theorem src_one {P : Program} {w : World} {tx e' : TypeId} (hk : P.underlying tx = some (.slice e')) (g : Nat) (sz : Nat) (T : TypeId) (cs : List Value) (hs : cs.length = sz) (h1 : ∀ u ∈ cs, u.oneCell' = true) (hb : Blk w g T cs.toArray) : Src P sz tx (.slice (some ⟨g, 0, none⟩) 1 1) 1 cs w :=
  Src.ofSlice w hk ⟨g, 0, none⟩ 1 1 cs (by omega) (fun j u h => by rw [Addr.add_mid, Nat.zero_add]; exact hb.cell j (by rw [List.getElem?_toArray]; exact h)) h1
end Go.Proofs.Ytphjebbjhfnhoaa
