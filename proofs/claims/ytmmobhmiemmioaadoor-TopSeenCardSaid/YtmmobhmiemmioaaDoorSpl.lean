/- The walk of path.Split. -/
import Derived.Test.YtmmobhmiemmioaaDoorSplP
import Derived.Test.YtmmobhmiemmioaaDoorSig
import Derived.Laws.AppendOwn
import Derived.Lib.Strings
namespace Go.Proofs.YtmmobhmiemmioaaDoor
open Go.RowKit

/-- Bytes as a text. -/
def mkB (l : List UInt8) : ByteArray := ⟨l.toArray⟩
theorem mkB_data (l : List UInt8) : (mkB l).data.toList = l := rfl
theorem ba_ext {a b : ByteArray} (h : a.data.toList = b.data.toList) : a = b := by
  rcases a with ⟨⟨a⟩⟩; rcases b with ⟨⟨b⟩⟩
  have : a = b := h
  rw [this]
def splB (s : ByteArray) : List ByteArray := (splS s.data.toList).map mkB
/-- A slice of words. -/
def Strs (w : World) (a : Option Addr) (L : List ByteArray) : Prop :=
  ∀ j s, L[j]? = some s → ∃ x, a = some ⟨x, 0, none⟩ ∧ x < w.heap.size ∧ w.cell? ⟨x, j, none⟩ = some (.string s)
theorem Strs.fr {w w' : World} {a : Option Addr} {L : List ByteArray} (h : Strs w a L) (hb : Fr (fun _ => False) w w') : Strs w' a L := fun j s hj => by
  obtain ⟨x, hx, hlt, hc⟩ := h j s hj
  exact ⟨x, hx, Nat.lt_of_lt_of_le hlt hb.size, by rw [hb.cell (a := ⟨x, j, none⟩) hlt (fun h => h)]; exact hc⟩
theorem Tryd.info9 : (Tryd.prog.info? 9).map (fun i => (i.zero, i.size, i.bytes)) = some (some (.string ⟨#[]⟩), 1, 16) := by kernel_rfl
/-- Words that the call owns. -/
def OwnW (w : World) (B : Nat) (v : Value) (L : List ByteArray) : Prop := w.ownsRow B 9 1 v L.length (L.map Value.string)
theorem OwnW.strs {w : World} {B : Nat} {v : Value} {L : List ByteArray} (h : OwnW w B v L) : ∃ ad cap, v = .slice ad L.length cap ∧ Strs w ad L ∧ L.length ≤ cap := by
  rcases h.2 with ⟨rfl, h0⟩ | ⟨g, cap, cur, rfl, _, hg, hcap, _, _, ht⟩
  · exact ⟨none, 0, by rw [h0], fun j s hj => (by rw [List.getElem?_eq_none (by omega)] at hj; cases hj), by omega⟩
  · refine ⟨some ⟨g, 0, none⟩, cap, rfl, fun j s hj => ⟨g, rfl, lt_of_block hg, ?_⟩, hcap⟩
    have hlt : j < L.length := (List.getElem?_eq_some_iff.1 hj).1
    have e : (L.map Value.string)[j]? = some (.string s) := by rw [List.getElem?_map, hj]; rfl
    rw [← ht, List.getElem?_take_of_lt (by omega), Array.getElem?_toList] at e
    exact Blk.cell hg j e
/-- append of one word. -/
theorem wpList_app_w {ops : Array Oper} {rest : List Oper} {o : Oper} {a : Act} {Q : Exit → Act → World → Prop} (wx : World) (str : ByteArray) (hgd : o.guard = none) (s x : Operand)
    (ho : o.op = .call { callee := .builtin .append, args := #[s, x], argTypes := #[38, 38] }) (B : Nat) (v : Value) (L : List ByteArray) (hs : a.eval s = v) (hown : OwnW wx B v L)
    (hx : a.eval x = .slice (some ⟨wx.heap.size, 0, none⟩) 1 1) (hn : L.length ≤ 1000) (hB : B ≤ wx.heap.size) (w : World) (hbe : Below B w wx)
    (h : ∀ v' w', OwnW w' B v' (L ++ [str]) → Below B w w' → wx.grownBy w' v.ownBlock → wpList Tryd.prog ops Q rest (a.put o.dst v') w') : wpList Tryd.prog ops Q (o :: rest) a (wx.alloc (.cells #[.string str] 9)) := by
  obtain ⟨i0, hi0, hz0, hz1, hz2⟩ := info_parts Tryd.info9
  refine wpList_append_own _ hgd s x 38 ho B 9 i0 (.string ⟨#[]⟩) 1 16 Tryd.underlying38 hi0 hz0 hz1 hz2 rfl (by decide) v L.length (L.map Value.string) hs (World.ownsRow.alloc hown _) ⟨wx.heap.size, 0, none⟩ 1 1 [.string str] hx rfl
    (fun j u hj => ?_) (fun u hu => ?_) (by unfold maxLen; omega) (by omega) (Nat.le_trans hB (by simp)) (fun v' w' h1 h2 _ => h v' w' ?_ ?_ ?_)
  · rw [Addr.add_mid, Nat.zero_add]
    exact (Blk.new wx 9 #[Value.string str]).cell j (by simpa using hj)
  · rw [List.mem_singleton] at hu; subst hu; rfl
  · unfold OwnW
    rw [List.length_append, List.map_append]
    simpa using h1
  · exact (hbe.alloc hB _).grown h2 (by simp; omega) (fun j hj => (World.ownsRow.lt hown j hj).1)
  · refine ⟨h2.os, h2.tape, h2.output, Nat.le_trans (by simp) h2.size, fun k hk hne => ?_⟩
    rw [h2.block k (by simp; omega) hne, Below.heap_alloc _ _ _ hk]
theorem OwnW.nil (w : World) (B : Nat) : OwnW w B (.slice none 0 0) [] := World.ownsRow_nil _ _ _ _
theorem OwnW.fr {w w' : World} {B : Nat} {v : Value} {L : List ByteArray} (h : OwnW w B v L) (hf : Fr (fun _ => False) w w') : OwnW w' B v L := by
  rcases hv : v.ownBlock with _ | k
  · exact World.ownsRow.kept h hf.grownBy (.inl hv)
  · exact World.ownsRow.kept h hf.grownBy (.inr (by rw [hv]; simp))
theorem OwnW.iter {w : World} {B : Nat} {v : Value} {L : List ByteArray} {k : Nat} {s : ByteArray} {p : Nat} (h : OwnW w B v L) (hk : w.heap[k]? = some (.stringIter s p)) : v.ownBlock ≠ some k := by
  intro e
  rcases h.2 with ⟨rfl, _⟩ | ⟨g, cap, cur, rfl, _, hg, _⟩
  · cases e
  · injection e with e
    have e2 : g = k := e
    subst e2
    rw [hg] at hk; cases hk
theorem OwnW.iterAt {w : World} {B : Nat} {v : Value} {L : List ByteArray} {k : Nat} {s : ByteArray} {p : Nat} (h : OwnW w B v L) (hk : w.heap[k]? = some (.stringIter s p)) (p' : Nat) : OwnW (w.iterAt k s p') B v L :=
  World.ownsRow.kept h (row := some k) ⟨rfl, rfl, rfl, by rw [Lib.iterAt_size]; exact Nat.le_refl _, fun j _ hj => Lib.iterAt_other w k j s p' (fun e => hj (by rw [e]))⟩ (.inr (h.iter hk))

theorem split_empty (w : World) : Calls Tryd.prog 15 #[.string ⟨#[]⟩] w fun e w' => e = .returned (.slice none 0 0) ∧ w = w' := by
  go_enter Tryd.func15, Tryd.ntmps15
  go_wp2_with (fail)
  go_ret
  exact ⟨rfl, rfl⟩

/-- What Split knows in its loop. -/
structure ST (w : World) (s : ByteArray) (k pos fr : Nat) (v : Value) (P : List ByteArray) (wr : World) : Prop where
  it : wr.heap[k]? = some (.stringIter s pos)
  ow : OwnW wr w.heap.size v P
  be : Below w.heap.size w wr
  kb : w.heap.size ≤ k
  eq : splS s.data.toList = P.map (fun x => x.data.toList) ++ glue ((s.data.toList.drop fr).take (pos - fr)) (partsS (s.data.toList.drop pos))
  pl : P.length ≤ pos
  fp : fr ≤ pos

theorem ST.skip {w wr : World} {s : ByteArray} {k pos fr : Nat} {v : Value} {P : List ByteArray} (h : ST w s k pos fr v P wr) (hp : pos < s.size) (h47 : s[pos]'hp ≠ 47) :
    ST w s k (pos + (Utf8.decode s pos).2) fr v P (wr.iterAt k s (pos + (Utf8.decode s pos).2)) := by
  obtain ⟨_, h1, h2, h3⟩ := decode_skip s pos hp h47
  refine ⟨Lib.iterAt_heap wr k s pos _ h.it, h.ow.iterAt h.it _, Lib.below_iterAt h.be h.kb _ _, h.kb, ?_, Nat.le_trans h.pl (by omega), Nat.le_trans h.fp (by omega)⟩
  have e : s.data.toList.drop pos = (s.data.toList.drop pos).take (Utf8.decode s pos).2 ++ s.data.toList.drop (pos + (Utf8.decode s pos).2) := by
    rw [← List.drop_drop, List.take_append_drop]
  rw [h.eq]
  conv => lhs; rw [e]
  rw [parts_app _ _ h3, glue_glue]
  congr 2
  have hf := h.fp
  rw [show pos + (Utf8.decode s pos).2 - fr = (pos - fr) + (Utf8.decode s pos).2 by omega, List.take_add, List.drop_drop, show fr + (pos - fr) = pos by omega]
theorem ST.hit {w wr w2 : World} {s : ByteArray} {k pos fr : Nat} {v v2 : Value} {P : List ByteArray} (h : ST w s k pos fr v P wr) (hp : pos < s.size) (h47 : s[pos]'hp = 47)
    (ho : OwnW w2 w.heap.size v2 (P ++ [s.extract fr pos])) (hb : Below w.heap.size w w2) (hi : w2.heap[k]? = some (.stringIter s (pos + 1))) :
    ST w s k (pos + 1) (pos + 1) v2 (P ++ [s.extract fr pos]) w2 := by
  refine ⟨hi, ho, hb, h.kb, ?_, by have := h.pl; simp; omega, Nat.le_refl _⟩
  have hl : pos < s.data.toList.length := by simpa using hp
  have e : s.data.toList.drop pos = 47 :: s.data.toList.drop (pos + 1) := by
    rw [List.drop_eq_getElem_cons hl]
    congr 1
  rw [h.eq, e, parts_slash, Nat.sub_self, List.take_zero, glue_nil, List.map_append, List.append_assoc]
  congr 1
  show (_ ++ []) :: _ = [(s.extract fr pos).data.toList] ++ _
  rw [Lib.extract_data, List.append_nil]; rfl
theorem ST.end {w wr : World} {s : ByteArray} {k fr : Nat} {v : Value} {P : List ByteArray} (h : ST w s k s.size fr v P wr) : splB s = P ++ [s.extract fr s.size] := by
  unfold splB
  have e : s.data.toList.drop s.size = [] := List.drop_of_length_le (by rw [← size_len]; exact Nat.le_refl _)
  rw [h.eq, e]
  show (P.map _ ++ [(_ ++ [])]).map mkB = _
  rw [List.append_nil, List.map_append, List.map_map]
  congr 1
  · have : ∀ x ∈ P, (mkB ∘ fun x : ByteArray => x.data.toList) x = x := fun x _ => ba_ext rfl
    rw [List.map_congr_left this, List.map_id']
  · show [mkB _] = _
    congr 1
    apply ba_ext
    rw [mkB_data, Lib.extract_data]

set_option maxRecDepth 10000 in
set_option maxHeartbeats 4000000 in
theorem split_some (s : ByteArray) (w : World) (hs : s.size ≤ 900) (h0 : s ≠ ⟨#[]⟩) : Calls Tryd.prog 15 #[.string s] w fun e w' => ∃ ad cap, e = .returned (.slice ad (splB s).length cap) ∧ Strs w' ad (splB s) ∧ Fr (fun _ => False) w w' ∧ (splB s).length ≤ cap := by
  have b0 : (s.toList == []) = false := by
    rw [ByteArray.toList_eq]
    have : s.data.toList ≠ [] := fun e => h0 (ba_ext e)
    simpa using this
  have b1 : s.toList.isEmpty = false := by
    rw [ByteArray.toList_eq]
    have : s.data.toList ≠ [] := fun e => h0 (ba_ext e)
    simpa using this
  have hs2 : (s.size : Int) ≤ 900 := by omega
  have HS := Lib.hid hs
  have HI0 := Lib.hid (show ST w s w.heap.size 0 0 (.slice none 0 0) [] (w.iter s 0) from
    ⟨World.iter_heap w s 0, OwnW.nil _ _, (Below.refl _ _).alloc (Nat.le_refl _) _, Nat.le_refl _, by
      show splS _ = glue [] _
      rw [List.drop_zero, glue_nil]; unfold splS; rw [if_neg (fun e => h0 (ba_ext e))], Nat.le_refl _, Nat.le_refl _⟩)
  clear hs h0
  go_enter Tryd.func15, Tryd.ntmps15
  go_wp2_with (fail)
  try (rw [show w.alloc (Obj.stringIter s 0) = w.iter s 0 from rfl])
  generalize w.iter s 0 = w1 at HI0 ⊢
  obtain ⟨k, hk⟩ : ∃ k, k = w.heap.size := ⟨_, rfl⟩
  rw [← hk]
  have HST0 := Lib.hid (show ST w s k 0 0 (.slice none 0 0) [] w1 by rw [hk]; exact HI0.out)
  clear hk HI0
  go_loopg [3, 4] (s.size + 1) (fun gk x3 x4 wr => ∃ (pos fr : Nat) (P : List ByteArray), pos ≤ s.size ∧ Hid (gk = s.size - pos + 1) ∧ x4 = .int .i64 fr ∧ Hid (ST w s k pos fr x3 P wr))
  case atStart => exact ⟨0, 0, [], Nat.zero_le _, Lib.hid rfl, rfl, HST0⟩
  case round =>
    obtain ⟨pos, fr, P, hpos, HG, rfl, HST⟩ := hrel
    clear HST0
    have hit := HST.out.it
    have p2 : (pos : Int) ≤ 900 := by omega
    have hfp := HST.out.fp
    have f2 : (fr : Int) ≤ (pos : Int) := by omega
    have f3 : (0 : Int) ≤ (fr : Int) := by omega
    have HPL := Lib.hid (show P.length ≤ 1000 by have := HST.out.pl; have := HS.out; omega)
    by_cases hp : pos < s.size
    · have hnx := fun ty => Lib.run_next_any_at (P := Tryd.prog) wr k s pos ty hit hp
      have p3 : (pos : Int) < (s.size : Int) := by omega
      have HPP := Lib.hid hp
      by_cases h47 : s[pos]'hp = 47
      · have hd : Utf8.decode s pos = (47, 1) := by rw [decode_ascii s pos hp (by rw [h47]; decide), h47]; rfl
        simp only [hd] at hnx
        have HIT2 := Lib.hid (Lib.iterAt_heap wr k s pos (pos + 1) hit)
        have HOW := Lib.hid (HST.out.ow.iterAt hit (pos + 1))
        have HBE := Lib.hid (Lib.below_iterAt HST.out.be HST.out.kb s (pos + 1))
        have H47 := Lib.hid h47
        clear hit hd h47
        go_wp2_with (first
          | (at_builtin; refine wpList_app_w _ (s.extract fr pos) rfl (.tmp 17) (.tmp 22) rfl w.heap.size _ P rfl HOW.out rfl HPL.out HBE.out.size w HBE.out ?_; intro v' w9 ho9 hb9 hg9; have HO9 := Lib.hid ho9; have HB9 := Lib.hid hb9; have HI9 := Lib.hid (show w9.heap[k]? = some (.stringIter s (pos + 1)) by rw [hg9.block k (by have := (Array.getElem?_eq_some_iff.1 HIT2.out).1; exact this) (fun e => HOW.out.iter HIT2.out e.symm)]; exact HIT2.out); clear ho9 hb9 hg9)
          | fail)
        go_roundg (s.size - (pos + 1) + 1)
        case measure => have := HG.out; have := HPP.out; omega
        case rel => exact ⟨pos + 1, pos + 1, P ++ [s.extract fr pos], HPP.out, Lib.hid rfl, by go_num, Lib.hid (HST.out.hit HPP.out H47.out HO9.out HB9.out HI9.out)⟩
      · obtain ⟨d1, d2, d3, _⟩ := decode_skip s pos hp h47
        have HSK := Lib.hid (HST.out.skip hp h47)
        have hle := decode_le s pos
        obtain ⟨rn, hrn⟩ : ∃ r, r = (Utf8.decode s pos).1 := ⟨_, rfl⟩
        obtain ⟨wd, hwd⟩ : ∃ r, r = (Utf8.decode s pos).2 := ⟨_, rfl⟩
        rw [← hrn] at d1 hle
        rw [← hwd] at d2 d3 HSK
        simp only [← hrn, ← hwd] at hnx
        have bb : ((rn : Int) == 47) = false := by simp; omega
        have HD := Lib.hid (show 1 ≤ wd ∧ pos + wd ≤ s.size from ⟨d2, d3⟩)
        clear hit h47 hp hrn hwd d1 d2 d3
        go_wp2_with (fail)
        go_roundg (s.size - (pos + wd) + 1)
        case measure => have := HG.out; have := HPP.out; have := HD.out; omega
        case rel => exact ⟨pos + wd, fr, P, HD.out.2, Lib.hid rfl, rfl, HSK⟩
    · obtain rfl : pos = s.size := by omega
      have hnx := fun ty => Lib.run_next_end_at (P := Tryd.prog) wr k s s.size ty hit hp
      have HE := Lib.hid HST.out.end
      have HOW := Lib.hid HST.out.ow
      have HBE := Lib.hid HST.out.be
      clear hit hp
      go_wp2_with (first
        | (at_builtin; refine wpList_app_w _ (s.extract fr s.size) rfl (.tmp 26) (.tmp 30) rfl w.heap.size _ P rfl HOW.out rfl HPL.out HBE.out.size w HBE.out ?_; intro v' w9 ho9 hb9 hg9; have HO9 := Lib.hid ho9; have HB9 := Lib.hid hb9; clear ho9 hb9 hg9)
        | fail)
      obtain ⟨ad, cap, hv, hst, hcp⟩ := HO9.out.strs
      have he := HE.out
      go_ret
      refine ⟨ad, cap, ?_, by rw [he]; exact hst, Fr.ofBelow HB9.out _, by rw [he]; exact hcp⟩
      rw [he, ← hv]; rfl
theorem split_spec2 (s : ByteArray) (w : World) (hs : s.size ≤ 900) : Calls Tryd.prog 15 #[.string s] w fun e w' => ∃ ad cap, e = .returned (.slice ad (splB s).length cap) ∧ Strs w' ad (splB s) ∧ Fr (fun _ => False) w w' ∧ (splB s).length ≤ cap := by
  by_cases h0 : s = ⟨#[]⟩
  · subst h0
    refine (split_empty w).mono ?_
    rintro e w' ⟨rfl, rfl⟩
    exact ⟨none, 0, rfl, fun j x hj => (by cases hj), Fr.refl _ _, Nat.le_refl _⟩
  · exact split_some s w hs h0
theorem split_spec (s : ByteArray) (w : World) (hs : s.size ≤ 900) : Calls Tryd.prog 15 #[.string s] w fun e w' => ∃ ad cap, e = .returned (.slice ad (splB s).length cap) ∧ Strs w' ad (splB s) ∧ Fr (fun _ => False) w w' := by
  refine (split_spec2 s w hs).mono ?_
  rintro e w' ⟨ad, cap, h1, h2, h3, _⟩
  exact ⟨ad, cap, h1, h2, h3⟩
end Go.Proofs.YtmmobhmiemmioaaDoor
