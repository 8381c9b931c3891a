/- Rows of words that the call owns; the table of strconv.Itoa carried along. -/
import Derived.Test.YtlfaeabbfejjcaaDoorParse
import Derived.Test.YtlfaeabbfejjcaaDoorOpen
import Derived.Test.YtlfaeabbfejjcaaDoorRef2
import Derived.Test.YtlfaeabbfejjcaaDoorShelf
import Derived.Lib.AppendIntMem
import Derived.OwnWalk
import Derived.Laws.AppendOwnNone
namespace Go.Proofs.YtlfaeabbfejjcaaDoor
open Go.RowKit

theorem Tryd.info9 : (Tryd.prog.info? 9).map (fun i => (i.zero, i.size, i.bytes)) = some (some (.string ⟨#[]⟩), 1, 16) := by kernel_rfl

theorem Strs.fr {w w' : World} {a : Option Addr} {L : List ByteArray} (h : Strs w a L) (hb : Fr (fun _ => False) w w') : Strs w' a L :=
  ⟨h.1, fun j s hj => by
    obtain ⟨x, hx, hlt, hc⟩ := h.2 j s hj
    exact ⟨x, hx, Nat.lt_of_lt_of_le hlt hb.size, by rw [hb.cell (a := x.add j) (by rw [addr_add_block]; exact hlt) (fun h => h)]; exact hc⟩⟩

/-- A row of words that the call owns is a list of words. -/
theorem owns_strs {w : World} {B : Nat} {v : Value} {L : List ByteArray} (h : w.ownsRow B 9 1 v L.length (L.map Value.string)) (hl : L.length ≤ 9223372036854775807) : ∃ ad cap, v = .slice ad L.length cap ∧ Strs w ad L := by
  rcases h.2 with ⟨rfl, h0⟩ | ⟨g, cap, cur, rfl, _, hg, _, _, _, ht⟩
  · exact ⟨none, 0, by rw [h0], hl, fun j s hj => by rw [List.getElem?_eq_none (by omega)] at hj; cases hj⟩
  · refine ⟨some ⟨g, 0, none⟩, cap, rfl, hl, fun j s hj => ⟨_, rfl, lt_of_block hg, ?_⟩⟩
    have hlt : j < L.length := (List.getElem?_eq_some_iff.1 hj).1
    have e : (L.map Value.string)[j]? = some (.string s) := by rw [List.getElem?_map, hj]; rfl
    rw [← ht, List.getElem?_take_of_lt (by omega)] at e
    have e2 : cur[j]? = some (.string s) := by rw [← Array.getElem?_toList]; exact e
    rw [show (⟨g, 0, none⟩ : Addr).add j = ⟨g, j, none⟩ by simp [Addr.add]; exact Eq.symm]
    exact Blk.cell hg j e2

theorem one_new (wr : World) (s : ByteArray) : ∀ (j : Nat) (u : Value), [Value.string s][j]? = some u → (wr.alloc (Obj.cells #[Value.string s] 9)).cell? ((⟨wr.heap.size, 0, none⟩ : Addr).add j) = some u := by
  intro j u h
  rcases j with _ | j
  · injection h with h
    subst h
    exact (Blk.new wr 9 #[Value.string s]).cell 0 rfl
  · cases h
theorem one_cell (s : ByteArray) : ∀ u : Value, u ∈ [Value.string s] → u.oneCell' = true := by
  intro u h
  rw [List.mem_singleton] at h
  subst h; rfl
theorem app_own {w1 : World} {B k : Nat} {v : Value} {M N : List ByteArray} {s : ByteArray} (hM : N = M ++ [s]) (hk : M.length = k) (h : w1.ownsRow B 9 1 v (k + 1) (M.map Value.string ++ [.string s])) : w1.ownsRow B 9 1 v N.length (N.map Value.string) := by
  rw [hM, List.map_append, List.length_append, hk]; exact h
theorem app_below {w wr w1 : World} {B k : Nat} {v : Value} {o : Obj} {xs : List Value} (hb : Below B w wr) (hown : wr.ownsRow B 9 1 v k xs) (hg : (wr.alloc o).grownBy w1 v.ownBlock) (hB : B ≤ wr.heap.size) : Below B w w1 :=
  (hb.alloc hB o).grown hg (by simp; omega) (fun j hj => (hown.lt j hj).1)
theorem Fr.grownBy {w w' : World} (h : Fr (fun _ => False) w w') : w.grownBy w' none := ⟨h.os, h.tape, h.output, h.size, fun k hk _ => h.block k hk (fun h => h)⟩
theorem own_fr {w w' : World} {B n : Nat} {v : Value} {xs : List Value} (h : w.ownsRow B 9 1 v n xs) (hf : Fr (fun _ => False) w w') : w'.ownsRow B 9 1 v n xs := by
  rcases hv : v.ownBlock with _ | k
  · exact h.kept hf.grownBy (.inl hv)
  · exact h.kept hf.grownBy (.inr (by rw [hv]; simp))
theorem Blk.bel {B : Nat} {w w' : World} {b : Nat} {T : TypeId} {vs : Array Value} (h : Blk w b T vs) (hb : Below B w w') (hlt : b < B) : Blk w' b T vs := by
  show w'.heap[b]? = _
  rw [hb.block b hlt]; exact h
theorem Below.of_fr {B : Nat} {w w' : World} (h : Fr (fun _ => False) w w') (hB : B ≤ w.heap.size) : Below B w w' := h.below hB (fun _ _ h => h)

/-- The table of powers of ten is laid. -/
def TB (w : World) : Prop := Lib.TabIs Tryd.prog w "internal/strconv.uint64pow10" .u64 Lib.pow10Tab
theorem TB.fr {w w' : World} (h : TB w) (f : Fr (fun _ => False) w w') : TB w' := Lib.tabBelow_of_tabIs h w' (Below.of_fr f (Nat.le_refl _))
theorem TB.below {w w' : World} (h : TB w) (f : Below w.heap.size w w') : TB w' := Lib.tabBelow_of_tabIs h w' f
theorem TB.drew {w : World} (h : TB w) : TB w.drew := h.fr (Fr.refl _ w).drew

theorem fr_grow (w : World) (k : Nat) (os : Array Obj) : Fr (fun _ => False) w (Sort.grow (w.drewN k) os) := by
  refine (Fr.refl _ w).drewN k |>.trans (T := fun _ => False) ⟨rfl, rfl, rfl, by simp [Sort.grow], fun j hj _ => ?_⟩ (fun _ _ h => h)
  show ((w.drewN k).heap ++ os)[j]? = _
  rw [Array.getElem?_append_left hj]

theorem itoa_spec (n : Nat) (hn : n ≤ 9223372036854775807) (w : World) (ht : TB w) : Calls Tryd.prog 17 #[.int .i64 n] w fun e w' => e = .returned (.string (digB n)) ∧ Fr (fun _ => False) w w' :=
  (Tryd.strconv_Itoa (n : Int) (by omega) (by omega) w ht).mono fun e w' ⟨he, k, os, hw⟩ => ⟨by
    rw [he]
    have e1 : Lib.itoa (n : Int) = Lib.decDigits n := by unfold Lib.itoa; rw [if_neg (by omega), Int.toNat_natCast]
    rw [e1]; rfl, by rw [hw]; exact fr_grow w k os⟩
end Go.Proofs.YtlfaeabbfejjcaaDoor
