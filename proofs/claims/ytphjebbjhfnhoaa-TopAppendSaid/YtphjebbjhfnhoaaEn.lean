/- sha: end. -/
import Derived.Test.YtphjebbjhfnhoaaBl
namespace Go.Proofs.Ytphjebbjhfnhoaa
open Go.RowKit
theorem Try.info5 : (Try.prog.info? 5).map (fun i => (i.zero, i.size, i.bytes)) = some (some (.int .u8 0), 1, 1) := by kernel_rfl
def u8v (c : UInt8) : Value := .int .u8 (c.toNat : Int)
/-- Bytes that the call owns. -/
def OwnB (w : World) (B : Nat) (v : Value) (l : List UInt8) : Prop := w.ownsRow B 5 1 v l.length (l.map u8v)
theorem Fr.grownBy {w w' : World} (h : Fr (fun _ => False) w w') : w.grownBy w' none := ⟨h.os, h.tape, h.output, h.size, fun k hk _ => h.block k hk (fun h => h)⟩
theorem OwnB.nil (w : World) (B : Nat) : OwnB w B (.slice none 0 0) [] := World.ownsRow_nil _ _ _ _
theorem OwnB.alloc {w : World} {B : Nat} {v : Value} {l : List UInt8} (h : OwnB w B v l) (o : Obj) : OwnB (w.alloc o) B v l := World.ownsRow.alloc h o
theorem OwnB.fr {w w' : World} {B : Nat} {v : Value} {l : List UInt8} (h : OwnB w B v l) (hf : Fr (fun _ => False) w w') : OwnB w' B v l := by
  rcases hv : v.ownBlock with _ | k
  · exact World.ownsRow.kept h hf.grownBy (.inl hv)
  · exact World.ownsRow.kept h hf.grownBy (.inr (by rw [hv]; simp))
theorem OwnB.byt {w : World} {B : Nat} {v : Value} {l : List UInt8} (h : OwnB w B v l) : ∃ ad cap, v = .slice ad l.length cap ∧ Byt w ad l ∧ l.length ≤ cap := by
  rcases h.2 with ⟨rfl, h0⟩ | ⟨g, cap, cur, rfl, _, hg, hcap, _, _, ht⟩
  · exact ⟨none, 0, by rw [h0], fun j s hj => (by rw [List.getElem?_eq_none (by omega)] at hj; cases hj), by omega⟩
  · refine ⟨some ⟨g, 0, none⟩, cap, rfl, fun j c hj => ⟨g, 0, rfl, lt_of_block hg, ?_⟩, hcap⟩
    have hlt : j < l.length := (List.getElem?_eq_some_iff.1 hj).1
    have e : (l.map u8v)[j]? = some (u8v c) := by rw [List.getElem?_map, hj]; rfl
    rw [← ht, List.getElem?_take_of_lt (by omega), Array.getElem?_toList] at e
    rw [Nat.zero_add]
    exact Blk.cell hg j e
/-- append of one byte. -/
theorem wpList_app_b {ops : Array Oper} {rest : List Oper} {o : Oper} {a : Act} {Q : Exit → Act → World → Prop} (wx : World) (c : UInt8) (x0 : Int) (hx0 : x0 = (c.toNat : Int)) (hgd : o.guard = none) (s x : Operand)
    (ho : o.op = .call { callee := .builtin .append, args := #[s, x], argTypes := #[22, 22] }) (B : Nat) (v : Value) (l : List UInt8) (hs : a.eval s = v) (hown : OwnB wx B v l)
    (g : Nat) (hg : g = wx.heap.size) (hx : a.eval x = .slice (some ⟨g, 0, none⟩) 1 1) (hn : l.length ≤ 1000000) (hB : B ≤ wx.heap.size) (w : World) (hbe : Below B w wx)
    (h : ∀ v' w', OwnB w' B v' (l ++ [c]) → Below B w w' → wpList Try.prog ops Q rest (a.put o.dst v') w') : wpList Try.prog ops Q (o :: rest) a (wx.alloc (.cells #[.int .u8 x0] 5)) := by
  subst hg hx0
  obtain ⟨i0, hi0, hz0, hz1, hz2⟩ := info_parts Try.info5
  refine wpList_append_own _ hgd s x 22 ho B 5 i0 (.int .u8 0) 1 1 Try.underlying22 hi0 hz0 hz1 hz2 rfl (by decide) v l.length (l.map u8v) hs (World.ownsRow.alloc hown _) ⟨wx.heap.size, 0, none⟩ 1 1 [u8v c] hx rfl
    (fun j u hj => ?_) (fun u hu => ?_) (by unfold maxLen; omega) (by omega) (Nat.le_trans hB (by simp)) (fun v' w' h1 h2 _ => h v' w' ?_ ?_)
  · rw [Addr.add_mid, Nat.zero_add]
    exact (Blk.new wx 5 #[Value.int .u8 (c.toNat : Int)]).cell j (by simpa [u8v] using hj)
  · rw [List.mem_singleton] at hu; subst hu; rfl
  · unfold OwnB
    rw [List.length_append, List.map_append]
    simpa using h1
  · exact (hbe.alloc hB _).grown h2 (by simp; omega) (fun j hj => (World.ownsRow.lt hown j hj).1)
end Go.Proofs.Ytphjebbjhfnhoaa
