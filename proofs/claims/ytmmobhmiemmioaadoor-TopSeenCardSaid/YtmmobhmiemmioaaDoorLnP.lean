/- Plain law: a text split at line ends. -/
import Derived.Test.YtmmobhmiemmioaaDoorRq
import Derived.Lib.SplitLaws
namespace Go.Proofs.YtmmobhmiemmioaaDoor
open Go.RowKit

theorem indexByte_mid (a b : List UInt8) (c : UInt8) (h : c ∉ a) : Lib.indexByte (a ++ c :: b) c = a.length := by
  induction a with
  | nil => simp [Lib.indexByte]
  | cons x t ih =>
    have h1 : x ≠ c := fun e => h (by rw [e]; exact List.mem_cons_self ..)
    have h2 := ih (fun e => h (List.mem_cons_of_mem _ e))
    rw [List.cons_append, Lib.indexByte, h2]
    rw [if_neg (by simpa using h1), if_neg (by simp)]
    simp
theorem prL_no10 {r : R} (h : chkR r = 0) : 10 ∉ prL r := by
  obtain ⟨hbad, _⟩ := chkS_good h
  obtain ⟨_, _, hno⟩ := badP_false hbad
  unfold prL
  intro hm
  rcases List.mem_cons.1 hm with h1 | hm
  · rcases chkS_act h with e | e | e | e <;> rw [e] at h1 <;> exact absurd h1 (by decide)
  rcases List.mem_cons.1 hm with h1 | hm
  · exact absurd h1 (by decide)
  rcases List.mem_append.1 hm with hm | hm
  · rcases List.mem_append.1 hm with hm | hm
    · split at hm <;> simp at hm
    · exact hno hm
  · split at hm <;> simp at hm
theorem splitK_tx (L : List R) (h : ∀ r ∈ L, chkR r = 0) : Lib.count (txL L) [10] = L.length ∧ Lib.splitK [10] 0 L.length (txL L) = L.map prL ++ [[]] := by
  induction L with
  | nil => exact ⟨rfl, rfl⟩
  | cons r t ih =>
    obtain ⟨i1, i2⟩ := ih (fun x hx => h x (List.mem_cons_of_mem _ hx))
    have hno := prL_no10 (h r (List.mem_cons_self ..))
    have e : txL (r :: t) = prL r ++ 10 :: txL t := by unfold txL; rw [List.flatMap_cons]; simp
    have hidx : Lib.index (txL (r :: t)) [10] = ((prL r).length : Int) := by rw [Lib.index_one, e]; exact indexByte_mid _ _ _ hno
    refine ⟨?_, ?_⟩
    · rw [Lib.count_one] at i1 ⊢
      rw [e, List.count_append, List.count_cons_self, i1, List.count_eq_zero_of_not_mem hno, List.length_cons]; omega
    · rw [List.length_cons, Lib.splitK, hidx, if_neg (by simp)]
      rw [Int.toNat_natCast, e]
      rw [List.map_cons, List.cons_append, Nat.add_zero, List.take_left]
      congr 1
      rw [show List.drop ((prL r).length + [(10 : UInt8)].length) (prL r ++ 10 :: txL t) = txL t by
        rw [← List.drop_drop, List.drop_left]; rfl]
      exact i2
def LL (L : List R) : List ByteArray := L.map (fun r => mkB (prL r)) ++ [⟨#[]⟩]
theorem split_tx (L : List R) (h : ∀ r ∈ L, chkR r = 0) : Lib.countB (mkB (txL L)) ⟨#[10]⟩ = L.length ∧ Lib.splitB ⟨#[10]⟩ 0 L.length (mkB (txL L)) = LL L := by
  obtain ⟨h1, h2⟩ := splitK_tx L h
  refine ⟨h1, ?_⟩
  have e := Lib.splitB_data ⟨#[10]⟩ 0 L.length (mkB (txL L))
  rw [show (⟨#[10]⟩ : ByteArray).data.toList = [10] from rfl, mkB_data, h2] at e
  have e2 := congrArg (List.map mkB) e
  rw [List.map_map, show (mkB ∘ fun x : ByteArray => x.data.toList) = id from funext fun x => ba_of rfl, List.map_id] at e2
  rw [e2, List.map_append, List.map_map]; rfl
end Go.Proofs.YtmmobhmiemmioaaDoor
