/- Plain laws of paths: what stands above. -/
import Derived.Test.YtmmobhmiemmioaaDoorPth
namespace Go.Proofs.YtmmobhmiemmioaaDoor
open Go.RowKit

theorem partsS_flat (l : List UInt8) (h : 47 ∉ l) : partsS l = [l] := by
  induction l with
  | nil => rfl
  | cons c t ih =>
    have hc : c ≠ 47 := fun e => h (by rw [e]; exact List.mem_cons_self ..)
    rw [parts_byte t hc, ih (fun e => h (List.mem_cons_of_mem _ e))]; rfl
theorem partsS_mid (a b : List UInt8) (h : 47 ∉ b) : partsS (a ++ 47 :: b) = partsS a ++ [b] := by
  induction a with
  | nil => rw [List.nil_append, parts_slash, partsS_flat b h]; rfl
  | cons c t ih =>
    by_cases hc : c = 47
    · subst hc; rw [List.cons_append, parts_slash, parts_slash, ih]; rfl
    · rw [List.cons_append, parts_byte _ hc, parts_byte _ hc, ih]
      obtain ⟨y, r, e⟩ := parts_ne t
      rw [e]; rfl
/-- A text is flat, or has a last part. -/
theorem lix_cases (q : ByteArray) : (lix q = -1 ∧ 47 ∉ q.data.toList) ∨ (∃ i : Nat, lix q = i ∧ i < q.size ∧ ∃ b, q.data.toList = q.data.toList.take i ++ 47 :: b ∧ 47 ∉ b) := by
  have key : ∀ (j : Nat) (x : UInt8), q.data.toList[j]? = some x → x = 47 → ((q.data[j]!).toNat : Int) = 47 := by
    intro j x hx hx2
    subst hx2
    have hj : j < q.data.size := by
      have := (List.getElem?_eq_some_iff.1 hx).1
      simpa using this
    have : q.data[j]! = 47 := by
      rw [Array.getElem?_toList, Array.getElem?_eq_getElem hj] at hx
      rw [getElem!_pos q.data j hj]
      exact Option.some.inj hx
    rw [this]; rfl
  have key2 : ∀ i : Nat, i < q.size → ((q.data[i]!).toNat : Int) = 47 → q.data.toList[i]? = some 47 := by
    intro i hi h
    have hj : i < q.data.size := hi
    rw [getElem!_pos q.data i hj] at h
    rw [Array.getElem?_toList, Array.getElem?_eq_getElem hj]
    exact congrArg some (UInt8.toNat_inj.1 (by show q.data[i].toNat = 47; omega))
  rcases Lib.lastIdx_spec q 47 q.size with ⟨h, hn⟩ | ⟨i, hi, h, hc, hn⟩
  · refine Or.inl ⟨h, fun hm => ?_⟩
    obtain ⟨j, e⟩ := List.mem_iff_getElem?.1 hm
    have hj := (List.getElem?_eq_some_iff.1 e).1
    exact hn j (by rw [size_len]; exact hj) (key j 47 e rfl)
  · refine Or.inr ⟨i, h, hi, q.data.toList.drop (i + 1), ?_, fun hm => ?_⟩
    · have e := key2 i hi hc
      obtain ⟨hl, he⟩ := List.getElem?_eq_some_iff.1 e
      have := List.drop_eq_getElem_cons hl
      rw [he] at this
      rw [← this, List.take_append_drop]
    · obtain ⟨j, e⟩ := List.mem_iff_getElem?.1 hm
      rw [List.getElem?_drop] at e
      have hj := (List.getElem?_eq_some_iff.1 e).1
      exact hn (i + 1 + j) (by omega) (by rw [size_len]; exact hj) (key _ 47 e rfl)
theorem parB_data (q : ByteArray) : (parB q).data.toList = q.data.toList.take (max (lix q) 0).toNat := by
  unfold parB; rw [Lib.extract_data, List.drop_zero, Nat.sub_zero]
theorem splS_par (q : ByteArray) (h : 0 < q.size) : splS (parB q).data.toList <+: splS q.data.toList ∧ (splS (parB q).data.toList).length < (splS q.data.toList).length := by
  have hne : q.data.toList ≠ [] := fun e => by rw [size_len, e] at h; exact absurd h (by decide)
  have e1 : splS q.data.toList = partsS q.data.toList := by unfold splS; rw [if_neg hne]
  rw [e1, parB_data]
  rcases lix_cases q with ⟨hl, hf⟩ | ⟨i, hl, hi, b, hq, hb⟩
  · rw [hl, partsS_flat _ hf]
    exact ⟨List.nil_prefix, Nat.zero_lt_one⟩
  · rw [hl]
    have e2 : (max (i : Int) 0).toNat = i := by omega
    rw [e2]
    generalize q.data.toList.take i = a at hq
    rw [hq, partsS_mid a b hb]
    unfold splS
    split
    · exact ⟨List.nil_prefix, by simp⟩
    · exact ⟨List.prefix_append _ _, by simp⟩
theorem par_size (q : ByteArray) (h : 0 < q.size) : (parB q).size < q.size := by
  have hb := lix_bd q
  unfold parB; rw [ByteArray.size_extract]; omega
theorem par_size_le (q : ByteArray) : (parB q).size ≤ q.size := by
  unfold parB; rw [ByteArray.size_extract]; omega
theorem splB_par (q : ByteArray) (h : 0 < q.size) : splB (parB q) <+: splB q ∧ (splB (parB q)).length < (splB q).length := by
  obtain ⟨h1, h2⟩ := splS_par q h
  unfold splB
  refine ⟨?_, by rw [List.length_map, List.length_map]; exact h2⟩
  obtain ⟨t, ht⟩ := h1
  exact ⟨t.map mkB, by rw [← List.map_append, ht]⟩
end Go.Proofs.YtmmobhmiemmioaaDoor
