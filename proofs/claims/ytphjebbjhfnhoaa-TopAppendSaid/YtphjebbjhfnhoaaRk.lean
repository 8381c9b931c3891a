/- A region that draws its order, walked by an invariant over what has been done. No program · A region that draws its order, walked by an invariant over what has been done, inside a fence. No program · A region that draws, by an invariant that names the frame it began with. No program. -/
import Derived.Test.YtphjebbjhfnhoaaFr
import Derived.StillTail
import Derived.OrdersIn
import Derived.TacticsIn
namespace Go.Proofs.Ytphjebbjhfnhoaa
open Go.RowKit

/-- What each operation waits for. -/
def depsOf (ops : Array Oper) : List (List Nat) := ops.toList.map fun o => (o.after.toList.filter (Region.binds .any)).map (·.on)
def depsOk : Nat → List (List Nat) → Bool
  | _, [] => true
  | k, d :: l => d.all (fun j => decide (j < k)) && depsOk (k + 1) l
theorem depsOk_at : ∀ (l : List (List Nat)) (k i : Nat) (d : List Nat), depsOk k l = true → l[i]? = some d → ∀ j ∈ d, j < k + i
  | [], _, _, _, _, h => by simp at h
  | d0 :: l, k, 0, d, hb, h => by
    simp only [depsOk, Bool.and_eq_true] at hb
    have e : d0 = d := by simpa using h
    subst e
    intro j hj
    have := List.all_eq_true.1 hb.1 j hj
    simpa using this
  | d0 :: l, k, i + 1, d, hb, h => by
    simp only [depsOk, Bool.and_eq_true] at hb
    intro j hj
    have := depsOk_at l (k + 1) i d hb.2 (by simpa using h) j hj
    omega

def updB (L : Nat → Bool) (i : Nat) : Nat → Bool := fun j => if j = i then true else L j

theorem wpAny_by {P : Program} {ops : Array Oper} {Q : Exit → Act → World → Prop} (deps : List (List Nat)) (hd : depsOf ops = deps) (hok : depsOk 0 deps = true)
    (Inv : (Nat → Bool) → Act → World → Prop)
    (step : ∀ i, i < ops.size → ∀ L a w, Inv L a w → L i = false → (∀ j ∈ deps.getD i [], L j = true) → wpOp P ops Q i (Inv (updB L i)) a w)
    (fin : ∀ L a w, Inv L a w → (∀ i, i < ops.size → L i = true) → Q .normal a w) :
    ∀ (fuel : Nat) (listed : Array Bool) (a : Act) (w : World), listed.size = ops.size → listed.toList.count false ≤ fuel → Inv (fun i => listed.getD i false) a w → wpAny P .any ops Q fuel listed a w := by
  have hlen : ops.size = deps.length := by rw [← hd, depsOf, List.length_map, Array.length_toList]
  have hat : ∀ (i : Nat) (o : Oper), ops[i]? = some o → deps[i]? = some ((o.after.toList.filter (Region.binds .any)).map (·.on)) := fun i o ho => by
    rw [← hd, depsOf, List.getElem?_map, Array.getElem?_toList, ho]; rfl
  have hfull : ∀ (listed : Array Bool), listed.size = ops.size → Region.ready .any ops listed = [] → ∀ i, i < ops.size → listed.getD i false = true := by
    intro listed hs hr i
    induction i using Nat.strongRecOn with
    | _ i ih =>
      intro hi
      cases hb : listed.getD i false with
      | true => rfl
      | false =>
        exfalso
        obtain ⟨o, ho⟩ : ∃ o, ops[i]? = some o := ⟨ops[i], Array.getElem?_eq_getElem hi⟩
        have : i ∈ Region.ready .any ops listed := mem_ready.2 ⟨getD_in (by omega) hb, o, ho, fun e he hbi => by
          have hm : e.on ∈ (o.after.toList.filter (Region.binds .any)).map (·.on) := List.mem_map.2 ⟨e, List.mem_filter.2 ⟨Array.mem_toList_iff.2 he, hbi⟩, rfl⟩
          have hlt := depsOk_at _ 0 i _ hok (hat i o ho) _ hm
          exact ih e.on (by omega) (by omega)⟩
        rw [hr] at this
        cases this
  intro fuel
  induction fuel with
  | zero =>
    intro listed a w hs hc hI
    have h0 : ∀ i, i < ops.size → listed.getD i false = true := by
      intro i hi
      cases hb : listed.getD i false with
      | true => rfl
      | false =>
        exfalso
        have hlt : i < listed.size := by omega
        have : false ∈ listed.toList := by
          have e : listed.getD i false = listed[i] := by simp [hlt]
          rw [e] at hb
          rw [← hb]; exact Array.getElem_mem_toList hlt
        have := List.count_pos_iff.2 this
        omega
    refine ⟨?_, fin _ a w hI h0⟩
    cases hr : Region.ready .any ops listed with
    | nil => rfl
    | cons x xs =>
      have hx : x ∈ Region.ready .any ops listed := by rw [hr]; exact List.mem_cons_self
      obtain ⟨h1, o, ho, _⟩ := mem_ready.1 hx
      have hlt := (Array.getElem?_eq_some_iff.1 ho).1
      have h2 := h0 x hlt
      have h3 := getD_both h1
      rw [h2] at h3; cases h3
  | succ fuel ih =>
    intro listed a w hs hc hI
    refine ⟨fun hr => fin _ a w hI (hfull listed hs hr), fun i hi => ?_⟩
    obtain ⟨h1, o, ho, hall⟩ := mem_ready.1 hi
    have hlt := (Array.getElem?_eq_some_iff.1 ho).1
    refine wpOp_mono (fun a' w' h' => ih (listed.setIfInBounds i true) a' w' (by simpa using hs) ?_ ?_) (step i hlt _ a w hI (getD_both h1) ?_)
    · have hli : i < listed.size := by omega
      have hbe : listed[i] = false := by
        have := getD_both h1
        simpa [hli] using this
      have e : (listed.setIfInBounds i true).toList = listed.toList.set i true := by simp
      rw [e]
      have hlen2 : i < listed.toList.length := by simpa using hli
      have := List.count_set (a := true) (b := false) (l := listed.toList) (i := i) hlen2
      rw [this]
      have hb2 : listed.toList[i] = false := by simpa using hbe
      have hpos : 0 < listed.toList.count false := List.count_pos_iff.2 (by rw [← hb2]; exact List.getElem_mem hlen2)
      simp [hb2]
      have hpos' : 0 < Array.count false listed := by simpa using hpos
      have hc' : Array.count false listed ≤ fuel + 1 := by simpa using hc
      omega
    · have : (fun j => (listed.setIfInBounds i true).getD j false) = updB (fun j => listed.getD j false) i := by
        funext j
        unfold updB
        by_cases h : j = i
        · subst h
          have hli : j < listed.size := by omega
          simp [hli]
        · rw [if_neg h, getD_set_ne false (Ne.symm h)]
      rw [this]; exact h'
    · intro j hj
      have hd2 := hat i o ho
      have e : deps.getD i [] = (o.after.toList.filter (Region.binds .any)).map (·.on) := by rw [List.getD_eq_getElem?_getD, hd2]; rfl
      rw [e] at hj
      obtain ⟨ed, hed, rfl⟩ := List.mem_map.1 hj
      obtain ⟨m1, m2⟩ := List.mem_filter.1 hed
      exact hall ed (Array.mem_toList_iff.1 m1) m2

/-- A region that draws, by an invariant over what has been done. -/
theorem wp_region_by {P : Program} {id : Nat} {ops : Array Oper} {Q : Exit → Act → World → Prop} {a : Act} {w : World} (hm : P.follows .mixedOrders = true) (deps : List (List Nat)) (hd : depsOf ops = deps) (hok : depsOk 0 deps = true)
    (Inv : (Nat → Bool) → Act → World → Prop) (start : Inv (fun _ => false) a w.drew)
    (step : ∀ i, i < ops.size → ∀ L a w, Inv L a w → L i = false → (∀ j ∈ deps.getD i [], L j = true) → wpOp P ops Q i (Inv (updB L i)) a w)
    (fin : ∀ L a w, Inv L a w → (∀ i, i < ops.size → L i = true) → Q .normal a w) : (Code.region id ops true).wp P Q a w := by
  refine wp_region_any hm ?_
  refine wpAny_by deps hd hok Inv step fin _ _ _ _ (by simp) ?_ ?_
  · simp
  · have : (fun i => (Array.replicate ops.size false).getD i false) = fun _ => false := funext fun i => getD_replicate_false _ _
    rw [this]; exact start

/-- One operation, as a list of one. -/
theorem wpOp_one {P : Program} {ops : Array Oper} {Q : Exit → Act → World → Prop} {i : Nat} {o : Oper} {K : Act → World → Prop} {a : Act} {w : World} (ho : ops[i]? = some o)
    (h : wpList P ops (Exit.then K Q) [o] a w) : wpOp P ops Q i K a w := by
  unfold wpOp
  simp only [ho]
  unfold wpList at h
  by_cases hw : Region.wanted o (yielded ops a.tmps) = true
  · rw [if_pos hw] at h ⊢
    rcases h with h | ⟨h1, h⟩
    · left
      unfold Oper.wp at *
      generalize (execOp a.eval o).run P w = r at *
      cases r with
      | ok n w' =>
        cases n <;> simp only [Oper.upon, wpList] at h ⊢ <;>
          first
            | exact h
            | exact Calls.mono h (fun e w'' he => by cases e <;> exact he)
            | exact Rows.mono h (fun _ _ he => he)
      | halt x w' => cases x <;> simp only [Oper.upon] at h ⊢ <;> exact h
    · exact .inr ⟨h1, h⟩
  · rw [if_neg hw] at h ⊢
    exact h
end Go.Proofs.Ytphjebbjhfnhoaa

namespace Go.Proofs.Ytphjebbjhfnhoaa
open Go.RowKit

theorem wpAnyIn_by {F : Fence} {k : Nat} {P : Program} {ops : Array Oper} {Q : Exit → Act → World → Prop} (deps : List (List Nat)) (hd : depsOf ops = deps) (hok : depsOk 0 deps = true)
    (Inv : (Nat → Bool) → Act → World → Prop)
    (step : ∀ i, i < ops.size → ∀ L a w, Inv L a w → L i = false → (∀ j ∈ deps.getD i [], L j = true) → wpOpIn F k P ops Q i (Inv (updB L i)) a w)
    (fin : ∀ L a w, Inv L a w → (∀ i, i < ops.size → L i = true) → Q .normal a w) :
    ∀ (fuel : Nat) (listed : Array Bool) (a : Act) (w : World), listed.size = ops.size → listed.toList.count false ≤ fuel → Inv (fun i => listed.getD i false) a w → wpAnyIn F k P .any ops Q fuel listed a w := by
  have hlen : ops.size = deps.length := by rw [← hd, depsOf, List.length_map, Array.length_toList]
  have hat : ∀ (i : Nat) (o : Oper), ops[i]? = some o → deps[i]? = some ((o.after.toList.filter (Region.binds .any)).map (·.on)) := fun i o ho => by
    rw [← hd, depsOf, List.getElem?_map, Array.getElem?_toList, ho]; rfl
  have hfull : ∀ (listed : Array Bool), listed.size = ops.size → Region.ready .any ops listed = [] → ∀ i, i < ops.size → listed.getD i false = true := by
    intro listed hs hr i
    induction i using Nat.strongRecOn with
    | _ i ih =>
      intro hi
      cases hb : listed.getD i false with
      | true => rfl
      | false =>
        exfalso
        obtain ⟨o, ho⟩ : ∃ o, ops[i]? = some o := ⟨ops[i], Array.getElem?_eq_getElem hi⟩
        have : i ∈ Region.ready .any ops listed := mem_ready.2 ⟨getD_in (by omega) hb, o, ho, fun e he hbi => by
          have hm : e.on ∈ (o.after.toList.filter (Region.binds .any)).map (·.on) := List.mem_map.2 ⟨e, List.mem_filter.2 ⟨Array.mem_toList_iff.2 he, hbi⟩, rfl⟩
          have hlt := depsOk_at _ 0 i _ hok (hat i o ho) _ hm
          exact ih e.on (by omega) (by omega)⟩
        rw [hr] at this
        cases this
  intro fuel
  induction fuel with
  | zero =>
    intro listed a w hs hc hI
    have h0 : ∀ i, i < ops.size → listed.getD i false = true := by
      intro i hi
      cases hb : listed.getD i false with
      | true => rfl
      | false =>
        exfalso
        have hlt : i < listed.size := by omega
        have : false ∈ listed.toList := by
          have e : listed.getD i false = listed[i] := by simp [hlt]
          rw [e] at hb
          rw [← hb]; exact Array.getElem_mem_toList hlt
        have := List.count_pos_iff.2 this
        omega
    refine ⟨?_, fin _ a w hI h0⟩
    cases hr : Region.ready .any ops listed with
    | nil => rfl
    | cons x xs =>
      have hx : x ∈ Region.ready .any ops listed := by rw [hr]; exact List.mem_cons_self
      obtain ⟨h1, o, ho, _⟩ := mem_ready.1 hx
      have hlt := (Array.getElem?_eq_some_iff.1 ho).1
      have h2 := h0 x hlt
      have h3 := getD_both h1
      rw [h2] at h3; cases h3
  | succ fuel ih =>
    intro listed a w hs hc hI
    refine ⟨fun hr => fin _ a w hI (hfull listed hs hr), fun i hi => ?_⟩
    obtain ⟨h1, o, ho, hall⟩ := mem_ready.1 hi
    have hlt := (Array.getElem?_eq_some_iff.1 ho).1
    refine wpOpIn_mono (fun a' w' h' => ih (listed.setIfInBounds i true) a' w' (by simpa using hs) ?_ ?_) (step i hlt _ a w hI (getD_both h1) ?_)
    · have hli : i < listed.size := by omega
      have hbe : listed[i] = false := by
        have := getD_both h1
        simpa [hli] using this
      have e : (listed.setIfInBounds i true).toList = listed.toList.set i true := by simp
      rw [e]
      have hlen2 : i < listed.toList.length := by simpa using hli
      have := List.count_set (a := true) (b := false) (l := listed.toList) (i := i) hlen2
      rw [this]
      have hb2 : listed.toList[i] = false := by simpa using hbe
      have hpos : 0 < listed.toList.count false := List.count_pos_iff.2 (by rw [← hb2]; exact List.getElem_mem hlen2)
      simp [hb2]
      have hpos' : 0 < Array.count false listed := by simpa using hpos
      have hc' : Array.count false listed ≤ fuel + 1 := by simpa using hc
      omega
    · have : (fun j => (listed.setIfInBounds i true).getD j false) = updB (fun j => listed.getD j false) i := by
        funext j
        unfold updB
        by_cases h : j = i
        · subst h
          have hli : j < listed.size := by omega
          simp [hli]
        · rw [if_neg h, getD_set_ne false (Ne.symm h)]
      rw [this]; exact h'
    · intro j hj
      have hd2 := hat i o ho
      have e : deps.getD i [] = (o.after.toList.filter (Region.binds .any)).map (·.on) := by rw [List.getD_eq_getElem?_getD, hd2]; rfl
      rw [e] at hj
      obtain ⟨ed, hed, rfl⟩ := List.mem_map.1 hj
      obtain ⟨m1, m2⟩ := List.mem_filter.1 hed
      exact hall ed (Array.mem_toList_iff.1 m1) m2

/-- A region that draws, by an invariant over what has been done. -/
theorem wpIn_region_by {F : Fence} {k : Nat} {P : Program} {id : Nat} {ops : Array Oper} {Q : Exit → Act → World → Prop} {a : Act} {w : World} (hm : P.follows .mixedOrders = true) (deps : List (List Nat)) (hd : depsOf ops = deps) (hok : depsOk 0 deps = true)
    (Inv : (Nat → Bool) → Act → World → Prop) (start : Inv (fun _ => false) a w.drew)
    (step : ∀ i, i < ops.size → ∀ L a w, Inv L a w → L i = false → (∀ j ∈ deps.getD i [], L j = true) → wpOpIn F k P ops Q i (Inv (updB L i)) a w)
    (fin : ∀ L a w, Inv L a w → (∀ i, i < ops.size → L i = true) → Q .normal a w) : (Code.region id ops true).wpIn F k P Q a w := by
  refine wpIn_region_any hm ?_
  refine wpAnyIn_by deps hd hok Inv step fin _ _ _ _ (by simp) ?_ ?_
  · simp
  · have : (fun i => (Array.replicate ops.size false).getD i false) = fun _ => false := funext fun i => getD_replicate_false _ _
    rw [this]; exact start

/-- One operation, as a list of one. -/
theorem wpOpIn_one {F : Fence} {k : Nat} {P : Program} {ops : Array Oper} {Q : Exit → Act → World → Prop} {i : Nat} {o : Oper} {K : Act → World → Prop} {a : Act} {w : World} (ho : ops[i]? = some o)
    (h : wpListIn F k P ops (Exit.then K Q) [o] a w) : wpOpIn F k P ops Q i K a w := by
  unfold wpOpIn
  simp only [ho]
  unfold wpListIn at h
  by_cases hw : Region.wanted o (yielded ops a.tmps) = true
  · rw [if_pos hw] at h ⊢
    unfold Oper.wpIn at *
    refine ⟨h.1, ?_⟩
    have h2 := h.2
    generalize (o.semAt F.round a.eval).run P w = r at *
    cases r with
    | ok n w' =>
      cases n <;> simp only [Oper.uponIn, wpListIn] at h2 ⊢ <;>
        first
          | exact h2
          | exact ⟨h2.1, CallsIn.mono h2.2 (fun e w'' he => by cases e <;> exact he)⟩
          | exact ⟨h2.1, RowsIn.mono h2.2 (fun _ _ he => he)⟩
          | exact ⟨h2.1, RoundIn.mono h2.2 (fun e w'' he => by cases e <;> exact he)⟩
    | halt x w' => cases x <;> simp only [Oper.uponIn] at h2 ⊢ <;> exact h2
  · rw [if_neg hw] at h ⊢
    exact h
/-- What has been done is closed under what it waits for. -/
def Cl (deps : List (List Nat)) (L : Nat → Bool) : Prop := ∀ j d, L j = true → d ∈ deps.getD j [] → L d = true
theorem Cl.upd {deps : List (List Nat)} {L : Nat → Bool} (h : Cl deps L) (i : Nat) (hi : ∀ j ∈ deps.getD i [], L j = true) : Cl deps (updB L i) := by
  intro j d hj hd
  unfold updB at hj ⊢
  by_cases e : d = i
  · rw [if_pos e]
  · rw [if_neg e]
    by_cases e2 : j = i
    · subst e2; exact hi d hd
    · rw [if_neg e2] at hj; exact h j d hj hd
theorem wpIn_region_cl {F : Fence} {k : Nat} {P : Program} {id : Nat} {ops : Array Oper} {Q : Exit → Act → World → Prop} {a : Act} {w : World} (hm : P.follows .mixedOrders = true) (deps : List (List Nat)) (hd : depsOf ops = deps) (hok : depsOk 0 deps = true)
    (Inv : (Nat → Bool) → Act → World → Prop) (start : Inv (fun _ => false) a w.drew)
    (step : ∀ i, i < ops.size → ∀ L a w, Inv L a w → Cl deps L → L i = false → (∀ j ∈ deps.getD i [], L j = true) → wpOpIn F k P ops Q i (Inv (updB L i)) a w)
    (fin : ∀ L a w, Inv L a w → (∀ i, i < ops.size → L i = true) → Q .normal a w) : (Code.region id ops true).wpIn F k P Q a w :=
  wpIn_region_by hm deps hd hok (fun L a w => Inv L a w ∧ Cl deps L) ⟨start, fun _ _ h => absurd h Bool.false_ne_true⟩
    (fun i hi L a w h h0 hdp => wpOpIn_mono (fun _ _ h' => ⟨h', h.2.upd i hdp⟩) (step i hi L a w h.1 h.2 h0 hdp)) (fun L a w h => fin L a w h.1)
theorem wp_region_cl {P : Program} {id : Nat} {ops : Array Oper} {Q : Exit → Act → World → Prop} {a : Act} {w : World} (hm : P.follows .mixedOrders = true) (deps : List (List Nat)) (hd : depsOf ops = deps) (hok : depsOk 0 deps = true)
    (Inv : (Nat → Bool) → Act → World → Prop) (start : Inv (fun _ => false) a w.drew)
    (step : ∀ i, i < ops.size → ∀ L a w, Inv L a w → Cl deps L → L i = false → (∀ j ∈ deps.getD i [], L j = true) → wpOp P ops Q i (Inv (updB L i)) a w)
    (fin : ∀ L a w, Inv L a w → (∀ i, i < ops.size → L i = true) → Q .normal a w) : (Code.region id ops true).wp P Q a w :=
  wp_region_by hm deps hd hok (fun L a w => Inv L a w ∧ Cl deps L) ⟨start, fun _ _ h => absurd h Bool.false_ne_true⟩
    (fun i hi L a w h h0 hdp => wpOp_mono (fun _ _ h' => ⟨h', h.2.upd i hdp⟩) (step i hi L a w h.1 h.2 h0 hdp)) (fun L a w h => fin L a w h.1)
def updU (u : Nat → Value) (k : Nat) (v : Value) : Nat → Value := fun j => if j = k then v else u j
theorem updU_self (u : Nat → Value) (k : Nat) (v : Value) : updU u k v k = v := if_pos rfl
theorem updU_ne (u : Nat → Value) (k : Nat) (v : Value) (j : Nat) (h : j ≠ k) : updU u k v j = u j := if_neg h
theorem updB_ne (L : Nat → Bool) (i j : Nat) (h : j ≠ i) : updB L i j = L j := if_neg h
theorem updB_self (L : Nat → Bool) (i : Nat) : updB L i i = true := if_pos rfl
end Go.Proofs.Ytphjebbjhfnhoaa

namespace Go.Proofs.Ytphjebbjhfnhoaa
open Go.RowKit
/-- A frame with some slots written. -/
def setU (a : Act) (ks : List Nat) (u : Nat → Value) : Act := { a with tmps := ks.foldl (fun t k => t.setIfInBounds k (u k)) a.tmps }
theorem set_self (t : Array Value) (k : Nat) : t.setIfInBounds k (t.getD k undef) = t := by
  apply Array.ext_getElem?
  intro i
  by_cases h : i = k
  · subst h
    by_cases hlt : i < t.size
    · rw [Array.getElem?_setIfInBounds_self_of_lt hlt]; simp [hlt]
    · rw [Array.getElem?_eq_none (by simp; omega), Array.getElem?_eq_none (by omega)]
  · rw [Array.getElem?_setIfInBounds_ne (Ne.symm h)]
theorem setU_self (a : Act) (ks : List Nat) : setU a ks (fun k => a.tmps.getD k undef) = a := by
  unfold setU
  have h : ∀ (ks : List Nat) (t : Array Value), (∀ k, t.getD k undef = a.tmps.getD k undef) → ks.foldl (fun t k => t.setIfInBounds k (a.tmps.getD k undef)) t = t := by
    intro ks
    induction ks with
    | nil => intro t _; rfl
    | cons k ks ih =>
      intro t ht
      rw [List.foldl_cons, ← ht k, set_self]
      exact ih t ht
  rw [h ks a.tmps (fun _ => rfl)]
theorem wp_region_at {P : Program} {id : Nat} {ops : Array Oper} {Q : Exit → Act → World → Prop} {a : Act} {w : World} (hm : P.follows .mixedOrders = true) (deps : List (List Nat)) (hd : depsOf ops = deps) (hok : depsOk 0 deps = true) (ks : List Nat)
    (Inv : (Nat → Bool) → (Nat → Value) → World → Prop) (start : Inv (fun _ => false) (fun k => a.tmps.getD k undef) w.drew)
    (step : ∀ i, i < ops.size → ∀ L u w, Inv L u w → Cl deps L → L i = false → (∀ j ∈ deps.getD i [], L j = true) → ∀ K : Act → World → Prop, (∀ u' w', Inv (updB L i) u' w' → K (setU a ks u') w') → wpOp P ops Q i K (setU a ks u) w)
    (fin : ∀ L u w, Inv L u w → (∀ i, i < ops.size → L i = true) → Q .normal (setU a ks u) w) : (Code.region id ops true).wp P Q a w :=
  wp_region_cl hm deps hd hok (fun L a' w => ∃ u, a' = setU a ks u ∧ Inv L u w) ⟨_, (setU_self a ks).symm, start⟩
    (fun i hi L a' w h hcl h0 hdp => by obtain ⟨u, rfl, h⟩ := h; exact step i hi L u w h hcl h0 hdp _ (fun u' w' h' => ⟨u', rfl, h'⟩)) (fun L a' w h hall => by obtain ⟨u, rfl, h⟩ := h; exact fin L u w h hall)
/-- One operation of a region, its run reckoned apart from the frame. -/
theorem wpOp_run {P : Program} {ops : Array Oper} {Q : Exit → Act → World → Prop} {i : Nat} {o : Oper} {K : Act → World → Prop} {a : Act} {w w' : World} {v : Value} (ho : ops[i]? = some o) (hg : o.guard = none)
    (hr : (execOp a.eval o).run P w = .ok (.value v) w') (h : K (a.put o.dst v) w') : wpOp P ops Q i K a w := by
  unfold wpOp
  simp only [ho]
  rw [if_pos (show Region.wanted o (yielded ops a.tmps) = true by simp [Region.wanted, hg])]
  left
  unfold Oper.wp
  rw [hr]; exact h
theorem wpOp_skip {P : Program} {ops : Array Oper} {Q : Exit → Act → World → Prop} {i : Nat} {o : Oper} {K : Act → World → Prop} {a : Act} {w w' : World} (ho : ops[i]? = some o) (hg : o.guard = none)
    (hr : (execOp a.eval o).run P w = .ok .skip w') (h : K (a.put o.dst undef) w') : wpOp P ops Q i K a w := by
  unfold wpOp
  simp only [ho]
  rw [if_pos (show Region.wanted o (yielded ops a.tmps) = true by simp [Region.wanted, hg])]
  left
  unfold Oper.wp
  rw [hr]; exact h
end Go.Proofs.Ytphjebbjhfnhoaa
