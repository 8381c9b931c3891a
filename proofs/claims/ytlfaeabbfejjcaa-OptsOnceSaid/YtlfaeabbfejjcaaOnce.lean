/- OptsOnce: for every list of words and either word of dry, a word more of a field that no word says changes that field alone, and the same word again is refused where it stands: the law returns true, and its arguments read as before. -/
import Derived.Test.YtlfaeabbfejjcaaOrder
import Derived.Test.YtlfaeabbfejjcaaOnceP
import Derived.Laws.AppendOwnNone
import Derived.Deep.Strs
namespace Go.Proofs.Ytlfaeabbfejjcaa
open Go.RowKit

/-- append of a list of words to a row that the call owns. -/
theorem wpList_app_L {w : World} {ops : Array Oper} {rest : List Oper} {o : Oper} {a : Act} {Q : Exit → Act → World → Prop} (hgd : o.guard = none) (s x : Operand)
    (ho : o.op = .call { callee := .builtin .append, args := #[s, x], argTypes := #[22, 22] })
    (base : Nat) (v : Value) (n : Nat) (xs : List Value) (hs : a.eval s = v) (hown : w.ownsRow base 9 1 v n xs)
    (A : Option Addr) (cap : Nat) (L : List ByteArray) (hx : a.eval x = .slice A L.length cap) (hst : Strs w A L) (hcap : A = none → cap = 0)
    (hle : n + L.length ≤ 1000) (hbase : base ≤ w.heap.size)
    (h : ∀ v' w', w'.ownsRow base 9 1 v' (n + L.length) (xs ++ L.map Value.string) → w.grownBy w' v.ownBlock → wpList Try.prog ops Q rest (a.put o.dst v') w') : wpList Try.prog ops Q (o :: rest) a w := by
  obtain ⟨i0, hi, hz0, hz1, hz2⟩ := info_parts Try.info9
  rcases A with _ | ad
  · have hL : L = [] := by
      cases L with
      | nil => rfl
      | cons b t => obtain ⟨x, hx, _⟩ := hst.2 0 b rfl; cases hx
    subst hL
    rw [hcap rfl] at hx
    refine wpList_append_own_none hgd s x 22 ho base 9 i0 1 Try.underlying22 hi v n xs hs hown hx (h v w (by simpa using hown) (World.grownBy.refl w _))
  · refine wpList_append_own w hgd s x 22 ho base 9 i0 (.string ⟨#[]⟩) 1 16 Try.underlying22 hi hz0 hz1 hz2 rfl (by decide) v n xs hs hown ad L.length cap (L.map Value.string) hx (by simp) ?_ ?_ (by unfold maxLen; omega) (by omega) hbase (fun v' w' h1 h2 _ => h v' w' h1 h2)
    · intro j u hu
      rw [List.getElem?_map] at hu
      rcases hj : L[j]? with _ | b
      · rw [hj] at hu; cases hu
      · rw [hj] at hu
        injection hu with hu
        subst hu
        obtain ⟨x', hx', _, hc⟩ := hst.2 j b hj
        injection hx' with hx'
        subst hx'
        exact hc
    · intro u hu
      obtain ⟨b, _, rfl⟩ := List.mem_map.1 hu
      rfl

theorem strs_new (w : World) (s : ByteArray) : Strs (w.alloc (.cells #[.string s] 9)) (some ⟨w.heap.size, 0, none⟩) [s] := by
  refine ⟨by simp, fun j b hj => ⟨_, rfl, by simp, one_new w s j _ ?_⟩⟩
  rcases j with _ | j
  · injection hj with hj; subst hj; rfl
  · cases hj

theorem strs_new2 (w : World) (s : ByteArray) (n : Nat) (h : n = w.heap.size) : Strs (w.alloc (.cells #[.string s] 9)) (some ⟨n, 0, none⟩) [s] := by
  subst h; exact strs_new w s
theorem own_app {w : World} {B : Nat} {v : Value} {L : List ByteArray} {wd : ByteArray} (h : w.ownsRow B 9 1 v (0 + L.length + [wd].length) ([] ++ L.map Value.string ++ [wd].map Value.string)) :
    w.ownsRow B 9 1 v (L ++ [wd]).length ((L ++ [wd]).map Value.string) := by
  rw [List.length_append, List.map_append]
  rw [Nat.zero_add] at h
  exact h
theorem own_app2 {w : World} {B : Nat} {v : Value} {L : List ByteArray} {wd : ByteArray} (h : w.ownsRow B 9 1 v (L.length + [wd].length) (L.map Value.string ++ [wd].map Value.string)) :
    w.ownsRow B 9 1 v (L ++ [wd]).length ((L ++ [wd]).map Value.string) := by
  rw [List.length_append, List.map_append]
  exact h
theorem Fr.grownBy {w w' : World} (h : Fr (fun _ => False) w w') : w.grownBy w' none := ⟨h.os, h.tape, h.output, h.size, fun k hk _ => h.block k hk (fun h => h)⟩
theorem own_fr {w w' : World} {B n : Nat} {v : Value} {xs : List Value} (h : w.ownsRow B 9 1 v n xs) (hf : Fr (fun _ => False) w w') : w'.ownsRow B 9 1 v n xs := by
  rcases hv : v.ownBlock with _ | k
  · exact h.kept hf.grownBy (.inl hv)
  · exact h.kept hf.grownBy (.inr (by rw [hv]; simp))

theorem le_1000 {L : List ByteArray} {n : Nat} {d : ByteArray} (h : n = L.length + 1) (hl : L.length ≤ 100) : n + [d].length ≤ 1000 := by rw [h, List.length_singleton]; omega

/-- The state behind the two appends and the two readings. -/
structure OS (w : World) (a : Option Addr) (L : List ByteArray) (wd : ByteArray) (v : Value) (o1 o2 : Nat) (f1 f2 : Nat → Int) (wr : World) : Prop where
  own : wr.ownsRow w.heap.size 9 1 v (L ++ [wd]).length ((L ++ [wd]).map Value.string)
  b1 : Blk wr o1 25 (ocells f1)
  b2 : Blk wr o2 25 (ocells f2)
  fr : Fr (fun _ => False) w wr
  lt : ∀ k, v.ownBlock = some k → k < o1
  lo : w.heap.size ≤ o1
  ne : o1 < o2

theorem OS.set {w wr : World} {a : Option Addr} {L : List ByteArray} {wd : ByteArray} {v : Value} {o1 o2 : Nat} {f g : Nat → Int} (P : OS w a L wd v o1 o2 f g wr) (x : Int) (on : Bool) (h : on = (x == 1)) :
    OS w a L wd v o1 o2 (upd f 17 x) g (wr.setCell ⟨o1, 17, none⟩ (.bool on)) := by
  refine ⟨?_, ?_, ?_, ?_, P.lt, P.lo, P.ne⟩
  · exact P.own.kept (row := some o1) ⟨rfl, rfl, rfl, by simp [World.setCell], fun k _ hk => Below.heap_setCell _ _ _ _ (fun e => hk (by rw [e]))⟩ (.inr (fun h => by have := P.lt _ h; omega))
  · have := P.b1.set 17 (.bool on)
    rw [h] at this ⊢
    rwa [show (ocells f).setIfInBounds 17 (.bool (x == 1)) = ocells (upd f 17 x) from ocells_upd f x 17 (by decide)] at this
  · exact P.b2.setOther (show o2 ≠ o1 by have := P.ne; omega) _
  · exact P.fr.setCell (fun h => absurd P.lo (by have : o1 < w.heap.size := h; omega)) _

theorem OS.app {w wr w7 : World} {a : Option Addr} {L : List ByteArray} {wd : ByteArray} {v : Value} {o1 o2 : Nat} {f g : Nat → Int} {o : Obj} (P : OS w a L wd v o1 o2 f g wr) (hg : (wr.alloc o).grownBy w7 v.ownBlock) :
    Blk w7 o1 25 (ocells f) ∧ Blk w7 o2 25 (ocells g) ∧ Fr (fun _ => False) w w7 := by
  have hne : ∀ k, o1 ≤ k → some k ≠ v.ownBlock := fun k hk e => by have := P.lt k e.symm; omega
  have h1 := P.b1.alloc o
  have h2 := P.b2.alloc o
  refine ⟨(hg.block o1 h1.lt (hne o1 (Nat.le_refl _))).trans h1, (hg.block o2 h2.lt (hne o2 (Nat.le_of_lt P.ne))).trans h2, ?_⟩
  have hs : w.heap.size ≤ (wr.alloc o).heap.size := Nat.le_trans P.fr.size (by simp)
  exact ⟨hg.os.trans P.fr.os, hg.tape.trans P.fr.tape, hg.output.trans P.fr.output, Nat.le_trans hs hg.size, fun k hk hS => (hg.block k (Nat.lt_of_lt_of_le hk hs) (fun e => by have := (P.own.lt k e.symm).1; omega)).trans ((P.fr.alloc o).block k hk hS)⟩

theorem fw_dry : fw ⟨#[45, 45, 100, 114, 121]⟩ = some (17, 1) := by kernel_rfl
theorem fw_nodry : fw ⟨#[45, 45, 110, 111, 45, 100, 114, 121]⟩ = some (17, 0) := by kernel_rfl

set_option maxRecDepth 100000 in
set_option maxHeartbeats 4000000 in
theorem once_A_true (a : Option Addr) (L : List ByteArray) (cap : Nat) (w : World) (hs : Strs w a L) (hcap : a = none → cap = 0) (hl : L.length ≤ 100) (hp1 : (parseS L).2.2 ≠ 0) (hp2 : (parseS (L ++ [⟨#[45, 45, 100, 114, 121]⟩])).2.2 ≠ 0) :
    Calls Try.prog 5 #[.slice a L.length cap, .bool true] w fun e w' => e = .returned (.bool true) ∧ Fr (fun _ => False) w w' := by
  have hle : decide (100 < (L.length : Int)) = false := by simp; omega
  have c1 := fun wx (hx : Strs wx a L) => parse_spec a L cap wx (by omega) hx.2
  have c2 := fun ad cp wx (hx : Strs wx ad (L ++ [⟨#[45, 45, 100, 114, 121]⟩])) => parse_spec ad (L ++ [⟨#[45, 45, 100, 114, 121]⟩]) cp wx (by simp; omega) hx.2
  obtain ⟨f1, n1, e1, h1⟩ : ∃ f1 n1 e1, parseS L = (f1, n1, e1) := ⟨_, _, _, rfl⟩
  obtain ⟨f2, n2, e2, h2⟩ : ∃ f2 n2 e2, parseS (L ++ [⟨#[45, 45, 100, 114, 121]⟩]) = (f2, n2, e2) := ⟨_, _, _, rfl⟩
  rw [h1] at c1 hp1
  rw [h2] at c2 hp2
  have q1 : (e1 == 0) = false := by simpa using hp1
  have q2 : (e2 == 0) = false := by simpa using hp2
  have r1 : (e1 != 0) = true := by simpa using hp1
  have r2 : (e2 != 0) = true := by simpa using hp2
  clear h1 h2 hp1 hp2
  have hlen : (L ++ [(⟨#[45, 45, 100, 114, 121]⟩ : ByteArray)]).length = L.length + 1 := by simp
  rw [hlen] at c2
  have HC1 := Lib.hid c1
  have HC2 := Lib.hid c2
  have HS := Lib.hid hs
  have HL := Lib.hid hlen
  have HCP := Lib.hid hcap
  clear hs c1 c2 hlen hcap
  go_enter Try.func5, Try.ntmps5
  go_wp2_with (first
    | (at_builtin; refine wpList_app_L rfl (.tmp 21) (.tmp 22) rfl w.heap.size (.slice none 0 0) 0 [] rfl (World.ownsRow_nil _ _ _ _) a cap L rfl HS.out HCP.out (by omega) (Nat.le_refl _) ?_; intro v1 w1 hown1 hg1; have HB1 := Lib.hid ((Below.refl w.heap.size w).grown hg1 (Nat.le_refl _) (by simp [Value.ownBlock])); have HO1 := Lib.hid hown1; clear hown1 hg1)
    | (at_builtin; refine wpList_app_L rfl (.tmp 23) (.tmp 25) rfl w.heap.size v1 (0 + L.length) ([] ++ L.map Value.string) rfl (HO1.out.alloc _) (some ⟨w1.heap.size, 0, none⟩) 1 [⟨#[45, 45, 100, 114, 121]⟩] rfl (strs_new w1 _) (fun h => by cases h) (by simp; omega) (by have := HB1.out.size; simp; omega) ?_; intro v2 w2 hown2 hg2; have HB2 := Lib.hid (app_below HB1.out HO1.out hg2 HB1.out.size); have HO2 := Lib.hid (own_app hown2); clear hown2 hg2 HO1 HB1))
  have HS2 := Lib.hid (HS.out.below HB2.out)
  have HF2 := Lib.hid (Fr.ofBelow HB2.out (fun _ => False))
  obtain ⟨ad, cap2, hv2, hst2⟩ := owns_strs HO2.out (by rw [HL.out]; omega)
  rw [HL.out] at hv2
  subst hv2
  have HT2 := Lib.hid hst2
  clear hst2 HB2 HS HCP
  refine (HC1.out _ HS2.out).mono ?_
  rintro e w3 ⟨rfl, hf3⟩
  have HF3 := Lib.hid ((HF2.out.trans hf3 (fun _ _ h => h)).alloc (.cells (ocells f1) 25))
  have HT3 := Lib.hid (HT2.out.fr (hf3.alloc (.cells (ocells f1) 25)))
  have HLT := Lib.hid (own_fr HO2.out hf3).lt
  have HO3 := Lib.hid (own_fr HO2.out (hf3.alloc (.cells (ocells f1) 25)))
  have HB1 := Lib.hid (Blk.new w3 25 (ocells f1))
  have HZ := Lib.hid (HF2.out.trans hf3 (fun _ _ h => h)).size
  clear hf3 HF2 HT2 HS2 HO2 HC1
  go_wp2_with (refine wpList_store_row rfl 25 _ _ rfl _ (ocells f1) rfl rfl 25 (ocells zf) (Blk.new _ _ _) Try.size25 rfl (ocells_one _) ?_; rw [World.setRow_alloc_new]; generalize w3.alloc (.cells (ocells f1) 25) = w4 at HB1 HF3 HT3 HO3 ⊢; generalize w3.heap.size = o1 at HB1 HLT HZ ⊢)
  refine (HC2.out _ _ _ HT3.out).mono ?_
  rintro e w5 ⟨rfl, hf5⟩
  have P6 : Hid (OS w a L ⟨#[45, 45, 100, 114, 121]⟩ (.slice ad (L.length + 1) cap2) o1 w5.heap.size f1 f2 (w5.alloc (.cells (ocells f2) 25))) := Lib.hid ⟨own_fr HO3.out (hf5.alloc _), (HB1.out.fr hf5 (fun h => h)).alloc _, Blk.new _ _ _, (HF3.out.trans hf5 (fun _ _ h => h)).alloc _, fun k hk => (HLT.out k hk).2, HZ.out, (HB1.out.fr hf5 (fun h => h)).lt⟩
  clear hf5 HF3 HT3 HLT HO3 HB1 HZ HC2
  go_wp2_with (first
    | (refine wpList_store_row rfl 25 _ _ rfl _ (ocells f2) rfl rfl 25 (ocells zf) (Blk.new _ _ _) Try.size25 rfl (ocells_one _) ?_; rw [World.setRow_alloc_new]; generalize w5.alloc (.cells (ocells f2) 25) = w6 at P6 ⊢; generalize w5.heap.size = o2 at P6 ⊢)
    | (go_at_call 8; refine (awake_spec _).mono ?_; rintro e w9 ⟨rfl, hf9⟩; have HF9 := Lib.hid (P6.out.fr.trans hf9 (fun _ _ h => h)); clear hf9))
  go_ret
  exact ⟨rfl, HF9.out⟩

set_option maxRecDepth 100000 in
set_option maxHeartbeats 4000000 in
theorem once_B_true (a : Option Addr) (L : List ByteArray) (cap : Nat) (w : World) (hs : Strs w a L) (hcap : a = none → cap = 0) (hl : L.length ≤ 100) (f1 : Nat → Int) (h1 : parseS L = (f1, L.length, 0)) (h2 : parseS (L ++ [⟨#[45, 45, 100, 114, 121]⟩]) = (zf, L.length, 11)) :
    Calls Try.prog 5 #[.slice a L.length cap, .bool true] w fun e w' => e = .returned (.bool true) ∧ Fr (fun _ => False) w w' := by
  have hle : decide (100 < (L.length : Int)) = false := by simp; omega
  have c1 := fun wx (hx : Strs wx a L) => parse_spec a L cap wx (by omega) hx.2
  have c2 := fun ad cp wx (hx : Strs wx ad (L ++ [⟨#[45, 45, 100, 114, 121]⟩])) => parse_spec ad (L ++ [⟨#[45, 45, 100, 114, 121]⟩]) cp wx (by simp; omega) hx.2
  rw [h1] at c1
  rw [h2] at c2
  clear h1 h2
  have hlen : (L ++ [(⟨#[45, 45, 100, 114, 121]⟩ : ByteArray)]).length = L.length + 1 := by simp
  rw [hlen] at c2
  have HC1 := Lib.hid c1
  have HC2 := Lib.hid c2
  have HS := Lib.hid hs
  have HL := Lib.hid hlen
  have HCP := Lib.hid hcap
  clear hs c1 c2 hlen hcap
  go_enter Try.func5, Try.ntmps5
  go_wp2_with (first
    | (at_builtin; refine wpList_app_L rfl (.tmp 21) (.tmp 22) rfl w.heap.size (.slice none 0 0) 0 [] rfl (World.ownsRow_nil _ _ _ _) a cap L rfl HS.out HCP.out (by omega) (Nat.le_refl _) ?_; intro v1 w1 hown1 hg1; have HB1 := Lib.hid ((Below.refl w.heap.size w).grown hg1 (Nat.le_refl _) (by simp [Value.ownBlock])); have HO1 := Lib.hid hown1; clear hown1 hg1)
    | (at_builtin; refine wpList_app_L rfl (.tmp 23) (.tmp 25) rfl w.heap.size v1 (0 + L.length) ([] ++ L.map Value.string) rfl (HO1.out.alloc _) (some ⟨w1.heap.size, 0, none⟩) 1 [⟨#[45, 45, 100, 114, 121]⟩] rfl (strs_new w1 _) (fun h => by cases h) (by simp; omega) (by have := HB1.out.size; simp; omega) ?_; intro v2 w2 hown2 hg2; have HB2 := Lib.hid (app_below HB1.out HO1.out hg2 HB1.out.size); have HO2 := Lib.hid (own_app hown2); clear hown2 hg2 HO1 HB1))
  have HS2 := Lib.hid (HS.out.below HB2.out)
  have HF2 := Lib.hid (Fr.ofBelow HB2.out (fun _ => False))
  obtain ⟨ad, cap2, hv2, hst2⟩ := owns_strs HO2.out (by rw [HL.out]; omega)
  rw [HL.out] at hv2
  subst hv2
  have HT2 := Lib.hid hst2
  clear hst2 HB2 HS HCP
  refine (HC1.out _ HS2.out).mono ?_
  rintro e w3 ⟨rfl, hf3⟩
  have HF3 := Lib.hid ((HF2.out.trans hf3 (fun _ _ h => h)).alloc (.cells (ocells f1) 25))
  have HT3 := Lib.hid (HT2.out.fr (hf3.alloc (.cells (ocells f1) 25)))
  have HLT := Lib.hid (own_fr HO2.out hf3).lt
  have HO3 := Lib.hid (own_fr HO2.out (hf3.alloc (.cells (ocells f1) 25)))
  have HB1 := Lib.hid (Blk.new w3 25 (ocells f1))
  have HZ := Lib.hid (HF2.out.trans hf3 (fun _ _ h => h)).size
  clear hf3 HF2 HT2 HS2 HO2 HC1
  go_wp2_with (refine wpList_store_row rfl 25 _ _ rfl _ (ocells f1) rfl rfl 25 (ocells zf) (Blk.new _ _ _) Try.size25 rfl (ocells_one _) ?_; rw [World.setRow_alloc_new]; generalize w3.alloc (.cells (ocells f1) 25) = w4 at HB1 HF3 HT3 HO3 ⊢; generalize w3.heap.size = o1 at HB1 HLT HZ ⊢)
  refine (HC2.out _ _ _ HT3.out).mono ?_
  rintro e w5 ⟨rfl, hf5⟩
  have P6 : Hid (OS w a L ⟨#[45, 45, 100, 114, 121]⟩ (.slice ad (L.length + 1) cap2) o1 w5.heap.size f1 zf (w5.alloc (.cells (ocells zf) 25))) := Lib.hid ⟨own_fr HO3.out (hf5.alloc _), (HB1.out.fr hf5 (fun h => h)).alloc _, Blk.new _ _ _, (HF3.out.trans hf5 (fun _ _ h => h)).alloc _, fun k hk => (HLT.out k hk).2, HZ.out, (HB1.out.fr hf5 (fun h => h)).lt⟩
  clear hf5 HF3 HT3 HLT HO3 HB1 HZ HC2
  go_wp2_with (first
    | (refine wpList_store_row rfl 25 _ _ rfl _ (ocells zf) rfl rfl 25 (ocells zf) (Blk.new _ _ _) Try.size25 rfl (ocells_one _) ?_; rw [World.setRow_alloc_new]; generalize w5.alloc (.cells (ocells zf) 25) = w6 at P6 ⊢; generalize w5.heap.size = o2 at P6 ⊢)
    | (go_at_call 8; refine (awake_spec _).mono ?_; rintro e w9 ⟨rfl, hf9⟩; have HF9 := Lib.hid (P6.out.fr.trans hf9 (fun _ _ h => h)); clear hf9))
  go_ret
  exact ⟨rfl, HF9.out⟩

set_option maxRecDepth 100000 in
set_option maxHeartbeats 4000000 in
theorem once_C_true (a : Option Addr) (L : List ByteArray) (cap : Nat) (w : World) (hs : Strs w a L) (hcap : a = none → cap = 0) (hl : L.length ≤ 100) (f1 : Nat → Int) (h1 : parseS L = (f1, L.length, 0)) (h2 : parseS (L ++ [⟨#[45, 45, 100, 114, 121]⟩]) = (upd f1 17 1, L.length + 1, 0)) (h3 : parseS (L ++ [⟨#[45, 45, 100, 114, 121]⟩] ++ [⟨#[45, 45, 100, 114, 121]⟩]) = (zf, L.length + 1, 11)) :
    Calls Try.prog 5 #[.slice a L.length cap, .bool true] w fun e w' => e = .returned (.bool true) ∧ Fr (fun _ => False) w w' := by
  have hle : decide (100 < (L.length : Int)) = false := by simp; omega
  have c1 := fun wx (hx : Strs wx a L) => parse_spec a L cap wx (by omega) hx.2
  have c2 := fun ad cp wx (hx : Strs wx ad (L ++ [⟨#[45, 45, 100, 114, 121]⟩])) => parse_spec ad (L ++ [⟨#[45, 45, 100, 114, 121]⟩]) cp wx (by simp; omega) hx.2
  have c3 := fun ad cp wx (hx : Strs wx ad (L ++ [⟨#[45, 45, 100, 114, 121]⟩] ++ [⟨#[45, 45, 100, 114, 121]⟩])) => parse_spec ad (L ++ [⟨#[45, 45, 100, 114, 121]⟩] ++ [⟨#[45, 45, 100, 114, 121]⟩]) cp wx (by simp; omega) hx.2
  rw [h1] at c1
  rw [h2] at c2
  rw [h3] at c3
  have hlen3 : (L ++ [(⟨#[45, 45, 100, 114, 121]⟩ : ByteArray)] ++ [(⟨#[45, 45, 100, 114, 121]⟩ : ByteArray)]).length = L.length + 1 + 1 := by simp
  rw [hlen3] at c3
  have HL3 := Lib.hid hlen3
  have HC3 := Lib.hid c3
  clear h1 h2 h3 c3 hlen3
  have hlen : (L ++ [(⟨#[45, 45, 100, 114, 121]⟩ : ByteArray)]).length = L.length + 1 := by simp
  rw [hlen] at c2
  have HC1 := Lib.hid c1
  have HC2 := Lib.hid c2
  have HS := Lib.hid hs
  have HL := Lib.hid hlen
  have HCP := Lib.hid hcap
  clear hs c1 c2 hlen hcap
  go_enter Try.func5, Try.ntmps5
  go_wp2_with (first
    | (at_builtin; refine wpList_app_L rfl (.tmp 21) (.tmp 22) rfl w.heap.size (.slice none 0 0) 0 [] rfl (World.ownsRow_nil _ _ _ _) a cap L rfl HS.out HCP.out (by omega) (Nat.le_refl _) ?_; intro v1 w1 hown1 hg1; have HB1 := Lib.hid ((Below.refl w.heap.size w).grown hg1 (Nat.le_refl _) (by simp [Value.ownBlock])); have HO1 := Lib.hid hown1; clear hown1 hg1)
    | (at_builtin; refine wpList_app_L rfl (.tmp 23) (.tmp 25) rfl w.heap.size v1 (0 + L.length) ([] ++ L.map Value.string) rfl (HO1.out.alloc _) (some ⟨w1.heap.size, 0, none⟩) 1 [⟨#[45, 45, 100, 114, 121]⟩] rfl (strs_new w1 _) (fun h => by cases h) (by simp; omega) (by have := HB1.out.size; simp; omega) ?_; intro v2 w2 hown2 hg2; have HB2 := Lib.hid (app_below HB1.out HO1.out hg2 HB1.out.size); have HO2 := Lib.hid (own_app hown2); clear hown2 hg2 HO1 HB1))
  have HS2 := Lib.hid (HS.out.below HB2.out)
  have HF2 := Lib.hid (Fr.ofBelow HB2.out (fun _ => False))
  obtain ⟨ad, cap2, hv2, hst2⟩ := owns_strs HO2.out (by rw [HL.out]; omega)
  rw [HL.out] at hv2
  subst hv2
  have HT2 := Lib.hid hst2
  clear hst2 HB2 HS HCP
  refine (HC1.out _ HS2.out).mono ?_
  rintro e w3 ⟨rfl, hf3⟩
  have HF3 := Lib.hid ((HF2.out.trans hf3 (fun _ _ h => h)).alloc (.cells (ocells f1) 25))
  have HT3 := Lib.hid (HT2.out.fr (hf3.alloc (.cells (ocells f1) 25)))
  have HLT := Lib.hid (own_fr HO2.out hf3).lt
  have HO3 := Lib.hid (own_fr HO2.out (hf3.alloc (.cells (ocells f1) 25)))
  have HB1 := Lib.hid (Blk.new w3 25 (ocells f1))
  have HZ := Lib.hid (HF2.out.trans hf3 (fun _ _ h => h)).size
  clear hf3 HF2 HT2 HS2 HO2 HC1
  go_wp2_with (refine wpList_store_row rfl 25 _ _ rfl _ (ocells f1) rfl rfl 25 (ocells zf) (Blk.new _ _ _) Try.size25 rfl (ocells_one _) ?_; rw [World.setRow_alloc_new]; generalize w3.alloc (.cells (ocells f1) 25) = w4 at HB1 HF3 HT3 HO3 ⊢; generalize w3.heap.size = o1 at HB1 HLT HZ ⊢)
  refine (HC2.out _ _ _ HT3.out).mono ?_
  rintro e w5 ⟨rfl, hf5⟩
  have P6 : Hid (OS w a L ⟨#[45, 45, 100, 114, 121]⟩ (.slice ad (L.length + 1) cap2) o1 w5.heap.size f1 (upd f1 17 1) (w5.alloc (.cells (ocells (upd f1 17 1)) 25))) := Lib.hid ⟨own_fr HO3.out (hf5.alloc _), (HB1.out.fr hf5 (fun h => h)).alloc _, Blk.new _ _ _, (HF3.out.trans hf5 (fun _ _ h => h)).alloc _, fun k hk => (HLT.out k hk).2, HZ.out, (HB1.out.fr hf5 (fun h => h)).lt⟩
  clear hf5 HF3 HT3 HLT HO3 HB1 HZ HC2
  go_wp2_with (first
    | (refine wpList_store_row rfl 25 _ _ rfl _ (ocells (upd f1 17 1)) rfl rfl 25 (ocells zf) (Blk.new _ _ _) Try.size25 rfl (ocells_one _) ?_; rw [World.setRow_alloc_new]; generalize w5.alloc (.cells (ocells (upd f1 17 1)) 25) = w6 at P6 ⊢; generalize w5.heap.size = o2 at P6 ⊢; have c17 := P6.out.b1.cell 17 (v := .bool (f1 17 == 1)) rfl; have z17 := P6.out.b1.free 17; have P7 := Lib.hid (P6.out.set 1 true rfl))
    | (at_builtin; refine wpList_app_L rfl (.tmp 58) (.tmp 59) rfl w.heap.size (.slice ad (L.length + 1) cap2) (L ++ [(⟨#[45, 45, 100, 114, 121]⟩ : ByteArray)]).length ((L ++ [(⟨#[45, 45, 100, 114, 121]⟩ : ByteArray)]).map Value.string) rfl ((P7.out.own).alloc _) (some ⟨w6.heap.size, 0, none⟩) 1 [(⟨#[45, 45, 100, 114, 121]⟩ : ByteArray)] rfl (strs_new2 _ _ _ (by simp [World.setCell])) (fun h => by cases h) (le_1000 HL.out hl) (Nat.le_trans P7.out.fr.size (by simp)) ?_; intro v3 w7 hown7 hg7; have P8 := Lib.hid (P7.out.app hg7); have HO7 := Lib.hid (own_app2 hown7); clear hown7 hg7))
  obtain ⟨ad3, cap3, hv3, hst3⟩ := owns_strs HO7.out (by rw [HL3.out]; omega)
  rw [HL3.out] at hv3
  subst hv3
  have HT3 := Lib.hid hst3
  clear hst3 HO7 P7 P6 c17 z17
  refine (HC3.out _ _ _ HT3.out).mono ?_
  rintro e w8 ⟨rfl, hf8⟩
  have HBA := Lib.hid ((P8.out.1.fr hf8 (fun h => h)).alloc (.cells (ocells zf) 25))
  have HBB := Lib.hid ((P8.out.2.1.fr hf8 (fun h => h)).alloc (.cells (ocells zf) 25))
  have HFA := Lib.hid ((P8.out.2.2.trans hf8 (fun _ _ h => h)).alloc (.cells (ocells zf) 25))
  have heq : ∀ w, (binOp .eql 25 (.agg (ocells (upd f1 17 1))) (.agg (ocells (upd f1 17 1)))).run Try.prog w = .ok (.bool true) w := fun w => by rw [run_eql25, eqO_refl]
  clear hf8 HT3 P8 HC3 HL3 HL
  go_wp2_with (first
    | (refine wpList_store_row rfl 25 _ _ rfl _ (ocells zf) rfl rfl 25 (ocells zf) (Blk.new _ _ _) Try.size25 rfl (ocells_one _) ?_; rw [World.setRow_alloc_new]; generalize w8.alloc (.cells (ocells zf) 25) = w10 at HBA HBB HFA ⊢)
    | (refine wpList_load_row_g rfl 25 _ rfl o1 rfl 25 (ocells (upd f1 17 1)) (0, 0) _ HBA.out Try.underlying25 rfl Try.size25 ?_)
    | (refine wp_load_row 25 _ rfl o1 rfl 25 (ocells (upd f1 17 1)) (0, 0) _ HBA.out Try.underlying25 rfl Try.size25 ?_)
    | (refine wpList_load_row_g rfl 25 _ rfl o2 rfl 25 (ocells (upd f1 17 1)) (0, 0) _ HBB.out Try.underlying25 rfl Try.size25 ?_)
    | (refine wp_load_row 25 _ rfl o2 rfl 25 (ocells (upd f1 17 1)) (0, 0) _ HBB.out Try.underlying25 rfl Try.size25 ?_)
    | (go_at_call 8; refine (awake_spec _).mono ?_; rintro e w9 ⟨rfl, hf9⟩; have HF9 := Lib.hid (HFA.out.trans hf9 (fun _ _ h => h)); clear hf9))
  go_ret
  exact ⟨rfl, HF9.out⟩

set_option maxRecDepth 100000 in
set_option maxHeartbeats 4000000 in
theorem once_A_false (a : Option Addr) (L : List ByteArray) (cap : Nat) (w : World) (hs : Strs w a L) (hcap : a = none → cap = 0) (hl : L.length ≤ 100) (hp1 : (parseS L).2.2 ≠ 0) (hp2 : (parseS (L ++ [⟨#[45, 45, 110, 111, 45, 100, 114, 121]⟩])).2.2 ≠ 0) :
    Calls Try.prog 5 #[.slice a L.length cap, .bool false] w fun e w' => e = .returned (.bool true) ∧ Fr (fun _ => False) w w' := by
  have hle : decide (100 < (L.length : Int)) = false := by simp; omega
  have c1 := fun wx (hx : Strs wx a L) => parse_spec a L cap wx (by omega) hx.2
  have c2 := fun ad cp wx (hx : Strs wx ad (L ++ [⟨#[45, 45, 110, 111, 45, 100, 114, 121]⟩])) => parse_spec ad (L ++ [⟨#[45, 45, 110, 111, 45, 100, 114, 121]⟩]) cp wx (by simp; omega) hx.2
  obtain ⟨f1, n1, e1, h1⟩ : ∃ f1 n1 e1, parseS L = (f1, n1, e1) := ⟨_, _, _, rfl⟩
  obtain ⟨f2, n2, e2, h2⟩ : ∃ f2 n2 e2, parseS (L ++ [⟨#[45, 45, 110, 111, 45, 100, 114, 121]⟩]) = (f2, n2, e2) := ⟨_, _, _, rfl⟩
  rw [h1] at c1 hp1
  rw [h2] at c2 hp2
  have q1 : (e1 == 0) = false := by simpa using hp1
  have q2 : (e2 == 0) = false := by simpa using hp2
  have r1 : (e1 != 0) = true := by simpa using hp1
  have r2 : (e2 != 0) = true := by simpa using hp2
  clear h1 h2 hp1 hp2
  have hlen : (L ++ [(⟨#[45, 45, 110, 111, 45, 100, 114, 121]⟩ : ByteArray)]).length = L.length + 1 := by simp
  rw [hlen] at c2
  have HC1 := Lib.hid c1
  have HC2 := Lib.hid c2
  have HS := Lib.hid hs
  have HL := Lib.hid hlen
  have HCP := Lib.hid hcap
  clear hs c1 c2 hlen hcap
  go_enter Try.func5, Try.ntmps5
  go_wp2_with (first
    | (at_builtin; refine wpList_app_L rfl (.tmp 21) (.tmp 22) rfl w.heap.size (.slice none 0 0) 0 [] rfl (World.ownsRow_nil _ _ _ _) a cap L rfl HS.out HCP.out (by omega) (Nat.le_refl _) ?_; intro v1 w1 hown1 hg1; have HB1 := Lib.hid ((Below.refl w.heap.size w).grown hg1 (Nat.le_refl _) (by simp [Value.ownBlock])); have HO1 := Lib.hid hown1; clear hown1 hg1)
    | (at_builtin; refine wpList_app_L rfl (.tmp 23) (.tmp 25) rfl w.heap.size v1 (0 + L.length) ([] ++ L.map Value.string) rfl (HO1.out.alloc _) (some ⟨w1.heap.size, 0, none⟩) 1 [⟨#[45, 45, 110, 111, 45, 100, 114, 121]⟩] rfl (strs_new w1 _) (fun h => by cases h) (by simp; omega) (by have := HB1.out.size; simp; omega) ?_; intro v2 w2 hown2 hg2; have HB2 := Lib.hid (app_below HB1.out HO1.out hg2 HB1.out.size); have HO2 := Lib.hid (own_app hown2); clear hown2 hg2 HO1 HB1))
  have HS2 := Lib.hid (HS.out.below HB2.out)
  have HF2 := Lib.hid (Fr.ofBelow HB2.out (fun _ => False))
  obtain ⟨ad, cap2, hv2, hst2⟩ := owns_strs HO2.out (by rw [HL.out]; omega)
  rw [HL.out] at hv2
  subst hv2
  have HT2 := Lib.hid hst2
  clear hst2 HB2 HS HCP
  refine (HC1.out _ HS2.out).mono ?_
  rintro e w3 ⟨rfl, hf3⟩
  have HF3 := Lib.hid ((HF2.out.trans hf3 (fun _ _ h => h)).alloc (.cells (ocells f1) 25))
  have HT3 := Lib.hid (HT2.out.fr (hf3.alloc (.cells (ocells f1) 25)))
  have HLT := Lib.hid (own_fr HO2.out hf3).lt
  have HO3 := Lib.hid (own_fr HO2.out (hf3.alloc (.cells (ocells f1) 25)))
  have HB1 := Lib.hid (Blk.new w3 25 (ocells f1))
  have HZ := Lib.hid (HF2.out.trans hf3 (fun _ _ h => h)).size
  clear hf3 HF2 HT2 HS2 HO2 HC1
  go_wp2_with (refine wpList_store_row rfl 25 _ _ rfl _ (ocells f1) rfl rfl 25 (ocells zf) (Blk.new _ _ _) Try.size25 rfl (ocells_one _) ?_; rw [World.setRow_alloc_new]; generalize w3.alloc (.cells (ocells f1) 25) = w4 at HB1 HF3 HT3 HO3 ⊢; generalize w3.heap.size = o1 at HB1 HLT HZ ⊢)
  refine (HC2.out _ _ _ HT3.out).mono ?_
  rintro e w5 ⟨rfl, hf5⟩
  have P6 : Hid (OS w a L ⟨#[45, 45, 110, 111, 45, 100, 114, 121]⟩ (.slice ad (L.length + 1) cap2) o1 w5.heap.size f1 f2 (w5.alloc (.cells (ocells f2) 25))) := Lib.hid ⟨own_fr HO3.out (hf5.alloc _), (HB1.out.fr hf5 (fun h => h)).alloc _, Blk.new _ _ _, (HF3.out.trans hf5 (fun _ _ h => h)).alloc _, fun k hk => (HLT.out k hk).2, HZ.out, (HB1.out.fr hf5 (fun h => h)).lt⟩
  clear hf5 HF3 HT3 HLT HO3 HB1 HZ HC2
  go_wp2_with (first
    | (refine wpList_store_row rfl 25 _ _ rfl _ (ocells f2) rfl rfl 25 (ocells zf) (Blk.new _ _ _) Try.size25 rfl (ocells_one _) ?_; rw [World.setRow_alloc_new]; generalize w5.alloc (.cells (ocells f2) 25) = w6 at P6 ⊢; generalize w5.heap.size = o2 at P6 ⊢)
    | (go_at_call 8; refine (awake_spec _).mono ?_; rintro e w9 ⟨rfl, hf9⟩; have HF9 := Lib.hid (P6.out.fr.trans hf9 (fun _ _ h => h)); clear hf9))
  go_ret
  exact ⟨rfl, HF9.out⟩

set_option maxRecDepth 100000 in
set_option maxHeartbeats 4000000 in
theorem once_B_false (a : Option Addr) (L : List ByteArray) (cap : Nat) (w : World) (hs : Strs w a L) (hcap : a = none → cap = 0) (hl : L.length ≤ 100) (f1 : Nat → Int) (h1 : parseS L = (f1, L.length, 0)) (h2 : parseS (L ++ [⟨#[45, 45, 110, 111, 45, 100, 114, 121]⟩]) = (zf, L.length, 11)) :
    Calls Try.prog 5 #[.slice a L.length cap, .bool false] w fun e w' => e = .returned (.bool true) ∧ Fr (fun _ => False) w w' := by
  have hle : decide (100 < (L.length : Int)) = false := by simp; omega
  have c1 := fun wx (hx : Strs wx a L) => parse_spec a L cap wx (by omega) hx.2
  have c2 := fun ad cp wx (hx : Strs wx ad (L ++ [⟨#[45, 45, 110, 111, 45, 100, 114, 121]⟩])) => parse_spec ad (L ++ [⟨#[45, 45, 110, 111, 45, 100, 114, 121]⟩]) cp wx (by simp; omega) hx.2
  rw [h1] at c1
  rw [h2] at c2
  clear h1 h2
  have hlen : (L ++ [(⟨#[45, 45, 110, 111, 45, 100, 114, 121]⟩ : ByteArray)]).length = L.length + 1 := by simp
  rw [hlen] at c2
  have HC1 := Lib.hid c1
  have HC2 := Lib.hid c2
  have HS := Lib.hid hs
  have HL := Lib.hid hlen
  have HCP := Lib.hid hcap
  clear hs c1 c2 hlen hcap
  go_enter Try.func5, Try.ntmps5
  go_wp2_with (first
    | (at_builtin; refine wpList_app_L rfl (.tmp 21) (.tmp 22) rfl w.heap.size (.slice none 0 0) 0 [] rfl (World.ownsRow_nil _ _ _ _) a cap L rfl HS.out HCP.out (by omega) (Nat.le_refl _) ?_; intro v1 w1 hown1 hg1; have HB1 := Lib.hid ((Below.refl w.heap.size w).grown hg1 (Nat.le_refl _) (by simp [Value.ownBlock])); have HO1 := Lib.hid hown1; clear hown1 hg1)
    | (at_builtin; refine wpList_app_L rfl (.tmp 23) (.tmp 25) rfl w.heap.size v1 (0 + L.length) ([] ++ L.map Value.string) rfl (HO1.out.alloc _) (some ⟨w1.heap.size, 0, none⟩) 1 [⟨#[45, 45, 110, 111, 45, 100, 114, 121]⟩] rfl (strs_new w1 _) (fun h => by cases h) (by simp; omega) (by have := HB1.out.size; simp; omega) ?_; intro v2 w2 hown2 hg2; have HB2 := Lib.hid (app_below HB1.out HO1.out hg2 HB1.out.size); have HO2 := Lib.hid (own_app hown2); clear hown2 hg2 HO1 HB1))
  have HS2 := Lib.hid (HS.out.below HB2.out)
  have HF2 := Lib.hid (Fr.ofBelow HB2.out (fun _ => False))
  obtain ⟨ad, cap2, hv2, hst2⟩ := owns_strs HO2.out (by rw [HL.out]; omega)
  rw [HL.out] at hv2
  subst hv2
  have HT2 := Lib.hid hst2
  clear hst2 HB2 HS HCP
  refine (HC1.out _ HS2.out).mono ?_
  rintro e w3 ⟨rfl, hf3⟩
  have HF3 := Lib.hid ((HF2.out.trans hf3 (fun _ _ h => h)).alloc (.cells (ocells f1) 25))
  have HT3 := Lib.hid (HT2.out.fr (hf3.alloc (.cells (ocells f1) 25)))
  have HLT := Lib.hid (own_fr HO2.out hf3).lt
  have HO3 := Lib.hid (own_fr HO2.out (hf3.alloc (.cells (ocells f1) 25)))
  have HB1 := Lib.hid (Blk.new w3 25 (ocells f1))
  have HZ := Lib.hid (HF2.out.trans hf3 (fun _ _ h => h)).size
  clear hf3 HF2 HT2 HS2 HO2 HC1
  go_wp2_with (refine wpList_store_row rfl 25 _ _ rfl _ (ocells f1) rfl rfl 25 (ocells zf) (Blk.new _ _ _) Try.size25 rfl (ocells_one _) ?_; rw [World.setRow_alloc_new]; generalize w3.alloc (.cells (ocells f1) 25) = w4 at HB1 HF3 HT3 HO3 ⊢; generalize w3.heap.size = o1 at HB1 HLT HZ ⊢)
  refine (HC2.out _ _ _ HT3.out).mono ?_
  rintro e w5 ⟨rfl, hf5⟩
  have P6 : Hid (OS w a L ⟨#[45, 45, 110, 111, 45, 100, 114, 121]⟩ (.slice ad (L.length + 1) cap2) o1 w5.heap.size f1 zf (w5.alloc (.cells (ocells zf) 25))) := Lib.hid ⟨own_fr HO3.out (hf5.alloc _), (HB1.out.fr hf5 (fun h => h)).alloc _, Blk.new _ _ _, (HF3.out.trans hf5 (fun _ _ h => h)).alloc _, fun k hk => (HLT.out k hk).2, HZ.out, (HB1.out.fr hf5 (fun h => h)).lt⟩
  clear hf5 HF3 HT3 HLT HO3 HB1 HZ HC2
  go_wp2_with (first
    | (refine wpList_store_row rfl 25 _ _ rfl _ (ocells zf) rfl rfl 25 (ocells zf) (Blk.new _ _ _) Try.size25 rfl (ocells_one _) ?_; rw [World.setRow_alloc_new]; generalize w5.alloc (.cells (ocells zf) 25) = w6 at P6 ⊢; generalize w5.heap.size = o2 at P6 ⊢)
    | (go_at_call 8; refine (awake_spec _).mono ?_; rintro e w9 ⟨rfl, hf9⟩; have HF9 := Lib.hid (P6.out.fr.trans hf9 (fun _ _ h => h)); clear hf9))
  go_ret
  exact ⟨rfl, HF9.out⟩

set_option maxRecDepth 100000 in
set_option maxHeartbeats 4000000 in
theorem once_C_false (a : Option Addr) (L : List ByteArray) (cap : Nat) (w : World) (hs : Strs w a L) (hcap : a = none → cap = 0) (hl : L.length ≤ 100) (f1 : Nat → Int) (h1 : parseS L = (f1, L.length, 0)) (h2 : parseS (L ++ [⟨#[45, 45, 110, 111, 45, 100, 114, 121]⟩]) = (upd f1 17 0, L.length + 1, 0)) (h3 : parseS (L ++ [⟨#[45, 45, 110, 111, 45, 100, 114, 121]⟩] ++ [⟨#[45, 45, 100, 114, 121]⟩]) = (zf, L.length + 1, 11)) :
    Calls Try.prog 5 #[.slice a L.length cap, .bool false] w fun e w' => e = .returned (.bool true) ∧ Fr (fun _ => False) w w' := by
  have hle : decide (100 < (L.length : Int)) = false := by simp; omega
  have c1 := fun wx (hx : Strs wx a L) => parse_spec a L cap wx (by omega) hx.2
  have c2 := fun ad cp wx (hx : Strs wx ad (L ++ [⟨#[45, 45, 110, 111, 45, 100, 114, 121]⟩])) => parse_spec ad (L ++ [⟨#[45, 45, 110, 111, 45, 100, 114, 121]⟩]) cp wx (by simp; omega) hx.2
  have c3 := fun ad cp wx (hx : Strs wx ad (L ++ [⟨#[45, 45, 110, 111, 45, 100, 114, 121]⟩] ++ [⟨#[45, 45, 100, 114, 121]⟩])) => parse_spec ad (L ++ [⟨#[45, 45, 110, 111, 45, 100, 114, 121]⟩] ++ [⟨#[45, 45, 100, 114, 121]⟩]) cp wx (by simp; omega) hx.2
  rw [h1] at c1
  rw [h2] at c2
  rw [h3] at c3
  have hlen3 : (L ++ [(⟨#[45, 45, 110, 111, 45, 100, 114, 121]⟩ : ByteArray)] ++ [(⟨#[45, 45, 100, 114, 121]⟩ : ByteArray)]).length = L.length + 1 + 1 := by simp
  rw [hlen3] at c3
  have HL3 := Lib.hid hlen3
  have HC3 := Lib.hid c3
  clear h1 h2 h3 c3 hlen3
  have hlen : (L ++ [(⟨#[45, 45, 110, 111, 45, 100, 114, 121]⟩ : ByteArray)]).length = L.length + 1 := by simp
  rw [hlen] at c2
  have HC1 := Lib.hid c1
  have HC2 := Lib.hid c2
  have HS := Lib.hid hs
  have HL := Lib.hid hlen
  have HCP := Lib.hid hcap
  clear hs c1 c2 hlen hcap
  go_enter Try.func5, Try.ntmps5
  go_wp2_with (first
    | (at_builtin; refine wpList_app_L rfl (.tmp 21) (.tmp 22) rfl w.heap.size (.slice none 0 0) 0 [] rfl (World.ownsRow_nil _ _ _ _) a cap L rfl HS.out HCP.out (by omega) (Nat.le_refl _) ?_; intro v1 w1 hown1 hg1; have HB1 := Lib.hid ((Below.refl w.heap.size w).grown hg1 (Nat.le_refl _) (by simp [Value.ownBlock])); have HO1 := Lib.hid hown1; clear hown1 hg1)
    | (at_builtin; refine wpList_app_L rfl (.tmp 23) (.tmp 25) rfl w.heap.size v1 (0 + L.length) ([] ++ L.map Value.string) rfl (HO1.out.alloc _) (some ⟨w1.heap.size, 0, none⟩) 1 [⟨#[45, 45, 110, 111, 45, 100, 114, 121]⟩] rfl (strs_new w1 _) (fun h => by cases h) (by simp; omega) (by have := HB1.out.size; simp; omega) ?_; intro v2 w2 hown2 hg2; have HB2 := Lib.hid (app_below HB1.out HO1.out hg2 HB1.out.size); have HO2 := Lib.hid (own_app hown2); clear hown2 hg2 HO1 HB1))
  have HS2 := Lib.hid (HS.out.below HB2.out)
  have HF2 := Lib.hid (Fr.ofBelow HB2.out (fun _ => False))
  obtain ⟨ad, cap2, hv2, hst2⟩ := owns_strs HO2.out (by rw [HL.out]; omega)
  rw [HL.out] at hv2
  subst hv2
  have HT2 := Lib.hid hst2
  clear hst2 HB2 HS HCP
  refine (HC1.out _ HS2.out).mono ?_
  rintro e w3 ⟨rfl, hf3⟩
  have HF3 := Lib.hid ((HF2.out.trans hf3 (fun _ _ h => h)).alloc (.cells (ocells f1) 25))
  have HT3 := Lib.hid (HT2.out.fr (hf3.alloc (.cells (ocells f1) 25)))
  have HLT := Lib.hid (own_fr HO2.out hf3).lt
  have HO3 := Lib.hid (own_fr HO2.out (hf3.alloc (.cells (ocells f1) 25)))
  have HB1 := Lib.hid (Blk.new w3 25 (ocells f1))
  have HZ := Lib.hid (HF2.out.trans hf3 (fun _ _ h => h)).size
  clear hf3 HF2 HT2 HS2 HO2 HC1
  go_wp2_with (refine wpList_store_row rfl 25 _ _ rfl _ (ocells f1) rfl rfl 25 (ocells zf) (Blk.new _ _ _) Try.size25 rfl (ocells_one _) ?_; rw [World.setRow_alloc_new]; generalize w3.alloc (.cells (ocells f1) 25) = w4 at HB1 HF3 HT3 HO3 ⊢; generalize w3.heap.size = o1 at HB1 HLT HZ ⊢)
  refine (HC2.out _ _ _ HT3.out).mono ?_
  rintro e w5 ⟨rfl, hf5⟩
  have P6 : Hid (OS w a L ⟨#[45, 45, 110, 111, 45, 100, 114, 121]⟩ (.slice ad (L.length + 1) cap2) o1 w5.heap.size f1 (upd f1 17 0) (w5.alloc (.cells (ocells (upd f1 17 0)) 25))) := Lib.hid ⟨own_fr HO3.out (hf5.alloc _), (HB1.out.fr hf5 (fun h => h)).alloc _, Blk.new _ _ _, (HF3.out.trans hf5 (fun _ _ h => h)).alloc _, fun k hk => (HLT.out k hk).2, HZ.out, (HB1.out.fr hf5 (fun h => h)).lt⟩
  clear hf5 HF3 HT3 HLT HO3 HB1 HZ HC2
  go_wp2_with (first
    | (refine wpList_store_row rfl 25 _ _ rfl _ (ocells (upd f1 17 0)) rfl rfl 25 (ocells zf) (Blk.new _ _ _) Try.size25 rfl (ocells_one _) ?_; rw [World.setRow_alloc_new]; generalize w5.alloc (.cells (ocells (upd f1 17 0)) 25) = w6 at P6 ⊢; generalize w5.heap.size = o2 at P6 ⊢; have c17 := P6.out.b1.cell 17 (v := .bool (f1 17 == 1)) rfl; have z17 := P6.out.b1.free 17; have P7 := Lib.hid (P6.out.set 0 false rfl))
    | (at_builtin; refine wpList_app_L rfl (.tmp 58) (.tmp 59) rfl w.heap.size (.slice ad (L.length + 1) cap2) (L ++ [(⟨#[45, 45, 110, 111, 45, 100, 114, 121]⟩ : ByteArray)]).length ((L ++ [(⟨#[45, 45, 110, 111, 45, 100, 114, 121]⟩ : ByteArray)]).map Value.string) rfl ((P7.out.own).alloc _) (some ⟨w6.heap.size, 0, none⟩) 1 [(⟨#[45, 45, 100, 114, 121]⟩ : ByteArray)] rfl (strs_new2 _ _ _ (by simp [World.setCell])) (fun h => by cases h) (le_1000 HL.out hl) (Nat.le_trans P7.out.fr.size (by simp)) ?_; intro v3 w7 hown7 hg7; have P8 := Lib.hid (P7.out.app hg7); have HO7 := Lib.hid (own_app2 hown7); clear hown7 hg7))
  obtain ⟨ad3, cap3, hv3, hst3⟩ := owns_strs HO7.out (by rw [HL3.out]; omega)
  rw [HL3.out] at hv3
  subst hv3
  have HT3 := Lib.hid hst3
  clear hst3 HO7 P7 P6 c17 z17
  refine (HC3.out _ _ _ HT3.out).mono ?_
  rintro e w8 ⟨rfl, hf8⟩
  have HBA := Lib.hid ((P8.out.1.fr hf8 (fun h => h)).alloc (.cells (ocells zf) 25))
  have HBB := Lib.hid ((P8.out.2.1.fr hf8 (fun h => h)).alloc (.cells (ocells zf) 25))
  have HFA := Lib.hid ((P8.out.2.2.trans hf8 (fun _ _ h => h)).alloc (.cells (ocells zf) 25))
  have heq : ∀ w, (binOp .eql 25 (.agg (ocells (upd f1 17 0))) (.agg (ocells (upd f1 17 0)))).run Try.prog w = .ok (.bool true) w := fun w => by rw [run_eql25, eqO_refl]
  clear hf8 HT3 P8 HC3 HL3 HL
  go_wp2_with (first
    | (refine wpList_store_row rfl 25 _ _ rfl _ (ocells zf) rfl rfl 25 (ocells zf) (Blk.new _ _ _) Try.size25 rfl (ocells_one _) ?_; rw [World.setRow_alloc_new]; generalize w8.alloc (.cells (ocells zf) 25) = w10 at HBA HBB HFA ⊢)
    | (refine wpList_load_row_g rfl 25 _ rfl o1 rfl 25 (ocells (upd f1 17 0)) (0, 0) _ HBA.out Try.underlying25 rfl Try.size25 ?_)
    | (refine wp_load_row 25 _ rfl o1 rfl 25 (ocells (upd f1 17 0)) (0, 0) _ HBA.out Try.underlying25 rfl Try.size25 ?_)
    | (refine wpList_load_row_g rfl 25 _ rfl o2 rfl 25 (ocells (upd f1 17 0)) (0, 0) _ HBB.out Try.underlying25 rfl Try.size25 ?_)
    | (refine wp_load_row 25 _ rfl o2 rfl 25 (ocells (upd f1 17 0)) (0, 0) _ HBB.out Try.underlying25 rfl Try.size25 ?_)
    | (go_at_call 8; refine (awake_spec _).mono ?_; rintro e w9 ⟨rfl, hf9⟩; have HF9 := Lib.hid (HFA.out.trans hf9 (fun _ _ h => h)); clear hf9))
  go_ret
  exact ⟨rfl, HF9.out⟩

section
open Go.ChangeShapes Go.WideShapes Go.ChangeAt Go.Deep
variable {H : Type} {enc : TypeId × Value → H} {P : Program} {w : World} {base : Nat} {spare : Nat → Bool} {held : Bool} {r : Reach} {b0 : Nat} {t e : TypeId} {v : Value} {d : DataW H} {p : List MemPlace}
theorem open_L2 (ht : P.underlying t = some (.slice e)) (he : P.underlying e = some .string) (ce : P.cellsOf e = 1)
    (hv : Value.okWide P w r b0 t v) (h : DataW.Trod enc P w base spare held t v d p) :
    ∃ a L cap, v = .slice a (List.length L) cap ∧ Strs w a L ∧ (a = none → cap = 0) := by
  obtain ⟨a, n, cap, rfl⟩ := okWide_slice ht hv
  obtain ⟨fuel, hf⟩ := h
  rcases open_strs ht he ce hf with ⟨hcs, _⟩ | ⟨x, l, c, m, Sx, hcs, _, hl, hm, hmm, _, hx⟩
  · simp [Value.cells] at hcs
    obtain ⟨rfl, rfl, rfl⟩ := hcs
    exact ⟨none, [], 0, rfl, ⟨by simp, by intro j s hj; simp at hj⟩, fun _ => rfl⟩
  · simp [Value.cells] at hcs
    obtain ⟨rfl, rfl, rfl⟩ := hcs
    unfold maxLen at hm
    refine ⟨some x, (List.range n).map Sx, cap, by simp, ⟨by simp; omega, ?_⟩, fun h => by cases h⟩
    intro j s hj
    rw [List.getElem?_map] at hj
    have hjn : j < n := by
      rcases Nat.lt_or_ge j n with h | h
      · exact h
      · rw [List.getElem?_eq_none (by simpa using h)] at hj; cases hj
    rw [List.getElem?_range hjn] at hj
    injection hj with hj
    subst hj
    have hjm : j < m := by rw [hmm]; split <;> omega
    have hc := (hx j hjm).1
    exact ⟨x, rfl, by have := World.block_lt_of_cell? _ _ hc; rwa [addr_add_block] at this, hc⟩
end

namespace optsOnce
theorem walk (a : Option Addr) (L : List ByteArray) (cap : Nat) (on : Bool) (w : World) (hs : Strs w a L) (hcap : a = none → cap = 0) :
    Calls Try.prog 5 #[.slice a L.length cap, .bool on] w fun e w' => e = .returned (.bool true) ∧ Below w.heap.size w w' := by
  by_cases hl : L.length ≤ 100
  · suffices h : Calls Try.prog 5 #[.slice a L.length cap, .bool on] w fun e w' => e = .returned (.bool true) ∧ Fr (fun _ => False) w w' from h.mono fun _ _ ⟨h1, h2⟩ => ⟨h1, h2.below (Nat.le_refl _) (fun _ _ h => h)⟩
    cases on
    · rcases once_pure L (⟨#[45, 45, 110, 111, 45, 100, 114, 121]⟩ : ByteArray) (⟨#[45, 45, 100, 114, 121]⟩ : ByteArray) 0 1 fw_nodry fw_dry with ⟨h1, h2⟩ | ⟨g, h1, h2⟩ | ⟨g, h1, h2, h3⟩
      · exact once_A_false a L cap w hs hcap hl h1 h2
      · exact once_B_false a L cap w hs hcap hl g h1 h2
      · exact once_C_false a L cap w hs hcap hl g h1 h2 h3
    · rcases once_pure L (⟨#[45, 45, 100, 114, 121]⟩ : ByteArray) (⟨#[45, 45, 100, 114, 121]⟩ : ByteArray) 1 1 fw_dry fw_dry with ⟨h1, h2⟩ | ⟨g, h1, h2⟩ | ⟨g, h1, h2, h3⟩
      · exact once_A_true a L cap w hs hcap hl h1 h2
      · exact once_B_true a L cap w hs hcap hl g h1 h2
      · exact once_C_true a L cap w hs hcap hl g h1 h2 h3
  · have hle : decide (100 < (L.length : Int)) = true := by simp; omega
    have hm := hs.1
    clear hs hl hcap
    go_enter Try.func5, Try.ntmps5
    go_wp2_with (go_at_call 8; refine (awake_spec _).mono ?_; rintro e w5 ⟨rfl, hf5⟩)
    go_ret
    exact ⟨rfl, hf5.below (Nat.le_refl _) (fun _ _ h => h)⟩
open Go.ChangeShapes Go.WideShapes Go.ChangeAt Go.RowKit
set_option linter.unusedVariables false
theorem own : ownKnob Try.prog.godebug = none := by kernel_rfl
theorem laidOut : laidOutB Try.prog = true := by kernel_rfl

set_option maxRecDepth 100000 in
theorem lifted (os : Os) (started : os.Started) (H : Type) (enc : TypeId × Value → H) :
    ReturnsInHanded {} Try.checked os 5 .any (Rows.optsOnceSpec.pre6 enc Try.prog Try.f5 Rows.optsOnceRow.domain false) (Rows.optsOnceSpec.post enc Try.prog Try.f5 false true false false) := by
  refine returnsInHanded_of_change (C := Try.checked) own started (by kernel_rfl) Try.func5
    (ChangeSpec.witness6 (enc := enc) (C := Try.checked) false ⟨#[], #[.slice none 0 0, .bool false], []⟩ 8 (by kernel_rfl) (by kernel_rfl) (by kernel_rfl) (by kernel_rfl)) ?_
  intro W base args ds gs before hval0 hW hcnd _
  have hval : ∀ (j : Nat) t v, Try.f5.params[j]? = some t → args[j]? = some v → Value.okWide Try.prog W .any base t v := hval0
  have hW' := hW
  obtain ⟨p, q, hA0, hV, rfl, hfz, hnd⟩ := hW
  have hA : DataW.TrodAll enc Try.prog W 0 (fun _ => true) true Try.f5.params.toList args.toList ds p := hA0
  rw [Try.params5] at hA hval
  obtain ⟨v0, vs0, d0, ds0, p0, q0, hargs, rfl, rfl, h0, r0⟩ := trodAll_cons hA
  obtain ⟨v1, vs1, d1, ds1, p1, q1, rfl, rfl, rfl, h1, r1⟩ := trodAll_cons r0
  obtain ⟨rfl, rfl, rfl⟩ := trodAll_nil r1
  obtain rfl : args = #[v0, v1] := by cases args; simp_all
  obtain ⟨rfl, rfl⟩ := trodVars_none hV
  have k0 := h0
  have lt0 : ∀ x ∈ p0, x.block < W.heap.size := by obtain ⟨m, hm⟩ := k0; exact DataW.trod_lt m _ _ _ hm
  have k1 := h1
  have lt1 : ∀ x ∈ p1, x.block < W.heap.size := by obtain ⟨m, hm⟩ := k1; exact DataW.trod_lt m _ _ _ hm
  obtain ⟨a0, L0, c0, rfl, x0, y0⟩ := open_L2 Try.underlying22 Try.underlying9 (by kernel_rfl) (hval 0 22 v0 rfl rfl) h0
  obtain ⟨a1, rfl, rfl, rfl⟩ := open_bool Try.underlying4 (hval 1 4 v1 rfl rfl) h1
  clear hA0 hval0
  refine (walk a0 L0 c0 a1 W x0 y0).mono fun e W' ⟨he, bel⟩ => ?_
  subst he
  exact ⟨_, rfl, _, _, _, [], _, [], hW', trodAll_mk1 (shut_bool Try.underlying4 _), (trodAll_cons_mk (Below.trod laidOut (by kernel_rfl) (of_decide_eq_true (by kernel_rfl)) k0 bel lt0) (trodAll_cons_mk (Below.trod laidOut (by kernel_rfl) (of_decide_eq_true (by kernel_rfl)) k1 bel lt1) trodAll_mk0)), rfl, bel.frame _, fun h => by cases h⟩

theorem over : Rows.optsOnceRow.holds Try.pinned (OpenSpec.ofChange Rows.optsOnceSpec) :=
  OpenClaim.holds_of_wide 5 Try.f5 rfl rfl rfl rfl rfl rfl rfl ⟨rfl, rfl, rfl, rfl, rfl⟩ rfl rfl rfl rfl rfl (by kernel_rfl) Try.func5 (by kernel_rfl)
    (of_decide_eq_true (by kernel_rfl)) (by unfold Func.isWrapper; first | (rw [if_pos (by decide +kernel)]; kernel_rfl) | (rw [if_neg (by decide +kernel)]; exact ⟨rfl, rfl⟩))
    (fun os started H enc _ => lifted os started H enc)

theorem proved : Rows.OptsOnceSaid := over
#print axioms proved
end optsOnce
end Go.Proofs.Ytlfaeabbfejjcaa
