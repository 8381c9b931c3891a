/- OptsOrder: for every list of words, the words turned round mean the same or are wrong either way: the law returns true, and its argument reads as before. -/
import Derived.Test.YtlfaeabbfejjcaaAwake
import Derived.Test.YtlfaeabbfejjcaaOrdP
import Derived.Test.YtlfaeabbfejjcaaOpen
import Derived.Test.YtlfaeabbfejjcaaRows
import Derived.OwnWalk
import Derived.ProofKit
import Derived.OpenShut
namespace Go.Proofs.Ytlfaeabbfejjcaa
open Go.RowKit

theorem Try.info9 : (Try.prog.info? 9).map (fun i => (i.zero, i.size, i.bytes)) = some (some (.string ⟨#[]⟩), 1, 16) := by kernel_rfl

theorem Strs.below {w w' : World} {a : Option Addr} {L : List ByteArray} (h : Strs w a L) (hb : Below w.heap.size w w') : Strs w' a L :=
  ⟨h.1, fun j s hj => by
    obtain ⟨x, hx, hlt, hc⟩ := h.2 j s hj
    exact ⟨x, hx, Nat.lt_of_lt_of_le hlt hb.size, by rw [hb.cell (p := x.add j) (by rw [addr_add_block]; exact hlt)]; exact hc⟩⟩
theorem Strs.fr {w w' : World} {a : Option Addr} {L : List ByteArray} (h : Strs w a L) (hb : Fr (fun _ => False) w w') : Strs w' a L :=
  ⟨h.1, fun j s hj => by
    obtain ⟨x, hx, hlt, hc⟩ := h.2 j s hj
    exact ⟨x, hx, Nat.lt_of_lt_of_le hlt hb.size, by rw [hb.cell (a := x.add j) (by rw [addr_add_block]; exact hlt) (fun h => h)]; exact hc⟩⟩

/-- A row of words that the call owns is a list of words. -/
theorem owns_strs {w : World} {B : Nat} {v : Value} {L : List ByteArray} (h : w.ownsRow B 9 1 v L.length (L.map Value.string)) (hl : L.length ≤ 9223372036854775807) : ∃ ad cap, v = .slice ad L.length cap ∧ Strs w ad L := by
  rcases h.2 with ⟨rfl, h0⟩ | ⟨g, cap, cur, rfl, _, hg, _, _, _, ht⟩
  · exact ⟨none, 0, by rw [h0], hl, fun j s hj => by rw [List.getElem?_eq_none (by omega)] at hj; cases hj⟩
  · refine ⟨some ⟨g, 0, none⟩, cap, rfl, hl, fun j s hj => ⟨_, rfl, lt_of_block hg, ?_⟩⟩
    have hlt : j < L.length := (List.getElem?_eq_some_iff.1 hj).1
    have e : (L.map Value.string)[j]? = some (.string s) := by rw [List.getElem?_map, hj]; rfl
    rw [← ht, List.getElem?_take_of_lt (by omega)] at e
    have e2 : cur[j]? = some (.string s) := by rw [← Array.getElem?_toList]; exact e
    rw [show (⟨g, 0, none⟩ : Addr).add j = ⟨g, j, none⟩ by simp [Addr.add]; exact Eq.symm]
    exact Blk.cell hg j e2

theorem eqO_refl (f : Nat → Int) : eqO f f = true := by simp [eqO]

theorem rev_take (L : List ByteArray) (q k : Nat) (s : ByteArray) (h : q + 1 + k = L.length) (hs : L[q]? = some s) : L.reverse.take (k + 1) = L.reverse.take k ++ [s] := by
  rw [List.take_add_one, List.getElem?_reverse (by omega), show L.length - 1 - k = q by omega, hs]; rfl

theorem one_new (wr : World) (s : ByteArray) : ∀ (j : Nat) (u : Value), [Value.string s][j]? = some u → (wr.alloc (Obj.cells #[Value.string s] 9)).cell? ((⟨wr.heap.size, 0, none⟩ : Addr).add j) = some u := by
  intro j u h
  rcases j with _ | j
  · injection h with h
    subst h
    exact (Blk.new wr 9 #[Value.string s]).cell 0 rfl
  · cases h
theorem one_cell (s : ByteArray) : ∀ u : Value, u ∈ [Value.string s] → u.oneCell' = true := by
  intro u h
  rw [List.mem_singleton] at h
  subst h; rfl
theorem app_own {w1 : World} {B k : Nat} {v : Value} {M N : List ByteArray} {s : ByteArray} (hM : N = M ++ [s]) (h : w1.ownsRow B 9 1 v (k + 1) (M.map Value.string ++ [.string s])) : w1.ownsRow B 9 1 v (k + 1) (N.map Value.string) := by
  rw [hM, List.map_append]; exact h
theorem app_below {w wr w1 : World} {B k : Nat} {v : Value} {o : Obj} {xs : List Value} (hb : Below B w wr) (hown : wr.ownsRow B 9 1 v k xs) (hg : (wr.alloc o).grownBy w1 v.ownBlock) (hB : B ≤ wr.heap.size) : Below B w w1 :=
  (hb.alloc hB o).grown hg (by simp; omega) (fun j hj => (hown.lt j hj).1)
theorem back2 (L : List ByteArray) (q k : Nat) (h : Hid (q + 1 + k = L.length)) : ((k + 1 = L.length ∧ Value.int .i64 ((q : Int) - 1) = .int .i64 (-1)) ∨ ∃ p : Nat, p + 1 + (k + 1) = L.length ∧ Value.int .i64 ((q : Int) - 1) = .int .i64 (p : Int)) := by
  have h := h.out
  rcases q with _ | q
  · left; exact ⟨by omega, rfl⟩
  · right; exact ⟨q, by omega, by go_num⟩
theorem back (L : List ByteArray) : ((0 = L.length ∧ Value.int .i64 ((L.length : Int) - 1) = .int .i64 (-1)) ∨ ∃ q : Nat, q + 1 + 0 = L.length ∧ Value.int .i64 ((L.length : Int) - 1) = .int .i64 (q : Int)) := by
  rcases h : L.length with _ | q
  · left; exact ⟨rfl, rfl⟩
  · right; exact ⟨q, rfl, by go_num⟩

set_option maxRecDepth 100000 in
set_option maxHeartbeats 4000000 in
theorem order_walk (a : Option Addr) (L : List ByteArray) (cap : Nat) (w : World) (hs : Strs w a L) (hl : L.length ≤ 100) :
    Calls Try.prog 4 #[.slice a L.length cap] w fun e w' => e = .returned (.bool true) ∧ Fr (fun _ => False) w w' := by
  obtain ⟨i0, hi, hz0, hz1, hz2⟩ := info_parts Try.info9
  have hle : decide (100 < (L.length : Int)) = false := by simp; omega
  have HS := Lib.hid hs
  clear hs
  go_enter Try.func4, Try.ntmps4
  go_wp2_with (fail)
  go_loopw [3, 4] (fun v i wr => ∃ k : Nat, ((k = L.length ∧ i = .int .i64 (-1)) ∨ ∃ q : Nat, q + 1 + k = L.length ∧ i = .int .i64 (q : Int)) ∧ Hid (wr.ownsRow w.heap.size 9 1 v k ((L.reverse.take k).map Value.string)) ∧ Hid (Below w.heap.size w wr)) (fun _ i _ => (intOf i + 1).toNat)
  case atStart => exact ⟨0, back L, Lib.hid (World.ownsRow_nil _ _ _ _), Lib.hid (Below.refl _ _)⟩
  case round =>
    obtain ⟨k, (⟨rfl, rfl⟩ | ⟨q, hjk, rfl⟩), HO, HB⟩ := hrel
    ·
      have ho := HO.out
      rw [List.take_of_length_le (by simp)] at ho
      obtain ⟨ad, cap2, rfl, hst⟩ := owns_strs (L := L.reverse) (by simpa using ho) (by simp; omega)
      clear ho HO
      rw [List.length_reverse]
      have hst0 := HS.out.below HB.out
      have hF0 := Fr.ofBelow HB.out (fun _ => False)
      obtain ⟨f1, n1, e1, h1⟩ : ∃ f1 n1 e1, parseS L = (f1, n1, e1) := ⟨_, _, _, rfl⟩
      obtain ⟨f2, n2, e2, h2⟩ : ∃ f2 n2 e2, parseS L.reverse = (f2, n2, e2) := ⟨_, _, _, rfl⟩
      have hp := order_pure L
      rw [h1, h2] at hp
      obtain ⟨hp1, hp2⟩ := hp
      simp only at hp1 hp2
      subst hp2
      have c1 := fun wx (hx : Strs wx a L) => parse_spec a L cap wx (by omega) hx.2
      have c2 := fun wx (hx : Strs wx ad L.reverse) => parse_spec ad L.reverse cap2 wx (by rw [List.length_reverse]; omega) hx.2
      rw [h1] at c1
      rw [h2, List.length_reverse] at c2
      have HC1 := Lib.hid c1
      have HC2 := Lib.hid c2
      have HS0 := Lib.hid hst0
      have HS2 := Lib.hid hst
      have heq : ∀ w, (binOp .eql 25 (.agg (ocells f1)) (.agg (ocells f1))).run Try.prog w = .ok (.bool true) w := fun w => by rw [run_eql25, eqO_refl]
      have HF0 := Lib.hid hF0
      clear c1 c2 hst0 hst h1 h2 HS HB hF0
      cases hb : (e1 == 0)
      · rw [hb] at hp1
        have hb2 : (e2 == 0) = false := by simpa using hp1
        clear hp1
        go_wp2_with (fail)
        refine (HC1.out _ HS0.out).mono ?_
        rintro e w1 ⟨rfl, hf1⟩
        have HF1 := Lib.hid ((HF0.out.trans hf1 (fun _ _ h => h)).alloc (.cells (ocells f1) 25))
        have HS1 := Lib.hid (HS2.out.fr (hf1.alloc (.cells (ocells f1) 25)))
        have HB1 := Lib.hid (Blk.new w1 25 (ocells f1))
        clear hf1 HF0 HS0 HS2 HC1
        go_wp2_with (refine wpList_store_row rfl 25 _ _ rfl _ (ocells f1) rfl rfl 25 (ocells zf) (Blk.new _ _ _) Try.size25 rfl (ocells_one _) ?_; rw [World.setRow_alloc_new]; generalize w1.alloc (.cells (ocells f1) 25) = w2 at HB1 HF1 HS1 ⊢; generalize w1.heap.size = o1 at HB1 ⊢)
        refine (HC2.out _ HS1.out).mono ?_
        rintro e w3 ⟨rfl, hf3⟩
        have HF2 := Lib.hid ((HF1.out.trans hf3 (fun _ _ h => h)).alloc (.cells (ocells f1) 25))
        have HB2 := Lib.hid ((HB1.out.fr hf3 (fun h => h)).alloc (.cells (ocells f1) 25))
        have HB3 := Lib.hid (Blk.new w3 25 (ocells f1))
        clear hf3 HF1 HS1 HC2 HB1
        go_wp2_with (first
          | (refine wpList_store_row rfl 25 _ _ rfl _ (ocells f1) rfl rfl 25 (ocells zf) (Blk.new _ _ _) Try.size25 rfl (ocells_one _) ?_; rw [World.setRow_alloc_new]; generalize w3.alloc (.cells (ocells f1) 25) = w4 at HB2 HB3 HF2 ⊢; generalize w3.heap.size = o3 at HB3 ⊢)
          | (refine wpList_load_row_g rfl 25 _ rfl o1 rfl 25 (ocells f1) (0, 0) _ HB2.out Try.underlying25 rfl Try.size25 ?_)
          | (refine wp_load_row 25 _ rfl o1 rfl 25 (ocells f1) (0, 0) _ HB2.out Try.underlying25 rfl Try.size25 ?_)
          | (refine wpList_load_row_g rfl 25 _ rfl o3 rfl 25 (ocells f1) (0, 0) _ HB3.out Try.underlying25 rfl Try.size25 ?_)
          | (refine wp_load_row 25 _ rfl o3 rfl 25 (ocells f1) (0, 0) _ HB3.out Try.underlying25 rfl Try.size25 ?_)
          | (go_at_call 8; refine (awake_spec _).mono ?_; rintro e w5 ⟨rfl, hf5⟩; have HF3 := Lib.hid (HF2.out.trans hf5 (fun _ _ h => h)); clear hf5))
        go_ret
        exact ⟨rfl, HF3.out⟩
      · rw [hb] at hp1
        have hb2 : (e2 == 0) = true := by simpa using hp1
        clear hp1
        go_wp2_with (fail)
        refine (HC1.out _ HS0.out).mono ?_
        rintro e w1 ⟨rfl, hf1⟩
        have HF1 := Lib.hid ((HF0.out.trans hf1 (fun _ _ h => h)).alloc (.cells (ocells f1) 25))
        have HS1 := Lib.hid (HS2.out.fr (hf1.alloc (.cells (ocells f1) 25)))
        have HB1 := Lib.hid (Blk.new w1 25 (ocells f1))
        clear hf1 HF0 HS0 HS2 HC1
        go_wp2_with (refine wpList_store_row rfl 25 _ _ rfl _ (ocells f1) rfl rfl 25 (ocells zf) (Blk.new _ _ _) Try.size25 rfl (ocells_one _) ?_; rw [World.setRow_alloc_new]; generalize w1.alloc (.cells (ocells f1) 25) = w2 at HB1 HF1 HS1 ⊢; generalize w1.heap.size = o1 at HB1 ⊢)
        refine (HC2.out _ HS1.out).mono ?_
        rintro e w3 ⟨rfl, hf3⟩
        have HF2 := Lib.hid ((HF1.out.trans hf3 (fun _ _ h => h)).alloc (.cells (ocells f1) 25))
        have HB2 := Lib.hid ((HB1.out.fr hf3 (fun h => h)).alloc (.cells (ocells f1) 25))
        have HB3 := Lib.hid (Blk.new w3 25 (ocells f1))
        clear hf3 HF1 HS1 HC2 HB1
        go_wp2_with (first
          | (refine wpList_store_row rfl 25 _ _ rfl _ (ocells f1) rfl rfl 25 (ocells zf) (Blk.new _ _ _) Try.size25 rfl (ocells_one _) ?_; rw [World.setRow_alloc_new]; generalize w3.alloc (.cells (ocells f1) 25) = w4 at HB2 HB3 HF2 ⊢; generalize w3.heap.size = o3 at HB3 ⊢)
          | (refine wpList_load_row_g rfl 25 _ rfl o1 rfl 25 (ocells f1) (0, 0) _ HB2.out Try.underlying25 rfl Try.size25 ?_)
          | (refine wp_load_row 25 _ rfl o1 rfl 25 (ocells f1) (0, 0) _ HB2.out Try.underlying25 rfl Try.size25 ?_)
          | (refine wpList_load_row_g rfl 25 _ rfl o3 rfl 25 (ocells f1) (0, 0) _ HB3.out Try.underlying25 rfl Try.size25 ?_)
          | (refine wp_load_row 25 _ rfl o3 rfl 25 (ocells f1) (0, 0) _ HB3.out Try.underlying25 rfl Try.size25 ?_)
          | (go_at_call 8; refine (awake_spec _).mono ?_; rintro e w5 ⟨rfl, hf5⟩; have HF3 := Lib.hid (HF2.out.trans hf5 (fun _ _ h => h)); clear hf5))
        go_ret
        exact ⟨rfl, HF3.out⟩
    ·
      obtain ⟨s, hsq⟩ : ∃ s, L[q]? = some s := ⟨_, List.getElem?_eq_getElem (by omega)⟩
      obtain ⟨x, hx, hxl, hxc⟩ := HS.out.2 q s hsq
      subst hx
      have hxc' : wr.cell? (x.add q) = some (.string s) := by rw [HB.out.cell (p := x.add q) (by rw [addr_add_block]; exact hxl)]; exact hxc
      have hrt := rev_take L q k s hjk hsq
      have HRT := Lib.hid hrt
      have hown := HO.out
      have hjk2 := Lib.hid hjk
      have hkl : k < 100 := by omega
      have hql : q < 100 := by omega
      have hql2 : q < L.length := by omega
      clear hrt hxc hsq hjk
      go_wp2_with (at_builtin; refine wpList_append_own _ rfl _ _ 22 rfl w.heap.size 9 i0 (.string ⟨#[]⟩) 1 16 Try.underlying22 hi hz0 hz1 hz2 rfl (by decide) _ _ _ rfl (hown.alloc _) ⟨wr.heap.size, 0, none⟩ 1 1 [.string s] rfl rfl (one_new wr s) (one_cell s) (by unfold maxLen; omega) (by omega) (by have := HB.out.size; simp; omega) ?_; intro v' w1 hown' hgrow _; have HO' := Lib.hid (app_own HRT.out hown'); have HB' := Lib.hid (app_below HB.out hown hgrow HB.out.size); clear hown' hgrow)
      go_roundw
      case rel => exact ⟨k + 1, back2 L q k hjk2, HO', HB'⟩
      case measure => simp [intOf]

namespace optsOrder
theorem walk (a : Option Addr) (L : List ByteArray) (cap : Nat) (w : World) (hs : Strs w a L) :
    Calls Try.prog 4 #[.slice a L.length cap] w fun e w' => e = .returned (.bool true) ∧ Below w.heap.size w w' := by
  by_cases hl : L.length ≤ 100
  · exact (order_walk a L cap w hs hl).mono fun _ _ ⟨h1, h2⟩ => ⟨h1, h2.below (Nat.le_refl _) (fun _ _ h => h)⟩
  · have hle : decide (100 < (L.length : Int)) = true := by simp; omega
    have hm := hs.1
    clear hs hl
    go_enter Try.func4, Try.ntmps4
    go_wp2_with (go_at_call 8; refine (awake_spec _).mono ?_; rintro e w5 ⟨rfl, hf5⟩)
    go_ret
    exact ⟨rfl, hf5.below (Nat.le_refl _) (fun _ _ h => h)⟩
open Go.ChangeShapes Go.WideShapes Go.ChangeAt Go.RowKit
set_option linter.unusedVariables false
theorem own : ownKnob Try.prog.godebug = none := by kernel_rfl
theorem laidOut : laidOutB Try.prog = true := by kernel_rfl

set_option maxRecDepth 100000 in
theorem lifted (os : Os) (started : os.Started) (H : Type) (enc : TypeId × Value → H) :
    ReturnsInHanded {} Try.checked os 4 .any (Rows.optsOrderSpec.pre6 enc Try.prog Try.f4 Rows.optsOrderRow.domain false) (Rows.optsOrderSpec.post enc Try.prog Try.f4 false true false false) := by
  refine returnsInHanded_of_change (C := Try.checked) own started (by kernel_rfl) Try.func4
    (ChangeSpec.witness6 (enc := enc) (C := Try.checked) false ⟨#[], #[.slice none 0 0], []⟩ 8 (by kernel_rfl) (by kernel_rfl) (by kernel_rfl) (by kernel_rfl)) ?_
  intro W base args ds gs before hval0 hW hcnd _
  have hval : ∀ (j : Nat) t v, Try.f4.params[j]? = some t → args[j]? = some v → Value.okWide Try.prog W .any base t v := hval0
  have hW' := hW
  obtain ⟨p, q, hA0, hV, rfl, hfz, hnd⟩ := hW
  have hA : DataW.TrodAll enc Try.prog W 0 (fun _ => true) true Try.f4.params.toList args.toList ds p := hA0
  rw [Try.params4] at hA hval
  obtain ⟨v0, vs0, d0, ds0, p0, q0, hargs, rfl, rfl, h0, r0⟩ := trodAll_cons hA
  obtain ⟨rfl, rfl, rfl⟩ := trodAll_nil r0
  obtain rfl : args = #[v0] := by cases args; simp_all
  obtain ⟨rfl, rfl⟩ := trodVars_none hV
  have k0 := h0
  have lt0 : ∀ x ∈ p0, x.block < W.heap.size := by obtain ⟨m, hm⟩ := k0; exact DataW.trod_lt m _ _ _ hm
  obtain ⟨a0, L0, c0, rfl, x0⟩ := open_L Try.underlying22 Try.underlying9 (by kernel_rfl) (hval 0 22 v0 rfl rfl) h0
  clear hA0 hval0
  refine (walk a0 L0 c0 W x0).mono fun e W' ⟨he, bel⟩ => ?_
  subst he
  exact ⟨_, rfl, _, _, _, [], _, [], hW', trodAll_mk1 (shut_bool Try.underlying4 _), (trodAll_cons_mk (Below.trod laidOut (by kernel_rfl) (of_decide_eq_true (by kernel_rfl)) k0 bel lt0) trodAll_mk0), rfl, bel.frame _, fun h => by cases h⟩

theorem over : Rows.optsOrderRow.holds Try.pinned (OpenSpec.ofChange Rows.optsOrderSpec) :=
  OpenClaim.holds_of_wide 4 Try.f4 rfl rfl rfl rfl rfl rfl rfl ⟨rfl, rfl, rfl, rfl, rfl⟩ rfl rfl rfl rfl rfl (by kernel_rfl) Try.func4 (by kernel_rfl)
    (of_decide_eq_true (by kernel_rfl)) (by unfold Func.isWrapper; first | (rw [if_pos (by decide +kernel)]; kernel_rfl) | (rw [if_neg (by decide +kernel)]; exact ⟨rfl, rfl⟩))
    (fun os started H enc _ => lifted os started H enc)

theorem proved : Rows.OptsOrderSaid := over
#print axioms proved
end optsOrder
end Go.Proofs.Ytlfaeabbfejjcaa
