/- The walk of classAt. -/
import Derived.Test.YtmmobhmiemmioaaDoorMem
import Derived.Deep.WholeRow
import Derived.Deep.LoopGhost
import Derived.Deep.DeepCutAuto
import Derived.Deep.CutBlock
import Derived.Laws.Rows
import Derived.Laws.Tables
import Derived.Deep.MidRow
import Derived.Outline
namespace Go.Proofs.YtmmobhmiemmioaaDoor
open Go.RowKit

def Z62 : Array Value := (sgA zeroSg).toArray
theorem z62 (w : World) : (zeroValue 62).run Tryd.prog w = .ok (.agg Z62) w := by kernel_rfl
theorem Tryd.size62 : (Tryd.prog.info? 62).map (·.size) = some 259 := by kernel_rfl
attribute [local go_sem ↓] z62

theorem Blk.setRow {w : World} {g : Nat} {t : TypeId} {cur : Array Value} (h : Blk w g t cur) (cs : Array Value) : Blk (w.setRow g cs) g t cs := setRow_heap w g _ _ t _ h
theorem Fr.cell {S : Nat → Prop} {w w' : World} (h : Fr S w w') {a : Addr} (ha : a.block < w.heap.size) (hS : ¬ S a.block) : w'.cell? a = w.cell? a := World.cell?_of_block (h.block _ ha hS)
theorem results_cell3 {P : Program} {fn : Func} {p u v : Tmp} {ty : TypeId} (h : fn.results = #[.cell p ty, .tmp u, .tmp v]) (tmps : Array Value) (w : World) (g : Nat) (t : TypeId) (cs : Array Value) (fr : Nat × Nat) (d : TypeDesc)
    (hp : tmps.getD p undef = .pointer (some ⟨g, 0, none⟩)) (hg : w.heap[g]? = some (.cells cs t fr))
    (hu : P.underlying ty = some d) (hd : (match d with | .struct _ | .array _ _ => true | _ => false) = true) (hi : (P.info? ty).map (·.size) = some cs.size) :
    (results fn tmps).run P w = .ok (.tuple #[.agg cs, tmps.getD u undef, tmps.getD v undef]) w := by
  have hp' : tmps[p]?.getD undef = .pointer (some ⟨g, 0, none⟩) := by simpa using hp
  simp [results, h, hp', asAddr, run_loadVar_row w g t ty cs fr d hg hu hd hi]

/-- A sign's cells as a row. -/
def sgR (g : Sg) : Array Value := (sgA g).toArray
theorem sgR_size (g : Sg) : (sgR g).size = 259 := sgA_len g
theorem sgR_one (g : Sg) : (sgR g).all (·.oneCell') = true := all_oneCell_toArray (sgA_one g)
theorem size_sg (g : Sg) : (Tryd.prog.info? 62).map (·.size) = some (sgR g).size := by rw [sgR_size]; exact Tryd.size62
theorem kind_set (k : Nat) : Z62.setIfInBounds 0 (.int .i64 k) = sgR ⟨k, 0, false, noSet⟩ := by
  apply Array.ext'
  rw [Array.toList_setIfInBounds]
  show (Value.int .i64 0 :: .int .u8 0 :: .bool false :: setC noSet).set 0 _ = .int .i64 k :: .int .u8 0 :: .bool false :: setC noSet
  rfl
theorem cls_start : Z62.setIfInBounds 0 (.int .i64 4) = sgR ⟨4, 0, false, noSet⟩ := kind_set 4
theorem sgR_neg (k : Nat) (c : UInt8) (S : Nat → Bool) : (sgR ⟨k, c, false, S⟩).setIfInBounds 2 (.bool true) = sgR ⟨k, c, true, S⟩ := rfl
theorem sgR_add (k : Nat) (c : UInt8) (n : Bool) (S : Nat → Bool) (i : Nat) : (sgR ⟨k, c, n, S⟩).setIfInBounds (3 + i) (.bool true) = sgR ⟨k, c, n, addS S i⟩ := by
  apply Array.ext'
  unfold sgR
  rw [Array.toList_setIfInBounds]
  show (_ :: _ :: _ :: setC S).set (3 + i) _ = _ :: _ :: _ :: setC (addS S i)
  rw [show 3 + i = i + 1 + 1 + 1 by omega, List.set_cons_succ, List.set_cons_succ, List.set_cons_succ, setC_set]

/-- What classAt knows of memory. -/
structure CT (w : World) (r g : Nat) (n : Bool) (S : Nat → Bool) (wr : World) : Prop where
  rb : Blk wr r 62 Z62
  gb : Blk wr g 62 (sgR ⟨4, 0, n, S⟩)
  fr : Fr (fun _ => False) w wr
  lr : w.heap.size ≤ r
  lg : w.heap.size ≤ g
  ne : r ≠ g
theorem CT.add {w wr : World} {r g : Nat} {n : Bool} {S : Nat → Bool} (h : CT w r g n S wr) (i : Nat) : CT w r g n (addS S i) (wr.setCell ⟨g, 3 + i, none⟩ (.bool true)) :=
  ⟨h.rb.setOther h.ne _, by have := h.gb.set (3 + i) (.bool true); rwa [sgR_add] at this, h.fr.setCell (p := ⟨g, 3 + i, none⟩) (fun x => (Nat.lt_irrefl _ (Nat.lt_of_lt_of_le x h.lg)).elim) _, h.lr, h.lg, h.ne⟩
theorem CT.neg {w wr : World} {r g : Nat} {S : Nat → Bool} (h : CT w r g false S wr) : CT w r g true S (wr.setCell ⟨g, 2, none⟩ (.bool true)) :=
  ⟨h.rb.setOther h.ne _, by have := h.gb.set 2 (.bool true); rwa [sgR_neg] at this, h.fr.setCell (p := ⟨g, 2, none⟩) (fun x => (Nat.lt_irrefl _ (Nat.lt_of_lt_of_le x h.lg)).elim) _, h.lr, h.lg, h.ne⟩
theorem CT.start (w : World) : CT w w.heap.size (w.heap.size + 1) false noSet (((w.alloc (.cells Z62 62)).alloc (.cells Z62 62)).setRow (w.heap.size + 1) (sgR ⟨4, 0, false, noSet⟩)) := by
  have hb := Blk.new (w.alloc (.cells Z62 62)) 62 Z62
  rw [show (w.alloc (.cells Z62 62)).heap.size = w.heap.size + 1 by simp] at hb
  have h0 := (Blk.new w 62 Z62).alloc (.cells Z62 62)
  refine ⟨?_, hb.setRow _, (((Fr.refl _ w).alloc _).alloc _).trans (fr_setRow _ _ _) (fun i hi e => by omega), Nat.le_refl _, by omega, by omega⟩
  exact h0.fr (fr_setRow _ _ _) (by omega)
theorem CT.end {w wr : World} {r g : Nat} {n : Bool} {S : Nat → Bool} (h : CT w r g n S wr) : Fr (fun _ => False) w (wr.setRow r (sgR ⟨4, 0, n, S⟩)) :=
  h.fr.trans (fr_setRow _ _ _) (fun i hi e => by have := h.lr; omega)

theorem memS_drop {s : ByteArray} {j : Nat} {q r1 : List UInt8} {lo : UInt8} (hq : s.data.toList.drop j = q) (h : memS q = some (lo, r1)) (hj : j ≤ s.size) : r1.length < q.length ∧ s.data.toList.drop (s.size - r1.length) = r1 := by
  have hl := len_drop hq hj
  have key : ∃ k, k ≤ q.length ∧ r1 = q.drop k ∧ 1 ≤ k := by
    rcases q with _ | ⟨c, t⟩
    · cases h
    simp only [memS] at h
    by_cases h92 : c = 92
    · rw [if_pos h92] at h
      rcases t with _ | ⟨d, u⟩
      · cases h
      injection h with h
      injection h with _ h
      exact ⟨2, by simp, h.symm, by omega⟩
    · rw [if_neg h92] at h
      injection h with h
      injection h with _ h
      exact ⟨1, by simp, h.symm, by omega⟩
  obtain ⟨k, hk, rfl, h1⟩ := key
  rw [List.length_drop]
  refine ⟨by omega, ?_⟩
  rw [show s.size - (q.length - k) = j + k by omega, ← hq, List.drop_drop]

/-- What classAt answers. -/
def ClsPost (w : World) (X : Option (Bool × (Nat → Bool) × List UInt8)) (len : Nat) (e : Ending) (w' : World) : Prop :=
  ∃ (A : Sg) (n : Int) (ok : Bool), e = .returned (.tuple #[.agg (sgR A), .int .i64 n, .bool ok]) ∧ Fr (fun _ => False) w w' ∧
    (match X with | none => ok = false | some (neg, S, t) => ok = true ∧ A = ⟨4, 0, neg, S⟩ ∧ n = (len - t.length : Nat))

set_option maxRecDepth 100000 in
set_option maxHeartbeats 4000000 in
theorem class_spec (s : ByteArray) (i : Nat) (r : List UInt8) (w : World) (hi0 : i ≤ s.size) (hs : s.size ≤ 100) (hr : s.data.toList.drop i = r) :
    Calls Tryd.prog 43 #[.string s, .int .i64 i] w (ClsPost w (clsF r) s.size) := by
  have HB1 := Lib.hid (show Blk ((w.alloc (.cells Z62 62)).alloc (.cells Z62 62)) (w.heap.size + 1) 62 Z62 by
    have := Blk.new (w.alloc (.cells Z62 62)) 62 Z62
    rwa [show (w.alloc (.cells Z62 62)).heap.size = w.heap.size + 1 by simp] at this)
  have HC1 := Lib.hid (CT.start w)
  have hcs := cls_start
  have HR := Lib.hid hr
  have i1 : (i : Int) ≤ (s.size : Int) := by omega
  have i2 : (s.size : Int) ≤ 100 := by omega
  have HS := Lib.hid hs
  clear hr hs hi0
  go_enter Tryd.func43, Tryd.ntmps43
  go_upto_region 2 with (first
    | (refine wpList_store_row rfl 62 _ _ rfl (w.heap.size + 1) (sgR ⟨4, 0, false, noSet⟩) rfl rfl 62 Z62 HB1.out (size_sg _) rfl (sgR_one _) ?_; clear HB1; generalize World.setRow _ _ _ = w1 at HC1 ⊢)
    | fail)
  clear hcs
  simp only [Act.put]
  go_cut [24] (fun x24 wx => ∃ b : Bool, x24 = .bool b ∧ wx = w1 ∧ Hid (b = true ↔ r.head? = some 33))
  case first =>
    rcases hrr : r with _ | ⟨c, t⟩
    · have hl := len_drop (HR.out.trans hrr) (by omega)
      have e1 : (s.size : Int) ≤ (i : Int) := by simp at hl; omega
      clear hl
      go_wp2_with (fail)
      go_meet
      exact ⟨false, rfl, rfl, Lib.hid (by simp [hrr])⟩
    · obtain ⟨hi, hx, ht⟩ := at_cons (HR.out.trans hrr)
      have e1 : (i : Int) < (s.size : Int) := by omega
      by_cases h33 : c = 33
      · have b2 : (((s[i]'hi).toNat : Int) == 33) = true := by rw [hx, h33]; rfl
        clear hx ht
        go_wp2_with (fail)
        go_meet
        exact ⟨true, rfl, rfl, Lib.hid (by simp [hrr, h33])⟩
      · have b2 : (((s[i]'hi).toNat : Int) == 33) = false := by
          rw [hx]
          have : c.toNat ≠ 33 := fun e => h33 (UInt8.toNat_inj.1 (by rw [e]; rfl))
          simp; omega
        clear hx ht
        go_wp2_with (fail)
        go_meet
        exact ⟨false, rfl, rfl, Lib.hid (by simp [hrr, h33])⟩
  case rest =>
    obtain ⟨b, rfl, rfl, HBB⟩ := hcut
    obtain ⟨g0, hg0⟩ : ∃ g, g = w.heap.size := ⟨_, rfl⟩
    obtain ⟨g1, hg1⟩ : ∃ g, g = w.heap.size + 1 := ⟨_, rfl⟩
    rw [← hg1, ← hg0] at HC1
    rw [← hg1, ← hg0]
    clear hg0 hg1
    go_upto_if 24 with (fail)
    go_cut [1] (fun x1 wx => ∃ (n : Bool) (f : Nat) (r0 : List UInt8), x1 = .int .i64 f ∧ f ≤ s.size ∧ Hid (s.data.toList.drop f = r0) ∧ Hid (CT w g0 g1 n noSet wx) ∧ Hid (clsF r = (clsG r0).map (fun x => (n, x.1, x.2))))
    case first =>
      rcases b with _ | _
      · go_wp2_with (fail)
        go_meet
        refine ⟨false, i, r, rfl, by omega, HR, HC1, Lib.hid ?_⟩
        unfold clsF
        rw [if_neg (fun e => by have := HBB.out.2 e; cases this)]
      · have h33 := HBB.out.1 rfl
        rcases hrr : r with _ | ⟨c, t⟩
        · rw [hrr] at h33; cases h33
        · obtain ⟨hi, hx, ht⟩ := at_cons (HR.out.trans hrr)
          have c0 := HC1.out.gb.cell 2 (v := .bool false) rfl
          have f0 := HC1.out.gb.free 2
          have e1 : (i : Int) < (s.size : Int) := by omega
          have HC2 := Lib.hid HC1.out.neg
          clear hx
          go_wp2_with (fail)
          go_meet
          refine ⟨true, i + 1, t, by go_num, by omega, Lib.hid ht, HC2, Lib.hid ?_⟩
          unfold clsF
          rw [if_pos h33, hrr]; rfl
    case rest =>
      obtain ⟨n, f, r0, rfl, hf, HR0, HCT, HCF⟩ := hcut
      clear HC1 HR HBB i1
      go_wp2_with (fail)
      go_loopg [1] r0.length (fun gk x1 wr => ∃ (j : Nat) (q : List UInt8) (S : Nat → Bool) (fu : Nat), j ≤ s.size ∧ Hid (gk = q.length) ∧ x1 = .int .i64 j ∧ Hid (s.data.toList.drop j = q) ∧ Hid (CT w g0 g1 n S wr) ∧ f ≤ j ∧ Hid (q.length < fu) ∧ Hid (clsG r0 = if j = f ∧ q.head? = some 93 then none else clsS fu q S))
      case atStart => exact ⟨f, r0, noSet, r0.length + 1, hf, Lib.hid rfl, rfl, HR0, HCT, Nat.le_refl _, Lib.hid (Nat.lt_succ_self _), Lib.hid (by unfold clsG; simp)⟩
      case round =>
        obtain ⟨j, q, S, fu, hj, HG, rfl, HQ, HCT, hfj, HFU, HX⟩ := hrel
        have hfu : ∃ m, fu = m + 1 := ⟨fu - 1, by have := HFU.out; omega⟩
        obtain ⟨fu, rfl⟩ := hfu
        rcases q with _ | ⟨c, t⟩
        · have hl := len_drop HQ.out hj
          have e1 : (s.size : Int) ≤ (j : Int) := by simp at hl; omega
          have HXX := Lib.hid (show clsF r = none by rw [HCF.out, HX.out]; simp [clsS])
          have e2 : (j : Int) ≤ 100 := by omega
          clear hl
          go_wp2_with (first | (refine wpList_load_row rfl 62 _ rfl g1 rfl 62 (sgR ⟨4, 0, n, S⟩) (0, 0) _ HCT.out.gb Tryd.underlying62 rfl (size_sg _) ?_) | (refine wpList_store_row rfl 62 _ _ rfl g0 (sgR ⟨4, 0, n, S⟩) rfl rfl 62 Z62 HCT.out.rb (size_sg _) rfl (sgR_one _) ?_))
          refine bodyPost_ret (results_cell3 rfl _ _ g0 62 (sgR ⟨4, 0, n, S⟩) (0, 0) _ rfl (HCT.out.rb.setRow _) Tryd.underlying62 rfl (size_sg _)) rfl ⟨⟨4, 0, n, S⟩, (j : Int) + 1, false, rfl, HCT.out.end, ?_⟩
          rw [HXX.out]
        · obtain ⟨hjs, hx, ht⟩ := at_cons HQ.out
          have hl := len_drop HQ.out hj
          have e1 : (j : Int) < (s.size : Int) := by omega
          have e2 : (j : Int) ≤ 100 := by omega
          by_cases h93 : c = 93
          · have b2 : (((s[j]'hjs).toNat : Int) != 93) = false := by rw [hx, h93]; rfl
            by_cases hjf : j = f
            · have HXX := Lib.hid (show clsF r = none by rw [HCF.out, HX.out, if_pos ⟨hjf, by rw [h93]; rfl⟩]; rfl)
              have e3 : (j : Int) ≤ (f : Int) := by omega
              have e4 : decide (f < j) = false := by simp; omega
              clear hx hl hjf
              go_wp2_with (first | (refine wpList_load_row rfl 62 _ rfl g1 rfl 62 (sgR ⟨4, 0, n, S⟩) (0, 0) _ HCT.out.gb Tryd.underlying62 rfl (size_sg _) ?_) | (refine wpList_store_row rfl 62 _ _ rfl g0 (sgR ⟨4, 0, n, S⟩) rfl rfl 62 Z62 HCT.out.rb (size_sg _) rfl (sgR_one _) ?_))
              refine bodyPost_ret (results_cell3 rfl _ _ g0 62 (sgR ⟨4, 0, n, S⟩) (0, 0) _ rfl (HCT.out.rb.setRow _) Tryd.underlying62 rfl (size_sg _)) rfl ⟨⟨4, 0, n, S⟩, (j : Int) + 1, false, rfl, HCT.out.end, ?_⟩
              rw [HXX.out]
            · have HXX := Lib.hid (show clsF r = some (n, S, t) by rw [HCF.out, HX.out, if_neg (fun h => hjf h.1), clsS, if_pos h93]; rfl)
              have e3 : (f : Int) < (j : Int) := by omega
              have e4 : decide (f < j) = true := by simp; omega
              have HN := Lib.hid (show (j : Int) + 1 = ((s.size - t.length : Nat) : Int) by simp only [List.length_cons] at hl; omega)
              clear hx hl hjf
              go_wp2_with (first | (refine wpList_load_row rfl 62 _ rfl g1 rfl 62 (sgR ⟨4, 0, n, S⟩) (0, 0) _ HCT.out.gb Tryd.underlying62 rfl (size_sg _) ?_) | (refine wpList_store_row rfl 62 _ _ rfl g0 (sgR ⟨4, 0, n, S⟩) rfl rfl 62 Z62 HCT.out.rb (size_sg _) rfl (sgR_one _) ?_))
              refine bodyPost_ret (results_cell3 rfl _ _ g0 62 (sgR ⟨4, 0, n, S⟩) (0, 0) _ rfl (HCT.out.rb.setRow _) Tryd.underlying62 rfl (size_sg _)) rfl ⟨⟨4, 0, n, S⟩, (j : Int) + 1, true, rfl, HCT.out.end, ?_⟩
              rw [HXX.out]
              exact ⟨rfl, rfl, HN.out⟩
          · have b2 : (((s[j]'hjs).toNat : Int) != 93) = true := by
              rw [hx]
              have : c.toNat ≠ 93 := fun e => h93 (UInt8.toNat_inj.1 (by rw [e]; rfl))
              simp; omega
            have HX1 := Lib.hid (show clsG r0 = (oneS (c :: t) S).bind (fun x => clsS fu x.2 x.1) by
              rw [HX.out, if_neg (fun h => h93 (by have := h.2; simpa using this)), clsS, if_neg h93])
            clear hx HX
            rcases hm : memS (c :: t) with _ | ⟨lo, r1⟩
            · have HM1 := Lib.hid (fun wx => member_none s j (c :: t) wx hj HS.out HQ.out hm)
              have HXX := Lib.hid (show clsF r = none by rw [HCF.out, HX1.out, oneS_no hm]; rfl)
              clear hm hl ht HX1
              go_wp2_with (first | (go_at_call 55; (refine (HM1.out _).mono ?_); rintro e w2 ⟨rfl, rfl⟩; clear HM1) | (refine wpList_load_row rfl 62 _ rfl g1 rfl 62 (sgR ⟨4, 0, n, S⟩) (0, 0) _ HCT.out.gb Tryd.underlying62 rfl (size_sg _) ?_) | (refine wpList_store_row rfl 62 _ _ rfl g0 (sgR ⟨4, 0, n, S⟩) rfl rfl 62 Z62 HCT.out.rb (size_sg _) rfl (sgR_one _) ?_))
              refine bodyPost_ret (results_cell3 rfl _ _ g0 62 (sgR ⟨4, 0, n, S⟩) (0, 0) _ rfl (HCT.out.rb.setRow _) Tryd.underlying62 rfl (size_sg _)) rfl ⟨⟨4, 0, n, S⟩, 0, false, rfl, HCT.out.end, ?_⟩
              rw [HXX.out]
            · have HM1 := Lib.hid (fun wx => member_some s j (c :: t) r1 lo wx HS.out HQ.out hm)
              obtain ⟨hlr, hdr⟩ := memS_drop HQ.out hm hj
              obtain ⟨nx, hnxe⟩ : ∃ nx, nx = s.size - r1.length := ⟨_, rfl⟩
              rw [← hnxe] at HM1 hdr
              have hnx : nx ≤ s.size := by omega
              have hsz : s.size = nx + r1.length := by have := len_drop hdr hnx; omega
              have hfn : f < nx := by omega
              have hle : lo.toNat ≤ lo.toNat := Nat.le_refl _
              have HDR := Lib.hid hdr
              have n1 : (nx : Int) ≤ 100 := by omega
              clear hnxe hdr hl ht
              rcases r1 with _ | ⟨y, u⟩
              · have z1 : (s.size : Int) ≤ (nx : Int) + 1 := by simp at hsz; omega
                have HX2 := Lib.hid (show clsG r0 = clsS fu ([]) (rngS S lo.toNat (lo.toNat - lo.toNat + 1)) by rw [HX1.out, oneS_end hm]; rw [Nat.sub_self]; rfl)
                have hln : ([] : List UInt8).length < (c :: t).length := hlr
                have HQ2 := HDR
                clear HX1 hm hlr
                have u1 : lo.toNat < 256 := lo.toNat_lt
                have HHI := Lib.hid hle
                have Hnx := Lib.hid (show nx ≤ s.size from hnx)
                have HFN := Lib.hid (show f < nx from hfn)
                have HLN := Lib.hid hln
                clear hle hnx hfn hln hsz
                go_wp2_with ((go_at_call 55; (refine (HM1.out _).mono ?_); rintro e w2 ⟨rfl, rfl⟩; clear HM1))
                go_loopg [13] (lo.toNat - lo.toNat + 1) (fun gk x13 wl => ∃ k : Nat, k ≤ lo.toNat - lo.toNat + 1 ∧ gk = (lo.toNat - lo.toNat + 1) - k ∧ x13 = .int .i64 (lo.toNat + k : Nat) ∧ Hid (CT w g0 g1 n (rngS S lo.toNat k) wl))
                case atStart => exact ⟨0, by omega, rfl, rfl, HCT⟩
                case round =>
                  obtain ⟨k, hk, hgk, rfl, HCT⟩ := hrel
                  have HGK := Lib.hid hgk
                  clear hgk
                  by_cases hkk : k < lo.toNat - lo.toNat + 1
                  · have q1 : lo.toNat + k ≤ lo.toNat := by have := HHI.out; omega
                    have q2 : decide (lo.toNat + k ≤ lo.toNat) = true := by simpa using q1
                    obtain ⟨y, hy⟩ : ∃ y, y = lo.toNat + k := ⟨_, rfl⟩
                    rw [← hy] at q1 q2 ⊢
                    have y0 : (0 : Int) ≤ (y : Int) := by omega
                    have y1 : (y : Int) < 256 := by omega
                    have c0 := HCT.out.gb.cell (3 + y) (v := .bool (rngS S lo.toNat k y)) (by unfold sgR; rw [List.getElem?_toArray]; exact sgA_3 _ y (by omega))
                    have f0 := HCT.out.gb.free (3 + y)
                    have HA := Lib.hid (show CT w g0 g1 n (rngS S lo.toNat (k + 1)) (wr.setCell ⟨g1, 3 + y, none⟩ (.bool true)) by
                      rw [hy]; exact HCT.out.add (lo.toNat + k))
                    have HY := Lib.hid (show ((y : Nat) : Int) + 1 = ((lo.toNat + (k + 1) : Nat) : Int) by omega)
                    clear hy
                    go_wp2_with (fail)
                    go_roundg (lo.toNat - lo.toNat + 1 - (k + 1))
                    case measure => have := HGK.out; omega
                    case rel => exact ⟨k + 1, by omega, rfl, by rw [HY.out], HA⟩
                  · have hke : k = lo.toNat - lo.toNat + 1 := by omega
                    have q1 : lo.toNat < lo.toNat + k := by omega
                    have q2 : decide (lo.toNat + k ≤ lo.toNat) = false := by simpa using q1
                    have HKE := Lib.hid hke
                    clear hke
                    go_wp2_with (fail)
                    go_roundg ([] : List UInt8).length
                    case measure => have := HG.out; have := HLN.out; omega
                    case rel => exact ⟨nx, [], rngS S lo.toNat (lo.toNat - lo.toNat + 1), fu, Hnx.out, Lib.hid rfl, rfl, HQ2, by rw [← HKE.out]; exact HCT, Nat.le_of_lt HFN.out, Lib.hid (by have := HLN.out; have := HFU.out; omega), Lib.hid (by rw [if_neg (fun h => by have := HFN.out; have := h.1; omega)]; exact HX2.out)⟩
              · rcases u with _ | ⟨x, u⟩
                · have z1 : (s.size : Int) ≤ (nx : Int) + 1 := by simp at hsz; omega
                  have HX2 := Lib.hid (show clsG r0 = clsS fu ([y]) (rngS S lo.toNat (lo.toNat - lo.toNat + 1)) by rw [HX1.out, oneS_one hm]; rw [Nat.sub_self]; rfl)
                  have hln : [y].length < (c :: t).length := hlr
                  have HQ2 := HDR
                  clear HX1 hm hlr
                  have u1 : lo.toNat < 256 := lo.toNat_lt
                  have HHI := Lib.hid hle
                  have Hnx := Lib.hid (show nx ≤ s.size from hnx)
                  have HFN := Lib.hid (show f < nx from hfn)
                  have HLN := Lib.hid hln
                  clear hle hnx hfn hln hsz
                  go_wp2_with ((go_at_call 55; (refine (HM1.out _).mono ?_); rintro e w2 ⟨rfl, rfl⟩; clear HM1))
                  go_loopg [13] (lo.toNat - lo.toNat + 1) (fun gk x13 wl => ∃ k : Nat, k ≤ lo.toNat - lo.toNat + 1 ∧ gk = (lo.toNat - lo.toNat + 1) - k ∧ x13 = .int .i64 (lo.toNat + k : Nat) ∧ Hid (CT w g0 g1 n (rngS S lo.toNat k) wl))
                  case atStart => exact ⟨0, by omega, rfl, rfl, HCT⟩
                  case round =>
                    obtain ⟨k, hk, hgk, rfl, HCT⟩ := hrel
                    have HGK := Lib.hid hgk
                    clear hgk
                    by_cases hkk : k < lo.toNat - lo.toNat + 1
                    · have q1 : lo.toNat + k ≤ lo.toNat := by have := HHI.out; omega
                      have q2 : decide (lo.toNat + k ≤ lo.toNat) = true := by simpa using q1
                      obtain ⟨y, hy⟩ : ∃ y, y = lo.toNat + k := ⟨_, rfl⟩
                      rw [← hy] at q1 q2 ⊢
                      have y0 : (0 : Int) ≤ (y : Int) := by omega
                      have y1 : (y : Int) < 256 := by omega
                      have c0 := HCT.out.gb.cell (3 + y) (v := .bool (rngS S lo.toNat k y)) (by unfold sgR; rw [List.getElem?_toArray]; exact sgA_3 _ y (by omega))
                      have f0 := HCT.out.gb.free (3 + y)
                      have HA := Lib.hid (show CT w g0 g1 n (rngS S lo.toNat (k + 1)) (wr.setCell ⟨g1, 3 + y, none⟩ (.bool true)) by
                        rw [hy]; exact HCT.out.add (lo.toNat + k))
                      have HY := Lib.hid (show ((y : Nat) : Int) + 1 = ((lo.toNat + (k + 1) : Nat) : Int) by omega)
                      clear hy
                      go_wp2_with (fail)
                      go_roundg (lo.toNat - lo.toNat + 1 - (k + 1))
                      case measure => have := HGK.out; omega
                      case rel => exact ⟨k + 1, by omega, rfl, by rw [HY.out], HA⟩
                    · have hke : k = lo.toNat - lo.toNat + 1 := by omega
                      have q1 : lo.toNat < lo.toNat + k := by omega
                      have q2 : decide (lo.toNat + k ≤ lo.toNat) = false := by simpa using q1
                      have HKE := Lib.hid hke
                      clear hke
                      go_wp2_with (fail)
                      go_roundg ([y] : List UInt8).length
                      case measure => have := HG.out; have := HLN.out; omega
                      case rel => exact ⟨nx, [y], rngS S lo.toNat (lo.toNat - lo.toNat + 1), fu, Hnx.out, Lib.hid rfl, rfl, HQ2, by rw [← HKE.out]; exact HCT, Nat.le_of_lt HFN.out, Lib.hid (by have := HLN.out; have := HFU.out; omega), Lib.hid (by rw [if_neg (fun h => by have := HFN.out; have := h.1; omega)]; exact HX2.out)⟩
                · have z1 : (nx : Int) + 1 < (s.size : Int) := by simp only [List.length_cons] at hsz; omega
                  obtain ⟨hyi, hyv, hyt⟩ := at_cons HDR.out
                  obtain ⟨hxi, hxv, hxt⟩ := at_cons hyt
                  by_cases hr45 : y = 45
                  · have b3 : (((s[nx]'hyi).toNat : Int) == 45) = true := by rw [hyv, hr45]; rfl
                    by_cases hx93 : x = 93
                    · have b4 : (((s[nx + 1]'hxi).toNat : Int) != 93) = false := by rw [hxv, hx93]; rfl
                      have hno : ¬ (y = 45 ∧ x ≠ 93) := fun h => h.2 hx93
                      have HX2 := Lib.hid (show clsG r0 = clsS fu (y :: x :: u) (rngS S lo.toNat (lo.toNat - lo.toNat + 1)) by rw [HX1.out, oneS_two hm hno]; rw [Nat.sub_self]; rfl)
                      have hln : (y :: x :: u).length < (c :: t).length := hlr
                      have HQ2 := HDR
                      clear HX1 hm hlr hyv hyt hxv hxt hno hr45 hx93
                      have u1 : lo.toNat < 256 := lo.toNat_lt
                      have HHI := Lib.hid hle
                      have Hnx := Lib.hid (show nx ≤ s.size from hnx)
                      have HFN := Lib.hid (show f < nx from hfn)
                      have HLN := Lib.hid hln
                      clear hle hnx hfn hln hsz
                      go_wp2_with ((go_at_call 55; (refine (HM1.out _).mono ?_); rintro e w2 ⟨rfl, rfl⟩; clear HM1))
                      go_loopg [13] (lo.toNat - lo.toNat + 1) (fun gk x13 wl => ∃ k : Nat, k ≤ lo.toNat - lo.toNat + 1 ∧ gk = (lo.toNat - lo.toNat + 1) - k ∧ x13 = .int .i64 (lo.toNat + k : Nat) ∧ Hid (CT w g0 g1 n (rngS S lo.toNat k) wl))
                      case atStart => exact ⟨0, by omega, rfl, rfl, HCT⟩
                      case round =>
                        obtain ⟨k, hk, hgk, rfl, HCT⟩ := hrel
                        have HGK := Lib.hid hgk
                        clear hgk
                        by_cases hkk : k < lo.toNat - lo.toNat + 1
                        · have q1 : lo.toNat + k ≤ lo.toNat := by have := HHI.out; omega
                          have q2 : decide (lo.toNat + k ≤ lo.toNat) = true := by simpa using q1
                          obtain ⟨y, hy⟩ : ∃ y, y = lo.toNat + k := ⟨_, rfl⟩
                          rw [← hy] at q1 q2 ⊢
                          have y0 : (0 : Int) ≤ (y : Int) := by omega
                          have y1 : (y : Int) < 256 := by omega
                          have c0 := HCT.out.gb.cell (3 + y) (v := .bool (rngS S lo.toNat k y)) (by unfold sgR; rw [List.getElem?_toArray]; exact sgA_3 _ y (by omega))
                          have f0 := HCT.out.gb.free (3 + y)
                          have HA := Lib.hid (show CT w g0 g1 n (rngS S lo.toNat (k + 1)) (wr.setCell ⟨g1, 3 + y, none⟩ (.bool true)) by
                            rw [hy]; exact HCT.out.add (lo.toNat + k))
                          have HY := Lib.hid (show ((y : Nat) : Int) + 1 = ((lo.toNat + (k + 1) : Nat) : Int) by omega)
                          clear hy
                          go_wp2_with (fail)
                          go_roundg (lo.toNat - lo.toNat + 1 - (k + 1))
                          case measure => have := HGK.out; omega
                          case rel => exact ⟨k + 1, by omega, rfl, by rw [HY.out], HA⟩
                        · have hke : k = lo.toNat - lo.toNat + 1 := by omega
                          have q1 : lo.toNat < lo.toNat + k := by omega
                          have q2 : decide (lo.toNat + k ≤ lo.toNat) = false := by simpa using q1
                          have HKE := Lib.hid hke
                          clear hke
                          go_wp2_with (fail)
                          go_roundg (y :: x :: u : List UInt8).length
                          case measure => have := HG.out; have := HLN.out; omega
                          case rel => exact ⟨nx, y :: x :: u, rngS S lo.toNat (lo.toNat - lo.toNat + 1), fu, Hnx.out, Lib.hid rfl, rfl, HQ2, by rw [← HKE.out]; exact HCT, Nat.le_of_lt HFN.out, Lib.hid (by have := HLN.out; have := HFU.out; omega), Lib.hid (by rw [if_neg (fun h => by have := HFN.out; have := h.1; omega)]; exact HX2.out)⟩
                    · have b4 : (((s[nx + 1]'hxi).toNat : Int) != 93) = true := by
                        rw [hxv]
                        have : x.toNat ≠ 93 := fun e => hx93 (UInt8.toNat_inj.1 (by rw [e]; rfl))
                        simp; omega
                      have hyt2 := Lib.hid hyt
                      subst hr45
                      rcases hm2 : memS (x :: u) with _ | ⟨hi, r2⟩
                      · have hm2' := member_none s (nx + 1) (x :: u)
                        have HM2 := Lib.hid (fun wx => (show Calls Tryd.prog 55 #[.string s, .int .i64 ((nx : Int) + 1)] wx fun e w' => e = .returned (.tuple #[.int .u8 0, .int .i64 0, .bool false]) ∧ wx = w' from hm2' wx (by omega) HS.out hyt2.out hm2))
                        have HXX := Lib.hid (show clsF r = none by rw [HCF.out, HX1.out, oneS_bad hm hx93 hm2]; rfl)
                        clear hm hm2 hm2' HX1 hyv hyt hxv hxt hx93 hlr hsz hnx hfn hle
                        go_wp2_with (first | (go_at_call 55; (refine (HM1.out _).mono ?_); rintro e w2 ⟨rfl, rfl⟩; clear HM1) | (go_at_call 55; (refine (HM2.out _).mono ?_); rintro e w3 ⟨rfl, rfl⟩; clear HM2) | (refine wpList_load_row rfl 62 _ rfl g1 rfl 62 (sgR ⟨4, 0, n, S⟩) (0, 0) _ HCT.out.gb Tryd.underlying62 rfl (size_sg _) ?_) | (refine wpList_store_row rfl 62 _ _ rfl g0 (sgR ⟨4, 0, n, S⟩) rfl rfl 62 Z62 HCT.out.rb (size_sg _) rfl (sgR_one _) ?_))
                        refine bodyPost_ret (results_cell3 rfl _ _ g0 62 (sgR ⟨4, 0, n, S⟩) (0, 0) _ rfl (HCT.out.rb.setRow _) Tryd.underlying62 rfl (size_sg _)) rfl ⟨⟨4, 0, n, S⟩, 0, false, rfl, HCT.out.end, ?_⟩
                        rw [HXX.out]
                      · have hm2' := member_some s (nx + 1) (x :: u) r2 hi
                        have HM2 := Lib.hid (fun wx => (show Calls Tryd.prog 55 #[.string s, .int .i64 ((nx : Int) + 1)] wx fun e w' => e = .returned (.tuple #[.int .u8 (hi.toNat : Int), .int .i64 (s.size - r2.length : Nat), .bool true]) ∧ wx = w' from hm2' wx HS.out hyt2.out hm2))
                        obtain ⟨hlr2, hdr2⟩ := memS_drop hyt2.out hm2 (by omega)
                        obtain ⟨ny, hny⟩ : ∃ ny, ny = s.size - r2.length := ⟨_, rfl⟩
                        rw [← hny] at HM2 hdr2
                        have HQ2 := Lib.hid hdr2
                        have hln : r2.length < (c :: t).length := by simp only [List.length_cons] at hlr hlr2 ⊢; omega
                        have n2 : (ny : Int) ≤ 100 := by omega
                        have hfn2 : f < ny := by simp only [List.length_cons] at hsz hlr2; omega
                        have hnx2 : ny ≤ s.size := by omega
                        clear hnx hfn hle hdr2 hny
                        have hnx := hnx2
                        have hfn := hfn2
                        clear hnx2 hfn2
                        by_cases hless : hi < lo
                        · have l1 : decide (hi.toNat < lo.toNat) = true := by simpa using UInt8.lt_iff_toNat_lt.1 hless
                          have HXX := Lib.hid (show clsF r = none by rw [HCF.out, HX1.out, oneS_less hm hx93 hm2 hless]; rfl)
                          clear hm hm2 hm2' HX1 hyv hyt hxv hxt hx93 hlr hlr2 hsz hnx hfn hln hless
                          go_wp2_with (first | (go_at_call 55; (refine (HM1.out _).mono ?_); rintro e w2 ⟨rfl, rfl⟩; clear HM1) | (go_at_call 55; (refine (HM2.out _).mono ?_); rintro e w3 ⟨rfl, rfl⟩; clear HM2) | (refine wpList_load_row rfl 62 _ rfl g1 rfl 62 (sgR ⟨4, 0, n, S⟩) (0, 0) _ HCT.out.gb Tryd.underlying62 rfl (size_sg _) ?_) | (refine wpList_store_row rfl 62 _ _ rfl g0 (sgR ⟨4, 0, n, S⟩) rfl rfl 62 Z62 HCT.out.rb (size_sg _) rfl (sgR_one _) ?_))
                          refine bodyPost_ret (results_cell3 rfl _ _ g0 62 (sgR ⟨4, 0, n, S⟩) (0, 0) _ rfl (HCT.out.rb.setRow _) Tryd.underlying62 rfl (size_sg _)) rfl ⟨⟨4, 0, n, S⟩, 0, false, rfl, HCT.out.end, ?_⟩
                          rw [HXX.out]
                        · have hle : lo.toNat ≤ hi.toNat := by
                            rcases Nat.lt_or_ge hi.toNat lo.toNat with h | h
                            · exact (hless (UInt8.lt_iff_toNat_lt.2 h)).elim
                            · exact h
                          have l1 : decide (hi.toNat < lo.toNat) = false := by simpa using hle
                          have HX2 := Lib.hid (show clsG r0 = clsS fu (r2) (rngS S lo.toNat (hi.toNat - lo.toNat + 1)) by rw [HX1.out, oneS_rng hm hx93 hm2 hless]; rfl)
                          clear hm hm2 hm2' HX1 hyv hyt hxv hxt hx93 hlr hlr2 hless
                          have u1 : lo.toNat < 256 := lo.toNat_lt
                          have u2 : hi.toNat < 256 := hi.toNat_lt
                          have HHI := Lib.hid hle
                          have Hny := Lib.hid (show ny ≤ s.size from hnx)
                          have HFN := Lib.hid (show f < ny from hfn)
                          have HLN := Lib.hid hln
                          clear hle hnx hfn hln hsz
                          go_wp2_with (first | (go_at_call 55; (refine (HM1.out _).mono ?_); rintro e w2 ⟨rfl, rfl⟩; clear HM1) | (go_at_call 55; (refine (HM2.out _).mono ?_); rintro e w3 ⟨rfl, rfl⟩; clear HM2))
                          go_loopg [13] (hi.toNat - lo.toNat + 1) (fun gk x13 wl => ∃ k : Nat, k ≤ hi.toNat - lo.toNat + 1 ∧ gk = (hi.toNat - lo.toNat + 1) - k ∧ x13 = .int .i64 (lo.toNat + k : Nat) ∧ Hid (CT w g0 g1 n (rngS S lo.toNat k) wl))
                          case atStart => exact ⟨0, by omega, rfl, rfl, HCT⟩
                          case round =>
                            obtain ⟨k, hk, hgk, rfl, HCT⟩ := hrel
                            have HGK := Lib.hid hgk
                            clear hgk
                            by_cases hkk : k < hi.toNat - lo.toNat + 1
                            · have q1 : lo.toNat + k ≤ hi.toNat := by have := HHI.out; omega
                              have q2 : decide (lo.toNat + k ≤ hi.toNat) = true := by simpa using q1
                              obtain ⟨y, hy⟩ : ∃ y, y = lo.toNat + k := ⟨_, rfl⟩
                              rw [← hy] at q1 q2 ⊢
                              have y0 : (0 : Int) ≤ (y : Int) := by omega
                              have y1 : (y : Int) < 256 := by omega
                              have c0 := HCT.out.gb.cell (3 + y) (v := .bool (rngS S lo.toNat k y)) (by unfold sgR; rw [List.getElem?_toArray]; exact sgA_3 _ y (by omega))
                              have f0 := HCT.out.gb.free (3 + y)
                              have HA := Lib.hid (show CT w g0 g1 n (rngS S lo.toNat (k + 1)) (wr.setCell ⟨g1, 3 + y, none⟩ (.bool true)) by
                                rw [hy]; exact HCT.out.add (lo.toNat + k))
                              have HY := Lib.hid (show ((y : Nat) : Int) + 1 = ((lo.toNat + (k + 1) : Nat) : Int) by omega)
                              clear hy
                              go_wp2_with (fail)
                              go_roundg (hi.toNat - lo.toNat + 1 - (k + 1))
                              case measure => have := HGK.out; omega
                              case rel => exact ⟨k + 1, by omega, rfl, by rw [HY.out], HA⟩
                            · have hke : k = hi.toNat - lo.toNat + 1 := by omega
                              have q1 : hi.toNat < lo.toNat + k := by omega
                              have q2 : decide (lo.toNat + k ≤ hi.toNat) = false := by simpa using q1
                              have HKE := Lib.hid hke
                              clear hke
                              go_wp2_with (fail)
                              go_roundg (r2 : List UInt8).length
                              case measure => have := HG.out; have := HLN.out; omega
                              case rel => exact ⟨ny, r2, rngS S lo.toNat (hi.toNat - lo.toNat + 1), fu, Hny.out, Lib.hid rfl, rfl, HQ2, by rw [← HKE.out]; exact HCT, Nat.le_of_lt HFN.out, Lib.hid (by have := HLN.out; have := HFU.out; omega), Lib.hid (by rw [if_neg (fun h => by have := HFN.out; have := h.1; omega)]; exact HX2.out)⟩
                  · have b3 : (((s[nx]'hyi).toNat : Int) == 45) = false := by
                      rw [hyv]
                      have : y.toNat ≠ 45 := fun e => hr45 (UInt8.toNat_inj.1 (by rw [e]; rfl))
                      simp; omega
                    have hno : ¬ (y = 45 ∧ x ≠ 93) := fun h => hr45 h.1
                    have HX2 := Lib.hid (show clsG r0 = clsS fu (y :: x :: u) (rngS S lo.toNat (lo.toNat - lo.toNat + 1)) by rw [HX1.out, oneS_two hm hno]; rw [Nat.sub_self]; rfl)
                    have hln : (y :: x :: u).length < (c :: t).length := hlr
                    have HQ2 := HDR
                    clear HX1 hm hlr hyv hyt hxv hxt hno hr45
                    have u1 : lo.toNat < 256 := lo.toNat_lt
                    have HHI := Lib.hid hle
                    have Hnx := Lib.hid (show nx ≤ s.size from hnx)
                    have HFN := Lib.hid (show f < nx from hfn)
                    have HLN := Lib.hid hln
                    clear hle hnx hfn hln hsz
                    go_wp2_with ((go_at_call 55; (refine (HM1.out _).mono ?_); rintro e w2 ⟨rfl, rfl⟩; clear HM1))
                    go_loopg [13] (lo.toNat - lo.toNat + 1) (fun gk x13 wl => ∃ k : Nat, k ≤ lo.toNat - lo.toNat + 1 ∧ gk = (lo.toNat - lo.toNat + 1) - k ∧ x13 = .int .i64 (lo.toNat + k : Nat) ∧ Hid (CT w g0 g1 n (rngS S lo.toNat k) wl))
                    case atStart => exact ⟨0, by omega, rfl, rfl, HCT⟩
                    case round =>
                      obtain ⟨k, hk, hgk, rfl, HCT⟩ := hrel
                      have HGK := Lib.hid hgk
                      clear hgk
                      by_cases hkk : k < lo.toNat - lo.toNat + 1
                      · have q1 : lo.toNat + k ≤ lo.toNat := by have := HHI.out; omega
                        have q2 : decide (lo.toNat + k ≤ lo.toNat) = true := by simpa using q1
                        obtain ⟨y, hy⟩ : ∃ y, y = lo.toNat + k := ⟨_, rfl⟩
                        rw [← hy] at q1 q2 ⊢
                        have y0 : (0 : Int) ≤ (y : Int) := by omega
                        have y1 : (y : Int) < 256 := by omega
                        have c0 := HCT.out.gb.cell (3 + y) (v := .bool (rngS S lo.toNat k y)) (by unfold sgR; rw [List.getElem?_toArray]; exact sgA_3 _ y (by omega))
                        have f0 := HCT.out.gb.free (3 + y)
                        have HA := Lib.hid (show CT w g0 g1 n (rngS S lo.toNat (k + 1)) (wr.setCell ⟨g1, 3 + y, none⟩ (.bool true)) by
                          rw [hy]; exact HCT.out.add (lo.toNat + k))
                        have HY := Lib.hid (show ((y : Nat) : Int) + 1 = ((lo.toNat + (k + 1) : Nat) : Int) by omega)
                        clear hy
                        go_wp2_with (fail)
                        go_roundg (lo.toNat - lo.toNat + 1 - (k + 1))
                        case measure => have := HGK.out; omega
                        case rel => exact ⟨k + 1, by omega, rfl, by rw [HY.out], HA⟩
                      · have hke : k = lo.toNat - lo.toNat + 1 := by omega
                        have q1 : lo.toNat < lo.toNat + k := by omega
                        have q2 : decide (lo.toNat + k ≤ lo.toNat) = false := by simpa using q1
                        have HKE := Lib.hid hke
                        clear hke
                        go_wp2_with (fail)
                        go_roundg (y :: x :: u : List UInt8).length
                        case measure => have := HG.out; have := HLN.out; omega
                        case rel => exact ⟨nx, y :: x :: u, rngS S lo.toNat (lo.toNat - lo.toNat + 1), fu, Hnx.out, Lib.hid rfl, rfl, HQ2, by rw [← HKE.out]; exact HCT, Nat.le_of_lt HFN.out, Lib.hid (by have := HLN.out; have := HFU.out; omega), Lib.hid (by rw [if_neg (fun h => by have := HFN.out; have := h.1; omega)]; exact HX2.out)⟩
end Go.Proofs.YtmmobhmiemmioaaDoor
