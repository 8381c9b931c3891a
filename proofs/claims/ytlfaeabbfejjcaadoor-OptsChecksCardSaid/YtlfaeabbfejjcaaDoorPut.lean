/- The walks of num.Size, num.Put. -/
import Derived.Test.YtlfaeabbfejjcaaDoorEncP
import Derived.Laws.BitsLemmas
import Derived.Test.YtlfaeabbfejjcaaDoorParse
import Derived.Laws.AppendOwnNone
import Derived.OwnWalk
import Derived.IntWalk
import Derived.Laws.BitsAllLaws
namespace Go.Proofs.YtlfaeabbfejjcaaDoor
open Go.RowKit

/-- A slice of bytes that came in. -/
def Byts (w : World) (a : Option Addr) (l : List UInt8) : Prop :=
  l.length ≤ 140737488355328 ∧ ∀ j, j < l.length → ∃ x, a = some x ∧ x.block < w.heap.size ∧ w.cell? (x.add j) = some (.int .u8 ((l.getD j 0).toNat : Int))

theorem Byts.fr1 {w w' : World} {a : Option Addr} {l : List UInt8} (h : Byts w a l) (f : Fr (fun _ => False) w w') : Byts w' a l :=
  ⟨h.1, fun j hj => by
    obtain ⟨x, hx, hlt, hc⟩ := h.2 j hj
    exact ⟨x, hx, Nat.lt_of_lt_of_le hlt f.size, by rw [f.cell (a := x.add j) (by rw [add_block]; exact hlt) (fun h => h)]; exact hc⟩⟩

set_option maxHeartbeats 4000000 in
theorem size_spec (n : Nat) (hn : n ≤ 4611686018427387903) (w : World) : Calls Tryd.prog 53 #[.int .i64 n] w fun e w' => e = .returned (.int .i64 ((encL n).length : Nat)) ∧ w = w' := by
  have h0 : (0 : Int) ≤ n := by omega
  have h1 : (n : Int) ≤ 4611686018427387903 := by omega
  go_enter Tryd.func53, Tryd.ntmps53
  go_wp2_with (fail)
  go_loop [0, 3] (fun x0 x3 => ∃ m s : Nat, x0 = .int .i64 m ∧ x3 = .int .i64 s ∧ m ≤ 4611686018427387903 ∧ s ≤ 9 ∧ Hid ((encL n).length + 1 = s + (encL m).length)) (fun x _ => (intOf x).toNat)
  case atStart => exact ⟨n, 1, int_i (by omega), rfl, hn, by omega, Lib.hid (Nat.add_comm _ _)⟩
  case round =>
    obtain ⟨m, s, rfl, rfl, hm, hs, HE⟩ := hrel
    have m0 : (0 : Int) ≤ m := by omega
    have m1 : (m : Int) ≤ 4611686018427387903 := by omega
    have HN := Lib.hid (encL_nine (n := n) hn)
    by_cases h : 127 < m
    · have he := HE.out
      rw [encL_big (n := m) (by omega), List.length_cons] at he
      have hp := encL_pos (m / 128)
      have HE2 := Lib.hid he
      have hs2 : s + 1 ≤ 9 := by have := HN.out; omega
      clear he hp HE
      go_wp2_with (fail)
      go_round
      case rel => exact ⟨m / 128, s + 1, by go_num, by go_num, by omega, hs2, Lib.hid (by have := HE2.out; omega)⟩
      case measure => simp [intOf]; omega
    · have he := HE.out
      rw [encL_small (n := m) (by omega), List.length_singleton] at he
      have HE2 := Lib.hid (show s = (encL n).length by omega)
      clear he HE
      go_wp2_with (fail)
      go_ret
      exact ⟨by rw [← HE2.out]; rfl, rfl⟩

theorem Tryd.info5 : (Tryd.prog.info? 5).map (fun i => (i.zero, i.size, i.bytes)) = some (some (.int .u8 0), 1, 1) := by kernel_rfl

/-- Bytes as cells. -/
def bcl (l : List UInt8) : List Value := l.map fun c => .int .u8 (c.toNat : Int)
theorem bcl_app (l m : List UInt8) : bcl (l ++ m) = bcl l ++ bcl m := by simp [bcl]
theorem bcl_len (l : List UInt8) : (bcl l).length = l.length := by simp [bcl]
theorem bcl_one (l : List UInt8) : ∀ u ∈ bcl l, u.oneCell' = true := by
  intro u hu
  obtain ⟨b, _, rfl⟩ := List.mem_map.1 hu
  rfl

theorem Byts.cells {w : World} {x : Addr} {l : List UInt8} (h : Byts w (some x) l) : ∀ j u, (bcl l)[j]? = some u → w.cell? (x.add j) = some u := by
  intro j u hu
  have hj : j < l.length := by have := (List.getElem?_eq_some_iff.1 hu).1; rwa [bcl_len] at this
  obtain ⟨y, hy, _, hc⟩ := h.2 j hj
  injection hy with hy
  subst hy
  rw [hc, ← hu]
  simp [bcl, List.getElem?_eq_getElem hj, List.getD_eq_getElem?_getD]

/-- append of bytes to a row that the call owns. -/
theorem wpList_app_B {w : World} {ops : Array Oper} {rest : List Oper} {o : Oper} {a : Act} {Q : Exit → Act → World → Prop} (hgd : o.guard = none) (s x : Operand)
    (ho : o.op = .call { callee := .builtin .append, args := #[s, x], argTypes := #[33, 33] })
    (base : Nat) (v : Value) (n : Nat) (xs : List Value) (hs : a.eval s = v) (hown : w.ownsRow base 5 1 v n xs)
    (A : Option Addr) (cap : Nat) (l : List UInt8) (hx : a.eval x = .slice A l.length cap) (hst : Byts w A l) (hcap : A = none → cap = 0)
    (hle : n + l.length ≤ 140737488355328) (hbase : base ≤ w.heap.size)
    (h : ∀ v' w', w'.ownsRow base 5 1 v' (n + l.length) (xs ++ bcl l) → w.grownBy w' v.ownBlock → wpList Tryd.prog ops Q rest (a.put o.dst v') w') : wpList Tryd.prog ops Q (o :: rest) a w := by
  obtain ⟨i0, hi, hz0, hz1, hz2⟩ := info_parts Tryd.info5
  rcases A with _ | ad
  · have hL : l = [] := by
      cases l with
      | nil => rfl
      | cons b t => obtain ⟨x, hx, _⟩ := hst.2 0 (by simp); cases hx
    subst hL
    rw [hcap rfl] at hx
    refine wpList_append_own_none hgd s x 33 ho base 5 i0 1 Tryd.underlying33 hi v n xs hs hown hx (h v w (by simpa [bcl] using hown) (World.grownBy.refl w _))
  · exact wpList_append_own w hgd s x 33 ho base 5 i0 (.int .u8 0) 1 1 Tryd.underlying33 hi hz0 hz1 hz2 rfl (by decide) v n xs hs hown ad l.length cap (bcl l) hx (by rw [bcl_len]; simp) hst.cells (bcl_one l) (by unfold maxLen; omega) (by omega) hbase (fun v' w' h1 h2 _ => h v' w' h1 h2)

/-- A row of bytes that the call owns is bytes. -/
theorem owns_byts {w : World} {B : Nat} {v : Value} {l : List UInt8} (h : w.ownsRow B 5 1 v l.length (bcl l)) (hl : l.length ≤ 140737488355328) : ∃ ad cap, v = .slice ad l.length cap ∧ Byts w ad l ∧ (ad = none → cap = 0) := by
  rcases h.2 with ⟨rfl, h0⟩ | ⟨g, cap, cur, rfl, _, hg, _, _, _, ht⟩
  · exact ⟨none, 0, by rw [h0], ⟨hl, fun j hj => by omega⟩, fun _ => rfl⟩
  · refine ⟨some ⟨g, 0, none⟩, cap, rfl, ⟨hl, fun j hj => ⟨_, rfl, lt_of_block hg, ?_⟩⟩, fun h => by cases h⟩
    have e : (bcl l)[j]? = some (.int .u8 ((l.getD j 0).toNat : Int)) := by simp [bcl, List.getElem?_eq_getElem hj, List.getD_eq_getElem?_getD]
    rw [← ht, List.getElem?_take_of_lt (by omega)] at e
    have e2 : cur[j]? = some (.int .u8 ((l.getD j 0).toNat : Int)) := by rw [← Array.getElem?_toList]; exact e
    rw [show (⟨g, 0, none⟩ : Addr).add j = ⟨g, j, none⟩ by simp [Addr.add]; exact Eq.symm]
    exact Blk.cell hg j e2

theorem byts_new (w : World) (c : UInt8) (n : Nat) (hn : n = w.heap.size) (z : Int) (hz : z = (c.toNat : Int)) : Byts (w.alloc (.cells #[.int .u8 z] 5)) (some ⟨n, 0, none⟩) [c] := by
  subst hn
  subst hz
  refine ⟨by simp, fun j hj => ⟨_, rfl, by simp, ?_⟩⟩
  obtain rfl : j = 0 := by simp at hj; omega
  exact (Blk.new w 5 #[.int .u8 (c.toNat : Int)]).cell 0 rfl

theorem or_128 (m : Nat) (hm : m ≤ 4611686018427387903) : bits BinOp.or IntKind.i64 (bits BinOp.and IntKind.i64 (m : Int) 127) 128 = ((128 + m % 128 : Nat) : Int) := by
  have hk : ∀ n : Int, 0 ≤ n → n < 2 ^ 63 → IntKind.i64.wrap n = n := fun n h0 h1 => by rw [IntKind.wrap_i64]; have : n < 9223372036854775808 := h1; omega
  have h := bits_mask .i64 63 (by decide) hk 7 (by decide) (m : Int) (by omega) (by show (m : Int) < 9223372036854775808; omega)
  rw [show ((2 : Int) ^ 7 - 1) = 127 from rfl, show ((2 : Int) ^ 7) = 128 from rfl] at h
  rw [h, show (m : Int) % 128 = ((m % 128 : Nat) : Int) by omega]
  have h2 := (bits_nat .i64 63 (by decide) hk (m % 128) 128 (by have : m % 128 < 128 := Nat.mod_lt _ (by decide); exact Nat.lt_of_lt_of_le this (by decide)) (by decide)).2
  rw [show ((128 : Nat) : Int) = 128 from rfl] at h2
  rw [h2, Nat.or_comm, show 128 = 2 ^ 7 * 1 from rfl, ← Nat.two_pow_add_eq_or_of_lt (Nat.mod_lt _ (by decide)) 1]

set_option maxHeartbeats 8000000 in
theorem put_spec (a : Option Addr) (l : List UInt8) (cap n : Nat) (w : World) (hb : Byts w a l) (hcap : a = none → cap = 0) (hl : l.length ≤ 1000) (hn : n ≤ 4611686018427387903) :
    Calls Tryd.prog 25 #[.slice a l.length cap, .int .i64 n] w fun e w' => ∃ a' cap', e = .returned (.slice a' (l ++ encL n).length cap') ∧ Byts w' a' (l ++ encL n) ∧ (a' = none → cap' = 0) ∧ Fr (fun _ => False) w w' := by
  obtain ⟨i0, hi, hz0, hz1, hz2⟩ := info_parts Tryd.info5
  have h0 : (0 : Int) ≤ n := by omega
  have h1 : (n : Int) ≤ 4611686018427387903 := by omega
  have hmin : min (n : Int) 4611686018427387903 = n := by omega
  have hs9 := encL_nine (n := n) hn
  have hsp := encL_pos n
  have HSZ := Lib.hid (fun wx => size_spec n hn wx)
  obtain ⟨z, hz⟩ : ∃ z, z = (encL n).length := ⟨_, rfl⟩
  rw [← hz] at HSZ hs9 hsp
  have HZ := Lib.hid hz
  have HB := Lib.hid hb
  have HC := Lib.hid hcap
  clear hz hb hcap
  go_enter Tryd.func25, Tryd.ntmps25
  go_wp2_with (first
    | (go_at_call 53; refine (HSZ.out _).mono ?_; rintro e w1 ⟨rfl, rfl⟩)
    | (refine wpList_make_own _ rfl _ _ 33 rfl w.heap.size 5 i0 (.int .u8 0) 1 Tryd.underlying33 hi hz0 hz1 .i64 .i64 _ (l.length + z) rfl rfl (by push_cast; rfl) (by rw [hz2]; omega) (by unfold maxLen; omega) (Nat.le_refl _) ?_; intro w2 hown2 hg2; have HO2 := Lib.hid hown2; have HW2 := Lib.hid ((Below.refl w.heap.size w).grown hg2 (Nat.le_refl _) (fun k hk => by cases hk)); clear hown2 hg2)
    | (at_builtin; refine wpList_app_B rfl (.tmp 14) (.tmp 15) rfl w.heap.size _ 0 [] rfl HO2.out a cap l rfl (HB.out.fr1 (Fr.ofBelow HW2.out _)) HC.out (by omega) HW2.out.size ?_; intro v3 w3 hown3 hg3; have HW3 := Lib.hid (HW2.out.grown hg3 HW2.out.size (fun j hj => (HO2.out.lt j hj).1)); have HO3 := Lib.hid hown3; clear hown3 hg3))
  go_loopw [1, 5, 20] (fun x1 x5 x20 wr => ∃ (k m : Nat) (pre : List UInt8), x20 = .int .i64 k ∧ x1 = .int .i64 m ∧ Hid (encL n = pre ++ encL m) ∧ Hid (pre.length = k) ∧ m ≤ 4611686018427387903 ∧ k + 1 ≤ z ∧ Hid (wr.ownsRow w.heap.size 5 1 x5 (l.length + k) (bcl (l ++ pre))) ∧ Hid (Below w.heap.size w wr)) (fun _ _ x _ => z - (intOf x).toNat)
  case atStart => exact ⟨0, n, [], rfl, rfl, Lib.hid rfl, Lib.hid rfl, hn, hsp, Lib.hid (by rw [List.append_nil]; have := HO3.out; rw [Nat.zero_add] at this; exact this), HW3⟩
  case round =>
    obtain ⟨k, m, pre, rfl, rfl, HE, HP, hm, hk, HO, HW⟩ := hrel
    have m0 : (0 : Int) ≤ m := by omega
    have m1 : (m : Int) ≤ 4611686018427387903 := by omega
    have hlen : (encL m).length = z - k := by have := congrArg List.length HE.out; rw [List.length_append, ← HZ.out, HP.out] at this; omega
    have HL := Lib.hid hlen
    clear hlen hmin
    by_cases h : k + 1 < z
    · have hm128 : ¬ m < 128 := fun h2 => by have := HL.out; rw [encL_small h2, List.length_singleton] at this; omega
      have e1 : bits BinOp.or IntKind.i64 (bits BinOp.and IntKind.i64 (m : Int) 127) 128 = 128 + (m : Int) % 128 := by rw [or_128 m hm]; omega
      have e2 : IntKind.u8.wrap (128 + (m : Int) % 128) = 128 + (m : Int) % 128 := IntWalk.u8_in _ ⟨by omega, by omega⟩
      have HE2 := Lib.hid (show encL n = (pre ++ [UInt8.ofNat (128 + m % 128)]) ++ encL (m / 128) by rw [HE.out, encL_big hm128, List.append_assoc]; rfl)
      have HP2 := Lib.hid (show (pre ++ [UInt8.ofNat (128 + m % 128)]).length = k + 1 by rw [List.length_append, HP.out]; rfl)
      have hlt : (k : Int) < (z : Int) - 1 := by omega
      go_wp2_with (at_builtin; refine wpList_app_B rfl (.tmp 22) (.tmp 27) rfl w.heap.size _ (l.length + k) (bcl (l ++ pre)) rfl (HO.out.alloc _) (some ⟨wr.heap.size, 0, none⟩) 1 [UInt8.ofNat (128 + m % 128)] rfl (byts_new wr _ _ rfl _ (by rw [UInt8.toNat_ofNat']; omega)) (fun h => by cases h) (by simp; omega) (Nat.le_trans HW.out.size (by simp)) ?_; intro v4 w4 hown4 hg4; have HW4 := Lib.hid ((HW.out.alloc HW.out.size _).grown hg4 (Nat.le_trans HW.out.size (by simp)) (fun j hj => (HO.out.lt j hj).1)); have HO4 := Lib.hid hown4; clear hown4 hg4)
      go_roundw
      case rel => exact ⟨k + 1, m / 128, _, by go_num, by go_num, HE2, HP2, by omega, h, Lib.hid (by have := HO4.out; rw [← bcl_app, List.append_assoc] at this; exact this), HW4⟩
      case measure => simp [intOf]; omega
    · have hkz : k + 1 = z := by omega
      have hm128 : m < 128 := by
        rcases Nat.lt_or_ge m 128 with h2 | h2
        · exact h2
        · have := HL.out; rw [encL_big (by omega), List.length_cons] at this; have := encL_pos (m / 128); omega
      have e2 : IntKind.u8.wrap (m : Int) = (m : Int) := IntWalk.u8_in _ ⟨by omega, by omega⟩
      have HE2 := Lib.hid (show encL n = pre ++ [UInt8.ofNat m] by rw [HE.out, encL_small hm128])
      have hge : (z : Int) - 1 ≤ (k : Int) := by omega
      have HKZ := Lib.hid hkz
      clear hkz
      go_wp2_with (at_builtin; refine wpList_app_B rfl (.tmp 32) (.tmp 35) rfl w.heap.size _ (l.length + k) (bcl (l ++ pre)) rfl (HO.out.alloc _) (some ⟨wr.heap.size, 0, none⟩) 1 [UInt8.ofNat m] rfl (byts_new wr _ _ rfl _ (by rw [UInt8.toNat_ofNat']; omega)) (fun h => by cases h) (by simp; omega) (Nat.le_trans HW.out.size (by simp)) ?_; intro v4 w4 hown4 hg4; have HW4 := Lib.hid ((HW.out.alloc HW.out.size _).grown hg4 (Nat.le_trans HW.out.size (by simp)) (fun j hj => (HO.out.lt j hj).1)); have HO4 := Lib.hid hown4; clear hown4 hg4)
      have hx := HO4.out
      rw [← bcl_app, List.append_assoc, ← HE2.out] at hx
      have hn2 : l.length + k + [UInt8.ofNat m].length = (l ++ encL n).length := by rw [HE2.out, List.length_append, List.length_append, HP.out, Nat.add_assoc]
      rw [hn2] at hx
      obtain ⟨ad, cap', hv, hby, hcc⟩ := owns_byts hx (by rw [List.length_append, ← HZ.out]; omega)
      go_ret
      exact ⟨ad, cap', by rw [← hv]; rfl, hby, hcc, Fr.ofBelow HW4.out _⟩
end Go.Proofs.YtlfaeabbfejjcaaDoor
