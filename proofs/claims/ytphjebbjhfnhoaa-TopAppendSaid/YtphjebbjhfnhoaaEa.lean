/- blocks: Each. -/
import Derived.Test.YtphjebbjhfnhoaaRg
import Derived.Test.YtphjebbjhfnhoaaAp
import Derived.RangeFuncNested
import Derived.RangeFuncBound
import Derived.RangeFuncCalls
import Derived.RangeFuncLeaves
import Derived.Shelf.Abstract
import Derived.Shelf.RegionOpen
import Derived.OwnWalkIn
import Derived.TacticsInMore
import Derived.LoopNIn
import Derived.LoopIn
namespace Go.Proofs.Ytphjebbjhfnhoaa
open Go.RowKit Go.Shelf
attribute [local go_sem] Oper.semAt_some

theorem wpListIn_app {F : Fence} {k : Nat} {P : Program} {w : World} {ops : Array Oper} {rest : List Oper} {o : Oper} {a : Act} {Q : Exit → Act → World → Prop} (hgd : o.guard = none) (s x : Operand) (t tx : TypeId)
    (ho : o.op = .call { callee := .builtin .append, args := #[s, x], argTypes := #[t, tx] }) (e : TypeId) (z : Value) (sz by_ : Nat) (ht : P.underlying t = some (.slice e)) (hi : (P.info? e).map (fun i => (i.zero, i.size, i.bytes)) = some (some z, sz, by_)) (hzs : z.cells.size = sz)
    (v : Value) (n : Nat) (xs : List Value) (hv : a.eval s = v) (hown : Sl w e sz v n xs) (vx : Value) (m : Nat) (news : List Value) (hx : a.eval x = vx) (hs : Src P sz tx vx m news w)
    (h63 : n + m ≤ maxLen) (hbytes : (n + m) * by_ ≤ 140737488355328)
    (h : ∀ v' w', Sl w' e sz v' (n + m) (xs ++ news) → Fr (fun k => v.ownBlock = some k) w w' → (v'.ownBlock = v.ownBlock ∨ v'.ownBlock = some w.heap.size) → wpListIn F k P ops Q rest (a.put o.dst v') w') :
    wpListIn F k P ops Q (o :: rest) a w := by
  refine wpListIn_plain hgd fun K hK => ?_
  obtain ⟨i, hi1, hi2, hi3, hi4⟩ := info_parts hi
  obtain ⟨v', w', hr, h2, h3, h4⟩ := run_append_sl (P := P) w t tx o.type e i z sz by_ ht hi1 hi2 hi3 hi4 hzs v n xs hown vx m news hs h63 hbytes
  unfold Oper.wpIn
  refine ⟨?_, ?_⟩
  · simp [Oper.about, ho, resolve, Target.leads, Sem.run_pure]
  · rw [Oper.semAt_plain F _ _ (by rw [ho]; intro c hc'; cases hc')]
    simp [execOp, ho, resolve, invoke, builtin, hv, hx, hr, Result.andThen]
    exact hK _ _ (h v' w' h2 h3 h4)

/-- A block of bytes. -/
def blk (l : List UInt8) (B i : Nat) : List UInt8 := (l.drop (i * B)).take B
theorem blk_length (l : List UInt8) (B i : Nat) : (blk l B i).length = min B (l.length - i * B) := by simp [blk]
theorem Try.sl22 : Try.prog.underlying 22 = some (.slice (Try.prog.elem 22)) := by kernel_rfl
theorem Try.elem22 (w : World) : (sizeOf (Try.prog.elem 22)).run Try.prog w = .ok 1 w := by kernel_rfl
theorem slice22 (g o n cap lo hi : Nat) (h1 : lo ≤ hi) (h2 : hi ≤ cap) (h3 : lo < cap) (w : World) :
    (Instr.slice 22 (.slice (some ⟨g, o, none⟩) n cap) (some (.int .i64 (lo : Int))) (some (.int .i64 (hi : Int))) none).run Try.prog w = .ok (.slice (some ⟨g, o + lo, none⟩) (hi - lo) (cap - lo)) w := by
  rw [run_slice_lh (h := (hi : Int)) (l := (lo : Int)) (ht := Try.sl22) (h0 := by omega) (h1 := by omega) (h2 := by omega), Try.elem22]
  show Result.ok (sliced (some ⟨g, o, none⟩) (lo : Int).toNat (hi : Int).toNat cap 1) w = _
  unfold sliced
  rw [Int.toNat_natCast, Int.toNat_natCast, if_neg (by omega), Nat.mul_one]
  simp only [Option.map_some, Addr.add_mid]
set_option maxRecDepth 100000 in
set_option maxHeartbeats 4000000 in
theorem each1_in (n lp b1 b2 : Nat) (ad : Option Addr) (cap B : Nat) (l : List UInt8) (hB : isB B) (hl : l.length ≤ 131072) (hc : l.length ≤ cap) (hcm : cap ≤ maxLen) (J : Nat → World → Prop)
    (hJ1 : ∀ i A, J i A → A.cell? ⟨b1, 0, none⟩ = some (.slice ad l.length cap) ∧ A.cell? ⟨b2, 0, none⟩ = some (.int .i64 (B : Int)) ∧ Byt A ad l)
    (hJ2 : ∀ i A A', J i A → Fr (fun _ => False) A A' → J i A')
    (hY : ∀ i A v, i < cnt l.length B → J i A → SlB A v (blk l B i) → YieldAt Fence.wide (n - 1) Try.prog lp #[.int .i64 (i : Int), v] A fun e A' => e = .returned (.bool true) ∧ J (i + 1) A')
    (W : World) (h0 : J 0 W) :
    CallsIn Fence.wide n Try.prog 30 #[.func (.yield lp) #[] #[], .pointer (some ⟨b1, 0, none⟩), .pointer (some ⟨b2, 0, none⟩)] W fun e W' => (∃ v, e = .returned v) ∧ J (cnt l.length B) W' := by
  obtain ⟨m, hm⟩ : ∃ m, m = l.length := ⟨_, rfl⟩
  have HC := Lib.hid (fun wx => count_spec l.length B hl hB wx)
  have HR := Lib.hid (fun i wx hi => range_in l.length B i hl hB hi wx)
  have hcn := cnt_le l.length B hB
  rw [← hm] at HC HR hcn hl hc hY ⊢
  simp only [← hm] at hJ1
  have m1 : (m : Int) ≤ 131072 := by omega
  have HM := Lib.hid hm
  have HB := Lib.hid hB
  have HCM := Lib.hid hcm
  obtain ⟨N, hN⟩ : ∃ N, N = cnt m B := ⟨_, rfl⟩
  rw [← hN] at HC hY hcn HR ⊢
  have HNN := Lib.hid hN
  have HYY := Lib.hid hY
  have HJ1 := Lib.hid hJ1
  have HJ2 := Lib.hid hJ2
  have HL := Lib.hid hl
  have HCP := Lib.hid hc
  have N1 : (N : Int) ≤ 131072 := by omega
  have c1 := (hJ1 0 W h0).1
  have c2 := (hJ1 0 W h0).2.1
  have H0 := Lib.hid h0
  clear hm hB hN hY hJ1 hJ2 hcn hl hc h0 hcm
  refine callsIn_of_wp Try.func30 rfl trivial ?_ rfl
  simp only [Try.ntmps30, List.size_toArray, List.length_cons, List.length_nil, Nat.reduceAdd, Nat.reduceSub, Array.replicate_succ, Array.replicate_zero, List.push_toArray, List.append_toArray, List.nil_append, List.cons_append]
  gi_wp2_with (first
    | (refine ⟨trivial, fun q => absurd q (by decide), ?_⟩; gi_at_call 31; refine (callsIn_wide.2 (HC.out _)).mono ?_; rintro e w2 ⟨rfl, rfl⟩)
    | fail)
  gi_loopw [12] (fun x12 wr => ∃ i : Nat, i ≤ N ∧ x12 = .int .i64 i ∧ Hid (J i wr)) (fun x12 _ => N - (intOf x12).toNat)
  case atStart => exact ⟨0, Nat.zero_le _, rfl, H0⟩
  case round =>
    obtain ⟨i, hi, rfl, HJ⟩ := hrel
    have i1 : (i : Int) ≤ 131072 := by omega
    obtain ⟨d1, d2, hby⟩ := HJ1.out i wr HJ.out
    by_cases hin : i < N
    · have i2 : (i : Int) < (N : Int) := by omega
      have hlo : i * B < m := by
        have h1 := HNN.out
        rw [h1] at hin
        unfold cnt at hin
        rcases HB.out with rfl | rfl | rfl <;> omega
      have HIN := Lib.hid hin
      obtain ⟨g, o, rfl⟩ : ∃ g o, ad = some ⟨g, o, none⟩ := by
        obtain ⟨g, o, e, _⟩ := hby 0 _ (List.getElem?_eq_getElem (by rw [← HM.out]; omega))
        exact ⟨g, o, e⟩
      have HBY := Lib.hid hby
      clear hby hin
      obtain ⟨lo, hlo2⟩ : ∃ lo, lo = i * B := ⟨_, rfl⟩
      obtain ⟨hi2, hhi⟩ : ∃ hi2, hi2 = min m ((i + 1) * B) := ⟨_, rfl⟩
      have hle : lo ≤ hi2 := by rw [hlo2, hhi, Nat.add_mul]; omega
      have hcap : hi2 ≤ cap := by rw [hhi]; have := HCP.out; omega
      have HRR := Lib.hid (fun wx => HR.out i wx HIN.out)
      rw [← hlo2, ← hhi] at HRR
      have hsl := fun wx => slice22 g o m cap lo hi2 hle hcap (by have := HCP.out; omega) wx
      have HBK := Lib.hid (show blk l B i = (l.drop lo).take (hi2 - lo) by
        unfold blk
        rw [← hlo2]
        by_cases hfull : (i + 1) * B ≤ m
        · rw [show hi2 - lo = B by rw [hhi, hlo2, Nat.min_eq_right hfull, Nat.add_mul]; omega]
        · rw [List.take_of_length_le (by rw [List.length_drop, ← HM.out]; rw [Nat.add_mul] at hfull; omega), List.take_of_length_le (by rw [List.length_drop, ← HM.out, hhi, Nat.min_eq_left (by omega)]; omega)])
      have hlen : (blk l B i).length = hi2 - lo := by rw [HBK.out, List.length_take, List.length_drop, ← HM.out]; have : hi2 ≤ m := by (rw [hhi]; omega)
                                                      omega
      have HLEN := Lib.hid hlen
      have hsrc : Byt wr (some ⟨g, o + lo, none⟩) (blk l B i) := by
        rw [HBK.out]
        intro j c hj
        have hjl : j < hi2 - lo := by
          have := (List.getElem?_eq_some_iff.1 hj).1
          rw [List.length_take] at this; omega
        rw [List.getElem?_take_of_lt hjl, List.getElem?_drop] at hj
        obtain ⟨g', o', e, hl1, hc1⟩ := HBY.out (lo + j) c hj
        cases e
        exact ⟨g, o + lo, rfl, hl1, by rw [Nat.add_assoc]; exact hc1⟩
      have hS := Lib.hid (src_byt (P := Try.prog) (tx := 22) Try.underlying22 (cap := cap - lo) hsrc)
      rw [hlen] at hS
      have hb2 : (hi2 - lo) ≤ 131072 := by have := HL.out; omega
      have HB2 := Lib.hid hb2
      clear hle hcap hlen hsrc hb2 hlo hlo2 hhi
      gi_wp2_with (first
        | (refine ⟨trivial, fun q => absurd q (by decide), ?_⟩; gi_at_call 32; refine (callsIn_wide.2 (HRR.out _)).mono ?_; rintro e w2 ⟨rfl, rfl⟩)
        | (gi_at_builtin; refine wpListIn_app rfl (.const (.slice none 0 0)) (.tmp 29) 22 22 rfl 5 (.int .u8 0) 1 1 Try.underlying22 Try.info5 rfl _ 0 [] rfl (Sl.nil _ 5 1) _ (hi2 - lo) _ rfl hS.out (by have := HB2.out; unfold maxLen; omega) (by have := HB2.out; omega) ?_; intro v' w9 h1 h2 h3; have HV := Lib.hid (show SlB w9 v' (blk l B i) by (unfold SlB; rw [HLEN.out]; simpa using h1)); have HJ9 := Lib.hid (HJ2.out i _ w9 HJ.out (h2.mono (fun k _ e => by cases e))); obtain ⟨fn, tmps, assign, body, hy, hR⟩ := HYY.out i w9 v' HIN.out HJ9.out HV.out)
        | fail)
      refine ⟨fun q => absurd q (by decide), hR.mono ?_⟩
      rintro e W3 ⟨rfl, hJ3⟩
      have HJ3 := Lib.hid hJ3
      clear hJ3 hR hy
      gi_wp2
      go_roundw
      case rel => exact ⟨i + 1, HIN.out, by go_num, HJ3⟩
      case measure => have := HIN.out; simp [intOf]; omega
    · obtain rfl : i = N := by omega
      clear hin d1 d2 hby
      gi_wp2
      go_end0
      exact ⟨⟨_, rfl⟩, HJ.out⟩
/-- Each: its arguments boxed. -/
theorem each_spec (ad : Option Addr) (n cap : Nat) (B : Int) (w : World) : Calls Try.prog 20 #[.slice ad n cap, .int .i64 B] w fun e w' =>
    e = .returned (.func (.func 30) #[] #[.pointer (some ⟨w.heap.size, 0, none⟩), .pointer (some ⟨w.heap.size + 1, 0, none⟩)]) ∧ w' = (w.alloc (.cells #[.slice ad n cap] 22)).alloc (.cells #[.int .i64 B] 3) := by
  go_enter Try.func20, Try.ntmps20
  go_wp2_with (fail)
  go_ret
  exact ⟨by rfl, rfl⟩
end Go.Proofs.Ytphjebbjhfnhoaa
