/- TopAppend: for every text, bytes added, and block length and strength: the law answers true (of a text that was only added to no more is told than was added and the last block that was not whole; of one that is as it was nothing), and its arguments read as before. (Ahead of it: arguments opened: bytes, and two bytes by value.) -/
import Derived.Test.YtphjebbjhfnhoaaTo
import Derived.Outline
import Derived.OpenShut
import Derived.WideShapes
import Derived.ChangeAt
import Derived.Test.YtphjebbjhfnhoaaRows
import Derived.ProofKit
namespace Go.Proofs.Ytphjebbjhfnhoaa
open Go.ChangeShapes Go.WideShapes Go.ChangeAt Go.RowKit
section
variable {H : Type} {enc : TypeId × Value → H} {P : Program} {w : World} {base : Nat} {spare : Nat → Bool} {held : Bool} {r : Reach} {b0 : Nat} {t e : TypeId} {v : Value} {d : DataW H} {p : List MemPlace}
theorem open_A (ht : P.underlying t = some (.slice e)) (he : P.underlying e = some (.int .u8)) (ce : P.cellsOf e = 1)
    (hv : Value.okWide P w r b0 t v) (h : DataW.Trod enc P w base spare held t v d p) : ∃ a l cap, v = .slice a (List.length l) cap ∧ ArgB w a cap l := by
  obtain ⟨a, n, cap, rfl⟩ := okWide_slice ht hv
  obtain ⟨fuel, hf⟩ := h
  rcases open_ints ht he ce hf with ⟨hcs, _⟩ | ⟨x, l, c, zs, hcs, _, hl, hm, hzl, _, hx, hwf⟩
  · simp [Value.cells] at hcs
    obtain ⟨rfl, rfl, rfl⟩ := hcs
    exact ⟨none, [], 0, rfl, fun j c hj => by simp at hj, Nat.le_refl _, by decide⟩
  · simp [Value.cells] at hcs
    obtain ⟨rfl, rfl, rfl⟩ := hcs
    have hlz : n ≤ zs.length := by rw [hzl]; split <;> omega
    refine ⟨some x, (zs.take n).map (fun z => UInt8.ofNat z.toNat), cap, by simp [Nat.min_eq_left hlz], ?_, by simp; omega, hm⟩
    intro j c hj
    rw [List.getElem?_map] at hj
    obtain ⟨z, hz, rfl⟩ := Option.map_eq_some_iff.1 hj
    have hjn : j < n := by have := (List.getElem?_eq_some_iff.1 hz).1; rw [List.length_take] at this; omega
    have hjz : j < zs.length := by omega
    rw [List.getElem?_take_of_lt hjn] at hz
    have hc := hx j hjz
    rw [List.getD_eq_getElem?_getD, hz] at hc
    have hw : 0 ≤ z ∧ z ≤ 255 := by
      have := hwf _ (List.mem_of_getElem? hz)
      simp only [Lit.wf, Bool.and_eq_true, decide_eq_true_eq] at this
      exact this
    have h00 := hx 0 (by omega)
    obtain ⟨g, o, sp⟩ := x
    have hsp : sp = none := by
      cases sp with
      | none => rfl
      | some q =>
        have : w.cell? ⟨g, o, some q⟩ = none := by
          unfold World.cell?
          split
          · rfl
          · rfl
        rw [show (⟨g, o, some q⟩ : Addr).add 0 = ⟨g, o, some q⟩ from rfl, this] at h00
        cases h00
    subst hsp
    rw [Addr.add_mid] at hc
    refine ⟨g, o, rfl, ?_, ?_⟩
    · exact World.block_lt_of_cell? _ _ hc
    · rw [hc]
      congr 2
      show (z : Int) = _
      rw [UInt8.toNat_ofNat']
      omega
end
theorem array23 : Try.prog.underlying 23 = some (.array 2 5) := by kernel_rfl
theorem cells23 : Try.prog.cellsOf 23 = 2 := by kernel_rfl
theorem cells5 : Try.prog.cellsOf 5 = 1 := by kernel_rfl
set_option maxRecDepth 10000 in
theorem open_two {H : Type} {enc : TypeId × Value → H} {w : World} {base : Nat} {spare : Nat → Bool} {held : Bool} {r : Reach} {b0 : Nat} {v : Value} {d : DataW H} {p : List MemPlace}
    (hv : Value.okWide Try.prog w r b0 23 v) (h : DataW.Trod enc Try.prog w base spare held 23 v d p) : ∃ a b : Nat, a < 256 ∧ b < 256 ∧ v = .agg #[.int .u8 (a : Int), .int .u8 (b : Int)] := by
  obtain ⟨cs, rfl, hsz, _⟩ := (show ∃ cs, v = .agg cs ∧ cs.size = Try.prog.cellsOf 23 ∧ Row.okWide Try.prog w r b0 23 cs from by
    simp only [Value.okWide, array23] at hv
    exact hv)
  rw [cells23] at hsz
  obtain ⟨fuel, hf⟩ := h
  obtain ⟨xs, m, _, _, _, hxl, hx⟩ := DataW.trod_array array23 hf
  rw [cells5] at hx
  have one : ∀ i, i < 2 → ∃ n : Nat, n < 256 ∧ cs[i]? = some (.int .u8 (n : Int)) := by
    intro i hi
    have h1 := hx i hi
    rw [List.getElem?_eq_getElem (by omega)] at h1
    have hl1 : ((Value.agg cs).cells.toList.drop (i * 1)).take 1 = [cs[i]] := by
      simp only [Value.cells, Nat.mul_one]
      rw [List.drop_eq_getElem_cons (by simpa using (show i < cs.size by omega))]
      simp
    rw [hl1] at h1
    obtain ⟨n, e1, _, hwf⟩ := DataW.trod_int Try.und5 h1
    simp only [Lit.wf, Bool.and_eq_true, decide_eq_true_eq] at hwf
    have hb : 0 ≤ n ∧ n ≤ 255 := hwf
    refine ⟨n.toNat, by omega, ?_⟩
    rw [Array.getElem?_eq_getElem (by omega)]
    have e2 : cs[i] = .int .u8 n := by simpa using e1
    rw [e2, Int.toNat_of_nonneg hb.1]
  obtain ⟨a, ha, ea⟩ := one 0 (by decide)
  obtain ⟨b, hb, eb⟩ := one 1 (by decide)
  refine ⟨a, b, ha, hb, ?_⟩
  congr 1
  obtain ⟨l⟩ := cs
  match l, hsz with
  | [c0, c1], _ =>
    simp only [List.getElem?_toArray, List.getElem?_cons_zero, List.getElem?_cons_succ, Option.some.injEq] at ea eb
    rw [ea, eb]
end Go.Proofs.Ytphjebbjhfnhoaa

namespace Go.Proofs.Ytphjebbjhfnhoaa
open Go.RowKit
theorem walk (old more : List UInt8) (ad0 ad1 : Option Addr) (c0 c1 : Nat) (a b : Nat) (ha : a < 256) (hb : b < 256) (w : World) (h0 : ArgB w ad0 c0 old) (h1 : ArgB w ad1 c1 more) :
    Calls Try.prog 3 #[.slice ad0 old.length c0, .slice ad1 more.length c1, .agg #[.int .u8 (a : Int), .int .u8 (b : Int)]] w fun e w' => e = .returned (.bool true) ∧ Go.RowKit.Below w.heap.size w w' :=
  (append_spec old more ad0 ad1 c0 c1 a b ha hb w h0 h1).mono fun _ _ ⟨x, y⟩ => ⟨x, y.below (Nat.le_refl _) (fun _ _ z => z)⟩
open Go.ChangeShapes Go.WideShapes Go.ChangeAt Go.RowKit
set_option linter.unusedVariables false
namespace topAppend
theorem own : ownKnob Try.prog.godebug = none := by kernel_rfl
theorem laidOut : laidOutB Try.prog = true := by kernel_rfl

set_option maxRecDepth 100000 in
theorem lifted (os : Os) (started : os.Started) (H : Type) (enc : TypeId × Value → H) :
    ReturnsInHanded {} Try.checked os 3 .any (Rows.topAppendSpec.pre6 enc Try.prog Try.f3 Rows.topAppendRow.domain false) (Rows.topAppendSpec.post enc Try.prog Try.f3 false true false false) := by
  refine returnsInHanded_of_change (C := Try.checked) own started (by kernel_rfl) Try.func3
    (ChangeSpec.witness6 (enc := enc) (C := Try.checked) false ⟨#[], #[.slice none 0 0, .slice none 0 0, .agg #[.int .u8 0, .int .u8 0]], []⟩ 8 (by kernel_rfl) (by kernel_rfl) (by kernel_rfl) (by kernel_rfl)) ?_
  intro W base args ds gs before hval0 hW hcnd _
  have hval : ∀ (j : Nat) t v, Try.f3.params[j]? = some t → args[j]? = some v → Value.okWide Try.prog W .any base t v := hval0
  have hW' := hW
  obtain ⟨p, q, hA0, hV, rfl, hfz, hnd⟩ := hW
  have hA : DataW.TrodAll enc Try.prog W 0 (fun _ => true) true Try.f3.params.toList args.toList ds p := hA0
  rw [Try.params3] at hA hval
  obtain ⟨v0, vs0, d0, ds0, p0, q0, hargs, rfl, rfl, h0, r0⟩ := trodAll_cons hA
  obtain ⟨v1, vs1, d1, ds1, p1, q1, rfl, rfl, rfl, h1, r1⟩ := trodAll_cons r0
  obtain ⟨v2, vs2, d2, ds2, p2, q2, rfl, rfl, rfl, h2, r2⟩ := trodAll_cons r1
  obtain ⟨rfl, rfl, rfl⟩ := trodAll_nil r2
  obtain rfl : args = #[v0, v1, v2] := by cases args; simp_all
  obtain ⟨rfl, rfl⟩ := trodVars_none hV
  have k0 := h0
  have lt0 : ∀ x ∈ p0, x.block < W.heap.size := by obtain ⟨m, hm⟩ := k0; exact DataW.trod_lt m _ _ _ hm
  have k1 := h1
  have lt1 : ∀ x ∈ p1, x.block < W.heap.size := by obtain ⟨m, hm⟩ := k1; exact DataW.trod_lt m _ _ _ hm
  have k2 := h2
  have lt2 : ∀ x ∈ p2, x.block < W.heap.size := by obtain ⟨m, hm⟩ := k2; exact DataW.trod_lt m _ _ _ hm
  obtain ⟨a0, l0, c0, rfl, x0⟩ := open_A Try.underlying22 Try.und5 cells5 (hval 0 22 v0 rfl rfl) h0
  obtain ⟨a1, l1, c1, rfl, x1⟩ := open_A Try.underlying22 Try.und5 cells5 (hval 1 22 v1 rfl rfl) h1
  obtain ⟨a2, b2, x2, y2, rfl⟩ := open_two (hval 2 23 v2 rfl rfl) h2
  clear hA0 hval0
  refine (walk l0 l1 a0 a1 c0 c1 a2 b2 x2 y2 W x0 x1).mono fun e W' ⟨he, bel⟩ => ?_
  subst he
  exact ⟨_, rfl, _, _, _, [], _, [], hW', trodAll_mk1 (shut_bool Try.underlying4 _), (trodAll_cons_mk (Below.trod laidOut (by kernel_rfl) (of_decide_eq_true (by kernel_rfl)) k0 bel lt0) (trodAll_cons_mk (Below.trod laidOut (by kernel_rfl) (of_decide_eq_true (by kernel_rfl)) k1 bel lt1) (trodAll_cons_mk (Below.trod laidOut (by kernel_rfl) (of_decide_eq_true (by kernel_rfl)) k2 bel lt2) trodAll_mk0))), rfl, bel.frame _, fun h => by cases h⟩

theorem over : Rows.topAppendRow.holds Try.pinned (OpenSpec.ofChange Rows.topAppendSpec) :=
  OpenClaim.holds_of_wide 3 Try.f3 rfl rfl rfl rfl rfl rfl rfl ⟨rfl, rfl, rfl, rfl, rfl⟩ rfl rfl rfl rfl rfl (by kernel_rfl) Try.func3 (by kernel_rfl)
    (of_decide_eq_true (by kernel_rfl)) (by unfold Func.isWrapper; first | (rw [if_pos (by decide +kernel)]; kernel_rfl) | (rw [if_neg (by decide +kernel)]; exact ⟨rfl, rfl⟩))
    (fun os started H enc _ => lifted os started H enc)

theorem proved : Rows.TopAppendSaid := over
#print axioms proved
end topAppend
end Go.Proofs.Ytphjebbjhfnhoaa
