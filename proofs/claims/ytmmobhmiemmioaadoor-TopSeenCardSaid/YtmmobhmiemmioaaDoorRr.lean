/- Rows of rules; Check. -/
import Derived.Test.YtmmobhmiemmioaaDoorRc
namespace Go.Proofs.YtmmobhmiemmioaaDoor
open Go.RowKit

section
variable {P : Program}
/-- A whole struct read at any address. -/
theorem run_loadVar_any (w : World) (p : Addr) (ty : TypeId) (cs : List Value) (d : TypeDesc) (hc : ∀ j v, cs[j]? = some v → w.cell? (p.add j) = some v)
    (hu : P.underlying ty = some d) (hd : d.isRow = true) (hi : (P.info? ty).map (·.size) = some cs.length) :
    (loadVar ty p).run P w = .ok (.agg cs.toArray) w := by
  have hl : (loadCells p cs.length).run P w = .ok cs.toArray w := run_loadCells_list (P := P) w p cs hc
  cases hq : P.info? ty with
  | none => simp [hq] at hi
  | some i =>
    have hs : i.size = cs.length := by simpa [hq] using hi
    have hagg : (isAgg ty).run P w = .ok true w := by
      unfold isAgg
      rw [Sem.run_bind, run_underlying hu w]
      cases d <;> simp_all
    simp [loadVar, Sem.run_bind, hagg, sizeOf, typeInfo, hq, hs, hl]
theorem wp_load_any {op : Oper} {a : Act} {w : World} {K : Act → World → Prop} {Q : Exit → Act → World → Prop} (ty : TypeId) (x : Operand) (ho : op.op = .load ty x)
    (p : Addr) (hx : a.eval x = .pointer (some p)) (cs : List Value) (d : TypeDesc) (hc : ∀ j v, cs[j]? = some v → w.cell? (p.add j) = some v)
    (hu : P.underlying ty = some d) (hd : d.isRow = true) (hi : (P.info? ty).map (·.size) = some cs.length)
    (h : K (a.put op.dst (.agg cs.toArray)) w) : op.wp P a w K Q := by
  unfold Oper.wp execOp
  simp only [ho, hx, Instr.loadAt, Instr.sureAddr, Sem.run_bind, Sem.run_pure, Result.andThen_ok, run_loadVar_any w p ty cs d hc hu hd hi]
  exact h
theorem wpList_load_any {ops : Array Oper} {rest : List Oper} {op : Oper} {a : Act} {w : World} {Q : Exit → Act → World → Prop} (hgd : op.guard = none) (ty : TypeId) (x : Operand) (ho : op.op = .load ty x)
    (p : Addr) (hx : a.eval x = .pointer (some p)) (cs : List Value) (d : TypeDesc) (hc : ∀ j v, cs[j]? = some v → w.cell? (p.add j) = some v)
    (hu : P.underlying ty = some d) (hd : d.isRow = true) (hi : (P.info? ty).map (·.size) = some cs.length)
    (h : wpList P ops Q rest (a.put op.dst (.agg cs.toArray)) w) : wpList P ops Q (op :: rest) a w :=
  wpList_plain hgd fun _ hK => wp_load_any ty x ho p hx cs d hc hu hd hi (hK _ _ h)
end

theorem Tryd.size36 : (Tryd.prog.info? 36).map (·.size) = some 4 := by kernel_rfl
/-- Rules lie in a row. -/
def RAt (w : World) (p : Addr) (r : R) : Prop := p.block < w.heap.size ∧ ∀ j v, r.cs[j]? = some v → w.cell? (p.add j) = some v
def RRow (w : World) (ad : Option Addr) (L : List R) : Prop := ∀ i r, L[i]? = some r → ∃ p, ad = some p ∧ RAt w (p.add (i * 4)) r
theorem add_blk (p : Addr) (j : Nat) : (p.add j).block = p.block := by
  unfold Addr.add; split <;> rfl
theorem RAt.fr {w w' : World} {p : Addr} {r : R} (h : RAt w p r) (f : Fr (fun _ => False) w w') : RAt w' p r :=
  ⟨Nat.lt_of_lt_of_le h.1 f.size, fun j v hj => by rw [f.cell (a := p.add j) (by rw [add_blk]; exact h.1) (fun x => x)]; exact h.2 j v hj⟩
theorem RRow.fr {w w' : World} {ad : Option Addr} {L : List R} (h : RRow w ad L) (f : Fr (fun _ => False) w w') : RRow w' ad L := fun i r hi => by
  obtain ⟨p, e, h⟩ := h i r hi
  exact ⟨p, e, h.fr f⟩
theorem RRow.nil (w : World) (ad : Option Addr) : RRow w ad [] := fun i r h => by simp at h

def chkR (r : R) : Int := chkS r.act r.pat
/-- The first fault. -/
def flt : List R → Int
  | [] => 0
  | r :: t => if chkR r = 0 then flt t else chkR r
def chkL (L : List R) : Int := if 64 < L.length then 7 else flt L
theorem flt_skip (L : List R) (n : Nat) (h : ∀ r ∈ L.take n, chkR r = 0) : flt L = flt (L.drop n) := by
  induction n generalizing L with
  | zero => rfl
  | succ n ih =>
    rcases L with _ | ⟨r, t⟩
    · rfl
    · rw [flt, if_pos (h r (by simp))]
      exact ih t (fun x hx => h x (by simp [hx]))
theorem flt_hit (L : List R) (n : Nat) (r : R) (h : ∀ x ∈ L.take n, chkR x = 0) (hr : L[n]? = some r) (hc : chkR r ≠ 0) : flt L = chkR r := by
  rw [flt_skip L n h]
  obtain ⟨hn, he⟩ := List.getElem?_eq_some_iff.1 hr
  rw [List.drop_eq_getElem_cons hn, he, flt, if_neg hc]
theorem flt_none (L : List R) (h : ∀ x ∈ L, chkR x = 0) : flt L = 0 := by
  have := flt_skip L L.length (fun r hr => h r (List.mem_of_mem_take hr))
  rw [this, List.drop_length]; rfl
theorem take_step {A : Type} {L : List A} {i : Nat} {x : A} {Pd : A → Prop} (h : ∀ y ∈ L.take i, Pd y) (hx : L[i]? = some x) (hp : Pd x) : ∀ y ∈ L.take (i + 1), Pd y := by
  intro y hy
  rw [List.take_add_one, hx] at hy
  rcases List.mem_append.1 hy with h' | h'
  · exact h y h'
  · have : y = x := by simpa using h'
    rw [this]; exact hp

set_option maxHeartbeats 2000000 in
theorem chkl_spec (ad : Option Addr) (L : List R) (cap : Nat) (w : World) (hL : L.length ≤ 9223372036854775807) (hr : RRow w ad L) (hp : ∀ r ∈ L, r.pat.size ≤ 9223372036854775807) :
    Calls Tryd.prog 4 #[.slice ad L.length cap] w fun e w' => e = .returned (.int .i64 (chkL L)) ∧ Fr (fun _ => False) w w' := by
  obtain ⟨n, hn⟩ : ∃ n, n = L.length := ⟨_, rfl⟩
  rw [← hn] at hL ⊢
  have HR := Lib.hid hr
  have HP := Lib.hid hp
  have HN := Lib.hid hn
  by_cases h64 : 64 < n
  · have e64 : (64 : Int) < (n : Int) := by omega
    have HE := Lib.hid (show chkL L = 7 by unfold chkL; rw [← hn, if_pos h64])
    clear hn hr hp
    go_enter Tryd.func4, Tryd.ntmps4
    go_wp2_with (fail)
    have he := HE.out
    go_ret
    exact ⟨by rw [he]; rfl, Fr.refl _ _⟩
  · have e64 : (n : Int) ≤ 64 := by omega
    have HE := Lib.hid (show chkL L = flt L by unfold chkL; rw [← hn, if_neg h64])
    clear hn hr hp h64
    go_enter Tryd.func4, Tryd.ntmps4
    go_wp2_with (fail)
    go_loopg [11] n (fun gk x11 wr => ∃ i : Nat, i ≤ n ∧ Hid (gk = n - i) ∧ x11 = .int .i64 i ∧ Hid (Fr (fun _ => False) w wr) ∧ Hid (∀ x ∈ L.take i, chkR x = 0))
    case atStart => exact ⟨0, Nat.zero_le _, Lib.hid rfl, rfl, Lib.hid (Fr.refl _ _), Lib.hid (fun x hx => by simp at hx)⟩
    case round =>
      obtain ⟨i, hi, HG, rfl, HF, HA⟩ := hrel
      have i2 : (i : Int) ≤ 64 := by omega
      by_cases hin : i < n
      · have i3 : (i : Int) < (n : Int) := by omega
        obtain ⟨r, hx⟩ : ∃ r, L[i]? = some r := ⟨_, List.getElem?_eq_getElem (by rw [← HN.out]; exact hin)⟩
        obtain ⟨p, rfl, hat⟩ := (HR.out.fr HF.out) i r hx
        have HAT := Lib.hid hat
        have HC := Lib.hid (fun wx => chk_spec r.act r.pat r.dir r.anc wx (HP.out r (List.mem_iff_getElem?.2 ⟨i, hx⟩)))
        have HFA := Lib.hid (HF.out.alloc (.cells r.cs.toArray 36))
        have HIN := Lib.hid hin
        have HX := Lib.hid hx
        clear hx hat
        obtain ⟨z, hz⟩ : ∃ z, z = chkS r.act r.pat := ⟨_, rfl⟩
        rw [← hz] at HC
        by_cases hz0 : z = 0
        · have HA2 := Lib.hid (take_step HA.out HX.out (show chkS r.act r.pat = 0 by rw [← hz]; exact hz0))
          subst hz0
          clear hz
          go_wp2_with (first
            | (refine wpList_load_any rfl 36 _ rfl (p.add (i * 4)) rfl [.int .i64 r.act, .string r.pat, .bool r.dir, .bool r.anc] _ HAT.out.2 Tryd.underlying36 rfl Tryd.size36 ?_)
            | (go_at_call 14; (refine (HC.out _).mono ?_); rintro e w2 ⟨rfl, hf⟩; have HF2 := Lib.hid hf; clear hf)
            | fail)
          go_roundg (n - (i + 1))
          case measure => have := HG.out; have := HIN.out; omega
          case rel => exact ⟨i + 1, HIN.out, Lib.hid rfl, by go_num, Lib.hid (HFA.out.trans HF2.out (fun _ _ h => h)), HA2⟩
        · have hzb : (z == 0) = false := by simpa using hz0
          have HE2 := Lib.hid (show chkL L = z by rw [HE.out, flt_hit L i r HA.out HX.out (by unfold chkR; rw [← hz]; exact hz0), hz]; rfl)
          clear hz hz0
          go_wp2_with (first
            | (refine wpList_load_any rfl 36 _ rfl (p.add (i * 4)) rfl [.int .i64 r.act, .string r.pat, .bool r.dir, .bool r.anc] _ HAT.out.2 Tryd.underlying36 rfl Tryd.size36 ?_)
            | (go_at_call 14; (refine (HC.out _).mono ?_); rintro e w2 ⟨rfl, hf⟩; have HF2 := Lib.hid hf; clear hf)
            | fail)
          have he := HE2.out
          go_ret
          exact ⟨by rw [he]; rfl, HFA.out.trans HF2.out (fun _ _ h => h)⟩
      · obtain rfl : i = n := by omega
        have HE2 := Lib.hid (show chkL L = 0 by rw [HE.out]; exact flt_none L (fun x hx => HA.out x (by rw [HN.out, List.take_length]; exact hx)))
        clear hin
        go_wp2_with (fail)
        have he := HE2.out
        go_ret
        exact ⟨by rw [he]; rfl, HF.out⟩
end Go.Proofs.YtmmobhmiemmioaaDoor
