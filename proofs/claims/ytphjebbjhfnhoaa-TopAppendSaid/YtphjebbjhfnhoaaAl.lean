/- the law's own example: alive05 answers true. -/
import Derived.Test.YtphjebbjhfnhoaaAv
import Derived.Test.YtphjebbjhfnhoaaSu
import Derived.Test.YtphjebbjhfnhoaaOf
import Derived.Laws.IdiomStrings
import Derived.Lib.SlBytesConst
namespace Go.Proofs.Ytphjebbjhfnhoaa
open Go.RowKit
def aOv : Array Value := #[.int .u8 97, .int .u8 97, .int .u8 97, .int .u8 97, .int .u8 97, .int .u8 97, .int .u8 97, .int .u8 97, .int .u8 97, .int .u8 97, .int .u8 97, .int .u8 97, .int .u8 97, .int .u8 97, .int .u8 97, .int .u8 97, .int .u8 98, .int .u8 98, .int .u8 98, .int .u8 98, .int .u8 98, .int .u8 98, .int .u8 98, .int .u8 98, .int .u8 98, .int .u8 98, .int .u8 98, .int .u8 98, .int .u8 98, .int .u8 98, .int .u8 98, .int .u8 98]
def aTv : Array Value := #[.int .u8 120, .int .u8 98, .int .u8 98, .int .u8 98, .int .u8 98, .int .u8 98, .int .u8 98, .int .u8 98, .int .u8 98, .int .u8 98, .int .u8 98, .int .u8 98, .int .u8 98, .int .u8 98, .int .u8 98, .int .u8 98, .int .u8 98]
theorem Byt.new (w : World) (l : List UInt8) (vs : Array Value) (fr : Nat × Nat) (h : vs = (l.map u8v).toArray) : Byt (w.alloc (.cells vs 5 fr)) (some ⟨w.heap.size, 0, none⟩) l := by
  subst h
  intro j c hj
  refine ⟨w.heap.size, 0, rfl, ?_, ?_⟩
  · show w.heap.size < (w.heap.push _).size
    simp
  · have : (w.alloc (.cells (l.map u8v).toArray 5 fr)).heap[w.heap.size]? = some (.cells (l.map u8v).toArray 5 fr) := by
      show (w.heap.push _)[w.heap.size]? = _
      simp
    simp only [World.cell?, this, Nat.zero_add]
    simp [hj, u8v]
theorem alive_ops {O : List OpV} (h : O.map OpV.p = [(0, 0, [120]), (16, 16, [])]) : ∃ v1 v2, O = [⟨0, 0, v1, [120]⟩, ⟨16, 16, v2, []⟩] := by
  match O, h with
  | [⟨a1, a2, a3, a4⟩, ⟨b1, b2, b3, b4⟩], h =>
    simp only [OpV.p, List.map_cons, List.map_nil, List.cons.injEq, Prod.mk.injEq, and_true] at h
    obtain ⟨⟨rfl, rfl, rfl⟩, rfl, rfl, rfl⟩ := h
    exact ⟨a3, b3, rfl⟩
set_option maxRecDepth 100000 in
set_option maxHeartbeats 8000000 in
theorem alive_spec (w : World) : Calls Try.prog 4 #[] w fun e w' => e = .returned (.bool true) ∧ Fr (fun _ => False) w w' := by
  have HA := Lib.hid (Byt.new w aO aOv (32, 33) rfl)
  have HFA := Lib.hid (show Fr (fun _ => False) w (w.alloc (.cells aOv 5 (32, 33))) from (Fr.refl (fun _ => False) w).alloc _)
  have HSU : Hid (Calls Try.prog 5 #[.slice (some ⟨w.heap.size, 0, none⟩) 32 32, .int .u8 0, .int .u8 31] (w.alloc (.cells aOv 5 (32, 33))) fun e w' => ∃ v, e = .returned (.tuple #[.agg #[.int .i64 32, .int .i64 16, .int .i64 32, v], .bool true]) ∧
      Sl w' 59 2 v (cnt aO.length 16) (marks aO 16 32 (cnt aO.length 16)) ∧ Fr (fun _ => False) (w.alloc (.cells aOv 5 (32, 33))) w') :=
    Lib.hid (sums_spec aO (some ⟨w.heap.size, 0, none⟩) 32 0 31 _ (by decide) (by decide) (by decide) HA.out (by decide) (by decide))
  have kc := fun (w : World) (C : Array Value) (n c : Nat) => Lib.run_convert_bytes_const (P := Try.prog) w 22 5 C n c Try.underlying22 Try.und5
  go_enter Try.func4, Try.ntmps4
  go_upto_region 3 with (first
    | (go_at_call 5; (refine HSU.out.mono ?_); rintro e w2 ⟨v, rfl, hv, hf⟩; have HV := Lib.hid hv; have HF := Lib.hid hf; obtain ⟨va, vc, hvs, _, _⟩ := hv.slice; rw [show cnt aO.length 16 = 2 from rfl] at hvs; subst hvs; clear hv hf)
    | fail)
  have HF3 := Lib.hid (show Fr (fun _ => False) w2 (w2.alloc (.cells #[.int .i64 32, .int .i64 16, .int .i64 32, .slice va 2 vc] 27)) from (Fr.refl (fun _ => False) w2).alloc _)
  have HB := Lib.hid (Blk.new w2 27 #[.int .i64 32, .int .i64 16, .int .i64 32, .slice va 2 vc])
  obtain ⟨b2, hb2⟩ : ∃ b2, b2 = w2.heap.size := ⟨_, rfl⟩
  rw [← hb2] at HB ⊢
  generalize w2.alloc (.cells #[.int .i64 32, .int .i64 16, .int .i64 32, .slice va 2 vc] 27) = w3 at HF3 HB ⊢
  have c0 := HB.out.cell 0 rfl
  have c1 := HB.out.cell 1 rfl
  have c2 := HB.out.cell 2 rfl
  have c3 := HB.out.cell 3 rfl
  have HFW := Lib.hid ((HFA.out.trans HF.out (fun _ _ x => x)).trans HF3.out (fun _ _ x => x))
  have HA3 := Lib.hid ((HA.out.fr HF.out).fr HF3.out)
  have HV3 := Lib.hid (HV.out.fr HF3.out (fun _ _ x => x))
  have HF4 := Lib.hid (show Fr (fun _ => False) w3 (w3.alloc (.cells aTv 5 (17, 18))) from (Fr.refl (fun _ => False) w3).alloc _)
  have HMO : Hid (Calls Try.prog 6 #[.agg #[.int .i64 32, .int .i64 16, .int .i64 32, .slice va 2 vc], .slice (some ⟨w3.heap.size, 0, none⟩) 17 17] (w3.alloc (.cells aTv 5 (17, 18))) fun e w' => ∃ v' O' P1 P2, e = .returned (.tuple #[v', .int .i64 0]) ∧ RunP aO 16 32 aT P1 P2 ∧ NormR (outP P1 P2) (O'.map OpV.p) ∧ OpsIn w' v' O' ∧ O'.length ≤ 500000 ∧ (∀ o ∈ O', o.off + o.len ≤ 131072) ∧ Fr (fun _ => False) (w3.alloc (.cells aTv 5 (17, 18))) w') :=
    Lib.hid (mof_spec aO 16 32 (.slice va 2 vc) aT (some ⟨w3.heap.size, 0, none⟩) 17 _ (by decide) (.inl rfl) (by decide) (by decide) (HV3.out.fr HF4.out (fun _ _ x => x)) (Byt.new w3 aT aTv (17, 18) rfl) (by decide) (by decide))
  clear HSU HF HF3 HV HFA hb2
  go_upto_region 4 with (first
    | (go_at_call 6; (refine HMO.out.mono ?_); rintro e w4 ⟨v4, O', P1, P2, rfl, hrun, hnorm, hops, _, _, hf⟩; have HRUN := Lib.hid hrun; have HNORM := Lib.hid hnorm; have HOPS := Lib.hid hops; have HF := Lib.hid hf; clear hrun hnorm hops hf)
    | fail)
  clear c0 c1 c2 c3 HMO HB
  have hops : O'.map OpV.p = [(0, 0, [120]), (16, 16, [])] := by
    have := HNORM.out
    rw [aRun HRUN.out] at this
    exact aNorm this
  obtain ⟨d1, d2, rfl⟩ := alive_ops hops
  have HFX := Lib.hid ((HFW.out.trans HF4.out (fun _ _ x => x)).trans HF.out (fun _ _ x => x))
  have HA4 := Lib.hid ((HA3.out.fr HF4.out).fr HF.out)
  have HAP : Hid (Calls Try.prog 8 #[.slice (some ⟨w.heap.size, 0, none⟩) 32 32, v4] w4 fun e w' => ∃ v', e = .returned (.tuple #[v', .int .i64 0]) ∧ SlB w' v' aT ∧ Fr (fun _ => False) w4 w') :=
    Lib.hid (apply_spec w.heap.size 0 32 aO v4 [⟨0, 0, d1, [120]⟩, ⟨16, 16, d2, []⟩] w4 HA4.out (by decide) HOPS.out (by show 2 ≤ 8192; decide) (by decide) (fun o ho => by
      simp only [List.mem_cons, List.not_mem_nil, or_false] at ho
      rcases ho with rfl | rfl
      · exact .inl ⟨by show 0 < 1; decide, rfl, rfl⟩
      · exact .inr ⟨rfl, by show 1 ≤ 16; decide, by show 16 + 16 ≤ 32; decide⟩) (by show 1 + (16 + 0) ≤ 65536; decide))
  have HCO := Lib.hid (fun wx (hx : OpsIn wx v4 [⟨0, 0, d1, [120]⟩, ⟨16, 16, d2, []⟩]) => (cost_spec v4 _ wx hx (by show 2 ≤ 500000; decide) (by show 1 + (0 + 0) ≤ 1000000; decide) (by show 0 + (16 + 0) ≤ 1000000; decide) (fun o ho => by
      simp only [List.mem_cons, List.not_mem_nil, or_false] at ho
      rcases ho with rfl | rfl
      · show 0 ≤ 1000000; decide
      · show 16 ≤ 1000000; decide) : Calls Try.prog 7 #[v4] wx fun e w' => e = .returned (.tuple #[.int .i64 1, .int .i64 16]) ∧ Fr (fun _ => False) wx w'))
  clear hops HA HA3 HV3 HFW HF4 HF HRUN HNORM HA4
  go_upto_region 6 with (first
    | (go_at_call 8; (refine HAP.out.mono ?_); rintro e w5 ⟨v5, rfl, hs5, hf5⟩; have HS5 := Lib.hid hs5; have HF5 := Lib.hid hf5; clear hs5 hf5)
    | (go_at_call 7; (refine (HCO.out _ (HOPS.out.fr HF5.out (fun _ _ x => x))).mono ?_); rintro e w6 ⟨rfl, hf6⟩; have HF6 := Lib.hid hf6; clear hf6)
    | fail)
  have hs6 := Sl.fr HS5.out HF6.out (fun _ _ x => x)
  obtain ⟨g6, o6, c6, cur6, hv6, _, hc6, _, _, _⟩ := Sl.pos hs6 (by decide)
  have hcv : ∀ y : Unit, (convert 22 9 v5).run Try.prog w6 = .ok (.string ⟨#[120, 98, 98, 98, 98, 98, 98, 98, 98, 98, 98, 98, 98, 98, 98, 98, 98]⟩) w6 := fun _ => by
    rw [hv6] at hs6 ⊢
    have hb6 := SlB.bytAt (n := aT.length) (cap := c6) hs6
    exact run_convert_bytes_back w6 22 9 5 ⟨g6, o6, none⟩ c6 aT Try.underlying22 Try.und5 Try.underlying9 (fun j hj => by
      obtain ⟨bb, oo, e, _, hc⟩ := hb6 j aT[j] (List.getElem?_eq_getElem hj)
      cases e
      rw [Addr.add_mid]; exact hc)
  have hcv := hcv ()
  clear hs6 hv6 hc6 HAP HCO
  go_wp2_with (fail)
  go_ret
  exact ⟨rfl, (HFX.out.trans HF5.out (fun _ _ x => x)).trans HF6.out (fun _ _ x => x)⟩
end Go.Proofs.Ytphjebbjhfnhoaa
