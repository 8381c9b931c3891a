/- sha: Sum · sha: Sum of bytes, Cut. -/
import Derived.Test.YtphjebbjhfnhoaaWt
import Derived.Laws.BytesArg
namespace Go.Proofs.Ytphjebbjhfnhoaa
open Go.RowKit
def outG (hw : Nat → Int) : Nat → (Nat → Int)
  | 0 => zN
  | m + 1 => updN (outG hw m) m (hw (m / 4) / 2 ^ (24 - 8 * (m % 4)) % 256)
/-- What a state's sum is. -/
def sumS (st : St) (n : Nat) : ByteArray := strOfNums ((List.range 32).map (outG (ab st (endS n)).1 32))
theorem z116 (w : World) : (zeroValue 116).run Try.prog w = .ok (.agg (rowK .u8 zN 32)) w := by kernel_rfl
theorem Try.size116 : (Try.prog.info? 116).map (·.size) = some 32 := by kernel_rfl
theorem Try.und5 : Try.prog.underlying 5 = some (.int .u8) := by kernel_rfl
theorem Try.und9 : Try.prog.underlying 9 = some .string := by kernel_rfl
attribute [local go_sem ↓] z116
theorem Blk.below {w w' : World} {b : Nat} {T : TypeId} {vs : Array Value} (h : Blk w b T vs) (f : Below w.heap.size w w') : Blk w' b T vs := by
  show w'.heap[b]? = _
  rw [f.block b h.lt]; exact h
theorem endS_length (n : Nat) : (endS n).length ≤ 80 := by
  unfold endS endH kz; simp; omega
theorem OwnB.bytA {w : World} {B s : Nat} {v : Value} {l : List UInt8} (h : OwnB w B v l) (hs : s < B) : ∃ ad cap, v = .slice ad l.length cap ∧ BytA w s ad l ∧ l.length ≤ cap := by
  obtain ⟨ad, cap, rfl, hb, hc⟩ := h.byt
  refine ⟨ad, cap, rfl, fun j c hj => ?_, hc⟩
  obtain ⟨g, o, e, hl, hcl⟩ := hb j c hj
  subst e
  have := (World.ownsRow.lt h g rfl).1
  exact ⟨g, o, rfl, hl, hcl, by omega⟩
set_option maxRecDepth 100000 in
set_option maxHeartbeats 8000000 in
theorem ssum_spec (s : Nat) (hh bl : Nat → Int) (hv n : Nat) (w : World) (hs : Blk w s 114 (stA hh bl hv n)) (hhv : hv < 64) (hn : n ≤ 1000000) :
    Calls Try.prog 58 #[.pointer (some ⟨s, 0, none⟩)] w fun e w' => e = .returned (.string (sumS (hh, bl, hv) n)) ∧ Fr (fun _ => False) w w' := by
  have HC := Lib.hid (copy_spec s hh bl hv n w hs)
  have HE := Lib.hid (fun wx => end_spec n hn wx)
  have HW := Lib.hid (fun c l ad cap wx hb hl hc hy => write_spec c hh bl hv n l ad cap wx hb hhv hn hl hc hy)
  have n1 : (n : Int) ≤ 1000000 := by omega
  have hlt := hs.lt
  have c73 := hs.cell 73 (stA_n _ _ _ _)
  have HS := Lib.hid hs
  have HLT := Lib.hid hlt
  obtain ⟨st, hst⟩ : ∃ st, st = ab (hh, bl, hv) (endS n) := ⟨_, rfl⟩
  have HR := Lib.hid (show sumS (hh, bl, hv) n = strOfNums ((List.range 32).map (outG st.1 32)) by rw [hst]; rfl)
  rw [HR.out]
  have HST := Lib.hid hst
  clear hs hhv hn hst HR
  go_enter Try.func58, Try.ntmps58
  go_wp2_with (first
    | (go_at_call 62; (refine HC.out.mono ?_); rintro e w1 ⟨c, rfl, hc2, hc1, hc3⟩; have C1 := Lib.hid hc1; have C2 := Lib.hid hc2; have C3 := Lib.hid hc3; have c73b : w1.cell? ⟨s, 73, none⟩ = some (.int .i64 n) := (HS.out.fr hc3 (fun x => x)).cell 73 (stA_n _ _ _ _); clear hc1 hc2 hc3)
    | (go_at_call 63; go_loud ((refine (HE.out _).mono ?_); rintro e w2 ⟨v, rfl, ho, hbel⟩; have HBE := Lib.hid hbel; have C4 := Lib.hid (Blk.below C1.out hbel); obtain ⟨ad, cap, rfl, hy, hcp⟩ := OwnB.bytA ho C1.out.lt; have HY := Lib.hid hy; have HCP := Lib.hid hcp; clear ho hbel hy hcp))
    | (go_at_call 57; (refine (HW.out c _ ad cap w2 C4.out (Nat.le_trans (endS_length n) (by decide)) HCP.out HY.out).mono ?_); rintro e w3 ⟨rfl, h31, h32⟩; have D1 := Lib.hid (show Blk w3 c 114 (stA st.1 st.2.1 st.2.2 (n + (endS n).length : Nat)) by rw [HST.out]; exact h31); have D2 := Lib.hid h32; clear h31 h32)
    | (refine wpList_load_mid rfl 110 _ rfl c 0 rfl _ _ (stA_range_h (D1.out.alloc _)) Try.underlying110 rfl (by rw [rowK_len]; exact Try.size110) ?_; rw [rowK_list])
    | fail)
  have HF3 := Lib.hid (show Fr (fun _ => False) w w3 from (C3.out.trans (Fr.ofBelow HBE.out (fun _ => False)) (fun _ _ h => h)).trans D2.out (fun i hi e => by have := C2.out; omega))
  obtain ⟨hw, hhw⟩ : ∃ hw, hw = st.1 := ⟨_, rfl⟩
  rw [← hhw]
  have HHW := Lib.hid hhw
  clear hhw D1 D2 HY HCP C4 HBE C1 C2 C3 HW HE HC HS c73b c73
  have HO0 := Lib.hid (Blk.new w3 116 (rowK .u8 zN 32))
  have HF0 := Lib.hid ((HF3.out.alloc (.cells (rowK .u8 zN 32) 116)))
  have HL0 := Lib.hid (HF3.out.size)
  generalize w3.alloc (.cells (rowK .u8 zN 32) 116) = w4 at HO0 HF0 ⊢
  generalize w3.heap.size = ob at HO0 HL0 ⊢
  go_loopg [23] 8 (fun gk x23 wr => ∃ i : Nat, i ≤ 8 ∧ Hid (gk = 8 - i) ∧ x23 = .int .i64 i ∧ Hid (Blk wr ob 116 (rowK .u8 (outG hw (4 * i)) 32)) ∧ Hid (Fr (fun _ => False) w wr))
  case atStart => exact ⟨0, by omega, Lib.hid rfl, rfl, HO0, HF0⟩
  case round =>
    clear HO0 HF0 HF3
    obtain ⟨i, hi, HG, rfl, HO, HF⟩ := hrel
    by_cases hin : i < 8
    · have i1 : (i : Int) < 8 := by omega
      have HI := Lib.hid hin
      have hix := index110 hw i hin wr
      clear hin hi
      go_wp2_with (fail)
      go_loopg [27] 4 (fun gk2 x27 wr => ∃ k : Nat, k ≤ 4 ∧ Hid (gk2 = 4 - k) ∧ x27 = .int .i64 k ∧ Hid (Blk wr ob 116 (rowK .u8 (outG hw (4 * i + k)) 32)) ∧ Hid (Fr (fun _ => False) w wr))
      case atStart => exact ⟨0, by omega, Lib.hid rfl, rfl, HO, HF⟩
      case round =>
        clear HO HF hix
        obtain ⟨k, hk, HG2, rfl, HO, HF⟩ := hrel
        have fo := HO.out.free (4 * i + k)
        have j4 : IntKind.i64.wrap (4 * (i : Int)) = 4 * (i : Int) := IntWalk.i64_in _ (by omega)
        have step : ∀ (kk : Nat) (x : Int), kk < 4 → x = hw i / 2 ^ (24 - 8 * kk) % 256 → k = kk → Blk (wr.setCell ⟨ob, 4 * i + kk, none⟩ (.int .u8 x)) ob 116 (rowK .u8 (outG hw (4 * i + (kk + 1))) 32) ∧ Fr (fun _ => False) w (wr.setCell ⟨ob, 4 * i + kk, none⟩ (.int .u8 x)) := by
          intro kk x hkk hx e
          subst e
          have h1 := HO.out.set (4 * i + k) (.int .u8 x)
          rw [rowK_set] at h1
          refine ⟨?_, HF.out.setCell (p := ⟨ob, 4 * i + k, none⟩) (fun q => by have := HL0.out; exact (Nat.lt_irrefl _ (Nat.lt_of_lt_of_le q this)).elim) _⟩
          rw [show 4 * i + (k + 1) = (4 * i + k) + 1 by omega, outG, show (4 * i + k) / 4 = i by omega, show (4 * i + k) % 4 = k by omega, ← hx]
          exact h1
        have HST2 := Lib.hid step
        clear step
        by_cases hk4 : k = 4
        · subst hk4
          clear fo HST2 hk
          go_wp2_with (fail)
          go_roundg (8 - (i + 1))
          case measure => have := HG.out; have := HI.out; omega
          case rel => exact ⟨i + 1, HI.out, Lib.hid rfl, by go_num, Lib.hid (by rw [show 4 * (i + 1) = 4 * i + 4 by omega]; exact HO.out), HF⟩
        · have hc : k = 0 ∨ k = 1 ∨ k = 2 ∨ k = 3 := by omega
          have co := HO.out.cell (4 * i + k) (rowK_at _ _ 32 _ (by have := HI.out; omega))
          have b0 : (0 : Int) ≤ 4 * (i : Int) := by omega
          have b1 : 4 * (i : Int) + 3 < 32 := by omega
          have tn : ∀ kk : Nat, (4 * (i : Int) + (kk : Int)).toNat = 4 * i + kk := fun kk => by omega
          clear hk hk4
          rcases hc with rfl | rfl | rfl | rfl
          · rw [Nat.add_zero] at co fo
            have ST0 := Lib.hid (HST2.out 0 (hw i / 16777216 % 256) (by omega) rfl rfl)
            rw [Nat.add_zero] at ST0
            go_wp2_with (fail)
            go_roundg (4 - 1)
            case measure => have := HG2.out; omega
            case rel => exact ⟨1, by omega, Lib.hid rfl, by go_num, Lib.hid ST0.out.1, Lib.hid ST0.out.2⟩
          · go_wp2_with (fail)
            go_roundg (4 - 2)
            case measure => have := HG2.out; omega
            case rel => exact ⟨2, by omega, Lib.hid rfl, by go_num, Lib.hid (HST2.out 1 _ (by omega) rfl rfl).1, Lib.hid (HST2.out 1 _ (by omega) rfl rfl).2⟩
          · go_wp2_with (fail)
            go_roundg (4 - 3)
            case measure => have := HG2.out; omega
            case rel => exact ⟨3, by omega, Lib.hid rfl, by go_num, Lib.hid (HST2.out 2 _ (by omega) rfl rfl).1, Lib.hid (HST2.out 2 _ (by omega) rfl rfl).2⟩
          · go_wp2_with (fail)
            go_roundg (4 - 4)
            case measure => have := HG2.out; omega
            case rel => exact ⟨4, by omega, Lib.hid rfl, by go_num, Lib.hid (HST2.out 3 (hw i % 256) (by omega) (by simp) rfl).1, Lib.hid (HST2.out 3 (hw i % 256) (by omega) (by simp) rfl).2⟩
    · obtain rfl : i = 8 := by omega
      clear hin hi HG
      have hcv : (convert 22 9 (.slice (some ⟨ob, 0, none⟩) 32 32)).run Try.prog wr = .ok (.string (strOfNums ((List.range 32).map (outG hw 32)))) wr :=
        run_convert_bytes_arg wr 22 5 Try.underlying22 Try.und5 ob 0 32 32 _ (by simp) (fun i hi => by
          rw [Nat.zero_add, HO.out.cell i (rowK_at _ _ 32 i hi), List.getD_eq_getElem?_getD, List.getElem?_map, List.getElem?_range hi]; rfl) 9 Try.und9
      obtain ⟨S, hS⟩ : ∃ S, S = strOfNums ((List.range 32).map (outG hw 32)) := ⟨_, rfl⟩
      rw [← hS] at hcv
      have HSS := Lib.hid hS
      clear hS
      have hsl : (Instr.sliceAt 116 (.pointer (some ⟨ob, 0, none⟩)) none none none).run Try.prog wr = .ok (.slice (some ⟨ob, 0, none⟩) 32 32) wr := by kernel_rfl
      go_wp2_with (fail)
      go_ret
      exact ⟨by rw [← HHW.out, ← HSS.out]; rfl, HF.out⟩
end Go.Proofs.Ytphjebbjhfnhoaa

namespace Go.Proofs.Ytphjebbjhfnhoaa
open Go.RowKit
def st0 : St := (hF, zN, 0)
/-- The sum of bytes. -/
def shaL (l : List UInt8) : ByteArray := sumS (ab st0 l) l.length
theorem shaL_size (l : List UInt8) : (shaL l).size = 32 := by
  unfold shaL sumS
  rw [strOfNums_size, List.length_map, List.length_range]
set_option maxHeartbeats 2000000 in
theorem sha_spec (l : List UInt8) (ad : Option Addr) (cap : Nat) (w : World) (hl : l.length ≤ 1000000) (hc : l.length ≤ cap) (hb : Byt w ad l) :
    Calls Try.prog 47 #[.slice ad l.length cap] w fun e w' => e = .returned (.string (shaL l)) ∧ Fr (fun _ => False) w w' := by
  have HN := Lib.hid (new_spec w)
  have HB := Lib.hid hb
  have HW := Lib.hid (fun s wx hs hy => write_spec s hF zN 0 0 l ad cap wx hs (by decide) (by decide) hl hc hy)
  have HS := Lib.hid (fun s wx (hs : Blk wx s 114 (stA (ab st0 l).1 (ab st0 l).2.1 (ab st0 l).2.2 (l.length : Nat))) => ssum_spec s _ _ _ l.length wx hs (ab_lt l st0 (by decide)) hl)
  obtain ⟨S, hS⟩ : ∃ S, S = shaL l := ⟨_, rfl⟩
  have HSS := Lib.hid hS
  rw [show sumS ((ab st0 l).1, (ab st0 l).2.1, (ab st0 l).2.2) l.length = S by rw [hS]; rfl] at HS
  rw [← hS]
  obtain ⟨m, hm⟩ : ∃ m, m = l.length := ⟨_, rfl⟩
  rw [← hm] at HW HS ⊢
  have HM := Lib.hid hm
  clear hb hl hc hS hm
  go_enter Try.func47, Try.ntmps47
  go_wp2_with (first
    | (go_at_call 56; (refine HN.out.mono ?_); rintro e w1 ⟨s, rfl, h1, h2, h3⟩; have N1 := Lib.hid h1; have N2 := Lib.hid h2; have N3 := Lib.hid h3; clear h1 h2 h3)
    | (go_at_call 57; (refine (HW.out s _ N2.out (HB.out.apart N3.out N1.out)).mono ?_); rintro e w2 ⟨rfl, h1, h2⟩; have M1 := Lib.hid (show Blk w2 s 114 (stA (ab st0 l).1 (ab st0 l).2.1 (ab st0 l).2.2 (m : Nat)) by have := h1; rw [Nat.zero_add] at this; exact this); have M2 := Lib.hid h2; clear h1 h2)
    | (go_at_call 58; (refine (HS.out s w2 M1.out).mono ?_); rintro e w3 ⟨rfl, h1⟩; have L1 := Lib.hid h1; clear h1)
    | fail)
  go_ret
  exact ⟨rfl, (N3.out.trans M2.out (fun i hi e => by have := N1.out; omega)).trans L1.out (fun _ _ h => h)⟩
/-- The first bytes of a sum. -/
def cutS (l : List UInt8) (n : Nat) : ByteArray := (shaL l).extract 0 n
set_option maxHeartbeats 2000000 in
theorem cut_spec (l : List UInt8) (ad : Option Addr) (cap n : Nat) (w : World) (hl : l.length ≤ 1000000) (hc : l.length ≤ cap) (hb : Byt w ad l) (hn : n ≤ 32) :
    Calls Try.prog 33 #[.slice ad l.length cap, .int .i64 (n : Int)] w fun e w' => e = .returned (.tuple #[.string (cutS l n), .int .i64 0]) ∧ Fr (fun _ => False) w w' := by
  have HS := Lib.hid (sha_spec l ad cap w hl hc hb)
  obtain ⟨S, hS⟩ : ∃ S, S = shaL l := ⟨_, rfl⟩
  have hsz : S.size = 32 := by rw [hS]; exact shaL_size l
  have HR := Lib.hid (show cutS l n = S.extract 0 n by rw [hS]; rfl)
  rw [← hS] at HS
  generalize l.length = m at HS ⊢
  have n0 : (0 : Int) ≤ (n : Int) := by omega
  have n1 : (n : Int) ≤ 32 := by omega
  clear hl hc hb hn hS
  go_enter Try.func33, Try.ntmps33
  go_wp2_with (first
    | (go_at_call 47; (refine HS.out.mono ?_); rintro e w1 ⟨rfl, h1⟩; have L1 := Lib.hid h1; clear h1)
    | fail)
  go_ret2
  refine ⟨?_, L1.out⟩
  rw [HR.out]; rfl
end Go.Proofs.Ytphjebbjhfnhoaa
