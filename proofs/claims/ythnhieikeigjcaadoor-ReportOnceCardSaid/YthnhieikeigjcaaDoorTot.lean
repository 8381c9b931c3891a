/- The walk of Total, the program's. -/
import Derived.Test.YthnhieikeigjcaaDoorTotP
import Derived.Test.YthnhieikeigjcaaDoorStepO
import Derived.Test.YthnhieikeigjcaaDoorBld
import Derived.Deep.RegionHeld3
import Derived.Deep.WholeRow
import Derived.Deep.LoopGhost
namespace Go.Proofs.YthnhieikeigjcaaDoor
open Go.RowKit

theorem Tryd.size41 : (Tryd.prog.info? 41).map (·.size) = some 15 := by kernel_rfl
theorem Tryd.size49 : (Tryd.prog.info? 49).map (·.size) = some 8 := by kernel_rfl
def zero15 : Array Value := #[.int .i64 0, .string ⟨#[]⟩, .string ⟨#[]⟩, .string ⟨#[]⟩, .int .i64 0, .int .i64 0, .int .i64 0, .int .i64 0, .int .i64 0, .int .i64 0, .int .i64 0, .string ⟨#[]⟩, .string ⟨#[]⟩, .int .i64 0, .int .i64 0]
theorem isB_fr {b : Nat} {bs : List Value} {w w' : World} (h : Lib.IsBuilder 53 5 b b bs w) (f : Fr (fun _ => False) w w') : Lib.IsBuilder 53 5 b b bs w' := by
  have hg : w.grownBy w' none := ⟨f.os, f.tape, f.output, f.size, fun k hk _ => f.block k hk (fun h => h)⟩
  have go : ∀ p, Lib.BuilderAt 53 5 b b p bs w → Lib.BuilderAt 53 5 b b p bs w' := fun p ⟨h1, v, h2, h3, h4⟩ => by
    refine ⟨h1, v, by rw [f.block b (lt_of_block h2) (fun h => h)]; exact h2, ?_, h4⟩
    rcases hv : v.ownBlock with _ | k
    · exact h3.kept hg (.inl hv)
    · exact h3.kept hg (.inr (by rw [hv]; simp))
  rcases h with h | h
  · exact .inl (go _ h)
  · exact .inr (go _ h)

/-- The counts so far. -/
def cTk (ks : List Int) (i : Nat) : Nat → Nat := cOf (ks.take i)
theorem cTk_hit {ks : List Int} {i : Nat} {k : Int} {m : Nat} (hk : ks[i]? = some k) (hm : k = (m : Int)) (h1 : 1 ≤ m) : (fun j => if j = m then cTk ks i m + 1 else cTk ks i j) = cTk ks (i + 1) := by
  funext j
  have e : ks.take (i + 1) = ks.take i ++ [k] := by rw [List.take_add_one, hk]; rfl
  unfold cTk
  rw [e, cOf_snoc]
  by_cases hj : j = m
  · subst hj; rw [if_pos rfl, if_pos ⟨h1, hm⟩]
  · rw [if_neg hj, if_neg (by omega), Nat.add_zero]
theorem cTk_miss {ks : List Int} {i : Nat} {k : Int} (hk : ks[i]? = some k) (h : k < 1 ∨ 7 < k) : cntA (cTk ks (i + 1)) = cntA (cTk ks i) := by
  have e : ks.take (i + 1) = ks.take i ++ [k] := by rw [List.take_add_one, hk]; rfl
  refine cntA_congr fun j hj => ?_
  unfold cTk
  rw [e, cOf_snoc, if_neg (by omega), Nat.add_zero]
theorem cTk_le (ks : List Int) (i j : Nat) : cTk ks i j ≤ ks.length := by
  have h1 := cOf_le (ks.take i) j
  have h2 := List.length_take_le' i ks
  exact Nat.le_trans h1 h2
theorem cTk_all (ks : List Int) : cTk ks ks.length = cOf ks := by unfold cTk; rw [List.take_length]

/-- What the lines' loop knows. -/
structure TK (w : World) (b g h : Nat) (c : Nat → Nat) (t : ByteArray) (wr : World) : Prop where
  bd : Lib.IsBuilder 53 5 b b (Lib.byteCells t.data.toList) wr
  cn : Blk wr g 48 (cntA c)
  wo : Blk wr h 49 wdA
  fr : Fr (fun _ => False) w wr
  hb : b ≤ wr.heap.size
  gb : g < b
  hh : h < b
  wb : w.heap.size ≤ b
theorem TK.on {w wr w2 : World} {b g h : Nat} {c : Nat → Nat} {t : ByteArray} (k : TK w b g h c t wr) (f : Fr (fun _ => False) wr w2) : TK w b g h c t w2 :=
  ⟨isB_fr k.bd f, k.cn.fr f (fun h => h), k.wo.fr f (fun h => h), k.fr.trans f (fun _ _ h => h), Nat.le_trans k.hb f.size, k.gb, k.hh, k.wb⟩
theorem Blk.bel {B : Nat} {w w' : World} {b : Nat} {T : TypeId} {vs : Array Value} (h : Blk w b T vs) (hb : Below B w w') (hlt : b < B) : Blk w' b T vs := by
  show w'.heap[b]? = _
  rw [hb.block b hlt]; exact h
theorem fr_below {b : Nat} {w wr w2 : World} (k : Fr (fun _ => False) w wr) (hb : Below b wr w2) (h : w.heap.size ≤ b) : Fr (fun _ => False) w w2 :=
  k.trans (T := fun i => b ≤ i) ⟨hb.os, hb.tape, hb.output, hb.size, fun i _ hi => hb.block i (by omega)⟩ (fun i h1 h2 => by omega)
theorem TK.put {w wr w2 : World} {b g h : Nat} {c : Nat → Nat} {t t2 : ByteArray} (k : TK w b g h c t wr) (hb : Below b wr w2) (hd : Lib.IsBuilder 53 5 b b (Lib.byteCells t2.data.toList) w2) : TK w b g h c t2 w2 :=
  ⟨hd, k.cn.bel hb k.gb, k.wo.bel hb k.hh, fr_below k.fr hb k.wb, Nat.le_trans k.hb hb.size, k.gb, k.hh, k.wb⟩
theorem TK.keep {w wr : World} {b g h : Nat} {c : Nat → Nat} {t : ByteArray} (k : TK w b g h c t wr) (m : Nat) (hm : m < 8) : wr.cell? ⟨h, m, none⟩ = some (.string (wd m)) ∧ wr.cell? ⟨g, m, none⟩ = some (.int .i64 (c m)) :=
  ⟨k.wo.cell m (wd_at m hm), k.cn.cell m (cnt_at c m hm)⟩
theorem TK.start {w wr : World} {g : Nat} {c : Nat → Nat} (hc : Blk wr g 48 (cntA c)) (hf : Fr (fun _ => False) w wr) :
    TK w (wr.heap.size + 1) g wr.heap.size c (linS c 0) ((wr.alloc (.cells wdA 49)).alloc (.cells #[.pointer none, .slice none 0 0] 53)) :=
  ⟨by have := Lib.fresh_isBuilder 53 5 (wr.alloc (.cells wdA 49))
      rw [show (wr.alloc (.cells wdA 49)).heap.size = wr.heap.size + 1 by simp] at this
      exact this, (hc.alloc _).alloc _, (Blk.new wr 49 wdA).alloc _, (hf.alloc _).alloc _, by simp, by have := hc.lt; omega, by omega, by have := hf.size; omega⟩
theorem linS_hit {c : Nat → Nat} {k : Nat} (h : 0 < c k) (hk : 1 ≤ k) : linS c (k - 1) ++ (wd k ++ ⟨#[32]⟩ ++ digB (c k) ++ ⟨#[10]⟩) = linS c k := by
  obtain ⟨j, rfl⟩ : ∃ j, k = j + 1 := ⟨k - 1, by omega⟩
  rw [Nat.add_sub_cancel]
  show _ = if 0 < c (j + 1) then _ else _
  rw [if_pos h]; rfl
theorem linS_miss {c : Nat → Nat} {k : Nat} (h : ¬ 0 < c k) (hk : 1 ≤ k) : linS c (k - 1) = linS c k := by
  obtain ⟨j, rfl⟩ : ∃ j, k = j + 1 := ⟨k - 1, by omega⟩
  rw [Nat.add_sub_cancel]
  show _ = if 0 < c (j + 1) then _ else _
  rw [if_neg h]

set_option maxRecDepth 100000 in
set_option maxHeartbeats 4000000 in
theorem total_spec (a : Option Addr) (ks : List Int) (cap : Nat) (t k : Int) (w : World) (hs : Steps w a ks) (hl : ks.length ≤ 1000) (ht : t ≤ 9223372036854775807) (hk : k ≤ 9223372036854775807) (hb : TB w) :
    Calls Tryd.prog 16 #[.slice a ks.length cap, .int .i64 t, .int .i64 k] w fun e w' => e = .returned (.string (totB (cOf ks) t.toNat k.toNat)) ∧ Fr (fun _ => False) w w' := by
  have HS := Lib.hid hs
  have HTB := Lib.hid hb
  have HC0 := Lib.hid (show Blk (w.alloc (.cells (cntA (cTk ks 0)) 48)) w.heap.size 48 (cntA (cTk ks 0)) from Blk.new _ _ _)
  have HF0 := Lib.hid ((Fr.refl (fun _ => False) w).alloc (.cells (cntA (cTk ks 0)) 48))
  have hz : cntA (cTk ks 0) = #[.int .i64 0, .int .i64 0, .int .i64 0, .int .i64 0, .int .i64 0, .int .i64 0, .int .i64 0, .int .i64 0] := by
    unfold cTk; rw [List.take_zero]; unfold cntA; simp only [cOf_nil]; rfl
  have HZ := Lib.hid hz
  obtain ⟨n, hn⟩ : ∃ n, n = ks.length := ⟨_, rfl⟩
  rw [← hn] at hl ⊢
  have HN := Lib.hid hn
  clear hs hb hz hn
  go_enter Tryd.func16, Tryd.ntmps16
  go_wp2
  rw [← HZ.out]
  obtain ⟨g, hg⟩ : ∃ g, g = w.heap.size := ⟨_, rfl⟩
  rw [← hg] at HC0 ⊢
  have HG0 := Lib.hid (Nat.le_of_eq hg.symm)
  clear hg
  clear HZ
  generalize hw0 : w.alloc (.cells (cntA (cTk ks 0)) 48) = w0 at HC0 HF0 ⊢
  clear hw0
  go_loopg [16] n (fun gk x16 wr => ∃ i : Nat, i ≤ n ∧ gk = n - i ∧ x16 = .int .i64 i ∧ Hid (Blk wr g 48 (cntA (cTk ks i))) ∧ Hid (Fr (fun _ => False) w wr))
  case atStart => exact ⟨0, by omega, rfl, rfl, HC0, HF0⟩
  case round =>
    obtain ⟨i, hi, hgk, rfl, HC, HF⟩ := hrel
    have HG := Lib.hid hgk
    clear hgk HC0 HF0
    by_cases hit : i < n
    · obtain ⟨kk, hkk⟩ : ∃ kk, ks[i]? = some kk := ⟨_, List.getElem?_eq_getElem (by rw [← HN.out]; exact hit)⟩
      obtain ⟨x, cs, rfl, hst⟩ := HS.out i kk hkk
      have HST := Lib.hid (hst.fr HF.out)
      have HKK := Lib.hid hkk
      have HNW := Lib.hid (Blk.new wr 41 cs.toArray)
      have hc0 : (wr.alloc (.cells cs.toArray 41)).cell? ⟨wr.heap.size, 0, none⟩ = some (.int .i64 kk) := HNW.out.cell 0 (by simpa using HST.out.2.2.1)
      clear hkk hst
      by_cases hin : 1 ≤ kk ∧ kk ≤ 7
      · obtain ⟨m, rfl⟩ := Int.eq_ofNat_of_zero_le (show 0 ≤ kk by omega)
        obtain ⟨m1, m7⟩ := hin
        have HCA := Lib.hid (HC.out.alloc (.cells cs.toArray 41))
        have HFA := Lib.hid (HF.out.alloc (.cells cs.toArray 41))
        have hc1 := HCA.out.cell m (cnt_at _ m (by omega))
        have hf1 := HCA.out.free m
        have hb1 : cTk ks i m ≤ 1000 := by have := cTk_le ks i m; have := HN.out; omega
        have HH := Lib.hid (cTk_hit HKK.out rfl (show 1 ≤ m by omega))
        have HST2 := Lib.hid (cnt_set (cTk ks i) (cTk ks i m + 1) m (by omega))
        go_wp2_with (first
          | (refine wpList_load_any rfl 41 _ rfl (x.add (i * 15)) rfl cs _ HST.out.2.2.2.1 Tryd.underlying41 rfl (by rw [HST.out.2.1]; exact Tryd.size41) ?_)
          | (refine wpList_store_row rfl 41 _ _ rfl wr.heap.size cs.toArray rfl rfl 41 zero15 (Blk.new _ _ _) (by rw [show cs.toArray.size = 15 from HST.out.2.1]; exact Tryd.size41) (HST.out.2.1).symm (all_oneCell_toArray HST.out.2.2.2.2) ?_; rw [World.setRow_alloc_new])
          | fail)
        go_roundg (n - (i + 1))
        case measure => have := HG.out; omega
        case rel =>
          refine ⟨i + 1, by omega, rfl, by go_num, Lib.hid ?_, Lib.hid ?_⟩
          · have h1 := HCA.out.set m (.int .i64 ((cTk ks i m + 1 : Nat) : Int))
            rw [HST2.out, HH.out] at h1
            exact h1
          · exact HFA.out.setCell (p := ⟨g, m, none⟩) (fun h => (Nat.lt_irrefl _ (Nat.lt_of_lt_of_le h HG0.out)).elim) _
      · have hcond : kk < 1 ∨ 7 < kk := by omega
        have HFA := Lib.hid (HF.out.alloc (.cells cs.toArray 41))
        have HCA := Lib.hid (HC.out.alloc (.cells cs.toArray 41))
        have HH := Lib.hid (cTk_miss HKK.out hcond)
        clear hin
        rcases hcond with hcond | hcond
        all_goals
          go_wp2_with (first
            | (refine wpList_load_any rfl 41 _ rfl (x.add (i * 15)) rfl cs _ HST.out.2.2.2.1 Tryd.underlying41 rfl (by rw [HST.out.2.1]; exact Tryd.size41) ?_)
            | (refine wpList_store_row rfl 41 _ _ rfl wr.heap.size cs.toArray rfl rfl 41 zero15 (Blk.new _ _ _) (by rw [show cs.toArray.size = 15 from HST.out.2.1]; exact Tryd.size41) (HST.out.2.1).symm (all_oneCell_toArray HST.out.2.2.2.2) ?_; rw [World.setRow_alloc_new])
            | fail)
          go_roundg (n - (i + 1))
          case measure => have := HG.out; omega
          case rel => exact ⟨i + 1, by omega, rfl, by go_num, Lib.hid (by rw [HH.out]; exact HCA.out), HFA⟩
    · obtain rfl : i = n := by omega
      have HC := Lib.hid (show Blk wr g 48 (cntA (cOf ks)) by rw [← cTk_all, ← HN.out]; exact HC.out)
      have hc : ∀ j, cOf ks j ≤ 1000 := fun j => by have := cOf_le ks j; have := HN.out; omega
      have HCB := Lib.hid hc
      obtain ⟨c, hce⟩ : ∃ c, c = cOf ks := ⟨_, rfl⟩
      rw [← hce] at HC HCB
      have HCE := Lib.hid hce
      clear hce
      clear HS HN HG hc
      go_wp2_with (refine wpList_store_row rfl 49 _ _ rfl wr.heap.size wdA rfl rfl 49 #[.string ⟨#[]⟩, .string ⟨#[]⟩, .string ⟨#[]⟩, .string ⟨#[]⟩, .string ⟨#[]⟩, .string ⟨#[]⟩, .string ⟨#[]⟩, .string ⟨#[]⟩] (Blk.new _ _ _) Tryd.size49 rfl (by decide) ?_; rw [World.setRow_alloc_new])
      have hwd : (#[.string ⟨#[]⟩, .string ⟨#[100, 105, 114, 115]⟩, .string ⟨#[102, 105, 108, 101, 115]⟩, .string ⟨#[108, 105, 110, 107, 115]⟩, .string ⟨#[110, 97, 109, 101, 115]⟩, .string ⟨#[115, 101, 116]⟩, .string ⟨#[103, 111, 110, 101]⟩, .string ⟨#[109, 111, 118, 101, 100]⟩] : Array Value) = wdA := rfl
      rw [hwd]
      have HK0 := Lib.hid (TK.start HC.out HF.out)
      clear HC HF hwd
      generalize (wr.alloc (.cells wdA 49)).alloc (.cells #[.pointer none, .slice none 0 0] 53) = w1 at HK0 ⊢
      obtain ⟨b, hb⟩ : ∃ b, b = wr.heap.size + 1 := ⟨_, rfl⟩
      rw [← hb] at HK0 ⊢
      clear hb
      generalize wr.heap.size = h at HK0 ⊢
      go_loopg [12] 7 (fun gk x12 wl => ∃ j : Nat, 1 ≤ j ∧ j ≤ 8 ∧ gk = 8 - j ∧ x12 = .int .i64 j ∧ Hid (TK w b g h c (linS c (j - 1)) wl))
      case atStart => exact ⟨1, by omega, by omega, rfl, rfl, HK0⟩
      case round =>
        obtain ⟨j, j1, j8, hgj, rfl, HK⟩ := hrel
        have HGJ := Lib.hid hgj
        clear hgj HK0
        by_cases hj : j < 8
        · have hcell := (HK.out.keep j hj).2
          have hcj : c j ≤ 1000 := HCB.out j
          by_cases hp : 0 < c j
          · have hp2 : (0 : Int) < (c j : Int) := by omega
            have HL := Lib.hid (linS_hit hp j1)
            have HI := Lib.hid (fun wx (hx : TB wx) => itoa_spec (c j) (by omega) wx hx)
            have z1 := wd_size j hj
            have z2 := digB_size (c j) (by omega)
            have HSZ := Lib.hid (show (linS c (j - 1)).size + (wd j ++ ⟨#[32]⟩ ++ digB (c j) ++ ⟨#[10]⟩).size ≤ 140737488355328 by
              have h1 := lin_size c (fun i => by have := HCB.out i; omega) (j - 1) (by omega)
              have h2 := line_size j (c j) hj (by omega)
              unfold lineB at h2
              omega)
            have HW := Lib.hid (fun wx (hx : TK w b g h c (linS c (j - 1)) wx) => write_spec b (linS c (j - 1)) (wd j ++ ⟨#[32]⟩ ++ digB (c j) ++ ⟨#[10]⟩) wx hx.bd HSZ.out hx.hb)
            have HJ := Lib.hid hj
            have q0 : (0 : Int) ≤ (j : Int) := by omega
            have q1 : (j : Int) < 8 := by omega
            have k1 : ¬ 9223372036854775807 < (wd j).size + 1 := by omega
            have k2 : ¬ 9223372036854775807 < (wd j).size + 1 + (digB (c j)).size := by omega
            have k3 : ¬ 9223372036854775807 < (wd j).size + 1 + (digB (c j)).size + 1 := by omega
            have k4 : (wd j).size ≤ 9223372036854775806 := by omega
            have k5 : (wd j).size + 1 + (digB (c j)).size ≤ 9223372036854775807 := by omega
            have k6 : (wd j).size + 1 + (digB (c j)).size ≤ 9223372036854775806 := by omega
            clear hp
            go_wp2_with (fail)
            have HK := Lib.hid (HK.out.on (Fr.refl _ _).drew)
            go_region_held3 (fun w' => w'.cell? ⟨h, j, none⟩ = some (.string (wd j)) ∧ w'.cell? ⟨g, j, none⟩ = some (.int .i64 (c j)))
              (first | exact HK.out.keep j HJ.out)
              (first
                | (go_at_call 20; ((with_reducible refine (HI.out _ (HTB.out.fr HK.out.fr)).mono ?_); rintro e w3 ⟨rfl, hf⟩; have HK := Lib.hid (HK.out.on hf); clear hf))
                | (go_at_call 27; ((with_reducible refine (HW.out _ HK.out).mono ?_); rintro e w4 ⟨rfl, hd, hbl⟩; have HK := Lib.hid (HK.out.put hbl hd); clear hd hbl)))
            go_wp2_with (fail)
            go_roundg (8 - (j + 1))
            case measure => have := HGJ.out; omega
            case rel => exact ⟨j + 1, by omega, by omega, rfl, by go_num, Lib.hid (by rw [Nat.add_sub_cancel, ← HL.out]; exact HK.out)⟩
          · have hp2 : (c j : Int) ≤ 0 := by omega
            have HL := Lib.hid (linS_miss hp j1)
            have q0 : (0 : Int) ≤ (j : Int) := by omega
            have q1 : (j : Int) < 8 := by omega
            clear hp
            go_wp2_with (fail)
            go_roundg (8 - (j + 1))
            case measure => have := HGJ.out; omega
            case rel => exact ⟨j + 1, by omega, by omega, rfl, by go_num, Lib.hid (by rw [Nat.add_sub_cancel, ← HL.out]; exact HK.out)⟩
        · obtain rfl : j = 8 := by omega
          have HK := Lib.hid (show TK w b g h c (linS c 7) _ from HK.out)
          clear HG0 HGJ
          obtain ⟨T, hT⟩ : ∃ T, T = max t 0 := ⟨_, rfl⟩
          obtain ⟨K, hK⟩ : ∃ K, K = max k 0 := ⟨_, rfl⟩
          have eT : t.toNat = T.toNat := by omega
          have eK : k.toNat = K.toNat := by omega
          have HeT := Lib.hid eT
          have HeK := Lib.hid eK
          have T0 : 0 ≤ T := by omega
          have T1 : T ≤ 9223372036854775807 := by omega
          have K0 : 0 ≤ K := by omega
          have K1 : K ≤ 9223372036854775807 := by omega
          have hT' := hT.symm
          have hK' := hK.symm
          have zT := hum_size T.toNat (by omega)
          have zK := hum_size K.toNat (by omega)
          have zL := lin_size c (fun i => by have := HCB.out i; omega) 7 (by omega)
          have zh := head_size T.toNat K.toNat (by omega) (by omega)
          have HHT := Lib.hid (fun wx (hx : TB wx) => human_spec T T1 wx hx)
          have HHK := Lib.hid (fun wx (hx : TB wx) => human_spec K K1 wx hx)
          have HW1 := Lib.hid (fun wx (hx : TK w b g h c (linS c 7) wx) => (show Calls Tryd.prog 27 #[.pointer (some ⟨b, 0, none⟩), .string (⟨#[116, 111, 108, 100, 32]⟩ ++ humB T.toNat ++ ⟨#[44, 32, 99, 111, 112, 105, 101, 100, 32]⟩ ++ humB K.toNat ++ ⟨#[10]⟩)] wx _ from write_spec b (linS c 7) (headB T.toNat K.toNat) wx hx.bd (by omega) hx.hb))
          have HST := Lib.hid (fun wx (tx : ByteArray) (hx : TK w b g h c tx wx) => string_spec b tx wx hx.bd hx.hb)
          clear eT eK hT hK zL
          have tail : ∀ A : Nat, A = allN T.toNat K.toNat → (∀ wx, Calls Tryd.prog 11 #[.int .i64 K, .int .i64 (A : Int)] wx fun e w' => e = .returned (.string (pctB K.toNat A)) ∧ Fr (fun _ => False) wx w') := fun A hA wx =>
            percent_spec K A (by rw [hA]; unfold allN; split <;> omega) wx
          by_cases hsum : T + K ≤ 9223372036854775807
          · have hA : (T + K).toNat = allN T.toNat K.toNat := by unfold allN; rw [if_pos (by omega)]; omega
            have HP := tail _ hA
            rw [show (((T + K).toNat : Nat) : Int) = T + K by omega] at HP
            have zP := pct_size K.toNat (T + K).toNat
            have zS := spa_size K.toNat (T + K).toNat
            have HHP := Lib.hid HP
            have HA := Lib.hid hA
            have zA : (linS c 7 ++ headB T.toNat K.toNat).size ≤ 1000 := by
              have := lin_size c (fun i => by have := HCB.out i; omega) 7 (by omega)
              rw [ByteArray.size_append]; omega
            have HW2 := Lib.hid (fun wx (hx : TK w b g h c (linS c 7 ++ headB T.toNat K.toNat) wx) => (show Calls Tryd.prog 27 #[.pointer (some ⟨b, 0, none⟩), .string (⟨#[115, 112, 97, 114, 101, 100, 32]⟩ ++ pctB K.toNat (T + K).toNat ++ ⟨#[10]⟩)] wx _ from write_spec b (linS c 7 ++ headB T.toNat K.toNat) (spaB K.toNat (T + K).toNat) wx hx.bd (by omega) hx.hb))
            clear tail hA HP zA zS zh
            go_wp2_with (first
              | (go_at_call 9; ((with_reducible refine (HHT.out _ (HTB.out.fr HK.out.fr)).mono ?_); rintro e w3 ⟨rfl, hf⟩; have HK := Lib.hid (HK.out.on hf); clear hf HHT))
              | (go_at_call 9; ((with_reducible refine (HHK.out _ (HTB.out.fr HK.out.fr)).mono ?_); rintro e w4 ⟨rfl, hf⟩; have HK := Lib.hid (HK.out.on hf); clear hf))
              | (go_at_call 27; ((with_reducible refine (HW1.out _ HK.out).mono ?_); rintro e w5 ⟨rfl, hd, hbl⟩; have HK := Lib.hid (HK.out.put hbl hd); clear hd hbl HW1))
              | (go_at_call 11; ((with_reducible refine (HHP.out _).mono ?_); rintro e w6 ⟨rfl, hf⟩; have HK := Lib.hid (HK.out.on hf); clear hf))
              | (go_at_call 27; ((with_reducible refine (HW2.out _ HK.out).mono ?_); rintro e w7 ⟨rfl, hd, hbl⟩; have HK := Lib.hid (HK.out.put hbl hd); clear hd hbl))
              | (go_at_call 28; ((with_reducible refine (HST.out _ _ HK.out).mono ?_); rintro e w8 ⟨rfl, hbl⟩; have HFF := Lib.hid (fr_below HK.out.fr hbl HK.out.wb); clear hbl)))
            go_ret
            exact ⟨by rw [HeT.out, HeK.out, ← HCE.out]; unfold totB; rw [← HA.out]; rfl, HFF.out⟩
          · have hA : 9223372036854775807 = allN T.toNat K.toNat := by unfold allN; rw [if_neg (by omega)]
            obtain ⟨S, hS⟩ : ∃ S, S = T + K - 18446744073709551616 := ⟨_, rfl⟩
            have S0 : S < 0 := by omega
            have w1 : IntKind.i64.wrap (T + K) = S := by rw [IntKind.wrap_i64]; omega
            have w2 : wrap64 (T + K) = S := by unfold wrap64; omega
            have HP := tail _ hA
            rw [show (((9223372036854775807 : Nat)) : Int) = 9223372036854775807 from rfl] at HP
            have zP := pct_size K.toNat 9223372036854775807
            have zS := spa_size K.toNat 9223372036854775807
            have HHP := Lib.hid HP
            have HA := Lib.hid hA
            have zA : (linS c 7 ++ headB T.toNat K.toNat).size ≤ 1000 := by
              have := lin_size c (fun i => by have := HCB.out i; omega) 7 (by omega)
              rw [ByteArray.size_append]; omega
            have HW2 := Lib.hid (fun wx (hx : TK w b g h c (linS c 7 ++ headB T.toNat K.toNat) wx) => (show Calls Tryd.prog 27 #[.pointer (some ⟨b, 0, none⟩), .string (⟨#[115, 112, 97, 114, 101, 100, 32]⟩ ++ pctB K.toNat 9223372036854775807 ++ ⟨#[10]⟩)] wx _ from write_spec b (linS c 7 ++ headB T.toNat K.toNat) (spaB K.toNat 9223372036854775807) wx hx.bd (by omega) hx.hb))
            clear tail hA HP zA zS zh hS hsum
            go_wp2_with (first
              | (go_at_call 9; ((with_reducible refine (HHT.out _ (HTB.out.fr HK.out.fr)).mono ?_); rintro e w3 ⟨rfl, hf⟩; have HK := Lib.hid (HK.out.on hf); clear hf HHT))
              | (go_at_call 9; ((with_reducible refine (HHK.out _ (HTB.out.fr HK.out.fr)).mono ?_); rintro e w4 ⟨rfl, hf⟩; have HK := Lib.hid (HK.out.on hf); clear hf))
              | (go_at_call 27; ((with_reducible refine (HW1.out _ HK.out).mono ?_); rintro e w5 ⟨rfl, hd, hbl⟩; have HK := Lib.hid (HK.out.put hbl hd); clear hd hbl HW1))
              | (go_at_call 11; ((with_reducible refine (HHP.out _).mono ?_); rintro e w6 ⟨rfl, hf⟩; have HK := Lib.hid (HK.out.on hf); clear hf))
              | (go_at_call 27; ((with_reducible refine (HW2.out _ HK.out).mono ?_); rintro e w7 ⟨rfl, hd, hbl⟩; have HK := Lib.hid (HK.out.put hbl hd); clear hd hbl))
              | (go_at_call 28; ((with_reducible refine (HST.out _ _ HK.out).mono ?_); rintro e w8 ⟨rfl, hbl⟩; have HFF := Lib.hid (fr_below HK.out.fr hbl HK.out.wb); clear hbl)))
            go_ret
            exact ⟨by rw [HeT.out, HeK.out, ← HCE.out]; unfold totB; rw [← HA.out]; rfl, HFF.out⟩
end Go.Proofs.YthnhieikeigjcaaDoor
