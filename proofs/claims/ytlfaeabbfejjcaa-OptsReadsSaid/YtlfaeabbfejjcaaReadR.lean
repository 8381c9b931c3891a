/- The walk of the reference's Read. -/
import Derived.Test.YtlfaeabbfejjcaaRead
import Derived.Test.YtlfaeabbfejjcaaRef6
namespace Go.Proofs.Ytlfaeabbfejjcaa
open Go.RowKit

/-- Where the reference's number k goes. -/
def rpl : Nat → Nat
  | 0 => 0
  | 1 => 1
  | 2 => 2
  | 3 => 18
  | 4 => 19
  | _ => 20
def rpcells : Array Value := #[.int .i64 0, .int .i64 1, .int .i64 2, .int .i64 18, .int .i64 19, .int .i64 20]
theorem rpl_lt : ∀ k, k < 6 → rpl k < 21 := by decide
theorem rpcells_get : ∀ k, k < 6 → rpcells[k]? = some (.int .i64 (rpl k)) := fun k hk => match k, hk with
  | 0, _ => rfl
  | 1, _ => rfl
  | 2, _ => rfl
  | 3, _ => rfl
  | 4, _ => rfl
  | 5, _ => rfl

def nF (v : Nat → Int) : Nat → Int := fun i => if i = 0 then v 0 else if i = 1 then v 1 else if i = 2 then v 2 else if i = 18 then v 3 else if i = 19 then v 4 else if i = 20 then v 5 else 0
def hN (v : Nat → Int) (k : Nat) : Nat → Int := fun i => if 2 ≤ i ∧ i < k then v 2 / 2 ^ (i - 2) % 2 else nF v i

theorem nF_upd (v : Nat → Int) (n : Int) : ∀ k, k < 6 → nF (upd v k n) = upd (nF v) (rpl k) n := fun k hk => by
  have hk : k = 0 ∨ k = 1 ∨ k = 2 ∨ k = 3 ∨ k = 4 ∨ k = 5 := by omega
  rcases hk with rfl | rfl | rfl | rfl | rfl | rfl
  all_goals
    funext i
    have hi : i = 0 ∨ i = 1 ∨ i = 2 ∨ i = 18 ∨ i = 19 ∨ i = 20 ∨ (i ≠ 0 ∧ i ≠ 1 ∧ i ≠ 2 ∧ i ≠ 18 ∧ i ≠ 19 ∧ i ≠ 20) := by omega
    rcases hi with rfl | rfl | rfl | rfl | rfl | rfl | ⟨a, b, c, d, e, f⟩
    all_goals simp [nF, upd, rpl, *]
theorem hN_start (v : Nat → Int) : hN v 2 = nF v := by funext i; unfold hN; rw [if_neg (by omega)]
theorem hN_step (v : Nat → Int) (k : Nat) (h : 2 ≤ k) : upd (hN v k) k (v 2 / 2 ^ (k - 2) % 2) = hN v (k + 1) := by
  funext i
  unfold upd hN
  by_cases hi : i = k
  · rw [if_pos hi, if_pos (by omega), hi]
  · rw [if_neg hi]
    by_cases h2 : 2 ≤ i ∧ i < k
    · rw [if_pos h2, if_pos (by omega)]
    · rw [if_neg h2, if_neg (by omega)]
theorem hN_end (v : Nat → Int) : acells (hN v 18) = acells (rF v) := by
  have h : ∀ i, i < 21 → hN v 18 i = rF v i := by
    intro i hi
    unfold hN rF gF2 oF nF
    by_cases h2 : 2 ≤ i ∧ i < 18
    · rw [if_pos h2, if_pos (by omega)]
    · have hi2 : i = 0 ∨ i = 1 ∨ i = 18 ∨ i = 19 ∨ i = 20 := by omega
      rcases hi2 with rfl | rfl | rfl | rfl | rfl <;> rfl
  simp only [acells, h 0 (by decide), h 1 (by decide), h 2 (by decide), h 3 (by decide), h 4 (by decide), h 5 (by decide), h 6 (by decide), h 7 (by decide), h 8 (by decide), h 9 (by decide), h 10 (by decide), h 11 (by decide), h 12 (by decide), h 13 (by decide), h 14 (by decide), h 15 (by decide), h 16 (by decide), h 17 (by decide), h 18 (by decide), h 19 (by decide), h 20 (by decide)]
theorem half_step (x : Int) (k : Nat) (h : 2 ≤ k) : x / 2 ^ (k - 2) / 2 = x / 2 ^ (k + 1 - 2) := by
  rw [show k + 1 - 2 = (k - 2) + 1 by omega, Int.pow_succ, Int.ediv_ediv_of_nonneg (Int.pow_nonneg (by decide))]

/-- The state of both loops. -/
structure RR (w : World) (r nb pt : Nat) (f : Nat → Int) (wr : World) : Prop where
  rb : Blk wr r 25 (ocells zf)
  nn : Blk wr nb 51 (acells f)
  pb : Blk wr pt 3 rpcells
  low : w.heap.size ≤ r
  rn : r < nb
  np : nb < pt
  fr : Fr (fun _ => False) w wr
theorem RR.on {w wr w1 : World} {r nb pt : Nat} {f : Nat → Int} (p : RR w r nb pt f wr) (h : Fr (fun _ => False) wr w1) : RR w r nb pt f w1 :=
  ⟨p.rb.fr0 h, p.nn.fr0 h, p.pb.fr0 h, p.low, p.rn, p.np, p.fr.mono0 h⟩
theorem RR.put {w wr : World} {r nb pt : Nat} {f : Nat → Int} (p : RR w r nb pt f wr) (i : Nat) (hi : i < 21) (n : Int) : RR w r nb pt (upd f i n) (wr.setCell ⟨nb, i, none⟩ (.int .i64 n)) := by
  have h1 := p.low; have h2 := p.rn; have h3 := p.np
  refine ⟨p.rb.setOther (show r ≠ nb by omega) _, ?_, p.pb.setOther (show pt ≠ nb by omega) _, h1, h2, h3, p.fr.setCell (fun h => by have : nb < w.heap.size := h; omega) _⟩
  rw [← acells_upd f n i hi]; exact p.nn.set i _
theorem RR.start (w : World) : RR w w.heap.size (w.heap.size + 1) (w.heap.size + 1 + 1) (nF zf)
    (((w.alloc (.cells #[.int .i64 0, .int .i64 0, .bool false, .bool false, .bool false, .bool false, .bool false, .bool false, .bool false, .bool false, .bool false, .bool false, .bool false, .bool false, .bool false, .bool false, .bool false, .bool false, .int .i64 0, .int .i64 0, .int .i64 0] 25)).alloc (.cells #[.int .i64 0, .int .i64 0, .int .i64 0, .int .i64 0, .int .i64 0, .int .i64 0, .int .i64 0, .int .i64 0, .int .i64 0, .int .i64 0, .int .i64 0, .int .i64 0, .int .i64 0, .int .i64 0, .int .i64 0, .int .i64 0, .int .i64 0, .int .i64 0, .int .i64 0, .int .i64 0, .int .i64 0] 51)).alloc (.cells #[.int .i64 0, .int .i64 1, .int .i64 2, .int .i64 18, .int .i64 19, .int .i64 20] 3)) := by
  have b1 := ((Blk.new w 25 (ocells zf)).alloc (.cells (acells (nF zf)) 51)).alloc (.cells rpcells 3)
  have b2 := (Blk.new (w.alloc (.cells (ocells zf) 25)) 51 (acells (nF zf))).alloc (.cells rpcells 3)
  have b3 := Blk.new ((w.alloc (.cells (ocells zf) 25)).alloc (.cells (acells (nF zf)) 51)) 3 rpcells
  have sz : ∀ (x : World) (o : Obj), (x.alloc o).heap.size = x.heap.size + 1 := fun _ _ => Array.size_push ..
  rw [sz] at b2
  rw [sz, sz] at b3
  exact ⟨b1, b2, b3, Nat.le_refl _, by omega, by omega, (((Fr.refl _ w).alloc _).alloc _).alloc _⟩

set_option maxRecDepth 100000 in
set_option maxHeartbeats 16000000 in
theorem rread_spec (a : Option Addr) (l : List UInt8) (cap : Nat) (p0 : Int) (w : World) (hb : Byts w a l) :
    Calls Try.prog 12 #[.slice a l.length cap, .int .i64 p0] w fun e w' => e = .returned (.tuple #[.agg (ocells (readS l p0).1), .int .i64 (readS l p0).2.1, .int .i64 (readS l p0).2.2]) ∧ Fr (fun _ => False) w w' := by
  have hl := hb.1
  have HBY := Lib.hid hb
  have hps := RR.start w
  have HPS := Lib.hid hps
  clear hb hps
  go_enter Try.func12, Try.ntmps12
  go_wp2_with (fail)
  generalize (((w.alloc (.cells #[.int .i64 0, .int .i64 0, .bool false, .bool false, .bool false, .bool false, .bool false, .bool false, .bool false, .bool false, .bool false, .bool false, .bool false, .bool false, .bool false, .bool false, .bool false, .bool false, .int .i64 0, .int .i64 0, .int .i64 0] 25)).alloc (.cells #[.int .i64 0, .int .i64 0, .int .i64 0, .int .i64 0, .int .i64 0, .int .i64 0, .int .i64 0, .int .i64 0, .int .i64 0, .int .i64 0, .int .i64 0, .int .i64 0, .int .i64 0, .int .i64 0, .int .i64 0, .int .i64 0, .int .i64 0, .int .i64 0, .int .i64 0, .int .i64 0, .int .i64 0] 51)).alloc (.cells #[.int .i64 0, .int .i64 1, .int .i64 2, .int .i64 18, .int .i64 19, .int .i64 20] 3)) = w3 at HPS ⊢
  generalize w.heap.size + 1 + 1 = pt at HPS ⊢
  generalize w.heap.size + 1 = nb at HPS ⊢
  generalize w.heap.size = r at HPS ⊢
  go_loopg [1, 9] 6 (fun gk x1 x9 wr => ∃ (k : Nat) (p : Int) (v : Nat → Int), k ≤ 6 ∧ gk = 6 - k ∧ x9 = .int .i64 k ∧ x1 = .int .i64 p ∧ Hid (rd l 6 p0 zf = rd l (6 - k) p v) ∧ Hid (vbd v) ∧ Hid (RR w r nb pt (nF v) wr))
  case atStart => exact ⟨0, p0, zf, by omega, rfl, rfl, rfl, Lib.hid rfl, Lib.hid vbd_zf, HPS⟩
  case round =>
    obtain ⟨k, p, v, hk, hgk, rfl, rfl, HR, HV, HS⟩ := hrel
    have HG := Lib.hid hgk
    clear hgk HPS
    by_cases hk6 : k < 6
    · have q0 := HS.out.pb.cell k (rpcells_get k hk6)
      have hpl := rpl_lt k hk6
      have hby := HBY.out.fr HS.out.fr
      have hget := getr_spec a l cap p wr hby
      obtain ⟨n, nx, e0, hn⟩ : ∃ n nx e0, getA l p = (n, nx, e0) := ⟨_, _, _, rfl⟩
      have hbd := getA_bd l p
      rw [hn] at hget hbd
      simp only at hbd
      obtain ⟨hb1, hb2⟩ := hbd
      have e6 : 6 - k = (5 - k) + 1 := by omega
      have HGET := Lib.hid hget
      clear hget hby
      by_cases he : e0 = 0
      · subst he
        have hr := HR.out
        rw [e6, rd_ok hn, show 5 - (5 - k) = k by omega, show 5 - k = 6 - (k + 1) by omega] at hr
        have HR2 := Lib.hid hr
        have hon := HS.out.nn.cell (rpl k) (acells_get (nF v) (rpl k) hpl)
        have hof := HS.out.nn.free (rpl k)
        have hput := HS.out.put (rpl k) hpl n
        rw [← nF_upd v n k hk6] at hput
        have HPUT := Lib.hid hput
        have HV2 := Lib.hid (vbd_upd HV.out k hb1 hb2)
        clear hr hput e6 hn hb1 hb2 HR HV
        generalize rpl k = po at q0 hon hof HPUT hpl ⊢
        go_wp2_with (go_at_call 24; refine HGET.out.mono ?_; rintro e w4 ⟨rfl, rfl⟩)
        go_roundg (6 - (k + 1))
        case measure => have := HG.out; omega
        case rel => exact ⟨k + 1, nx, upd v k n, by omega, rfl, by go_num, rfl, HR2, HV2, HPUT⟩
      · have hr := HR.out
        rw [e6, rd_err hn he] at hr
        have hx := readS_err hr he
        have HX := Lib.hid hx
        have b1 : (e0 != 0) = true := by simpa using he
        have b2 : (e0 == 0) = false := by simpa using he
        clear hr hx e6 hn hb1 hb2 HR HV he
        go_wp2_with (first
          | (go_at_call 24; refine HGET.out.mono ?_; rintro e w4 ⟨rfl, rfl⟩)
          | (refine wpList_store_row rfl 25 _ _ rfl r (ocells zf) rfl rfl 25 (ocells zf) HS.out.rb Try.size25 rfl (ocells_one _) ?_))
        have hx := HX.out
        refine bodyPost_ret (results_cell3 rfl _ _ r 25 (ocells zf) (0, 0) _ rfl (HS.out.rb.setRow _) Try.underlying25 rfl Try.size25) rfl ⟨?_, HS.out.fr.trans (fr_setRow _ _ _) (fun j hj e => absurd HS.out.low (by omega))⟩
        rw [hx]; rfl
    · obtain rfl : k = 6 := by omega
      have hr := HR.out
      rw [show 6 - 6 = 0 from rfl, rd] at hr
      have hx2 := HV.out 2
      obtain ⟨x, hxe⟩ : ∃ x, x = v 2 := ⟨_, rfl⟩
      have c2 := HS.out.nn.cell 2 (v := .int .i64 (v 2)) rfl
      rw [← hxe] at hx2 c2
      obtain ⟨x0, x1⟩ := hx2
      by_cases hbig : 65536 ≤ x
      · have hx := readS_form hr (by rw [← hxe]; exact hbig)
        have HX := Lib.hid hx
        clear hx hr hxe HR HG HV
        go_wp2_with (refine wpList_store_row rfl 25 _ _ rfl r (ocells zf) rfl rfl 25 (ocells zf) HS.out.rb Try.size25 rfl (ocells_one _) ?_)
        have hx := HX.out
        refine bodyPost_ret (results_cell3 rfl _ _ r 25 (ocells zf) (0, 0) _ rfl (HS.out.rb.setRow _) Try.underlying25 rfl Try.size25) rfl ⟨?_, HS.out.fr.trans (fr_setRow _ _ _) (fun j hj e => absurd HS.out.low (by omega))⟩
        rw [hx]; rfl
      · have HS2 : Hid (RR w r nb pt (hN v 2) wr) := Lib.hid (by rw [hN_start]; exact HS.out)
        have HR2 := Lib.hid hr
        have HXV := Lib.hid hxe
        have HBIG := Lib.hid (show ¬ 65536 ≤ v 2 by rw [← hxe]; exact hbig)
        clear hr hxe HR HG HV HS
        go_wp2_with (fail)
        clear c2
        go_loopg [13, 14] 16 (fun gk x13 x14 wr => ∃ (k : Nat) (y : Int), 2 ≤ k ∧ k ≤ 18 ∧ gk = 18 - k ∧ x14 = .int .i64 k ∧ x13 = .int .i64 y ∧ Hid (y = v 2 / 2 ^ (k - 2)) ∧ 0 ≤ y ∧ y < 65536 ∧ Hid (RR w r nb pt (hN v k) wr))
        case atStart => exact ⟨2, x, by omega, by omega, rfl, rfl, rfl, Lib.hid (by rw [HXV.out, show 2 - 2 = 0 from rfl, Int.pow_zero, Int.ediv_one]), x0, by omega, HS2⟩
        case round =>
          obtain ⟨k, y, hk2, hk, hgk, rfl, rfl, HY, y0, y1, HI⟩ := hrel
          have HG := Lib.hid hgk
          clear hgk HS2
          by_cases hk18 : k < 18
          · have hon := HI.out.nn.cell k (acells_get (hN v k) k (by omega))
            have hof := HI.out.nn.free k
            have hput := HI.out.put k (by omega) (y % 2)
            rw [show upd (hN v k) k (y % 2) = hN v (k + 1) by rw [HY.out, hN_step v k hk2]] at hput
            have HPUT := Lib.hid hput
            have HY2 := Lib.hid (show y / 2 = v 2 / 2 ^ (k + 1 - 2) by rw [HY.out, half_step _ k hk2])
            clear hput HY HI
            go_wp2_with (fail)
            go_roundg (18 - (k + 1))
            case measure => have := HG.out; omega
            case rel => exact ⟨k + 1, y / 2, by omega, by omega, rfl, by go_num, rfl, HY2, by omega, by omega, HPUT⟩
          · obtain rfl : k = 18 := by omega
            have p5 := HI.out
            have nn5 := p5.nn
            rw [hN_end] at nn5
            have NN := Lib.hid nn5
            have P5 := Lib.hid p5
            have hr := HR2.out
            have hof := fun wx => of_spec (rF v) wx
            have HO := Lib.hid hof
            clear p5 nn5 HI HG hof HY
            cases hok : okS (rF v)
            · have hx := readS_arg hr (by have := HBIG.out; omega) hok
              have hchk := fun wx => rcheck_spec (rF v) wx
              simp only [ckS, hok] at hchk
              have HCHK := Lib.hid hchk
              have HX := Lib.hid hx
              clear hx hr hchk hok
              go_wp2_with (first
                | (refine wpList_load_row rfl 51 _ rfl nb rfl 51 (acells (rF v)) (0, 0) _ NN.out Try.underlying51 rfl Try.size51 ?_)
                | (go_at_call 23; refine (HO.out _).mono ?_; rintro e w6 ⟨rfl, hf6⟩)
                | (refine wpList_store_row rfl 25 _ _ rfl _ (ocells (rF v)) rfl rfl 25 (ocells zf) (Blk.new _ _ _) Try.size25 rfl (ocells_one _) ?_; rw [World.setRow_alloc_new]; have P6 := Lib.hid (P5.out.on (hf6.alloc (.cells (ocells (rF v)) 25))); have B6 := Lib.hid (Blk.new w6 25 (ocells (rF v))); generalize w6.alloc (.cells (ocells (rF v)) 25) = w7 at P6 B6 ⊢; generalize w6.heap.size = o6 at B6 ⊢)
                | (refine wpList_load_row rfl 25 _ rfl o6 rfl 25 (ocells (rF v)) (0, 0) _ B6.out Try.underlying25 rfl Try.size25 ?_)
                | (go_at_call 22; refine (HCHK.out _).mono ?_; rintro e w8 ⟨rfl, hf8⟩; have P8 := Lib.hid (P6.out.on hf8); clear hf8)
                | (refine wpList_store_row rfl 25 _ _ rfl r (ocells zf) rfl rfl 25 (ocells zf) P8.out.rb Try.size25 rfl (ocells_one _) ?_))
              have hx := HX.out
              refine bodyPost_ret (results_cell3 rfl _ _ r 25 (ocells zf) (0, 0) _ rfl (P8.out.rb.setRow _) Try.underlying25 rfl Try.size25) rfl ⟨?_, P8.out.fr.trans (fr_setRow _ _ _) (fun j hj e => absurd P8.out.low (by omega))⟩
              rw [hx]; rfl
            · have hx := readS_ok hr (by have := HBIG.out; omega) hok
              have hchk := fun wx => rcheck_spec (rF v) wx
              simp only [ckS, hok] at hchk
              have HCHK := Lib.hid hchk
              have HX := Lib.hid hx
              clear hx hr hchk hok
              go_wp2_with (first
                | (refine wpList_load_row rfl 51 _ rfl nb rfl 51 (acells (rF v)) (0, 0) _ NN.out Try.underlying51 rfl Try.size51 ?_)
                | (go_at_call 23; refine (HO.out _).mono ?_; rintro e w6 ⟨rfl, hf6⟩)
                | (refine wpList_store_row rfl 25 _ _ rfl _ (ocells (rF v)) rfl rfl 25 (ocells zf) (Blk.new _ _ _) Try.size25 rfl (ocells_one _) ?_; rw [World.setRow_alloc_new]; have P6 := Lib.hid (P5.out.on (hf6.alloc (.cells (ocells (rF v)) 25))); have B6 := Lib.hid (Blk.new w6 25 (ocells (rF v))); generalize w6.alloc (.cells (ocells (rF v)) 25) = w7 at P6 B6 ⊢; generalize w6.heap.size = o6 at B6 ⊢)
                | (refine wpList_load_row rfl 25 _ rfl o6 rfl 25 (ocells (rF v)) (0, 0) _ B6.out Try.underlying25 rfl Try.size25 ?_)
                | (go_at_call 22; refine (HCHK.out _).mono ?_; rintro e w8 ⟨rfl, hf8⟩; have P8 := Lib.hid (P6.out.on hf8); have B8 := Lib.hid (B6.out.fr0 hf8); clear hf8 B6)
                | (refine wpList_load_row rfl 25 _ rfl o6 rfl 25 (ocells (rF v)) (0, 0) _ B8.out Try.underlying25 rfl Try.size25 ?_)
                | (refine wpList_store_row rfl 25 _ _ rfl r (ocells (rF v)) rfl rfl 25 (ocells zf) P8.out.rb Try.size25 rfl (ocells_one _) ?_))
              have hx := HX.out
              refine bodyPost_ret (results_cell3 rfl _ _ r 25 (ocells (rF v)) (0, 0) _ rfl (P8.out.rb.setRow _) Try.underlying25 rfl Try.size25) rfl ⟨?_, P8.out.fr.trans (fr_setRow _ _ _) (fun j hj e => absurd P8.out.low (by omega))⟩
              rw [hx]; rfl
end Go.Proofs.Ytlfaeabbfejjcaa
