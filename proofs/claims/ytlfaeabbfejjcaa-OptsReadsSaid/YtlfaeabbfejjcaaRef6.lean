/- The walk of the reference's Parse. -/
import Derived.Test.YtlfaeabbfejjcaaParse
import Derived.Test.YtlfaeabbfejjcaaOf
import Derived.Test.YtlfaeabbfejjcaaRck
import Derived.Test.YtlfaeabbfejjcaaRef3
import Derived.Test.YtlfaeabbfejjcaaRef5
namespace Go.Proofs.Ytlfaeabbfejjcaa
open Go.RowKit

theorem acells_upd (f : Nat → Int) (n : Int) : ∀ i, i < 21 → (acells f).setIfInBounds i (.int .i64 n) = acells (upd f i n) := by21 rfl rfl rfl rfl rfl rfl rfl rfl rfl rfl rfl rfl rfl rfl rfl rfl rfl rfl rfl rfl rfl
theorem acells_get (f : Nat → Int) : ∀ i, i < 21 → (acells f)[i]? = some (.int .i64 (f i)) := by21 rfl rfl rfl rfl rfl rfl rfl rfl rfl rfl rfl rfl rfl rfl rfl rfl rfl rfl rfl rfl rfl
theorem nrm_dflt : acells (nrm dflt) = acells dflt := by kernel_rfl

/-- The state of the reference's reading. -/
structure PR (w : World) (r nb sg : Nat) (f : Nat → Int) (s : Nat → Bool) (wr : World) : Prop where
  rb : Blk wr r 25 (ocells zf)
  nn : Blk wr nb 51 (acells f)
  sb : Blk wr sg 53 (bcells s)
  low : w.heap.size ≤ r
  rn : r < nb
  ns : nb < sg
  fr : Fr (fun _ => False) w wr

theorem PR.on {w wr w1 : World} {r nb sg : Nat} {f : Nat → Int} {s : Nat → Bool} (p : PR w r nb sg f s wr) (h : Fr (fun _ => False) wr w1) : PR w r nb sg f s w1 :=
  ⟨p.rb.fr0 h, p.nn.fr0 h, p.sb.fr0 h, p.low, p.rn, p.ns, p.fr.mono0 h⟩
theorem PR.mark {w wr : World} {r nb sg : Nat} {f : Nat → Int} {s : Nat → Bool} (p : PR w r nb sg f s wr) (i : Nat) (hi : i < 21) (n : Int) :
    PR w r nb sg (upd f i n) (updB s i) ((wr.setCell ⟨sg, i, none⟩ (.bool true)).setCell ⟨nb, i, none⟩ (.int .i64 n)) := by
  have h1 := p.low; have h2 := p.rn; have h3 := p.ns
  refine ⟨(p.rb.setOther (show r ≠ sg by omega) _).setOther (show r ≠ nb by omega) _, ?_, ?_, h1, h2, h3, (p.fr.setCell (fun h => ?_) _).setCell (fun h => ?_) _⟩
  · rw [← acells_upd f n i hi]; exact (p.nn.setOther (show nb ≠ sg by omega) _).set i _
  · rw [← bcells_upd s i hi]; exact (p.sb.set i _).setOther (show sg ≠ nb by omega) _
  · have : sg < w.heap.size := h; omega
  · have : nb < w.heap.size := h; omega
theorem PR.start {w w2 : World} {f : Nat → Int} (h : Fr (fun _ => False) (w.alloc (.cells (ocells zf) 25)) w2) : PR w w.heap.size w2.heap.size (w2.heap.size + 1) f (fun _ => false) ((w2.alloc (.cells (acells f) 51)).alloc (.cells #[.bool false, .bool false, .bool false, .bool false, .bool false, .bool false, .bool false, .bool false, .bool false, .bool false, .bool false, .bool false, .bool false, .bool false, .bool false, .bool false, .bool false, .bool false, .bool false, .bool false, .bool false] 53)) := by
  have hs := h.size
  rw [show (w.alloc (.cells (ocells zf) 25)).heap.size = w.heap.size + 1 from Array.size_push ..] at hs
  refine ⟨(((Blk.new w 25 (ocells zf)).fr0 h).alloc _).alloc _, (Blk.new w2 51 (acells f)).alloc _, ?_, Nat.le_refl _, by omega, by omega, ((((Fr.refl _ w).alloc _).mono0 h).alloc _).alloc _⟩
  have := Blk.new (w2.alloc (.cells (acells f) 51)) 53 (bcells fun _ => false)
  rwa [show (w2.alloc (.cells (acells f) 51)).heap.size = w2.heap.size + 1 from Array.size_push ..] at this

set_option maxHeartbeats 16000000 in
theorem rparse_spec (ad : Option Addr) (L : List ByteArray) (cap : Nat) (w : World) (hL : L.length ≤ 1000)
    (hc : ∀ j s, L[j]? = some s → ∃ a, ad = some a ∧ a.block < w.heap.size ∧ w.cell? (a.add j) = some (.string s)) :
    Calls Try.prog 10 #[.slice ad L.length cap] w fun e w' => e = .returned (.tuple #[.agg (ocells (parseS L).1), .int .i64 (parseS L).2.1, .int .i64 (parseS L).2.2]) ∧ Fr (fun _ => False) w w' := by
  have HC := Lib.hid hc
  clear hc
  have hfl := fun wx => rfields_spec dflt wx
  rw [nrm_dflt] at hfl
  have HFL := Lib.hid hfl
  clear hfl
  go_enter Try.func10, Try.ntmps10
  go_wp2_with (first
    | (go_at_call 20; refine (rdefault_spec _).mono ?_; rintro e w1 ⟨rfl, hf1⟩)
    | (go_at_call 19; refine (HFL.out _).mono ?_; rintro e w2 ⟨rfl, hf2⟩)
    | (refine wpList_store_row rfl 51 _ _ rfl _ (acells dflt) rfl rfl 51 (acells zf) (Blk.new _ _ _) Try.size51 rfl (acells_one _) ?_; rw [World.setRow_alloc_new]))
  have hps := PR.start (f := dflt) (hf1.mono0 hf2)
  generalize hr : w.heap.size = r at hps ⊢
  generalize hnb : w2.heap.size = nb at hps ⊢
  have hsg : nb + 1 = nb + 1 := rfl
  generalize nb + 1 = sg at hps ⊢
  generalize (w2.alloc (.cells (acells dflt) 51)).alloc (.cells #[.bool false, .bool false, .bool false, .bool false, .bool false, .bool false, .bool false, .bool false, .bool false, .bool false, .bool false, .bool false, .bool false, .bool false, .bool false, .bool false, .bool false, .bool false, .bool false, .bool false, .bool false] 53) = w3 at hps ⊢
  have HPS := Lib.hid hps
  clear hps hf1 hf2 hr hnb hsg HFL
  go_loopg [7] L.length (fun gk x wr => ∃ (k : Nat) (f : Nat → Int) (s : Nat → Bool), k ≤ L.length ∧ gk = L.length - k ∧ x = .int .i64 k ∧ Hid (parseS L = parseL (L.drop k) k f s) ∧ Hid (PR w r nb sg f s wr))
  case atStart => exact ⟨0, dflt, _, by omega, rfl, rfl, Lib.hid rfl, HPS⟩
  case round =>
    obtain ⟨k, f, s, hk, hgk, rfl, HP, HS⟩ := hrel
    have HG := Lib.hid hgk
    clear hgk HPS
    by_cases hlt : k < L.length
    · obtain ⟨wd, hwd⟩ : ∃ wd, L[k]? = some wd := ⟨_, List.getElem?_eq_getElem hlt⟩
      obtain ⟨a, ha, hab, hcell⟩ := HC.out k wd hwd
      subst ha
      have hcr : wr.cell? (a.add k) = some (.string wd) := by rw [← hcell]; exact HS.out.fr.cell (by rw [add_block]; exact hab) (fun h => h)
      have hdr : L.drop k = wd :: L.drop (k + 1) := by rw [List.drop_eq_getElem_cons hlt]; congr 1; rw [List.getElem?_eq_getElem hlt] at hwd; exact Option.some.inj hwd
      have HP2 := Lib.hid (HP.out.trans (by rw [hdr]) : parseS L = parseL (wd :: L.drop (k + 1)) k f s)
      have hw := fun wx => word_spec wd wx
      rw [word_find wd.data.toList 21 (Nat.le_refl _)] at hw
      clear hdr hwd HP HC hcell
      rcases hfd : findF wd.data.toList 21 with _ | ⟨i, n⟩
      · rw [hfd] at hw
        simp only [wOut] at hw
        have HW := Lib.hid hw
        have hx := HP2.out.trans (parseL_none hfd)
        have HX := Lib.hid hx
        clear hx hw hfd HP2
        go_wp2_with (first
          | (go_at_call 21; refine (HW.out _).mono ?_; rintro e w4 ⟨rfl, hf4⟩; have P4 := Lib.hid (HS.out.on hf4); clear hf4)
          | (refine wpList_store_row rfl 25 _ _ rfl r (ocells zf) rfl rfl 25 (ocells zf) P4.out.rb Try.size25 rfl (ocells_one _) ?_))
        have hx := HX.out
        refine bodyPost_ret (results_cell3 rfl _ _ r 25 (ocells zf) (0, 0) _ rfl (P4.out.rb.setRow _) Try.underlying25 rfl Try.size25) rfl ⟨?_, P4.out.fr.trans (fr_setRow _ _ _) (fun j hj e => absurd P4.out.low (by omega))⟩
        rw [hx]; rfl
      · rw [hfd] at hw
        simp only [wOut] at hw
        have HW := Lib.hid hw
        have hit : i < 21 := findF_lt _ 21 i n (Nat.le_refl _) hfd
        clear hw
        cases hsi : s i
        · have HX := Lib.hid (HP2.out.trans (parseL_step hfd hsi))
          have HSI := Lib.hid hsi
          clear hfd HP2 hsi
          go_wp2_with (first
            | (go_at_call 21; refine (HW.out _).mono ?_; rintro e w4 ⟨rfl, hf4⟩; have p4 := HS.out.on hf4; have sd4 := p4.sb.cell i (bcells_get s i hit); rw [HSI.out] at sd4; have sf4 := p4.sb.free i; have nd4 := p4.nn.cell i (acells_get f i hit); have nf4 := p4.nn.free i; have ne4 := p4.ns; have P4 := Lib.hid p4; clear p4 hf4))
          go_roundg (L.length - (k + 1))
          case measure => have := HG.out; omega
          case rel => exact ⟨k + 1, upd f i n, updB s i, by omega, rfl, by go_num, HX, Lib.hid (P4.out.mark i hit n)⟩
        · have HX := Lib.hid (HP2.out.trans (parseL_there hfd hsi))
          have HSI := Lib.hid hsi
          clear hfd HP2 hsi
          go_wp2_with (first
            | (go_at_call 21; refine (HW.out _).mono ?_; rintro e w4 ⟨rfl, hf4⟩; have p4 := HS.out.on hf4; have sd4 := p4.sb.cell i (bcells_get s i hit); rw [HSI.out] at sd4; have P4 := Lib.hid p4; clear p4 hf4)
            | (refine wpList_store_row rfl 25 _ _ rfl r (ocells zf) rfl rfl 25 (ocells zf) P4.out.rb Try.size25 rfl (ocells_one _) ?_))
          have hx := HX.out
          refine bodyPost_ret (results_cell3 rfl _ _ r 25 (ocells zf) (0, 0) _ rfl (P4.out.rb.setRow _) Try.underlying25 rfl Try.size25) rfl ⟨?_, P4.out.fr.trans (fr_setRow _ _ _) (fun j hj e => absurd P4.out.low (by omega))⟩
          rw [hx]; rfl
    · obtain rfl : k = L.length := by omega
      have hx : parseS L = if okS f = true then (f, L.length, 0) else (zf, L.length, 2) := by
        rw [HP.out, List.drop_of_length_le (Nat.le_refl _)]; rfl
      have hchk := fun wx => rcheck_spec f wx
      have hof := fun wx => of_spec f wx
      have HO := Lib.hid hof
      clear hof HC
      cases hok : okS f
      · rw [hok] at hx
        simp only [ckS, hok] at hchk
        have HX := Lib.hid hx
        have HCHK := Lib.hid hchk
        clear hx hchk hok
        go_wp2_with (first
          | (refine wpList_load_row rfl 51 _ rfl nb rfl 51 (acells f) (0, 0) _ HS.out.nn Try.underlying51 rfl Try.size51 ?_)
          | (go_at_call 23; refine (HO.out _).mono ?_; rintro e w4 ⟨rfl, hf4⟩; have P4 := Lib.hid (HS.out.on hf4); clear hf4)
          | (go_at_call 22; refine (HCHK.out _).mono ?_; rintro e w5 ⟨rfl, hf5⟩; have P5 := Lib.hid (P4.out.on hf5); clear hf5)
          | (refine wpList_store_row rfl 25 _ _ rfl r (ocells zf) rfl rfl 25 (ocells zf) P5.out.rb Try.size25 rfl (ocells_one _) ?_))
        have hx := HX.out
        refine bodyPost_ret (results_cell3 rfl _ _ r 25 (ocells zf) (0, 0) _ rfl (P5.out.rb.setRow _) Try.underlying25 rfl Try.size25) rfl ⟨?_, P5.out.fr.trans (fr_setRow _ _ _) (fun j hj e => absurd P5.out.low (by omega))⟩
        rw [hx]; rfl
      · rw [hok] at hx
        simp only [ckS, hok] at hchk
        have HX := Lib.hid hx
        have HCHK := Lib.hid hchk
        clear hx hchk hok
        go_wp2_with (first
          | (refine wpList_load_row rfl 51 _ rfl nb rfl 51 (acells f) (0, 0) _ HS.out.nn Try.underlying51 rfl Try.size51 ?_)
          | (go_at_call 23; refine (HO.out _).mono ?_; rintro e w4 ⟨rfl, hf4⟩; have P4 := Lib.hid (HS.out.on hf4); clear hf4)
          | (go_at_call 22; refine (HCHK.out _).mono ?_; rintro e w5 ⟨rfl, hf5⟩; have P5 := Lib.hid (P4.out.on hf5); clear hf5 HS P4)
          | (refine wpList_load_row rfl 51 _ rfl nb rfl 51 (acells f) (0, 0) _ P5.out.nn Try.underlying51 rfl Try.size51 ?_)
          | (go_at_call 23; refine (HO.out _).mono ?_; rintro e w6 ⟨rfl, hf6⟩; have P6 := Lib.hid (P5.out.on hf6); clear hf6 P5)
          | (refine wpList_store_row rfl 25 _ _ rfl r (ocells f) rfl rfl 25 (ocells zf) P6.out.rb Try.size25 rfl (ocells_one _) ?_))
        have hx := HX.out
        refine bodyPost_ret (results_cell3 rfl _ _ r 25 (ocells f) (0, 0) _ rfl (P6.out.rb.setRow _) Try.underlying25 rfl Try.size25) rfl ⟨?_, P6.out.fr.trans (fr_setRow _ _ _) (fun j hj e => absurd P6.out.low (by omega))⟩
        rw [hx]; rfl
end Go.Proofs.Ytlfaeabbfejjcaa
