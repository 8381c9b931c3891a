/- The walk of Parse. -/
import Derived.Test.YtlfaeabbfejjcaaDoorPSpec
import Derived.Test.YtlfaeabbfejjcaaDoorSet
import Derived.Deep.LoopGhost
import Derived.WalkMore
namespace Go.Proofs.YtlfaeabbfejjcaaDoor
open Go.RowKit

/-- What lies where in Parse's loops. -/
structure PS (w : World) (r o g sg : Nat) (bs : Nat → Nat) (f : Nat → Int) (s : Nat → Bool) (wr : World) : Prop where
  rb : Blk wr r 23 (ocells zf)
  ob : Blk wr o 23 (ocells f)
  fl : Flds (o + 1) wr g bs
  sb : Blk wr sg 4 (bcells s)
  ro : r < o
  os : o < sg
  gs : g < sg
  bsS : ∀ i, i < 21 → bs i < sg
  low : w.heap.size ≤ r
  fr : Fr (fun _ => False) w wr

theorem PS.on {w : World} {r o g sg : Nat} {bs : Nat → Nat} {f : Nat → Int} {s : Nat → Bool} {wr w' : World} (h : PS w r o g sg bs f s wr) (k : Fr (fun _ => False) wr w') : PS w r o g sg bs f s w' :=
  ⟨h.rb.fr k (fun h => h), h.ob.fr k (fun h => h), h.fl.fr k (fun _ _ h => h), h.sb.fr k (fun h => h), h.ro, h.os, h.gs, h.bsS, h.low, h.fr.trans k (fun _ _ h => h)⟩

theorem PS.set {w : World} {r o g sg : Nat} {bs : Nat → Nat} {f f' : Nat → Int} {s : Nat → Bool} {wr w' : World} (h : PS w r o g sg bs f s wr) (hb : Blk w' o 23 (ocells f')) (k : Fr (fun k => k = o) wr w') : PS w r o g sg bs f' s w' :=
  ⟨h.rb.fr k (fun e => absurd h.ro (by omega)), hb, ⟨h.fl.row.fr k (fun e => by have := h.fl.base; omega), h.fl.base, h.fl.boxes, fun i hi => (h.fl.box i hi).fr k (fun e => by have := h.fl.boxes i hi; omega)⟩,
   h.sb.fr k (fun e => absurd h.os (by omega)), h.ro, h.os, h.gs, h.bsS, h.low, h.fr.trans k (fun i hi e => absurd h.low (by have := h.ro; omega))⟩

theorem PS.mark {w : World} {r o g sg : Nat} {bs : Nat → Nat} {f : Nat → Int} {s : Nat → Bool} {wr : World} (h : PS w r o g sg bs f s wr) (i : Nat) (hi : i < 21) : PS w r o g sg bs f (updB s i) (wr.setCell ⟨sg, i, none⟩ (.bool true)) := by
  have h1 := h.ro; have h2 := h.os; have h3 := h.low; have h4 := h.gs
  refine ⟨h.rb.setOther (a := ⟨sg, i, none⟩) (show r ≠ sg by omega) _, h.ob.setOther (a := ⟨sg, i, none⟩) (show o ≠ sg by omega) _, ⟨h.fl.row.setOther (a := ⟨sg, i, none⟩) (show g ≠ sg by omega) _, h.fl.base, h.fl.boxes, fun j hj => (h.fl.box j hj).setOther (a := ⟨sg, i, none⟩) (show bs j ≠ sg by have := h.bsS j hj; omega) _⟩, ?_, h1, h2, h4, h.bsS, h3, h.fr.setCell (p := ⟨sg, i, none⟩) (fun hlt => absurd hlt (by show ¬ sg < w.heap.size; omega)) _⟩
  have := h.sb.set i (.bool true)
  rwa [bcells_upd s i hi] at this

theorem PS.start {w w1 w2 : World} {g : Nat} {bs : Nat → Nat} (hf1 : Fr (fun _ => False) (w.alloc (.cells (ocells zf) 23)) w1) (hfl : Flds (w1.alloc (.cells (ocells dflt) 23)).heap.size w2 g bs) (hf2 : Fr (fun _ => False) (w1.alloc (.cells (ocells dflt) 23)) w2) :
    PS w w.heap.size w1.heap.size g w2.heap.size bs dflt (fun _ => false) (w2.alloc (.cells (bcells fun _ => false) 4)) := by
  have s0 : (w.alloc (.cells (ocells zf) 23)).heap.size = w.heap.size + 1 := Array.size_push ..
  have s1 : (w1.alloc (.cells (ocells dflt) 23)).heap.size = w1.heap.size + 1 := Array.size_push ..
  have z1 := hf1.size
  have z2 := hf2.size
  have hr : Blk w1 w.heap.size 23 (ocells zf) := (Blk.new w 23 (ocells zf)).fr hf1 (fun h => h)
  have hr2 : Blk w2 w.heap.size 23 (ocells zf) := (hr.alloc (.cells (ocells dflt) 23)).fr hf2 (fun h => h)
  have ho : Blk w2 w1.heap.size 23 (ocells dflt) := (Blk.new w1 23 (ocells dflt)).fr hf2 (fun h => h)
  rw [s1] at hfl
  have F := hfl.fr ((Fr.refl (fun _ => False) w2).alloc (.cells (bcells fun _ => false) 4)) (fun _ _ h => h)
  exact ⟨hr2.alloc _, ho.alloc _, F, Blk.new _ _ _, by omega, by omega, hfl.row.lt, fun i hi => (hfl.box i hi).lt, Nat.le_refl _,
    ((((Fr.refl (fun _ => False) w).alloc _).trans hf1 (fun _ _ h => h)).alloc _).trans (hf2.alloc _) (fun _ _ h => h)⟩

theorem results_cell3 {P : Program} {fn : Func} {p u v : Tmp} {ty : TypeId} (h : fn.results = #[.cell p ty, .tmp u, .tmp v]) (tmps : Array Value) (w : World) (g : Nat) (t : TypeId) (cs : Array Value) (fr : Nat × Nat) (d : TypeDesc)
    (hp : tmps.getD p undef = .pointer (some ⟨g, 0, none⟩)) (hg : w.heap[g]? = some (.cells cs t fr))
    (hu : P.underlying ty = some d) (hd : (match d with | .struct _ | .array _ _ => true | _ => false) = true) (hi : (P.info? ty).map (·.size) = some cs.size) :
    (results fn tmps).run P w = .ok (.tuple #[.agg cs, tmps.getD u undef, tmps.getD v undef]) w := by
  have hp' : tmps[p]?.getD undef = .pointer (some ⟨g, 0, none⟩) := by simpa using hp
  simp [results, h, hp', asAddr, run_loadVar_row w g t ty cs fr d hg hu hd hi]

theorem sF_cases : ∀ i, i < 21 → sF i = 58 ∨ sF i = 60 := by21 (.inl rfl) (.inl rfl) (.inr rfl) (.inr rfl) (.inr rfl) (.inr rfl) (.inr rfl) (.inr rfl) (.inr rfl) (.inr rfl) (.inr rfl) (.inr rfl) (.inr rfl) (.inr rfl) (.inr rfl) (.inr rfl) (.inr rfl) (.inr rfl) (.inl rfl) (.inl rfl) (.inl rfl)

theorem findF_hit {w : List UInt8} {i : Nat} (hi : i < 21) {n : Int} (h : fS i w = (n, true)) : findF w (21 - i) = some (i, n) := by
  obtain ⟨k, hk⟩ : ∃ k, 21 - i = k + 1 := ⟨20 - i, by omega⟩
  have e : 20 - k = i := by omega
  rw [hk, findF, e, h]; rfl
theorem findF_miss {w : List UInt8} {i : Nat} (hi : i < 21) {n : Int} (h : fS i w = (n, false)) : findF w (21 - i) = findF w (21 - (i + 1)) := by
  obtain ⟨k, hk⟩ : ∃ k, 21 - i = k + 1 := ⟨20 - i, by omega⟩
  have e : 20 - k = i := by omega
  have e2 : 21 - (i + 1) = k := by omega
  rw [hk, findF, e, h, e2]; rfl

theorem parseL_none {wd : ByteArray} {t : List ByteArray} {k : Nat} {f : Nat → Int} {s : Nat → Bool} (h : findF wd.data.toList 21 = none) : parseL (wd :: t) k f s = (zf, k, 5) := by rw [parseL, h]
theorem parseL_there {wd : ByteArray} {t : List ByteArray} {k : Nat} {f : Nat → Int} {s : Nat → Bool} {i : Nat} {n : Int} (h : findF wd.data.toList 21 = some (i, n)) (hs : s i = true) : parseL (wd :: t) k f s = (zf, k, 11) := by rw [parseL, h]; simp [hs]
theorem parseL_step {wd : ByteArray} {t : List ByteArray} {k : Nat} {f : Nat → Int} {s : Nat → Bool} {i : Nat} {n : Int} (h : findF wd.data.toList 21 = some (i, n)) (hs : s i = false) : parseL (wd :: t) k f s = parseL t (k + 1) (upd f i n) (updB s i) := by rw [parseL, h]; simp [hs]

theorem Fr.cell {S : Nat → Prop} {w w' : World} (h : Fr S w w') {a : Addr} (ha : a.block < w.heap.size) (hS : ¬ S a.block) : w'.cell? a = w.cell? a := World.cell?_of_block (h.block _ ha hS)
theorem add_block (a : Addr) (k : Nat) : (a.add k).block = a.block := by unfold Addr.add; split <;> rfl

set_option maxHeartbeats 16000000 in
theorem parse_spec (ad : Option Addr) (L : List ByteArray) (cap : Nat) (w : World) (hL : L.length ≤ 1000)
    (hc : ∀ j s, L[j]? = some s → ∃ a, ad = some a ∧ a.block < w.heap.size ∧ w.cell? (a.add j) = some (.string s)) :
    Calls Tryd.prog 8 #[.slice ad L.length cap] w fun e w' => e = .returned (.tuple #[.agg (ocells (parseS L).1), .int .i64 (parseS L).2.1, .int .i64 (parseS L).2.2]) ∧ Fr (fun _ => False) w w' := by
  have hmk : ∀ w, (Instr.makeSlice 48 (.int .i64 21) (.int .i64 21)).run Tryd.prog w = .ok (.slice (some ⟨w.heap.size, 0, none⟩) 21 21) (w.alloc (.cells (bcells fun _ => false) 4)) := fun _ => by kernel_rfl
  have HC := Lib.hid hc
  clear hc
  go_enter Tryd.func8, Tryd.ntmps8
  go_wp2_with (first | (refine wpList_store_row rfl 23 _ _ rfl _ (ocells dflt) rfl rfl 23 (ocells zf) (Blk.new _ _ _) Tryd.size23 rfl (ocells_one _) ?_; rw [World.setRow_alloc_new]) | (go_at_call 14; refine (default_spec _).mono ?_; rintro e w1 ⟨rfl, hf1⟩) | (go_at_call 16; refine (fields_spec _).mono ?_; rintro e w2 ⟨g, bs, rfl, hfl, hf2⟩))
  go_step3
  go_wp2_with (first | (refine wpList_store_row rfl 23 _ _ rfl _ (ocells dflt) rfl rfl 23 (ocells zf) (Blk.new _ _ _) Tryd.size23 rfl (ocells_one _) ?_; rw [World.setRow_alloc_new]) | (go_at_call 14; refine (default_spec _).mono ?_; rintro e w1 ⟨rfl, hf1⟩) | (go_at_call 16; refine (fields_spec _).mono ?_; rintro e w2 ⟨g, bs, rfl, hfl, hf2⟩))
  go_step3
  go_wp2_with (fail)
  have hps := PS.start hf1 hfl hf2
  generalize hr : w.heap.size = r at hps ⊢
  generalize ho : w1.heap.size = o at hps ⊢
  generalize hsg : w2.heap.size = sg at hps ⊢
  generalize hw3 : w2.alloc (.cells (bcells fun _ => false) 4) = w3 at hps ⊢
  clear hf1 hf2 hfl hmk hw3 hsg ho
  have HPS := Lib.hid hps
  clear hps
  go_loopg [22] L.length (fun gk x wr => ∃ (k : Nat) (f : Nat → Int) (s : Nat → Bool), k ≤ L.length ∧ gk = L.length - k ∧ x = .int .i64 k ∧ Hid (parseS L = parseL (L.drop k) k f s) ∧ Hid (PS w r o g sg bs f s wr))
  case atStart => exact ⟨0, dflt, _, by omega, rfl, rfl, Lib.hid rfl, HPS⟩
  case round =>
    obtain ⟨k, f, s, hk, hgk, rfl, HP, HS⟩ := hrel
    by_cases hlt : k < L.length
    · obtain ⟨wd, hwd⟩ : ∃ wd, L[k]? = some wd := ⟨_, List.getElem?_eq_getElem hlt⟩
      obtain ⟨a, ha, hab, hcell⟩ := HC.out k wd hwd
      subst ha
      have hcr : wr.cell? (a.add k) = some (.string wd) := by rw [← hcell]; exact HS.out.fr.cell (by rw [add_block]; exact hab) (fun h => h)
      have hdr : L.drop k = wd :: L.drop (k + 1) := by rw [List.drop_eq_getElem_cons hlt]; congr 1; rw [List.getElem?_eq_getElem hlt] at hwd; exact Option.some.inj hwd
      have HP2 := Lib.hid (HP.out.trans (by rw [hdr]) : parseS L = parseL (wd :: L.drop (k + 1)) k f s)
      clear hdr hwd HP HC hcell
      go_wp2_with (fail)
      go_loopg [29] 21 (fun gj x wi => ∃ i : Nat, i ≤ 21 ∧ gj = 21 - i ∧ x = .int .i64 i ∧ Hid (findF wd.data.toList 21 = findF wd.data.toList (21 - i)) ∧ Hid (PS w r o g sg bs f s wi))
      case atStart => exact ⟨0, by omega, rfl, rfl, Lib.hid rfl, HS⟩
      case round =>
        obtain ⟨i, hi, hgj, rfl, HF, HI⟩ := hrel
        by_cases hit : i < 21
        · have p := HI.out
          have q0 := p.fl.row.cell (i * 4) (v := .string (nm i)) (by rw [Nat.mul_comm]; exact fcells_0 bs i hit)
          have q1 := p.fl.row.cell (i * 4 + 1) (v := .int .i64 (kd i)) (by rw [Nat.mul_comm]; exact fcells_1 bs i hit)
          have q2 := p.fl.row.cell (i * 4 + 2) (v := .func (.func (gF i)) #[] #[.pointer (some ⟨bs i, 0, none⟩)]) (by rw [Nat.mul_comm]; exact fcells_2 bs i hit)
          have q3 := p.fl.row.cell (i * 4 + 3) (v := .func (.func (sF i)) #[] #[.pointer (some ⟨bs i, 0, none⟩)]) (by rw [Nat.mul_comm]; exact fcells_3 bs i hit)
          clear p
          obtain ⟨n, b, hnb⟩ : ∃ n b, fS i wd.data.toList = (n, b) := ⟨_, _, rfl⟩
          have hsay : ∀ g1 g2 wx, Calls Tryd.prog 20 #[.agg #[.string (nm i), .int .i64 (kd i), g1, g2], .string wd] wx fun e w' => e = .returned (.tuple #[.int .i64 n, .bool b]) ∧ Fr (fun _ => False) wx w' := by
            intro g1 g2 wx
            have := says_spec (nm i) wd (kd i) g1 g2 wx (nm_small i hit)
            rw [show sayS (nm i).data.toList (kd i) wd.data.toList = (n, b) from hnb] at this
            exact this
          have HSAY := Lib.hid hsay
          have HNB := Lib.hid hnb
          clear hsay hnb
          cases b
          · have HF2 := Lib.hid (HF.out.trans (findF_miss hit HNB.out))
            go_wp2_with (go_at_call 20; refine (HSAY.out _ _ _).mono ?_; rintro e w4 ⟨rfl, hf4⟩)
            have p4 := HI.out.on (((Fr.refl _ _).alloc _).trans hf4 (fun _ _ h => h))
            go_roundg (21 - (i + 1))
            case measure => omega
            case rel => exact ⟨i + 1, by omega, rfl, by go_num, HF2, Lib.hid p4⟩
          · have HF2 := Lib.hid (HF.out.trans (findF_hit hit HNB.out))
            clear HF
            cases hsi : s i
            · have HNX := Lib.hid (HP2.out.trans (parseL_step HF2.out hsi))
              have hset := fun wx ho hb => set_spec o f n wx ho i hit (bs i) hb
              rcases sF_cases i hit with he | he
              · rw [he] at q3 hset
                have HSET := Lib.hid hset
                clear hset he
                go_wp2_with (first | (go_at_call 20; refine (HSAY.out _ _ _).mono ?_; rintro e w4 ⟨rfl, hf4⟩; have p4 := HI.out.on (((Fr.refl _ _).alloc _).trans hf4 (fun _ _ h => h)); have sd4 := p4.sb.cell i (bcells_get s i hit); rw [hsi] at sd4; have b4 := (Blk.new _ _ _).fr hf4 (fun h => h); have c43 := b4.cell 3 (v := .func (.func 58) #[] #[.pointer (some ⟨bs i, 0, none⟩)]) rfl; have P4 := Lib.hid p4; clear p4 hf4 b4) | (go_at_call 58; refine (HSET.out _ P4.out.ob (P4.out.fl.box i hit)).mono ?_; rintro e w5 ⟨rfl, hb5, hf5⟩; have p5 := P4.out.set hb5 hf5; have sd5 := p5.sb.cell i (bcells_get s i hit); have sf5 := p5.sb.free i; have P5 := Lib.hid p5; clear p5 hb5 hf5 sd4))
                go_roundg (L.length - (k + 1))
                case measure => omega
                case rel => exact ⟨k + 1, upd f i n, updB s i, by omega, rfl, by go_num, HNX, Lib.hid (P5.out.mark i hit)⟩
              · rw [he] at q3 hset
                have HSET := Lib.hid hset
                clear hset he
                go_wp2_with (first | (go_at_call 20; refine (HSAY.out _ _ _).mono ?_; rintro e w4 ⟨rfl, hf4⟩; have p4 := HI.out.on (((Fr.refl _ _).alloc _).trans hf4 (fun _ _ h => h)); have sd4 := p4.sb.cell i (bcells_get s i hit); rw [hsi] at sd4; have b4 := (Blk.new _ _ _).fr hf4 (fun h => h); have c43 := b4.cell 3 (v := .func (.func 60) #[] #[.pointer (some ⟨bs i, 0, none⟩)]) rfl; have P4 := Lib.hid p4; clear p4 hf4 b4) | (go_at_call 60; refine (HSET.out _ P4.out.ob (P4.out.fl.box i hit)).mono ?_; rintro e w5 ⟨rfl, hb5, hf5⟩; have p5 := P4.out.set hb5 hf5; have sd5 := p5.sb.cell i (bcells_get s i hit); have sf5 := p5.sb.free i; have P5 := Lib.hid p5; clear p5 hb5 hf5 sd4))
                go_roundg (L.length - (k + 1))
                case measure => omega
                case rel => exact ⟨k + 1, upd f i n, updB s i, by omega, rfl, by go_num, HNX, Lib.hid (P5.out.mark i hit)⟩
            · have HNX := Lib.hid (HP2.out.trans (parseL_there HF2.out hsi))
              go_wp2_with (first | (go_at_call 20; refine (HSAY.out _ _ _).mono ?_; rintro e w4 ⟨rfl, hf4⟩; have p4 := HI.out.on (((Fr.refl _ _).alloc _).trans hf4 (fun _ _ h => h)); have sd4 := p4.sb.cell i (bcells_get s i hit); rw [hsi] at sd4; have P4 := Lib.hid p4; clear p4 hf4) | (refine wpList_store_row rfl 23 _ _ rfl r (ocells zf) rfl rfl 23 (ocells zf) P4.out.rb Tryd.size23 rfl (ocells_one _) ?_))
              rw [Exit.noGoto_ret]
              have hx := HNX.out
              refine bodyPost_ret (results_cell3 rfl _ _ r 23 (ocells zf) (0, 0) _ rfl (P4.out.rb.setRow _) Tryd.underlying23 rfl Tryd.size23) rfl ⟨?_, P4.out.fr.trans (fr_setRow _ _ _) (fun j hj e => absurd P4.out.low (by omega))⟩
              rw [hx]; rfl
        · obtain rfl : i = 21 := by omega
          have HNX := Lib.hid (HP2.out.trans (parseL_none HF.out))
          go_wp2_with (first | (refine wpList_store_row rfl 23 _ _ rfl r (ocells zf) rfl rfl 23 (ocells zf) HI.out.rb Tryd.size23 rfl (ocells_one _) ?_))
          rw [Exit.noGoto_ret]
          have hx := HNX.out
          refine bodyPost_ret (results_cell3 rfl _ _ r 23 (ocells zf) (0, 0) _ rfl (HI.out.rb.setRow _) Tryd.underlying23 rfl Tryd.size23) rfl ⟨?_, HI.out.fr.trans (fr_setRow _ _ _) (fun j hj e => absurd HI.out.low (by omega))⟩
          rw [hx]; rfl
    · obtain rfl : k = L.length := by omega
      have hx : parseS L = if okS f = true then (f, L.length, 0) else (zf, L.length, 2) := by
        rw [HP.out, List.drop_of_length_le (Nat.le_refl _)]; rfl
      cases hok : okS f
      · have hchk : ∀ wx, Calls Tryd.prog 7 #[.agg (ocells f)] wx fun e w' => e = .returned (.int .i64 2) ∧ Fr (fun _ => False) wx w' := by
          intro wx
          have := check_spec f wx
          rw [ckS, hok] at this
          exact this
        rw [hok] at hx
        have HX := Lib.hid hx
        have HCHK := Lib.hid hchk
        clear hx hchk hok
        go_wp2_with (first | (refine wpList_load_row rfl 23 _ rfl o rfl 23 (ocells f) (0, 0) _ HS.out.ob Tryd.underlying23 rfl Tryd.size23 ?_) | (refine wpList_store_row rfl 23 _ _ rfl r (ocells zf) rfl rfl 23 (ocells zf) P4.out.rb Tryd.size23 rfl (ocells_one _) ?_) | (go_at_call 7; refine (HCHK.out _).mono ?_; rintro e w4 ⟨rfl, hf4⟩; have P4 := Lib.hid (HS.out.on hf4)))
        rw [Exit.noGoto_ret]
        have hx := HX.out
        refine bodyPost_ret (results_cell3 rfl _ _ r 23 (ocells zf) (0, 0) _ rfl (P4.out.rb.setRow _) Tryd.underlying23 rfl Tryd.size23) rfl ⟨?_, P4.out.fr.trans (fr_setRow _ _ _) (fun j hj e => absurd P4.out.low (by omega))⟩
        rw [hx]; rfl
      · have hchk : ∀ wx, Calls Tryd.prog 7 #[.agg (ocells f)] wx fun e w' => e = .returned (.int .i64 0) ∧ Fr (fun _ => False) wx w' := by
          intro wx
          have := check_spec f wx
          rw [ckS, hok] at this
          exact this
        rw [hok] at hx
        have HX := Lib.hid hx
        have HCHK := Lib.hid hchk
        clear hx hchk hok
        go_wp2_with (first | (refine wpList_load_row rfl 23 _ rfl o rfl 23 (ocells f) (0, 0) _ HS.out.ob Tryd.underlying23 rfl Tryd.size23 ?_) | (refine wpList_load_row rfl 23 _ rfl o rfl 23 (ocells f) (0, 0) _ P4.out.ob Tryd.underlying23 rfl Tryd.size23 ?_) | (refine wpList_store_row rfl 23 _ _ rfl r (ocells f) rfl rfl 23 (ocells zf) P4.out.rb Tryd.size23 rfl (ocells_one _) ?_) | (go_at_call 7; refine (HCHK.out _).mono ?_; rintro e w4 ⟨rfl, hf4⟩; have P4 := Lib.hid (HS.out.on hf4)))
        rw [Exit.noGoto_ret]
        have hx := HX.out
        refine bodyPost_ret (results_cell3 rfl _ _ r 23 (ocells f) (0, 0) _ rfl (P4.out.rb.setRow _) Tryd.underlying23 rfl Tryd.size23) rfl ⟨?_, P4.out.fr.trans (fr_setRow _ _ _) (fun j hj e => absurd P4.out.low (by omega))⟩
        rw [hx]; rfl
end Go.Proofs.YtlfaeabbfejjcaaDoor
