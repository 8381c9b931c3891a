/- The walk of Read. -/
import Derived.Test.YtlfaeabbfejjcaaParse
import Derived.Test.YtlfaeabbfejjcaaReadP
import Derived.Test.YtlfaeabbfejjcaaGetR
import Derived.Test.YtlfaeabbfejjcaaEq
import Derived.StillTailTactics
import Derived.IntWalk
namespace Go.Proofs.Ytlfaeabbfejjcaa
open Go.RowKit

theorem Byts.fr {w w' : World} {a : Option Addr} {l : List UInt8} (h : Byts w a l) (f : Fr (fun _ => False) w w') : Byts w' a l :=
  ⟨h.1, fun j hj => by
    obtain ⟨x, hx, hlt, hc⟩ := h.2 j hj
    exact ⟨x, hx, Nat.lt_of_lt_of_le hlt f.size, by rw [f.cell (a := x.add j) (by rw [add_block]; exact hlt) (fun h => h)]; exact hc⟩⟩

/-- Where number k goes. -/
def pB (o fl : Nat) : Nat → Nat
  | 2 => fl
  | _ => o
def pO : Nat → Nat
  | 0 => 0
  | 1 => 1
  | 2 => 0
  | 3 => 18
  | 4 => 19
  | _ => 20
def pcells (o fl : Nat) : Array Value := #[.pointer (some ⟨o, 0, none⟩), .pointer (some ⟨o, 1, none⟩), .pointer (some ⟨fl, 0, none⟩), .pointer (some ⟨o, 18, none⟩), .pointer (some ⟨o, 19, none⟩), .pointer (some ⟨o, 20, none⟩)]
theorem pcells_get (o fl : Nat) : ∀ k, k < 6 → (pcells o fl)[k]? = some (.pointer (some ⟨pB o fl k, pO k, none⟩)) := fun k hk => match k, hk with
  | 0, _ => rfl
  | 1, _ => rfl
  | 2, _ => rfl
  | 3, _ => rfl
  | 4, _ => rfl
  | 5, _ => rfl

/-- The state of the first loop. -/
structure RS (w : World) (r o fl pt : Nat) (v : Nat → Int) (wr : World) : Prop where
  rb : Blk wr r 25 (ocells zf)
  ob : Blk wr o 25 (ocells (oF v))
  fb : Blk wr fl 3 #[.int .i64 (v 2)]
  pb : Blk wr pt 57 (pcells o fl)
  low : w.heap.size ≤ r
  ro : r < o
  of : o < fl
  fp : fl < pt
  fr : Fr (fun _ => False) w wr

theorem RS.cell {w wr : World} {r o fl pt : Nat} {v : Nat → Int} (p : RS w r o fl pt v wr) (k : Nat) (hk : k < 6) : (∃ n, wr.cell? ⟨pB o fl k, pO k, none⟩ = some (.int .i64 n)) ∧ wr.frozen? ⟨pB o fl k, pO k, none⟩ = false := by
  match k, hk with
  | 0, _ => exact ⟨⟨_, p.ob.cell 0 rfl⟩, p.ob.free 0⟩
  | 1, _ => exact ⟨⟨_, p.ob.cell 1 rfl⟩, p.ob.free 1⟩
  | 2, _ => exact ⟨⟨_, p.fb.cell 0 rfl⟩, p.fb.free 0⟩
  | 3, _ => exact ⟨⟨_, p.ob.cell 18 rfl⟩, p.ob.free 18⟩
  | 4, _ => exact ⟨⟨_, p.ob.cell 19 rfl⟩, p.ob.free 19⟩
  | 5, _ => exact ⟨⟨_, p.ob.cell 20 rfl⟩, p.ob.free 20⟩

theorem RS.put {w wr : World} {r o fl pt : Nat} {v : Nat → Int} (p : RS w r o fl pt v wr) (k : Nat) (hk : k < 6) (n : Int) : RS w r o fl pt (upd v k n) (wr.setCell ⟨pB o fl k, pO k, none⟩ (.int .i64 n)) := by
  have h1 := p.low; have h2 := p.ro; have h3 := p.of; have h4 := p.fp
  have hB : pB o fl k = o ∨ pB o fl k = fl := by
    match k, hk with
    | 0, _ => exact .inl rfl
    | 1, _ => exact .inl rfl
    | 2, _ => exact .inr rfl
    | 3, _ => exact .inl rfl
    | 4, _ => exact .inl rfl
    | 5, _ => exact .inl rfl
  refine ⟨p.rb.setOther (show r ≠ pB o fl k by rcases hB with h | h <;> rw [h] <;> omega) _, ?_, ?_, p.pb.setOther (show pt ≠ pB o fl k by rcases hB with h | h <;> rw [h] <;> omega) _, h1, h2, h3, h4, p.fr.setCell (fun h => by
    have h : pB o fl k < w.heap.size := h
    rcases hB with h' | h' <;> rw [h'] at h <;> omega) _⟩
  · obtain ⟨e0, e1, e2, e3, e4, e5⟩ := oF_upd v n
    match k, hk with
    | 0, _ => rw [e0, ← ocells_upd _ _ 0 (by decide)]; exact p.ob.set 0 _
    | 1, _ => rw [e1, ← ocells_upd _ _ 1 (by decide)]; exact p.ob.set 1 _
    | 2, _ => rw [e2]; exact p.ob.setOther (show o ≠ fl by omega) _
    | 3, _ => rw [e3, ← ocells_upd _ _ 18 (by decide)]; exact p.ob.set 18 _
    | 4, _ => rw [e4, ← ocells_upd _ _ 19 (by decide)]; exact p.ob.set 19 _
    | 5, _ => rw [e5, ← ocells_upd _ _ 20 (by decide)]; exact p.ob.set 20 _
  · have hne : fl ≠ o := by omega
    match k, hk with
    | 0, _ => exact p.fb.setOther hne _
    | 1, _ => exact p.fb.setOther hne _
    | 2, _ => exact p.fb.set 0 _
    | 3, _ => exact p.fb.setOther hne _
    | 4, _ => exact p.fb.setOther hne _
    | 5, _ => exact p.fb.setOther hne _

theorem RS.start (w : World) : RS w w.heap.size (w.heap.size + 1) (w.heap.size + 1 + 1) (w.heap.size + 1 + 1 + 1) zf
    ((((w.alloc (.cells #[.int .i64 0, .int .i64 0, .bool false, .bool false, .bool false, .bool false, .bool false, .bool false, .bool false, .bool false, .bool false, .bool false, .bool false, .bool false, .bool false, .bool false, .bool false, .bool false, .int .i64 0, .int .i64 0, .int .i64 0] 25)).alloc (.cells #[.int .i64 0, .int .i64 0, .bool false, .bool false, .bool false, .bool false, .bool false, .bool false, .bool false, .bool false, .bool false, .bool false, .bool false, .bool false, .bool false, .bool false, .bool false, .bool false, .int .i64 0, .int .i64 0, .int .i64 0] 25)).alloc (.cells #[.int .i64 0] 3)).alloc (.cells #[.pointer (some ⟨w.heap.size + 1, 0, none⟩), .pointer (some ⟨w.heap.size + 1, 1, none⟩), .pointer (some ⟨w.heap.size + 1 + 1, 0, none⟩), .pointer (some ⟨w.heap.size + 1, 18, none⟩), .pointer (some ⟨w.heap.size + 1, 19, none⟩), .pointer (some ⟨w.heap.size + 1, 20, none⟩)] 57)) := by
  have b1 := (((Blk.new w 25 (ocells zf)).alloc (.cells (ocells (oF zf)) 25)).alloc (.cells #[.int .i64 0] 3)).alloc (.cells (pcells (w.heap.size + 1) (w.heap.size + 1 + 1)) 57)
  have b2 := ((Blk.new (w.alloc (.cells (ocells zf) 25)) 25 (ocells (oF zf))).alloc (.cells #[.int .i64 0] 3)).alloc (.cells (pcells (w.heap.size + 1) (w.heap.size + 1 + 1)) 57)
  have b3 := (Blk.new ((w.alloc (.cells (ocells zf) 25)).alloc (.cells (ocells (oF zf)) 25)) 3 #[.int .i64 0]).alloc (.cells (pcells (w.heap.size + 1) (w.heap.size + 1 + 1)) 57)
  have b4 := Blk.new (((w.alloc (.cells (ocells zf) 25)).alloc (.cells (ocells (oF zf)) 25)).alloc (.cells #[.int .i64 0] 3)) 57 (pcells (w.heap.size + 1) (w.heap.size + 1 + 1))
  have sz : ∀ (x : World) (o : Obj), (x.alloc o).heap.size = x.heap.size + 1 := fun _ _ => Array.size_push ..
  rw [sz] at b2
  rw [sz, sz] at b3
  rw [sz, sz, sz] at b4
  exact ⟨b1, b2, b3, b4, Nat.le_refl _, by omega, by omega, by omega, ((((Fr.refl _ w).alloc _).alloc _).alloc _).alloc _⟩

/-- The state of the second loop. -/
structure FS (w : World) (r o fl g : Nat) (bs : Nat → Nat) (f : Nat → Int) (x : Int) (wr : World) : Prop where
  rb : Blk wr r 25 (ocells zf)
  ob : Blk wr o 25 (ocells f)
  fb : Blk wr fl 3 #[.int .i64 x]
  fls : Flds (fl + 1) wr g bs
  low : w.heap.size ≤ r
  ro : r < o
  of : o < fl
  fr : Fr (fun _ => False) w wr

theorem FS.on {w wr w1 : World} {r o fl g : Nat} {bs : Nat → Nat} {f : Nat → Int} {x : Int} (p : FS w r o fl g bs f x wr) (h : Fr (fun _ => False) wr w1) : FS w r o fl g bs f x w1 :=
  ⟨p.rb.fr h (fun h => h), p.ob.fr h (fun h => h), p.fb.fr h (fun h => h), p.fls.fr h (fun _ _ h => h), p.low, p.ro, p.of, p.fr.trans h (fun _ _ h => h)⟩
theorem FS.set {w wr w1 : World} {r o fl g : Nat} {bs : Nat → Nat} {f f' : Nat → Int} {x : Int} (p : FS w r o fl g bs f x wr) (hb : Blk w1 o 25 (ocells f')) (h : Fr (fun k => k = o) wr w1) : FS w r o fl g bs f' x w1 := by
  have h1 := p.low; have h2 := p.ro; have h3 := p.of
  exact ⟨p.rb.fr h (show ¬ r = o by omega), hb, p.fb.fr h (show ¬ fl = o by omega), p.fls.fr h (fun k hk e => by omega), p.low, p.ro, p.of, p.fr.trans h (fun i hi e => by omega)⟩
theorem RS.fs {w wr w1 : World} {r o fl pt g : Nat} {bs : Nat → Nat} {v : Nat → Int} (p : RS w r o fl pt v wr) (hf : Flds wr.heap.size w1 g bs) (h : Fr (fun _ => False) wr w1) : FS w r o fl g bs (gF2 v 0) (v 2) w1 := by
  have hlt := p.fb.lt
  rw [gF2_start]
  exact ⟨p.rb.fr h (fun h => h), p.ob.fr h (fun h => h), p.fb.fr h (fun h => h), ⟨hf.row, Nat.le_trans hlt hf.base, fun i hi => Nat.le_trans hlt (hf.boxes i hi), hf.box⟩, p.low, p.ro, p.of, p.fr.trans h (fun _ _ h => h)⟩

theorem kd_sw : ∀ i, i < 21 → (((kd i : Int) == 0) = true ↔ (2 ≤ i ∧ i ≤ 17)) := by decide
theorem sF_sw : ∀ i, i < 21 → 2 ≤ i ∧ i ≤ 17 → sF i = 60 := by decide

set_option maxRecDepth 100000 in
set_option maxHeartbeats 16000000 in
theorem read_spec (a : Option Addr) (l : List UInt8) (cap : Nat) (p0 : Int) (w : World) (hb : Byts w a l) :
    Calls Try.prog 11 #[.slice a l.length cap, .int .i64 p0] w fun e w' => e = .returned (.tuple #[.agg (ocells (readS l p0).1), .int .i64 (readS l p0).2.1, .int .i64 (readS l p0).2.2]) ∧ Fr (fun _ => False) w w' := by
  have hl := hb.1
  have HBY := Lib.hid hb
  have hps := RS.start w
  have HPS := Lib.hid hps
  clear hb hps
  go_enter Try.func11, Try.ntmps11
  go_wp2_with (fail)
  generalize ((((w.alloc (.cells #[.int .i64 0, .int .i64 0, .bool false, .bool false, .bool false, .bool false, .bool false, .bool false, .bool false, .bool false, .bool false, .bool false, .bool false, .bool false, .bool false, .bool false, .bool false, .bool false, .int .i64 0, .int .i64 0, .int .i64 0] 25)).alloc (.cells #[.int .i64 0, .int .i64 0, .bool false, .bool false, .bool false, .bool false, .bool false, .bool false, .bool false, .bool false, .bool false, .bool false, .bool false, .bool false, .bool false, .bool false, .bool false, .bool false, .int .i64 0, .int .i64 0, .int .i64 0] 25)).alloc (.cells #[.int .i64 0] 3)).alloc (.cells #[.pointer (some ⟨w.heap.size + 1, 0, none⟩), .pointer (some ⟨w.heap.size + 1, 1, none⟩), .pointer (some ⟨w.heap.size + 1 + 1, 0, none⟩), .pointer (some ⟨w.heap.size + 1, 18, none⟩), .pointer (some ⟨w.heap.size + 1, 19, none⟩), .pointer (some ⟨w.heap.size + 1, 20, none⟩)] 57)) = w3 at HPS ⊢
  generalize w.heap.size + 1 + 1 + 1 = pt at HPS ⊢
  generalize w.heap.size + 1 + 1 = fl at HPS ⊢
  generalize w.heap.size + 1 = o at HPS ⊢
  generalize w.heap.size = r at HPS ⊢
  go_loopg [1, 25] 6 (fun gk x1 x25 wr => ∃ (k : Nat) (p : Int) (v : Nat → Int), k ≤ 6 ∧ gk = 6 - k ∧ x25 = .int .i64 k ∧ x1 = .int .i64 p ∧ Hid (rd l 6 p0 zf = rd l (6 - k) p v) ∧ Hid (vbd v) ∧ Hid (RS w r o fl pt v wr))
  case atStart => exact ⟨0, p0, zf, by omega, rfl, rfl, rfl, Lib.hid rfl, Lib.hid vbd_zf, HPS⟩
  case round =>
    obtain ⟨k, p, v, hk, hgk, rfl, rfl, HR, HV, HS⟩ := hrel
    have HG := Lib.hid hgk
    clear hgk HPS
    by_cases hk6 : k < 6
    · have q0 := HS.out.pb.cell k (pcells_get o fl k hk6)
      have hby := HBY.out.fr HS.out.fr
      have hget := get_spec a l cap p wr hby
      obtain ⟨n, nx, e0, hn⟩ : ∃ n nx e0, getA l p = (n, nx, e0) := ⟨_, _, _, rfl⟩
      have hbd := getA_bd l p
      rw [hn] at hget hbd
      simp only at hbd
      obtain ⟨hb1, hb2⟩ := hbd
      have e6 : 6 - k = (5 - k) + 1 := by omega
      have HGET := Lib.hid hget
      clear hget hby
      by_cases he : e0 = 0
      · subst he
        have hr := HR.out
        rw [e6, rd_ok hn, show 5 - (5 - k) = k by omega, show 5 - k = 6 - (k + 1) by omega] at hr
        have HR2 := Lib.hid hr
        obtain ⟨⟨on, hon⟩, hof⟩ := HS.out.cell k hk6
        have hput := HS.out.put k hk6 n
        have HPUT := Lib.hid hput
        have HV2 := Lib.hid (vbd_upd HV.out k hb1 hb2)
        clear hr hput e6 hn hb1 hb2 HR HV
        generalize pB o fl k = pb at q0 hon hof HPUT ⊢
        generalize pO k = po at q0 hon hof HPUT ⊢
        go_wp2_with (go_at_call 14; refine HGET.out.mono ?_; rintro e w4 ⟨rfl, rfl⟩)
        go_roundg (6 - (k + 1))
        case measure => have := HG.out; omega
        case rel => exact ⟨k + 1, nx, upd v k n, by omega, rfl, by go_num, rfl, HR2, HV2, HPUT⟩
      · have hr := HR.out
        rw [e6, rd_err hn he] at hr
        have hx := readS_err hr he
        have HX := Lib.hid hx
        have b1 : (e0 != 0) = true := by simpa using he
        have b2 : (e0 == 0) = false := by simpa using he
        clear hr hx e6 hn hb1 hb2 HR HV he
        go_wp2_with (first
          | (go_at_call 14; refine HGET.out.mono ?_; rintro e w4 ⟨rfl, rfl⟩)
          | (refine wpList_store_row rfl 25 _ _ rfl r (ocells zf) rfl rfl 25 (ocells zf) HS.out.rb Try.size25 rfl (ocells_one _) ?_))
        have hx := HX.out
        refine bodyPost_ret (results_cell3 rfl _ _ r 25 (ocells zf) (0, 0) _ rfl (HS.out.rb.setRow _) Try.underlying25 rfl Try.size25) rfl ⟨?_, HS.out.fr.trans (fr_setRow _ _ _) (fun j hj e => absurd HS.out.low (by omega))⟩
        rw [hx]; rfl
    · obtain rfl : k = 6 := by omega
      have hr := HR.out
      rw [show 6 - 6 = 0 from rfl, rd] at hr
      have HR2 := Lib.hid hr
      have hx2 := HV.out 2
      clear hr HR HG
      go_wp2_with (go_at_call 16; refine (fields_spec _).mono ?_; rintro e w4 ⟨g, bs, rfl, hfl, hf4⟩; have HFS := Lib.hid (HS.out.fs hfl hf4); clear hfl hf4)
      have HVX := Lib.hid (show gF2 v 21 = rF v from rfl)
      obtain ⟨x, hx⟩ : ∃ x, x = v 2 := ⟨_, rfl⟩
      rw [← hx] at HFS hx2
      obtain ⟨x0, x1⟩ := hx2
      have HXV := Lib.hid hx
      clear hx HV HS
      go_loopg [9, 47] 21 (fun gk x9 x47 wr => ∃ i : Nat, i ≤ 21 ∧ gk = 21 - i ∧ x47 = .int .i64 i ∧ x9 = .int .i64 (bw i) ∧ Hid (FS w r o fl g bs (gF2 v i) x wr))
      case atStart => exact ⟨0, by omega, rfl, rfl, rfl, HFS⟩
      case round =>
        obtain ⟨i, hi, hgk, rfl, rfl, HI⟩ := hrel
        have HG := Lib.hid hgk
        clear hgk HFS
        by_cases hit : i < 21
        · have q0 := HI.out.fls.row.cell (i * 4) (v := .string (nm i)) (by rw [Nat.mul_comm]; exact fcells_0 bs i hit)
          have q1 := HI.out.fls.row.cell (i * 4 + 1) (v := .int .i64 (kd i)) (by rw [Nat.mul_comm]; exact fcells_1 bs i hit)
          have q2 := HI.out.fls.row.cell (i * 4 + 2) (v := .func (.func (gF i)) #[] #[.pointer (some ⟨bs i, 0, none⟩)]) (by rw [Nat.mul_comm]; exact fcells_2 bs i hit)
          have q3 := HI.out.fls.row.cell (i * 4 + 3) (v := .func (.func (sF i)) #[] #[.pointer (some ⟨bs i, 0, none⟩)]) (by rw [Nat.mul_comm]; exact fcells_3 bs i hit)
          have hks := kd_sw i hit
          have hbw := bw_bd i
          by_cases hsw : 2 ≤ i ∧ i ≤ 17
          · have hk0 := hks.2 hsw
            obtain ⟨hst1, hst2⟩ := bw_step i hsw
            have hset := fun n wx ho => set_spec o (gF2 v i) n wx ho i hit (bs i)
            rw [sF_sw i hit hsw] at q3 hset
            have HSET := Lib.hid hset
            have hgs := gF2_step v i hsw
            rw [← HXV.out] at hgs
            have HGS := Lib.hid hgs
            have HB1 := Lib.hid hst1
            have HB2 := Lib.hid hst2
            clear hks hset hgs hst1 hst2 hsw HVX
            generalize bw i = b at hbw HB1 HB2 ⊢
            obtain ⟨b0, b1⟩ := hbw
            go_wp2_with (fail)
            have p5 := HI.out.on ((Fr.refl _ _).alloc (.cells #[.string (nm i), .int .i64 (kd i), .func (.func (gF i)) #[] #[.pointer (some ⟨bs i, 0, none⟩)], .func (.func 60) #[] #[.pointer (some ⟨bs i, 0, none⟩)]] 46))
            have c3 := (Blk.new wr 46 #[.string (nm i), .int .i64 (kd i), .func (.func (gF i)) #[] #[.pointer (some ⟨bs i, 0, none⟩)], .func (.func 60) #[] #[.pointer (some ⟨bs i, 0, none⟩)]]).cell 3 (v := .func (.func 60) #[] #[.pointer (some ⟨bs i, 0, none⟩)]) rfl
            generalize wr.alloc (.cells #[.string (nm i), .int .i64 (kd i), .func (.func (gF i)) #[] #[.pointer (some ⟨bs i, 0, none⟩)], .func (.func 60) #[] #[.pointer (some ⟨bs i, 0, none⟩)]] 46) = wv at p5 c3 ⊢
            have P5 := Lib.hid (p5.on ((Fr.refl _ _).drew))
            have c3' : wv.drew.cell? ⟨wr.heap.size, 3, none⟩ = some (.func (.func 60) #[] #[.pointer (some ⟨bs i, 0, none⟩)]) := c3
            clear p5 c3 q0 q1 q2 q3 HI
            refine wp_region_still_tail 6 (by kernel_rfl) (by kernel_rfl) ?_
            simp only [List.take_succ_cons, List.take_zero, List.drop_succ_cons, List.drop_zero]
            change wpStill _ _ wv.drew (fun a' => wpList _ _ _ _ a' wv.drew) _ _
            generalize wv.drew = wx at P5 c3' ⊢
            have fb5 := P5.out.fb.cell 0 (v := .int .i64 x) rfl
            have hbz : b ≠ 0 := by omega
            have d0 : 0 ≤ x / (b : Int) := Int.ediv_nonneg x0 (by omega)
            have d1 : x / (b : Int) ≤ x := Int.ediv_le_self _ x0
            have e1 : x.tdiv (b : Int) = x / (b : Int) := Int.tdiv_eq_ediv_of_nonneg x0
            have e2 : IntKind.i64.wrap (x / (b : Int)) = x / (b : Int) := IntWalk.i64_in _ ⟨by omega, by omega⟩
            have e3 : (x / (b : Int)).tmod 2 = x / (b : Int) % 2 := Int.tmod_eq_emod_of_nonneg d0
            iterate 6 still_step
            refine wpStill_nil ?_
            clear fb5 c3' e1 e2 e3
            go_wp2_with (go_at_call 60; refine (HSET.out _ _ P5.out.ob (P5.out.fls.box i hit)).mono ?_; rintro e w5 ⟨rfl, hb5, hf5⟩; have P6 := Lib.hid (P5.out.set hb5 hf5); clear hb5 hf5 P5)
            go_roundg (21 - (i + 1))
            case measure => have := HG.out; omega
            case rel => exact ⟨i + 1, by omega, rfl, by go_num, by rw [HB1.out]; go_num, Lib.hid (by rw [← HGS.out, show (x / 2 ^ (i - 2) % 2 : Int) = x / (b : Int) % 2 by rw [HB2.out, Int.natCast_pow]; rfl]; exact P6.out)⟩
          · have hk0 : ((kd i : Int) == 0) = false := by
              cases h : ((kd i : Int) == 0)
              · rfl
              · exact absurd (hks.1 h) hsw
            have hb := bw_skip i hsw
            have hg := gF2_skip v i hsw
            have HB := Lib.hid hb
            have HGG := Lib.hid hg
            clear hks hb hg hsw HVX
            go_wp2_with (fail)
            go_roundg (21 - (i + 1))
            case measure => have := HG.out; omega
            case rel => exact ⟨i + 1, by omega, rfl, by go_num, by rw [HB.out], Lib.hid (by rw [← HGG.out]; exact HI.out.on ((Fr.refl _ _).alloc _))⟩
        · obtain rfl : i = 21 := by omega
          have h65 : ((bw 21 : Nat) : Int) = 65536 := rfl
          rw [h65]
          have p5 := HI.out
          rw [HVX.out] at p5
          have P5 := Lib.hid p5
          have hr := HR2.out
          clear p5 HI HVX HG h65
          have fb5 := P5.out.fb.cell 0 (v := .int .i64 x) rfl
          by_cases hbig : 65536 ≤ x
          · have hx := readS_form hr (by rw [← HXV.out]; exact hbig)
            have HX := Lib.hid hx
            clear hx hr HXV HR2
            go_wp2_with (refine wpList_store_row rfl 25 _ _ rfl r (ocells zf) rfl rfl 25 (ocells zf) P5.out.rb Try.size25 rfl (ocells_one _) ?_)
            have hx := HX.out
            refine bodyPost_ret (results_cell3 rfl _ _ r 25 (ocells zf) (0, 0) _ rfl (P5.out.rb.setRow _) Try.underlying25 rfl Try.size25) rfl ⟨?_, P5.out.fr.trans (fr_setRow _ _ _) (fun j hj e => absurd P5.out.low (by omega))⟩
            rw [hx]; rfl
          · cases hok : okS (rF v)
            · have hx := readS_arg hr (by rw [← HXV.out]; exact hbig) hok
              have hchk := fun wx => check_spec (rF v) wx
              simp only [ckS, hok] at hchk
              have HCHK := Lib.hid hchk
              have HX := Lib.hid hx
              clear hx hr HXV HR2 hchk hok
              go_wp2_with (first
                | (refine wpList_load_row rfl 25 _ rfl o rfl 25 (ocells (rF v)) (0, 0) _ P5.out.ob Try.underlying25 rfl Try.size25 ?_)
                | (go_at_call 18; refine (HCHK.out _).mono ?_; rintro e w6 ⟨rfl, hf6⟩; have P6 := Lib.hid (P5.out.on hf6); clear hf6 fb5 P5)
                | (refine wpList_store_row rfl 25 _ _ rfl r (ocells zf) rfl rfl 25 (ocells zf) P6.out.rb Try.size25 rfl (ocells_one _) ?_))
              have hx := HX.out
              refine bodyPost_ret (results_cell3 rfl _ _ r 25 (ocells zf) (0, 0) _ rfl (P6.out.rb.setRow _) Try.underlying25 rfl Try.size25) rfl ⟨?_, P6.out.fr.trans (fr_setRow _ _ _) (fun j hj e => absurd P6.out.low (by omega))⟩
              rw [hx]; rfl
            · have hx := readS_ok hr (by rw [← HXV.out]; exact hbig) hok
              have hchk := fun wx => check_spec (rF v) wx
              simp only [ckS, hok] at hchk
              have HCHK := Lib.hid hchk
              have HX := Lib.hid hx
              clear hx hr HXV HR2 hchk hok
              go_wp2_with (first
                | (refine wpList_load_row rfl 25 _ rfl o rfl 25 (ocells (rF v)) (0, 0) _ P5.out.ob Try.underlying25 rfl Try.size25 ?_)
                | (go_at_call 18; refine (HCHK.out _).mono ?_; rintro e w6 ⟨rfl, hf6⟩; have P6 := Lib.hid (P5.out.on hf6); clear hf6 fb5 P5)
                | (refine wpList_load_row rfl 25 _ rfl o rfl 25 (ocells (rF v)) (0, 0) _ P6.out.ob Try.underlying25 rfl Try.size25 ?_)
                | (refine wpList_store_row rfl 25 _ _ rfl r (ocells (rF v)) rfl rfl 25 (ocells zf) P6.out.rb Try.size25 rfl (ocells_one _) ?_))
              have hx := HX.out
              refine bodyPost_ret (results_cell3 rfl _ _ r 25 (ocells (rF v)) (0, 0) _ rfl (P6.out.rb.setRow _) Try.underlying25 rfl Try.size25) rfl ⟨?_, P6.out.fr.trans (fr_setRow _ _ _) (fun j hj e => absurd P6.out.low (by omega))⟩
              rw [hx]; rfl
end Go.Proofs.Ytlfaeabbfejjcaa
