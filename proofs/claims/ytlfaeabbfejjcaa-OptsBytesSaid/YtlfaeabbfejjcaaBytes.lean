/- OptsBytes: for all options, bytes and places, what is put as bytes is read again behind any bytes, and what is read is put as the same bytes: the law returns true, and its arguments read as before. -/
import Derived.Test.YtlfaeabbfejjcaaByt
import Derived.Test.YtlfaeabbfejjcaaOpenO
import Derived.Test.YtlfaeabbfejjcaaAwake
import Derived.Test.YtlfaeabbfejjcaaRows
import Derived.Laws.IdiomStrings
import Derived.Outline
namespace Go.Proofs.Ytlfaeabbfejjcaa
open Go.RowKit
set_option linter.unusedVariables false

/-- Bytes as a text. -/
def bstr (l : List UInt8) : ByteArray := ⟨l.toArray⟩

theorem conv_bstr {w : World} {x : Addr} {l : List UInt8} (cap : Nat) (h : ∀ j, j < l.length → w.cell? (x.add j) = some (.int .u8 ((l.getD j 0).toNat : Int))) :
    (convert 31 9 (.slice (some x) l.length cap)).run Try.prog w = .ok (.string (bstr l)) w :=
  run_convert_bytes_back w 31 9 5 x cap l Try.underlying31 Try.underlying5 Try.underlying9 (fun j hj => by
    rw [h j hj, List.getD_eq_getElem?_getD, List.getElem?_eq_getElem hj]; rfl)

theorem add_add (a : Addr) (i j : Nat) : (a.add i).add j = a.add (i + j) := by
  unfold Addr.add
  by_cases hi : i = 0 <;> by_cases hj : j = 0 <;> simp [hi, hj, Nat.add_assoc]

theorem part_cells {w : World} {x : Addr} {l : List UInt8} (h : Byts w (some x) l) (p t : Nat) (ht : p + t ≤ l.length) :
    ∀ j, j < ((l.drop p).take t).length → w.cell? ((x.add p).add j) = some (.int .u8 ((((l.drop p).take t).getD j 0).toNat : Int)) := by
  intro j hj
  have hjt : j < t := by simp at hj; omega
  rw [add_add]
  obtain ⟨y, hy, _, hc⟩ := h.2 (p + j) (by omega)
  injection hy with hy
  subst hy
  rw [hc, List.getD_eq_getElem?_getD (l := (l.drop p).take t), List.getElem?_take_of_lt hjt, List.getElem?_drop, ← List.getD_eq_getElem?_getD]

theorem eqO_refl3 (f : Nat → Int) : eqO f f = true := by simp [eqO]
theorem run_neq25 (f : Nat → Int) (w : World) : (binOp .neq 25 (.agg (ocells f)) (.agg (ocells f))).run Try.prog w = .ok (.bool false) w := by
  have h := run_eql25 f f w
  rw [run_eql_struct] at h
  rw [run_neq_struct]
  rw [eqO_refl3] at h
  rcases hr : (Op.equalIn 10000 25 (.agg (ocells f)) (.agg (ocells f))).run Try.prog w with ⟨b, w'⟩ | ⟨x, w'⟩
  · rw [hr] at h
    simp only [Result.andThen] at h ⊢
    injection h with h1 h2
    injection h1 with h1
    rw [h1, h2]; rfl
  · rw [hr] at h
    simp only [Result.andThen] at h
    cases h

theorem bytesS_pos (g : Nat → Int) : 0 < (bytesS g).length := by
  unfold bytesS nums encs
  rw [List.length_append]
  have := encL_pos (g 0).toNat
  omega
theorem bytesS_len {f : Nat → Int} (h : okS f = true) : (bytesS f).length ≤ 54 := by
  have := encs_len (nums f) (nums_bd h)
  exact this

section
open Go.ChangeShapes Go.WideShapes Go.ChangeAt Go.Deep
variable {H : Type} {enc : TypeId × Value → H} {P : Program} {w : World} {base : Nat} {spare : Nat → Bool} {held : Bool} {r : Reach} {b0 : Nat} {t e : TypeId} {v : Value} {d : DataW H} {p : List MemPlace}
theorem open_B2 (ht : P.underlying t = some (.slice e)) (he : P.underlying e = some (.int .u8)) (ce : P.cellsOf e = 1) (cb : P.bytesOf e = 1)
    (hv : Value.okWide P w r b0 t v) (h : DataW.Trod enc P w base spare held t v d p) (hsz : ∀ es ss, d = .slice es ss → (es.length + ss.length) * P.bytesOf e ≤ reachBytes) :
    ∃ a l cap, v = .slice a (List.length l) cap ∧ Byts w a l ∧ (a = none → cap = 0) ∧ l.length ≤ 140737488351232 ∧ l.length ≤ cap := by
  obtain ⟨a, n, cap, rfl⟩ := okWide_slice ht hv
  obtain ⟨fuel, hf⟩ := h
  rcases open_ints ht he ce hf with ⟨hcs, _⟩ | ⟨x, l, c, zs, hcs, _, hl, hm, hzl, hd, hx, hwf⟩
  · simp [Value.cells] at hcs
    obtain ⟨rfl, rfl, rfl⟩ := hcs
    exact ⟨none, [], 0, rfl, ⟨by simp, by intro j hj; simp at hj⟩, fun _ => rfl, by simp, by simp⟩
  · simp [Value.cells] at hcs
    obtain ⟨rfl, rfl, rfl⟩ := hcs
    injection hd with hd1 hd2
    have hlz : n ≤ zs.length := by rw [hzl]; split <;> omega
    have hb := hsz _ _ hd1
    rw [cb] at hb
    have hb2 : zs.length ≤ reachBytes := by
      have e1 : (lits (H := H) .u8 (zs.take n)).length = (zs.take n).length := by simp [lits]
      have e2 : (lits (H := H) .u8 (zs.drop n)).length = (zs.drop n).length := by simp [lits]
      rw [e1, e2, List.length_take, List.length_drop] at hb
      omega
    have hrb := reachBytes_lt
    have h47 : reachBytes = 140737488351232 := by decide
    refine ⟨some x, (zs.take n).map (fun z => UInt8.ofNat z.toNat), cap, by simp [Nat.min_eq_left hlz], ⟨by simp; omega, ?_⟩, fun h => by (cases h), by simp; omega, by simp; omega⟩
    intro j hj
    have hjn : j < n := by simp at hj; omega
    have hjz : j < zs.length := by omega
    have hc := hx j hjz
    have hz : 0 ≤ zs.getD j 0 ∧ zs.getD j 0 ≤ 255 := by
      have hmem : zs.getD j 0 ∈ zs := by rw [List.getD_eq_getElem?_getD, List.getElem?_eq_getElem hjz]; exact List.getElem_mem hjz
      have := hwf _ hmem
      simp only [Lit.wf, Bool.and_eq_true, decide_eq_true_eq] at this
      exact this
    refine ⟨x, rfl, by have := World.block_lt_of_cell? _ _ hc; rwa [addr_add_block] at this, ?_⟩
    rw [hc]
    congr 2
    have e3 : ((zs.take n).map (fun z => UInt8.ofNat z.toNat)).getD j 0 = UInt8.ofNat (zs.getD j 0).toNat := by
      rw [List.getD_eq_getElem?_getD, List.getElem?_map, List.getElem?_take_of_lt hjn, List.getD_eq_getElem?_getD, List.getElem?_eq_getElem hjz]; rfl
    rw [e3, UInt8.toNat_ofNat']
    omega
end


set_option maxRecDepth 100000 in
set_option maxHeartbeats 16000000 in
theorem bytes_bad_E (f : Nat → Int) (a : Option Addr) (l : List UInt8) (cap : Nat) (p : Int) (w : World) (hn : norm1 f) (hb : Byts w a l) (hcap : a = none → cap = 0) (hl : l.length ≤ 140737488351232) (hlc : l.length ≤ cap) (hok : okS f = false) (g : Nat → Int) (q e : Int) (hrd : readS l p = (g, q, e)) (he : e ≠ 0) :
    Calls Try.prog 7 #[.agg (ocells f), .slice a l.length cap, .int .i64 p] w fun e w' => e = .returned (.bool true) ∧ Fr (fun _ => False) w w' := by
  have HB0 := Lib.hid (Blk.new w 25 (ocells f))
  have HF0 := Lib.hid ((Fr.refl (fun _ => False) w).alloc (.cells (ocells f) 25))
  have HBY := Lib.hid hb
  have HCAP := Lib.hid hcap
  have hr := fun wx (hx : Byts wx a l) => read_spec a l cap p wx hx
  rw [hrd] at hr
  have HR := Lib.hid hr
  have HRD := Lib.hid hrd
  have hbb := fun wx => bytes_bad f wx hok
  have HBB := Lib.hid hbb
  clear hb hcap hr hrd hbb hok hn
  obtain ⟨rfl, rfl⟩ := readS_bad HRD.out he
  have b1 : (e != 0) = true := by simpa using he
  have b2 : (e == 0) = false := by simpa using he
  have heq0 : ∀ w, (binOp .eql 25 (.agg (ocells zf)) (.agg #[.int .i64 0, .int .i64 0, .bool false, .bool false, .bool false, .bool false, .bool false, .bool false, .bool false, .bool false, .bool false, .bool false, .bool false, .bool false, .bool false, .bool false, .bool false, .bool false, .int .i64 0, .int .i64 0, .int .i64 0])).run Try.prog w = .ok (.bool true) w := fun w => (run_eql25 zf zf w).trans (by rw [eqO_refl3])
  clear he
  go_enter Try.func7, Try.ntmps7
  go_wp2_with (first
    | (refine wpList_load_row rfl 25 _ rfl w.heap.size rfl 25 (ocells f) (0, 0) _ HB0.out Try.underlying25 rfl Try.size25 ?_)
    | (go_at_call 13; refine (HBB.out _).mono ?_; rintro e0 w1 ⟨rfl, hf1⟩; have HF9 := Lib.hid (HF0.out.trans hf1 (fun _ _ h => h)); clear hf1))
  have HB9 := Lib.hid (HBY.out.fr HF9.out)
  refine (HR.out _ HB9.out).mono ?_
  rintro e0 w10 ⟨rfl, hf10⟩
  have HF10 := Lib.hid ((HF9.out.trans hf10 (fun _ _ h => h)).alloc (.cells (ocells zf) 25))
  have HP10 := Lib.hid (Blk.new w10 25 (ocells zf))
  clear hf10 HR
  go_wp2_with (first
    | (refine wpList_store_row rfl 25 _ _ rfl _ (ocells zf) rfl rfl 25 (ocells zf) (Blk.new _ _ _) Try.size25 rfl (ocells_one _) ?_; rw [World.setRow_alloc_new]; generalize w10.alloc (.cells (ocells zf) 25) = w11 at HF10 HP10 ⊢; generalize w10.heap.size = o10 at HP10 ⊢)
    | (refine wpList_load_row rfl 25 _ rfl o10 rfl 25 (ocells zf) (0, 0) _ HP10.out Try.underlying25 rfl Try.size25 ?_)
    | (go_at_call 8; refine (awake_spec _).mono ?_; rintro e0 w12 ⟨rfl, hf12⟩; have HF12 := Lib.hid (HF10.out.trans hf12 (fun _ _ h => h)); clear hf12))
  go_ret
  exact ⟨rfl, HF12.out⟩

set_option maxRecDepth 100000 in
set_option maxHeartbeats 16000000 in
theorem bytes_bad_O (f : Nat → Int) (a : Option Addr) (l : List UInt8) (cap : Nat) (p : Int) (w : World) (hn : norm1 f) (hb : Byts w a l) (hcap : a = none → cap = 0) (hl : l.length ≤ 140737488351232) (hlc : l.length ≤ cap) (hok : okS f = false) (g : Nat → Int) (q e : Int) (hrd : readS l p = (g, q, e)) (he : e = 0) :
    Calls Try.prog 7 #[.agg (ocells f), .slice a l.length cap, .int .i64 p] w fun e w' => e = .returned (.bool true) ∧ Fr (fun _ => False) w w' := by
  have HB0 := Lib.hid (Blk.new w 25 (ocells f))
  have HF0 := Lib.hid ((Fr.refl (fun _ => False) w).alloc (.cells (ocells f) 25))
  have HBY := Lib.hid hb
  have HCAP := Lib.hid hcap
  have hr := fun wx (hx : Byts wx a l) => read_spec a l cap p wx hx
  rw [hrd] at hr
  have HR := Lib.hid hr
  have HRD := Lib.hid hrd
  have hbb := fun wx => bytes_bad f wx hok
  have HBB := Lib.hid hbb
  clear hb hcap hr hrd hbb hok hn
  subst he
  obtain ⟨p', t, rfl, rfl, hlen, hokg, hgg⟩ := bytes_read HRD.out
  have hbg := fun wx => bytes_spec g wx hokg
  have hgp := bytesS_pos g
  obtain ⟨G, hG⟩ : ∃ G, G = bytesS g := ⟨_, rfl⟩
  rw [← hG] at hbg hgp hgg
  have hp'l : p' < l.length := by
    have := congrArg List.length hgg
    rw [List.length_take, List.length_drop] at this
    omega
  have HBG := Lib.hid hbg
  have HGP := Lib.hid hgp
  have HGG := Lib.hid hgg
  have i1 : (0 : Int) ≤ (p' : Int) := by omega
  have i2 : (p' : Int) + (t : Int) ≤ (l.length : Int) := by omega
  clear hbg hgp hgg hG hokg
  go_enter Try.func7, Try.ntmps7
  go_wp2_with (first
    | (refine wpList_load_row rfl 25 _ rfl w.heap.size rfl 25 (ocells f) (0, 0) _ HB0.out Try.underlying25 rfl Try.size25 ?_)
    | (go_at_call 13; refine (HBB.out _).mono ?_; rintro e0 w1 ⟨rfl, hf1⟩; have HF9 := Lib.hid (HF0.out.trans hf1 (fun _ _ h => h)); clear hf1))
  have HB9 := Lib.hid (HBY.out.fr HF9.out)
  refine (HR.out _ HB9.out).mono ?_
  rintro e0 w10 ⟨rfl, hf10⟩
  have HF10 := Lib.hid ((HF9.out.trans hf10 (fun _ _ h => h)).alloc (.cells (ocells g) 25))
  have HP10 := Lib.hid (Blk.new w10 25 (ocells g))
  clear hf10 HR
  go_wp2_with (first
    | (refine wpList_store_row rfl 25 _ _ rfl _ (ocells g) rfl rfl 25 (ocells zf) (Blk.new _ _ _) Try.size25 rfl (ocells_one _) ?_; rw [World.setRow_alloc_new]; generalize w10.alloc (.cells (ocells g) 25) = w11 at HF10 HP10 ⊢; generalize w10.heap.size = o10 at HP10 ⊢)
    | (refine wpList_load_row rfl 25 _ rfl o10 rfl 25 (ocells g) (0, 0) _ HP10.out Try.underlying25 rfl Try.size25 ?_)
    | (go_at_call 13; refine (HBG.out _).mono ?_; rintro e0 w12 ⟨a3, cap3, rfl, hb3, hc3, hf12⟩; have HF12 := Lib.hid (HF10.out.trans hf12 (fun _ _ h => h)); have HB3 := Lib.hid hb3; clear hf12 hb3 hc3))
  have hy12 := HBY.out.fr HF12.out
  have hb12 := HB3.out
  obtain ⟨x3, hx3, _, _⟩ := hb12.2 0 HGP.out
  subst hx3
  obtain ⟨x, hx, _, _⟩ := hy12.2 p' (by omega)
  subst hx
  have hc1 := conv_bstr (w := w12.drew) cap3 (l := G) (fun j hj => by obtain ⟨y, hy, _, hc⟩ := hb12.2 j hj; injection hy with hy; subst hy; exact hc)
  have hc2 := conv_bstr (w := w12.drew) (cap - p') (l := (l.drop p').take t) (part_cells (w := w12) hy12 p' t hlen)
  rw [← HGG.out] at hc2
  have hgt : G.length = t := by rw [HGG.out]; simp; omega
  have HGT := Lib.hid hgt
  rw [hgt] at hc2
  have hcne : cap ≠ p' := by omega
  have HFD := Lib.hid HF12.out.drew
  clear hy12 hb12 hgt HB3 HBY HB9 HRD
  refine wp_region_still_tail 23 (by kernel_rfl) (by kernel_rfl) ?_
  simp only [List.take_succ_cons, List.take_zero, List.drop_succ_cons, List.drop_zero]
  change wpStill _ _ w12.drew (fun a' => wpList _ _ _ _ a' w12.drew) _ _
  generalize w12.drew = w13 at HFD hc1 hc2 ⊢
  have j1 : (0 : Int) ≤ (p' : Int) + (t : Int) := by omega
  have j2 : (p' : Int) + (t : Int) ≤ (cap : Int) := by omega
  have j3 : ((p' : Int) + (t : Int)).toNat = p' + t := by omega
  iterate 23 still_step
  refine wpStill_nil ?_
  clear hc1 hc2 j1 j2 j3
  go_wp2_with (go_at_call 8; refine (awake_spec _).mono ?_; rintro e0 w14 ⟨rfl, hf14⟩; have HF14 := Lib.hid (HFD.out.trans hf14 (fun _ _ h => h)); clear hf14)
  go_ret
  exact ⟨rfl, HF14.out⟩

set_option maxRecDepth 100000 in
set_option maxHeartbeats 16000000 in
theorem bytes_good_E (f : Nat → Int) (a : Option Addr) (l : List UInt8) (cap : Nat) (p : Int) (w : World) (hn : norm1 f) (hb : Byts w a l) (hcap : a = none → cap = 0) (hl : l.length ≤ 140737488351232) (hlc : l.length ≤ cap) (hok : okS f = true) (g : Nat → Int) (q e : Int) (hrd : readS l p = (g, q, e)) (he : e ≠ 0) :
    Calls Try.prog 7 #[.agg (ocells f), .slice a l.length cap, .int .i64 p] w fun e w' => e = .returned (.bool true) ∧ Fr (fun _ => False) w w' := by
  have HB0 := Lib.hid (Blk.new w 25 (ocells f))
  have HF0 := Lib.hid ((Fr.refl (fun _ => False) w).alloc (.cells (ocells f) 25))
  have HBY := Lib.hid hb
  have HCAP := Lib.hid hcap
  have hr := fun wx (hx : Byts wx a l) => read_spec a l cap p wx hx
  rw [hrd] at hr
  have HR := Lib.hid hr
  have HRD := Lib.hid hrd
  have hbb := fun wx => bytes_spec f wx hok
  have hc54 := bytesS_len hok
  have hrb := read_bytes hok hn l
  have hgb := get_bytes hok
  obtain ⟨C, hC⟩ : ∃ C, C = bytesS f := ⟨_, rfl⟩
  rw [← hC] at hbb hc54 hrb hgb
  obtain ⟨A, hA⟩ : ∃ A, A = l ++ C := ⟨_, rfl⟩
  rw [← hA] at hrb
  have hAl : A.length = l.length + C.length := by rw [hA, List.length_append]
  have hAm : A.length ≤ 140737488355328 := by omega
  have hrs := fun ad cp wx (hx : Byts wx ad A) => read_spec ad A cp (l.length : Int) wx hx
  rw [hrb.1, hrb.2] at hrs
  have hgs := fun ad cp wx (hx : Byts wx ad C) => get_spec ad C cp 0 wx hx
  obtain ⟨n0, nx0, e0, hg0⟩ : ∃ n0 nx0 e0, getA C 0 = (n0, nx0, e0) := ⟨_, _, _, rfl⟩
  rw [hg0] at hgs hgb
  obtain ⟨hgb1, hgb2⟩ := hgb
  simp only at hgb1 hgb2
  subst hgb1
  subst hgb2
  have HBB := Lib.hid hbb
  have HRS := Lib.hid hrs
  have HGS := Lib.hid hgs
  have HAL := Lib.hid hAl
  have HAA := Lib.hid hA
  have hneq := fun wx => run_neq25 f wx
  clear hb hcap hr hrd hbb hok hn hrs hgs hC hrb hg0 hA hAl
  obtain ⟨rfl, rfl⟩ := readS_bad HRD.out he
  have b1 : (e != 0) = true := by simpa using he
  have b2 : (e == 0) = false := by simpa using he
  have heq0 : ∀ w, (binOp .eql 25 (.agg (ocells zf)) (.agg #[.int .i64 0, .int .i64 0, .bool false, .bool false, .bool false, .bool false, .bool false, .bool false, .bool false, .bool false, .bool false, .bool false, .bool false, .bool false, .bool false, .bool false, .bool false, .bool false, .int .i64 0, .int .i64 0, .int .i64 0])).run Try.prog w = .ok (.bool true) w := fun w => (run_eql25 zf zf w).trans (by rw [eqO_refl3])
  clear he
  go_enter Try.func7, Try.ntmps7
  go_wp2_with (first
    | (refine wpList_load_row rfl 25 _ rfl w.heap.size rfl 25 (ocells f) (0, 0) _ HB0.out Try.underlying25 rfl Try.size25 ?_)
    | (go_at_call 13; refine (HBB.out _).mono ?_; rintro e0 w1 ⟨a1, cap1, rfl, hb1, hc1, hf1⟩; have HF1 := Lib.hid (HF0.out.trans hf1 (fun _ _ h => h)); have HO1 := Lib.hid (HB0.out.fr hf1 (fun h => h)); have HB1 := Lib.hid hb1; have HC1 := Lib.hid hc1; have HY1 := Lib.hid (HBY.out.fr HF1.out); clear hb1 hc1 hf1)
    | (at_builtin; refine wpList_app_B rfl (.tmp 28) (.tmp 29) rfl w1.heap.size (.slice none 0 0) 0 [] rfl (World.ownsRow_nil _ _ _ _) a cap l rfl HY1.out HCAP.out (by omega) (Nat.le_refl _) ?_; intro v2 w2 hown2 hg2; have HW2 := Lib.hid ((Below.refl w1.heap.size w1).grown hg2 (Nat.le_refl _) (by simp [Value.ownBlock])); have HO2 := Lib.hid hown2; clear hown2 hg2)
    | (at_builtin; refine wpList_app_B rfl (.tmp 30) (.tmp 31) rfl w1.heap.size v2 (0 + l.length) ([] ++ bcl l) rfl HO2.out a1 cap1 C rfl (HB1.out.fr (Fr.ofBelow HW2.out _)) HC1.out (by omega) HW2.out.size ?_; intro v3 w3 hown3 hg3; have HW3 := Lib.hid (HW2.out.grown hg3 HW2.out.size (fun j hj => (HO2.out.lt j hj).1)); have HO3 := Lib.hid hown3; clear hown3 hg3))
  have hx := HO3.out
  rw [Nat.zero_add, List.nil_append, ← bcl_app, ← HAA.out, ← HAL.out] at hx
  obtain ⟨ad, cap2, hv3, hby3, _⟩ := owns_byts hx hAm
  subst hv3
  have HF3 := Lib.hid (Fr.ofBelow HW3.out (fun _ => False))
  have HY3 := Lib.hid hby3
  clear hx hby3 HO2 HW2
  refine (HRS.out _ _ _ HY3.out).mono ?_
  rintro e0 w4 ⟨rfl, hf4⟩
  have HF4 := Lib.hid (((HF1.out.trans HF3.out (fun _ _ h => h)).trans hf4 (fun _ _ h => h)).alloc (.cells (ocells f) 25))
  have HF14 := Lib.hid ((HF3.out.trans hf4 (fun _ _ h => h)).alloc (.cells (ocells f) 25))
  have HO4 := Lib.hid (HO1.out.fr HF14.out (fun h => h))
  have HP4 := Lib.hid (Blk.new w4 25 (ocells f))
  have HC4 := Lib.hid (HB1.out.fr HF14.out)
  clear hf4 HF1 HF3 HO1 HY3 HF14 HB1
  go_wp2_with (refine wpList_store_row rfl 25 _ _ rfl _ (ocells f) rfl rfl 25 (ocells zf) (Blk.new _ _ _) Try.size25 rfl (ocells_one _) ?_; rw [World.setRow_alloc_new]; generalize w4.alloc (.cells (ocells f) 25) = w5 at HF4 HO4 HP4 HC4 ⊢; generalize w4.heap.size = o4 at HP4 ⊢)
  have cf0 := HO4.out.cell 0 (v := .int .i64 (f 0)) rfl
  refine (HGS.out _ _ _ HC4.out).mono ?_
  rintro e0 w6 ⟨rfl, rfl⟩
  go_wp2_with (first
    | (refine wpList_load_row rfl 25 _ rfl o4 rfl 25 (ocells f) (0, 0) _ HP4.out Try.underlying25 rfl Try.size25 ?_)
    | (refine wpList_load_row rfl 25 _ rfl w.heap.size rfl 25 (ocells f) (0, 0) _ HO4.out Try.underlying25 rfl Try.size25 ?_))
  have HF9 := HF4
  have HB9 := Lib.hid (HBY.out.fr HF4.out)
  refine (HR.out _ HB9.out).mono ?_
  rintro e0 w10 ⟨rfl, hf10⟩
  have HF10 := Lib.hid ((HF9.out.trans hf10 (fun _ _ h => h)).alloc (.cells (ocells zf) 25))
  have HP10 := Lib.hid (Blk.new w10 25 (ocells zf))
  clear hf10 HR
  go_wp2_with (first
    | (refine wpList_store_row rfl 25 _ _ rfl _ (ocells zf) rfl rfl 25 (ocells zf) (Blk.new _ _ _) Try.size25 rfl (ocells_one _) ?_; rw [World.setRow_alloc_new]; generalize w10.alloc (.cells (ocells zf) 25) = w11 at HF10 HP10 ⊢; generalize w10.heap.size = o10 at HP10 ⊢)
    | (refine wpList_load_row rfl 25 _ rfl o10 rfl 25 (ocells zf) (0, 0) _ HP10.out Try.underlying25 rfl Try.size25 ?_)
    | (go_at_call 8; refine (awake_spec _).mono ?_; rintro e0 w12 ⟨rfl, hf12⟩; have HF12 := Lib.hid (HF10.out.trans hf12 (fun _ _ h => h)); clear hf12))
  go_ret
  exact ⟨rfl, HF12.out⟩

set_option maxRecDepth 100000 in
set_option maxHeartbeats 16000000 in
theorem bytes_good_O (f : Nat → Int) (a : Option Addr) (l : List UInt8) (cap : Nat) (p : Int) (w : World) (hn : norm1 f) (hb : Byts w a l) (hcap : a = none → cap = 0) (hl : l.length ≤ 140737488351232) (hlc : l.length ≤ cap) (hok : okS f = true) (g : Nat → Int) (q e : Int) (hrd : readS l p = (g, q, e)) (he : e = 0) :
    Calls Try.prog 7 #[.agg (ocells f), .slice a l.length cap, .int .i64 p] w fun e w' => e = .returned (.bool true) ∧ Fr (fun _ => False) w w' := by
  have HB0 := Lib.hid (Blk.new w 25 (ocells f))
  have HF0 := Lib.hid ((Fr.refl (fun _ => False) w).alloc (.cells (ocells f) 25))
  have HBY := Lib.hid hb
  have HCAP := Lib.hid hcap
  have hr := fun wx (hx : Byts wx a l) => read_spec a l cap p wx hx
  rw [hrd] at hr
  have HR := Lib.hid hr
  have HRD := Lib.hid hrd
  have hbb := fun wx => bytes_spec f wx hok
  have hc54 := bytesS_len hok
  have hrb := read_bytes hok hn l
  have hgb := get_bytes hok
  obtain ⟨C, hC⟩ : ∃ C, C = bytesS f := ⟨_, rfl⟩
  rw [← hC] at hbb hc54 hrb hgb
  obtain ⟨A, hA⟩ : ∃ A, A = l ++ C := ⟨_, rfl⟩
  rw [← hA] at hrb
  have hAl : A.length = l.length + C.length := by rw [hA, List.length_append]
  have hAm : A.length ≤ 140737488355328 := by omega
  have hrs := fun ad cp wx (hx : Byts wx ad A) => read_spec ad A cp (l.length : Int) wx hx
  rw [hrb.1, hrb.2] at hrs
  have hgs := fun ad cp wx (hx : Byts wx ad C) => get_spec ad C cp 0 wx hx
  obtain ⟨n0, nx0, e0, hg0⟩ : ∃ n0 nx0 e0, getA C 0 = (n0, nx0, e0) := ⟨_, _, _, rfl⟩
  rw [hg0] at hgs hgb
  obtain ⟨hgb1, hgb2⟩ := hgb
  simp only at hgb1 hgb2
  subst hgb1
  subst hgb2
  have HBB := Lib.hid hbb
  have HRS := Lib.hid hrs
  have HGS := Lib.hid hgs
  have HAL := Lib.hid hAl
  have HAA := Lib.hid hA
  have hneq := fun wx => run_neq25 f wx
  clear hb hcap hr hrd hbb hok hn hrs hgs hC hrb hg0 hA hAl
  subst he
  obtain ⟨p', t, rfl, rfl, hlen, hokg, hgg⟩ := bytes_read HRD.out
  have hbg := fun wx => bytes_spec g wx hokg
  have hgp := bytesS_pos g
  obtain ⟨G, hG⟩ : ∃ G, G = bytesS g := ⟨_, rfl⟩
  rw [← hG] at hbg hgp hgg
  have hp'l : p' < l.length := by
    have := congrArg List.length hgg
    rw [List.length_take, List.length_drop] at this
    omega
  have HBG := Lib.hid hbg
  have HGP := Lib.hid hgp
  have HGG := Lib.hid hgg
  have i1 : (0 : Int) ≤ (p' : Int) := by omega
  have i2 : (p' : Int) + (t : Int) ≤ (l.length : Int) := by omega
  clear hbg hgp hgg hG hokg
  go_enter Try.func7, Try.ntmps7
  go_wp2_with (first
    | (refine wpList_load_row rfl 25 _ rfl w.heap.size rfl 25 (ocells f) (0, 0) _ HB0.out Try.underlying25 rfl Try.size25 ?_)
    | (go_at_call 13; refine (HBB.out _).mono ?_; rintro e0 w1 ⟨a1, cap1, rfl, hb1, hc1, hf1⟩; have HF1 := Lib.hid (HF0.out.trans hf1 (fun _ _ h => h)); have HO1 := Lib.hid (HB0.out.fr hf1 (fun h => h)); have HB1 := Lib.hid hb1; have HC1 := Lib.hid hc1; have HY1 := Lib.hid (HBY.out.fr HF1.out); clear hb1 hc1 hf1)
    | (at_builtin; refine wpList_app_B rfl (.tmp 28) (.tmp 29) rfl w1.heap.size (.slice none 0 0) 0 [] rfl (World.ownsRow_nil _ _ _ _) a cap l rfl HY1.out HCAP.out (by omega) (Nat.le_refl _) ?_; intro v2 w2 hown2 hg2; have HW2 := Lib.hid ((Below.refl w1.heap.size w1).grown hg2 (Nat.le_refl _) (by simp [Value.ownBlock])); have HO2 := Lib.hid hown2; clear hown2 hg2)
    | (at_builtin; refine wpList_app_B rfl (.tmp 30) (.tmp 31) rfl w1.heap.size v2 (0 + l.length) ([] ++ bcl l) rfl HO2.out a1 cap1 C rfl (HB1.out.fr (Fr.ofBelow HW2.out _)) HC1.out (by omega) HW2.out.size ?_; intro v3 w3 hown3 hg3; have HW3 := Lib.hid (HW2.out.grown hg3 HW2.out.size (fun j hj => (HO2.out.lt j hj).1)); have HO3 := Lib.hid hown3; clear hown3 hg3))
  have hx := HO3.out
  rw [Nat.zero_add, List.nil_append, ← bcl_app, ← HAA.out, ← HAL.out] at hx
  obtain ⟨ad, cap2, hv3, hby3, _⟩ := owns_byts hx hAm
  subst hv3
  have HF3 := Lib.hid (Fr.ofBelow HW3.out (fun _ => False))
  have HY3 := Lib.hid hby3
  clear hx hby3 HO2 HW2
  refine (HRS.out _ _ _ HY3.out).mono ?_
  rintro e0 w4 ⟨rfl, hf4⟩
  have HF4 := Lib.hid (((HF1.out.trans HF3.out (fun _ _ h => h)).trans hf4 (fun _ _ h => h)).alloc (.cells (ocells f) 25))
  have HF14 := Lib.hid ((HF3.out.trans hf4 (fun _ _ h => h)).alloc (.cells (ocells f) 25))
  have HO4 := Lib.hid (HO1.out.fr HF14.out (fun h => h))
  have HP4 := Lib.hid (Blk.new w4 25 (ocells f))
  have HC4 := Lib.hid (HB1.out.fr HF14.out)
  clear hf4 HF1 HF3 HO1 HY3 HF14 HB1
  go_wp2_with (refine wpList_store_row rfl 25 _ _ rfl _ (ocells f) rfl rfl 25 (ocells zf) (Blk.new _ _ _) Try.size25 rfl (ocells_one _) ?_; rw [World.setRow_alloc_new]; generalize w4.alloc (.cells (ocells f) 25) = w5 at HF4 HO4 HP4 HC4 ⊢; generalize w4.heap.size = o4 at HP4 ⊢)
  have cf0 := HO4.out.cell 0 (v := .int .i64 (f 0)) rfl
  refine (HGS.out _ _ _ HC4.out).mono ?_
  rintro e0 w6 ⟨rfl, rfl⟩
  go_wp2_with (first
    | (refine wpList_load_row rfl 25 _ rfl o4 rfl 25 (ocells f) (0, 0) _ HP4.out Try.underlying25 rfl Try.size25 ?_)
    | (refine wpList_load_row rfl 25 _ rfl w.heap.size rfl 25 (ocells f) (0, 0) _ HO4.out Try.underlying25 rfl Try.size25 ?_))
  have HF9 := HF4
  have HB9 := Lib.hid (HBY.out.fr HF4.out)
  refine (HR.out _ HB9.out).mono ?_
  rintro e0 w10 ⟨rfl, hf10⟩
  have HF10 := Lib.hid ((HF9.out.trans hf10 (fun _ _ h => h)).alloc (.cells (ocells g) 25))
  have HP10 := Lib.hid (Blk.new w10 25 (ocells g))
  clear hf10 HR
  go_wp2_with (first
    | (refine wpList_store_row rfl 25 _ _ rfl _ (ocells g) rfl rfl 25 (ocells zf) (Blk.new _ _ _) Try.size25 rfl (ocells_one _) ?_; rw [World.setRow_alloc_new]; generalize w10.alloc (.cells (ocells g) 25) = w11 at HF10 HP10 ⊢; generalize w10.heap.size = o10 at HP10 ⊢)
    | (refine wpList_load_row rfl 25 _ rfl o10 rfl 25 (ocells g) (0, 0) _ HP10.out Try.underlying25 rfl Try.size25 ?_)
    | (go_at_call 13; refine (HBG.out _).mono ?_; rintro e0 w12 ⟨a3, cap3, rfl, hb3, hc3, hf12⟩; have HF12 := Lib.hid (HF10.out.trans hf12 (fun _ _ h => h)); have HB3 := Lib.hid hb3; clear hf12 hb3 hc3))
  have hy12 := HBY.out.fr HF12.out
  have hb12 := HB3.out
  obtain ⟨x3, hx3, _, _⟩ := hb12.2 0 HGP.out
  subst hx3
  obtain ⟨x, hx, _, _⟩ := hy12.2 p' (by omega)
  subst hx
  have hc1 := conv_bstr (w := w12.drew) cap3 (l := G) (fun j hj => by obtain ⟨y, hy, _, hc⟩ := hb12.2 j hj; injection hy with hy; subst hy; exact hc)
  have hc2 := conv_bstr (w := w12.drew) (cap - p') (l := (l.drop p').take t) (part_cells (w := w12) hy12 p' t hlen)
  rw [← HGG.out] at hc2
  have hgt : G.length = t := by rw [HGG.out]; simp; omega
  have HGT := Lib.hid hgt
  rw [hgt] at hc2
  have hcne : cap ≠ p' := by omega
  have HFD := Lib.hid HF12.out.drew
  clear hy12 hb12 hgt HB3 HBY HB9 HRD
  refine wp_region_still_tail 23 (by kernel_rfl) (by kernel_rfl) ?_
  simp only [List.take_succ_cons, List.take_zero, List.drop_succ_cons, List.drop_zero]
  change wpStill _ _ w12.drew (fun a' => wpList _ _ _ _ a' w12.drew) _ _
  generalize w12.drew = w13 at HFD hc1 hc2 ⊢
  have j1 : (0 : Int) ≤ (p' : Int) + (t : Int) := by omega
  have j2 : (p' : Int) + (t : Int) ≤ (cap : Int) := by omega
  have j3 : ((p' : Int) + (t : Int)).toNat = p' + t := by omega
  iterate 23 still_step
  refine wpStill_nil ?_
  clear hc1 hc2 j1 j2 j3
  go_wp2_with (go_at_call 8; refine (awake_spec _).mono ?_; rintro e0 w14 ⟨rfl, hf14⟩; have HF14 := Lib.hid (HFD.out.trans hf14 (fun _ _ h => h)); clear hf14)
  go_ret
  exact ⟨rfl, HF14.out⟩

namespace optsBytes
theorem walk (f : Nat → Int) (a : Option Addr) (l : List UInt8) (cap : Nat) (p : Int) (w : World) (hn : norm1 f) (hb : Byts w a l) (hcap : a = none → cap = 0) (hl : l.length ≤ 140737488351232) (hlc : l.length ≤ cap) :
    Calls Try.prog 7 #[.agg (ocells f), .slice a l.length cap, .int .i64 p] w fun e w' => e = .returned (.bool true) ∧ Below w.heap.size w w' := by
  suffices h : Calls Try.prog 7 #[.agg (ocells f), .slice a l.length cap, .int .i64 p] w fun e w' => e = .returned (.bool true) ∧ Fr (fun _ => False) w w' from h.mono fun _ _ ⟨h1, h2⟩ => ⟨h1, h2.below (Nat.le_refl _) (fun _ _ h => h)⟩
  obtain ⟨g, q, e, hrd⟩ : ∃ g q e, readS l p = (g, q, e) := ⟨_, _, _, rfl⟩
  cases hok : okS f
  · by_cases he : e = 0
    · exact bytes_bad_O f a l cap p w hn hb hcap hl hlc hok g q e hrd he
    · exact bytes_bad_E f a l cap p w hn hb hcap hl hlc hok g q e hrd he
  · by_cases he : e = 0
    · exact bytes_good_O f a l cap p w hn hb hcap hl hlc hok g q e hrd he
    · exact bytes_good_E f a l cap p w hn hb hcap hl hlc hok g q e hrd he
open Go.ChangeShapes Go.WideShapes Go.ChangeAt Go.RowKit
set_option linter.unusedVariables false
theorem own : ownKnob Try.prog.godebug = none := by kernel_rfl
theorem laidOut : laidOutB Try.prog = true := by kernel_rfl

set_option maxRecDepth 100000 in
theorem lifted (os : Os) (started : os.Started) (H : Type) (enc : TypeId × Value → H) :
    ReturnsInHanded {} Try.checked os 7 .any (Rows.optsBytesSpec.pre6 enc Try.prog Try.f7 Rows.optsBytesRow.domain false) (Rows.optsBytesSpec.post enc Try.prog Try.f7 false true false false) := by
  refine returnsInHanded_of_change_sized (C := Try.checked) own started (by kernel_rfl) Try.func7
    (ChangeSpec.witness6 (enc := enc) (C := Try.checked) false ⟨#[], #[.agg #[.int .i64 0, .int .i64 0, .bool false, .bool false, .bool false, .bool false, .bool false, .bool false, .bool false, .bool false, .bool false, .bool false, .bool false, .bool false, .bool false, .bool false, .bool false, .bool false, .int .i64 0, .int .i64 0, .int .i64 0], .slice none 0 0, .int .i64 0], []⟩ 8 (by kernel_rfl) (by kernel_rfl) (by kernel_rfl) (by kernel_rfl)) ?_
  intro W base args ds gs before hval0 hW hcnd hsz0 _
  have hval : ∀ (j : Nat) t v, Try.f7.params[j]? = some t → args[j]? = some v → Value.okWide Try.prog W .any base t v := hval0
  have hW' := hW
  obtain ⟨p, q, hA0, hV, rfl, hfz, hnd⟩ := hW
  have hA : DataW.TrodAll enc Try.prog W 0 (fun _ => true) true Try.f7.params.toList args.toList ds p := hA0
  have hsz : (DataW.weightsEach Try.prog (Try.f7.params.toList ++ Rows.optsBytesSpec.plain.varTypes Try.prog) (ds ++ gs)).all (· ≤ reachBytes) = true := hsz0
  rw [Try.params7] at hA hval hsz
  obtain ⟨v0, vs0, d0, ds0, p0, q0, hargs, rfl, rfl, h0, r0⟩ := trodAll_cons hA
  obtain ⟨v1, vs1, d1, ds1, p1, q1, rfl, rfl, rfl, h1, r1⟩ := trodAll_cons r0
  obtain ⟨v2, vs2, d2, ds2, p2, q2, rfl, rfl, rfl, h2, r2⟩ := trodAll_cons r1
  obtain ⟨rfl, rfl, rfl⟩ := trodAll_nil r2
  obtain rfl : args = #[v0, v1, v2] := by cases args; simp_all
  obtain ⟨rfl, rfl⟩ := trodVars_none hV
  have k0 := h0
  have lt0 : ∀ x ∈ p0, x.block < W.heap.size := by obtain ⟨m, hm⟩ := k0; exact DataW.trod_lt m _ _ _ hm
  have k1 := h1
  have lt1 : ∀ x ∈ p1, x.block < W.heap.size := by obtain ⟨m, hm⟩ := k1; exact DataW.trod_lt m _ _ _ hm
  have k2 := h2
  have lt2 : ∀ x ∈ p2, x.block < W.heap.size := by obtain ⟨m, hm⟩ := k2; exact DataW.trod_lt m _ _ _ hm
  obtain ⟨f0, rfl, n0⟩ := open_O (hval 0 25 v0 rfl rfl) h0
  obtain ⟨a1, l1, c1, rfl, x1, y1, z1, u1⟩ := open_B2 Try.underlying31 Try.underlying5 (by kernel_rfl) (by kernel_rfl) (hval 1 31 v1 rfl rfl) h1 (fun es ss e => sized_slice hsz (j := 1) (t := 31) (e := 5) rfl (by rw [e]; rfl) Try.underlying31)
  obtain ⟨a2, rfl, rfl, rfl, w2⟩ := open_int Try.underlying3 (hval 2 3 v2 rfl rfl) h2
  clear hA0 hval0
  refine (walk f0 a1 l1 c1 a2 W n0 x1 y1 z1 u1).mono fun e W' ⟨he, bel⟩ => ?_
  subst he
  exact ⟨_, rfl, _, _, _, [], _, [], hW', trodAll_mk1 (shut_bool Try.underlying4 _), (trodAll_cons_mk (Below.trod laidOut (by kernel_rfl) (of_decide_eq_true (by kernel_rfl)) k0 bel lt0) (trodAll_cons_mk (Below.trod laidOut (by kernel_rfl) (of_decide_eq_true (by kernel_rfl)) k1 bel lt1) (trodAll_cons_mk (Below.trod laidOut (by kernel_rfl) (of_decide_eq_true (by kernel_rfl)) k2 bel lt2) trodAll_mk0))), rfl, bel.frame _, fun h => by cases h⟩

theorem over : Rows.optsBytesRow.holds Try.pinned (OpenSpec.ofChange Rows.optsBytesSpec) :=
  OpenClaim.holds_of_wide 7 Try.f7 rfl rfl rfl rfl rfl rfl rfl ⟨rfl, rfl, rfl, rfl, rfl⟩ rfl rfl rfl rfl rfl (by kernel_rfl) Try.func7 (by kernel_rfl)
    (of_decide_eq_true (by kernel_rfl)) (by unfold Func.isWrapper; first | (rw [if_pos (by decide +kernel)]; kernel_rfl) | (rw [if_neg (by decide +kernel)]; exact ⟨rfl, rfl⟩))
    (fun os started H enc _ => lifted os started H enc)

theorem proved : Rows.OptsBytesSaid := over
#print axioms proved
end optsBytes
end Go.Proofs.Ytlfaeabbfejjcaa
