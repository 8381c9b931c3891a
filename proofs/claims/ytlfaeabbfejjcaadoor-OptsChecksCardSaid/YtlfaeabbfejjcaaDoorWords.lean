/- OptsWords: for all options and lists of words, what is printed of options that may be is parsed as they are, and what is parsed is printed as words that are parsed as the same, none more than there were: the law returns true, and its arguments read as before. -/
import Derived.Test.YtlfaeabbfejjcaaDoorPrint
import Derived.Test.YtlfaeabbfejjcaaDoorAwake
namespace Go.Proofs.YtlfaeabbfejjcaaDoor
open Go.RowKit
set_option linter.unusedVariables false

theorem eqO_refl (f : Nat → Int) : eqO f f = true := by simp [eqO]
theorem run_neq25 (f : Nat → Int) (w : World) : (binOp .neq 23 (.agg (ocells f)) (.agg (ocells f))).run Tryd.prog w = .ok (.bool false) w := by
  have h := run_eql25 f f w
  rw [run_eql_struct] at h
  rw [run_neq_struct]
  rw [eqO_refl] at h
  rcases hr : (Op.equalIn 10000 23 (.agg (ocells f)) (.agg (ocells f))).run Tryd.prog w with ⟨b, w'⟩ | ⟨x, w'⟩
  · rw [hr] at h
    simp only [Result.andThen] at h ⊢
    injection h with h1 h2
    injection h1 with h1
    rw [h1, h2]; rfl
  · rw [hr] at h
    simp only [Result.andThen] at h
    cases h

theorem parseS_bad {L : List ByteArray} {g : Nat → Int} {k : Nat} {e : Int} (h : parseS L = (g, k, e)) (he : e ≠ 0) : g = zf := by
  unfold parseS at h
  by_cases hg : ∃ ps, Good L (fun _ => false) ps
  · obtain ⟨ps, hg⟩ := hg
    rw [parse_good L ps 0 dflt _ hg] at h
    split at h
    · simp only [Prod.mk.injEq] at h; exact absurd h.2.2.symm he
    · simp only [Prod.mk.injEq] at h; exact h.1.symm
  · have := (parse_bad L 0 dflt _ hg).1
    rw [h] at this
    exact this


set_option maxRecDepth 100000 in
set_option maxHeartbeats 16000000 in
theorem words_bad_E (f : Nat → Int) (a : Option Addr) (L : List ByteArray) (cap : Nat) (w : World) (hn : normP f) (hs : Strs w a L) (hl : L.length ≤ 100) (ht : TB w) (hok : okS f = false) (g : Nat → Int) (k : Nat) (e : Int) (hps : parseS L = (g, k, e)) (he : e ≠ 0) :
    Calls Tryd.prog 3 #[.agg (ocells f), .slice a L.length cap] w fun e w' => e = .returned (.bool true) ∧ Fr (fun _ => False) w w' := by
  have hle : decide (100 < (L.length : Int)) = false := by simp; omega
  have HB0 := Lib.hid (Blk.new w 23 (ocells f))
  have HF0 := Lib.hid ((Fr.refl (fun _ => False) w).alloc (.cells (ocells f) 23))
  have HSL := Lib.hid hs
  have HT := Lib.hid ht
  have hr := fun wx (hx : Strs wx a L) => parse_spec a L cap wx (by omega) hx.2
  rw [hps] at hr
  have HR := Lib.hid hr
  have HPS := Lib.hid hps
  have hchk := fun wx => check_spec f wx
  simp only [ckS, hok] at hchk
  have HCHK := Lib.hid hchk
  have HPB := Lib.hid (fun wx => print_bad f wx hok)
  clear hs ht hr hps hchk hok hn
  obtain rfl := parseS_bad HPS.out he
  have b1 : (e != 0) = true := by simpa using he
  have b2 : (e == 0) = false := by simpa using he
  have heq0 : ∀ w, (binOp .eql 23 (.agg (ocells zf)) (.agg #[.int .i64 0, .int .i64 0, .bool false, .bool false, .bool false, .bool false, .bool false, .bool false, .bool false, .bool false, .bool false, .bool false, .bool false, .bool false, .bool false, .bool false, .bool false, .bool false, .int .i64 0, .int .i64 0, .int .i64 0])).run Tryd.prog w = .ok (.bool true) w := fun w => (run_eql25 zf zf w).trans (by rw [eqO_refl])
  clear he
  go_enter Tryd.func3, Tryd.ntmps3
  go_wp2_with (first
    | (refine wpList_load_row rfl 23 _ rfl w.heap.size rfl 23 (ocells f) (0, 0) _ HB0.out Tryd.underlying23 rfl Tryd.size23 ?_)
    | (go_at_call 6; refine (HPB.out _).mono ?_; rintro e0 w1 ⟨rfl, hf1⟩; have HB1 := Lib.hid (HB0.out.fr hf1 (fun h => h)); have HF1 := Lib.hid (HF0.out.trans hf1 (fun _ _ h => h)); clear hf1)
    | (refine wpList_load_row rfl 23 _ rfl w.heap.size rfl 23 (ocells f) (0, 0) _ HB1.out Tryd.underlying23 rfl Tryd.size23 ?_)
    | (go_at_call 7; refine (HCHK.out _).mono ?_; rintro e0 w2 ⟨rfl, hf2⟩; have HF9 := Lib.hid (HF1.out.trans hf2 (fun _ _ h => h)); clear hf2))
  have HS9 := Lib.hid (HSL.out.fr HF9.out)
  refine (HR.out _ HS9.out).mono ?_
  rintro e0 w10 ⟨rfl, hf10⟩
  have HF10 := Lib.hid ((HF9.out.trans hf10 (fun _ _ h => h)).alloc (.cells (ocells zf) 23))
  have HP10 := Lib.hid (Blk.new w10 23 (ocells zf))
  clear hf10 HR
  go_wp2_with (first
    | (refine wpList_store_row rfl 23 _ _ rfl _ (ocells zf) rfl rfl 23 (ocells zf) (Blk.new _ _ _) Tryd.size23 rfl (ocells_one _) ?_; rw [World.setRow_alloc_new]; generalize w10.alloc (.cells (ocells zf) 23) = w11 at HF10 HP10 ⊢; generalize w10.heap.size = o10 at HP10 ⊢)
    | (refine wpList_load_row rfl 23 _ rfl o10 rfl 23 (ocells zf) (0, 0) _ HP10.out Tryd.underlying23 rfl Tryd.size23 ?_)
    | (go_at_call 5; refine (awake_spec _).mono ?_; rintro e0 w12 ⟨rfl, hf12⟩; have HF12 := Lib.hid (HF10.out.trans hf12 (fun _ _ h => h)); clear hf12))
  go_ret
  exact ⟨rfl, HF12.out⟩

set_option maxRecDepth 100000 in
set_option maxHeartbeats 16000000 in
theorem words_bad_O (f : Nat → Int) (a : Option Addr) (L : List ByteArray) (cap : Nat) (w : World) (hn : normP f) (hs : Strs w a L) (hl : L.length ≤ 100) (ht : TB w) (hok : okS f = false) (g : Nat → Int) (k : Nat) (e : Int) (hps : parseS L = (g, k, e)) (he : e = 0) :
    Calls Tryd.prog 3 #[.agg (ocells f), .slice a L.length cap] w fun e w' => e = .returned (.bool true) ∧ Fr (fun _ => False) w w' := by
  have hle : decide (100 < (L.length : Int)) = false := by simp; omega
  have HB0 := Lib.hid (Blk.new w 23 (ocells f))
  have HF0 := Lib.hid ((Fr.refl (fun _ => False) w).alloc (.cells (ocells f) 23))
  have HSL := Lib.hid hs
  have HT := Lib.hid ht
  have hr := fun wx (hx : Strs wx a L) => parse_spec a L cap wx (by omega) hx.2
  rw [hps] at hr
  have HR := Lib.hid hr
  have HPS := Lib.hid hps
  have hchk := fun wx => check_spec f wx
  simp only [ckS, hok] at hchk
  have HCHK := Lib.hid hchk
  have HPB := Lib.hid (fun wx => print_bad f wx hok)
  clear hs ht hr hps hchk hok hn
  subst he
  obtain ⟨hokg, hng, hcnt⟩ := print_parse HPS.out
  have HGP := Lib.hid (fun wx (hx : TB wx) => print_spec g wx hokg hng hx)
  have hgg := parse_print hokg hng
  have hlg := printL_len g 21
  obtain ⟨G, hG⟩ : ∃ G, G = printL g 21 := ⟨_, rfl⟩
  rw [← hG] at hgg hlg HGP hcnt
  have hga := fun ad cp wx (hx : Strs wx ad G) => parse_spec ad G cp wx (by omega) hx.2
  rw [hgg.1, hgg.2] at hga
  have HGA := Lib.hid hga
  have heqg : ∀ w, (binOp .eql 23 (.agg (ocells g)) (.agg (ocells g))).run Tryd.prog w = .ok (.bool true) w := fun w => by rw [run_eql25, eqO_refl]
  have c1 : (G.length : Int) ≤ (L.length : Int) := by omega
  clear hokg hng hgg hga hG
  go_enter Tryd.func3, Tryd.ntmps3
  go_wp2_with (first
    | (refine wpList_load_row rfl 23 _ rfl w.heap.size rfl 23 (ocells f) (0, 0) _ HB0.out Tryd.underlying23 rfl Tryd.size23 ?_)
    | (go_at_call 6; refine (HPB.out _).mono ?_; rintro e0 w1 ⟨rfl, hf1⟩; have HB1 := Lib.hid (HB0.out.fr hf1 (fun h => h)); have HF1 := Lib.hid (HF0.out.trans hf1 (fun _ _ h => h)); clear hf1)
    | (refine wpList_load_row rfl 23 _ rfl w.heap.size rfl 23 (ocells f) (0, 0) _ HB1.out Tryd.underlying23 rfl Tryd.size23 ?_)
    | (go_at_call 7; refine (HCHK.out _).mono ?_; rintro e0 w2 ⟨rfl, hf2⟩; have HF9 := Lib.hid (HF1.out.trans hf2 (fun _ _ h => h)); clear hf2))
  have HS9 := Lib.hid (HSL.out.fr HF9.out)
  refine (HR.out _ HS9.out).mono ?_
  rintro e0 w10 ⟨rfl, hf10⟩
  have HF10 := Lib.hid ((HF9.out.trans hf10 (fun _ _ h => h)).alloc (.cells (ocells g) 23))
  have HP10 := Lib.hid (Blk.new w10 23 (ocells g))
  clear hf10 HR
  go_wp2_with (first
    | (refine wpList_store_row rfl 23 _ _ rfl _ (ocells g) rfl rfl 23 (ocells zf) (Blk.new _ _ _) Tryd.size23 rfl (ocells_one _) ?_; rw [World.setRow_alloc_new]; generalize w10.alloc (.cells (ocells g) 23) = w11 at HF10 HP10 ⊢; generalize w10.heap.size = o10 at HP10 ⊢)
    | (refine wpList_load_row rfl 23 _ rfl o10 rfl 23 (ocells g) (0, 0) _ HP10.out Tryd.underlying23 rfl Tryd.size23 ?_)
    | (go_at_call 6; refine (HGP.out _ (HT.out.fr HF10.out)).mono ?_; rintro e0 w12 ⟨ad2, cp2, rfl, hst2, hf12⟩; have HF12 := Lib.hid (HF10.out.trans hf12 (fun _ _ h => h)); have HP12 := Lib.hid (HP10.out.fr hf12 (fun h => h)); have HA12 := Lib.hid hst2; clear hf12 hst2 HP10))
  refine (HGA.out _ _ _ HA12.out).mono ?_
  rintro e0 w13 ⟨rfl, hf13⟩
  have HF13 := Lib.hid ((HF12.out.trans hf13 (fun _ _ h => h)).alloc (.cells (ocells g) 23))
  have HP13 := Lib.hid ((HP12.out.fr hf13 (fun h => h)).alloc (.cells (ocells g) 23))
  have HQ13 := Lib.hid (Blk.new w13 23 (ocells g))
  clear hf13 HF12 HP12 HA12 HGA HGP
  go_wp2_with (first
    | (refine wpList_store_row rfl 23 _ _ rfl _ (ocells g) rfl rfl 23 (ocells zf) (Blk.new _ _ _) Tryd.size23 rfl (ocells_one _) ?_; rw [World.setRow_alloc_new]; generalize w13.alloc (.cells (ocells g) 23) = w14 at HF13 HP13 HQ13 ⊢; generalize w13.heap.size = o13 at HQ13 ⊢)
    | (refine wpList_load_row_g rfl 23 _ rfl o10 rfl 23 (ocells g) (0, 0) _ HP13.out Tryd.underlying23 rfl Tryd.size23 ?_)
    | (refine wp_load_row 23 _ rfl o10 rfl 23 (ocells g) (0, 0) _ HP13.out Tryd.underlying23 rfl Tryd.size23 ?_)
    | (refine wpList_load_row_g rfl 23 _ rfl o13 rfl 23 (ocells g) (0, 0) _ HQ13.out Tryd.underlying23 rfl Tryd.size23 ?_)
    | (refine wp_load_row 23 _ rfl o13 rfl 23 (ocells g) (0, 0) _ HQ13.out Tryd.underlying23 rfl Tryd.size23 ?_)
    | (go_at_call 5; refine (awake_spec _).mono ?_; rintro e0 w15 ⟨rfl, hf15⟩; have HF15 := Lib.hid (HF13.out.trans hf15 (fun _ _ h => h)); clear hf15))
  go_ret
  exact ⟨rfl, HF15.out⟩

set_option maxRecDepth 100000 in
set_option maxHeartbeats 16000000 in
theorem words_good_E (f : Nat → Int) (a : Option Addr) (L : List ByteArray) (cap : Nat) (w : World) (hn : normP f) (hs : Strs w a L) (hl : L.length ≤ 100) (ht : TB w) (hok : okS f = true) (g : Nat → Int) (k : Nat) (e : Int) (hps : parseS L = (g, k, e)) (he : e ≠ 0) :
    Calls Tryd.prog 3 #[.agg (ocells f), .slice a L.length cap] w fun e w' => e = .returned (.bool true) ∧ Fr (fun _ => False) w w' := by
  have hle : decide (100 < (L.length : Int)) = false := by simp; omega
  have HB0 := Lib.hid (Blk.new w 23 (ocells f))
  have HF0 := Lib.hid ((Fr.refl (fun _ => False) w).alloc (.cells (ocells f) 23))
  have HSL := Lib.hid hs
  have HT := Lib.hid ht
  have hr := fun wx (hx : Strs wx a L) => parse_spec a L cap wx (by omega) hx.2
  rw [hps] at hr
  have HR := Lib.hid hr
  have HPS := Lib.hid hps
  have hchk := fun wx => check_spec f wx
  simp only [ckS, hok] at hchk
  have HCHK := Lib.hid hchk
  have HPG := Lib.hid (fun wx (hx : TB wx) => print_spec f wx hok hn hx)
  have hpp := parse_print hok hn
  have hln := printL_len f 21
  obtain ⟨A, hA⟩ : ∃ A, A = printL f 21 := ⟨_, rfl⟩
  rw [← hA] at hpp hln HPG
  have hpa := fun ad cp wx (hx : Strs wx ad A) => parse_spec ad A cp wx (by omega) hx.2
  rw [hpp.1, hpp.2] at hpa
  have HPA := Lib.hid hpa
  have hneq := fun wx => run_neq25 f wx
  clear hs ht hr hps hchk hok hn hA hpp hpa
  obtain rfl := parseS_bad HPS.out he
  have b1 : (e != 0) = true := by simpa using he
  have b2 : (e == 0) = false := by simpa using he
  have heq0 : ∀ w, (binOp .eql 23 (.agg (ocells zf)) (.agg #[.int .i64 0, .int .i64 0, .bool false, .bool false, .bool false, .bool false, .bool false, .bool false, .bool false, .bool false, .bool false, .bool false, .bool false, .bool false, .bool false, .bool false, .bool false, .bool false, .int .i64 0, .int .i64 0, .int .i64 0])).run Tryd.prog w = .ok (.bool true) w := fun w => (run_eql25 zf zf w).trans (by rw [eqO_refl])
  clear he
  go_enter Tryd.func3, Tryd.ntmps3
  go_wp2_with (first
    | (refine wpList_load_row rfl 23 _ rfl w.heap.size rfl 23 (ocells f) (0, 0) _ HB0.out Tryd.underlying23 rfl Tryd.size23 ?_)
    | (go_at_call 6; refine (HPG.out _ (HT.out.fr HF0.out)).mono ?_; rintro e0 w1 ⟨ad, cp, rfl, hst, hf1⟩; have HB1 := Lib.hid (HB0.out.fr hf1 (fun h => h)); have HF1 := Lib.hid (HF0.out.trans hf1 (fun _ _ h => h)); have HA1 := Lib.hid hst; clear hf1 hst HB0)
    | (refine wpList_load_row rfl 23 _ rfl w.heap.size rfl 23 (ocells f) (0, 0) _ HB1.out Tryd.underlying23 rfl Tryd.size23 ?_)
    | (go_at_call 7; refine (HCHK.out _).mono ?_; rintro e0 w2 ⟨rfl, hf2⟩; have HB2 := Lib.hid (HB1.out.fr hf2 (fun h => h)); have HF2 := Lib.hid (HF1.out.trans hf2 (fun _ _ h => h)); have HA2 := Lib.hid (HA1.out.fr hf2); clear hf2 HB1 HA1 HCHK))
  refine (HPA.out _ _ _ HA2.out).mono ?_
  rintro e0 w4 ⟨rfl, hf4⟩
  have HF4 := Lib.hid ((HF2.out.trans hf4 (fun _ _ h => h)).alloc (.cells (ocells f) 23))
  have HO4 := Lib.hid ((HB2.out.fr hf4 (fun h => h)).alloc (.cells (ocells f) 23))
  have HP4 := Lib.hid (Blk.new w4 23 (ocells f))
  clear hf4 HF2 HB2 HA2 HPA
  go_wp2_with (first
    | (refine wpList_store_row rfl 23 _ _ rfl _ (ocells f) rfl rfl 23 (ocells zf) (Blk.new _ _ _) Tryd.size23 rfl (ocells_one _) ?_; rw [World.setRow_alloc_new]; generalize w4.alloc (.cells (ocells f) 23) = w5 at HF4 HO4 HP4 ⊢; generalize w4.heap.size = o4 at HP4 ⊢)
    | (refine wpList_load_row rfl 23 _ rfl o4 rfl 23 (ocells f) (0, 0) _ HP4.out Tryd.underlying23 rfl Tryd.size23 ?_)
    | (refine wpList_load_row rfl 23 _ rfl w.heap.size rfl 23 (ocells f) (0, 0) _ HO4.out Tryd.underlying23 rfl Tryd.size23 ?_))
  have HF9 := HF4
  have HS9 := Lib.hid (HSL.out.fr HF4.out)
  refine (HR.out _ HS9.out).mono ?_
  rintro e0 w10 ⟨rfl, hf10⟩
  have HF10 := Lib.hid ((HF9.out.trans hf10 (fun _ _ h => h)).alloc (.cells (ocells zf) 23))
  have HP10 := Lib.hid (Blk.new w10 23 (ocells zf))
  clear hf10 HR
  go_wp2_with (first
    | (refine wpList_store_row rfl 23 _ _ rfl _ (ocells zf) rfl rfl 23 (ocells zf) (Blk.new _ _ _) Tryd.size23 rfl (ocells_one _) ?_; rw [World.setRow_alloc_new]; generalize w10.alloc (.cells (ocells zf) 23) = w11 at HF10 HP10 ⊢; generalize w10.heap.size = o10 at HP10 ⊢)
    | (refine wpList_load_row rfl 23 _ rfl o10 rfl 23 (ocells zf) (0, 0) _ HP10.out Tryd.underlying23 rfl Tryd.size23 ?_)
    | (go_at_call 5; refine (awake_spec _).mono ?_; rintro e0 w12 ⟨rfl, hf12⟩; have HF12 := Lib.hid (HF10.out.trans hf12 (fun _ _ h => h)); clear hf12))
  go_ret
  exact ⟨rfl, HF12.out⟩

set_option maxRecDepth 100000 in
set_option maxHeartbeats 16000000 in
theorem words_good_O (f : Nat → Int) (a : Option Addr) (L : List ByteArray) (cap : Nat) (w : World) (hn : normP f) (hs : Strs w a L) (hl : L.length ≤ 100) (ht : TB w) (hok : okS f = true) (g : Nat → Int) (k : Nat) (e : Int) (hps : parseS L = (g, k, e)) (he : e = 0) :
    Calls Tryd.prog 3 #[.agg (ocells f), .slice a L.length cap] w fun e w' => e = .returned (.bool true) ∧ Fr (fun _ => False) w w' := by
  have hle : decide (100 < (L.length : Int)) = false := by simp; omega
  have HB0 := Lib.hid (Blk.new w 23 (ocells f))
  have HF0 := Lib.hid ((Fr.refl (fun _ => False) w).alloc (.cells (ocells f) 23))
  have HSL := Lib.hid hs
  have HT := Lib.hid ht
  have hr := fun wx (hx : Strs wx a L) => parse_spec a L cap wx (by omega) hx.2
  rw [hps] at hr
  have HR := Lib.hid hr
  have HPS := Lib.hid hps
  have hchk := fun wx => check_spec f wx
  simp only [ckS, hok] at hchk
  have HCHK := Lib.hid hchk
  have HPG := Lib.hid (fun wx (hx : TB wx) => print_spec f wx hok hn hx)
  have hpp := parse_print hok hn
  have hln := printL_len f 21
  obtain ⟨A, hA⟩ : ∃ A, A = printL f 21 := ⟨_, rfl⟩
  rw [← hA] at hpp hln HPG
  have hpa := fun ad cp wx (hx : Strs wx ad A) => parse_spec ad A cp wx (by omega) hx.2
  rw [hpp.1, hpp.2] at hpa
  have HPA := Lib.hid hpa
  have hneq := fun wx => run_neq25 f wx
  clear hs ht hr hps hchk hok hn hA hpp hpa
  subst he
  obtain ⟨hokg, hng, hcnt⟩ := print_parse HPS.out
  have HGP := Lib.hid (fun wx (hx : TB wx) => print_spec g wx hokg hng hx)
  have hgg := parse_print hokg hng
  have hlg := printL_len g 21
  obtain ⟨G, hG⟩ : ∃ G, G = printL g 21 := ⟨_, rfl⟩
  rw [← hG] at hgg hlg HGP hcnt
  have hga := fun ad cp wx (hx : Strs wx ad G) => parse_spec ad G cp wx (by omega) hx.2
  rw [hgg.1, hgg.2] at hga
  have HGA := Lib.hid hga
  have heqg : ∀ w, (binOp .eql 23 (.agg (ocells g)) (.agg (ocells g))).run Tryd.prog w = .ok (.bool true) w := fun w => by rw [run_eql25, eqO_refl]
  have c1 : (G.length : Int) ≤ (L.length : Int) := by omega
  clear hokg hng hgg hga hG
  go_enter Tryd.func3, Tryd.ntmps3
  go_wp2_with (first
    | (refine wpList_load_row rfl 23 _ rfl w.heap.size rfl 23 (ocells f) (0, 0) _ HB0.out Tryd.underlying23 rfl Tryd.size23 ?_)
    | (go_at_call 6; refine (HPG.out _ (HT.out.fr HF0.out)).mono ?_; rintro e0 w1 ⟨ad, cp, rfl, hst, hf1⟩; have HB1 := Lib.hid (HB0.out.fr hf1 (fun h => h)); have HF1 := Lib.hid (HF0.out.trans hf1 (fun _ _ h => h)); have HA1 := Lib.hid hst; clear hf1 hst HB0)
    | (refine wpList_load_row rfl 23 _ rfl w.heap.size rfl 23 (ocells f) (0, 0) _ HB1.out Tryd.underlying23 rfl Tryd.size23 ?_)
    | (go_at_call 7; refine (HCHK.out _).mono ?_; rintro e0 w2 ⟨rfl, hf2⟩; have HB2 := Lib.hid (HB1.out.fr hf2 (fun h => h)); have HF2 := Lib.hid (HF1.out.trans hf2 (fun _ _ h => h)); have HA2 := Lib.hid (HA1.out.fr hf2); clear hf2 HB1 HA1 HCHK))
  refine (HPA.out _ _ _ HA2.out).mono ?_
  rintro e0 w4 ⟨rfl, hf4⟩
  have HF4 := Lib.hid ((HF2.out.trans hf4 (fun _ _ h => h)).alloc (.cells (ocells f) 23))
  have HO4 := Lib.hid ((HB2.out.fr hf4 (fun h => h)).alloc (.cells (ocells f) 23))
  have HP4 := Lib.hid (Blk.new w4 23 (ocells f))
  clear hf4 HF2 HB2 HA2 HPA
  go_wp2_with (first
    | (refine wpList_store_row rfl 23 _ _ rfl _ (ocells f) rfl rfl 23 (ocells zf) (Blk.new _ _ _) Tryd.size23 rfl (ocells_one _) ?_; rw [World.setRow_alloc_new]; generalize w4.alloc (.cells (ocells f) 23) = w5 at HF4 HO4 HP4 ⊢; generalize w4.heap.size = o4 at HP4 ⊢)
    | (refine wpList_load_row rfl 23 _ rfl o4 rfl 23 (ocells f) (0, 0) _ HP4.out Tryd.underlying23 rfl Tryd.size23 ?_)
    | (refine wpList_load_row rfl 23 _ rfl w.heap.size rfl 23 (ocells f) (0, 0) _ HO4.out Tryd.underlying23 rfl Tryd.size23 ?_))
  have HF9 := HF4
  have HS9 := Lib.hid (HSL.out.fr HF4.out)
  refine (HR.out _ HS9.out).mono ?_
  rintro e0 w10 ⟨rfl, hf10⟩
  have HF10 := Lib.hid ((HF9.out.trans hf10 (fun _ _ h => h)).alloc (.cells (ocells g) 23))
  have HP10 := Lib.hid (Blk.new w10 23 (ocells g))
  clear hf10 HR
  go_wp2_with (first
    | (refine wpList_store_row rfl 23 _ _ rfl _ (ocells g) rfl rfl 23 (ocells zf) (Blk.new _ _ _) Tryd.size23 rfl (ocells_one _) ?_; rw [World.setRow_alloc_new]; generalize w10.alloc (.cells (ocells g) 23) = w11 at HF10 HP10 ⊢; generalize w10.heap.size = o10 at HP10 ⊢)
    | (refine wpList_load_row rfl 23 _ rfl o10 rfl 23 (ocells g) (0, 0) _ HP10.out Tryd.underlying23 rfl Tryd.size23 ?_)
    | (go_at_call 6; refine (HGP.out _ (HT.out.fr HF10.out)).mono ?_; rintro e0 w12 ⟨ad2, cp2, rfl, hst2, hf12⟩; have HF12 := Lib.hid (HF10.out.trans hf12 (fun _ _ h => h)); have HP12 := Lib.hid (HP10.out.fr hf12 (fun h => h)); have HA12 := Lib.hid hst2; clear hf12 hst2 HP10))
  refine (HGA.out _ _ _ HA12.out).mono ?_
  rintro e0 w13 ⟨rfl, hf13⟩
  have HF13 := Lib.hid ((HF12.out.trans hf13 (fun _ _ h => h)).alloc (.cells (ocells g) 23))
  have HP13 := Lib.hid ((HP12.out.fr hf13 (fun h => h)).alloc (.cells (ocells g) 23))
  have HQ13 := Lib.hid (Blk.new w13 23 (ocells g))
  clear hf13 HF12 HP12 HA12 HGA HGP
  go_wp2_with (first
    | (refine wpList_store_row rfl 23 _ _ rfl _ (ocells g) rfl rfl 23 (ocells zf) (Blk.new _ _ _) Tryd.size23 rfl (ocells_one _) ?_; rw [World.setRow_alloc_new]; generalize w13.alloc (.cells (ocells g) 23) = w14 at HF13 HP13 HQ13 ⊢; generalize w13.heap.size = o13 at HQ13 ⊢)
    | (refine wpList_load_row_g rfl 23 _ rfl o10 rfl 23 (ocells g) (0, 0) _ HP13.out Tryd.underlying23 rfl Tryd.size23 ?_)
    | (refine wp_load_row 23 _ rfl o10 rfl 23 (ocells g) (0, 0) _ HP13.out Tryd.underlying23 rfl Tryd.size23 ?_)
    | (refine wpList_load_row_g rfl 23 _ rfl o13 rfl 23 (ocells g) (0, 0) _ HQ13.out Tryd.underlying23 rfl Tryd.size23 ?_)
    | (refine wp_load_row 23 _ rfl o13 rfl 23 (ocells g) (0, 0) _ HQ13.out Tryd.underlying23 rfl Tryd.size23 ?_)
    | (go_at_call 5; refine (awake_spec _).mono ?_; rintro e0 w15 ⟨rfl, hf15⟩; have HF15 := Lib.hid (HF13.out.trans hf15 (fun _ _ h => h)); clear hf15))
  go_ret
  exact ⟨rfl, HF15.out⟩

theorem words_walk (f : Nat → Int) (a : Option Addr) (L : List ByteArray) (cap : Nat) (w : World) (hn : normP f) (hs : Strs w a L) (ht : TB w) :
    Calls Tryd.prog 3 #[.agg (ocells f), .slice a L.length cap] w fun e w' => e = .returned (.bool true) ∧ Below w.heap.size w w' := by
  suffices h : Calls Tryd.prog 3 #[.agg (ocells f), .slice a L.length cap] w fun e w' => e = .returned (.bool true) ∧ Fr (fun _ => False) w w' from h.mono fun _ _ ⟨h1, h2⟩ => ⟨h1, h2.below (Nat.le_refl _) (fun _ _ h => h)⟩
  by_cases hl : L.length ≤ 100
  · obtain ⟨g, k, e, hrd⟩ : ∃ g k e, parseS L = (g, k, e) := ⟨_, _, _, rfl⟩
    cases hok : okS f
    · by_cases he : e = 0
      · exact words_bad_O f a L cap w hn hs hl ht hok g k e hrd he
      · exact words_bad_E f a L cap w hn hs hl ht hok g k e hrd he
    · by_cases he : e = 0
      · exact words_good_O f a L cap w hn hs hl ht hok g k e hrd he
      · exact words_good_E f a L cap w hn hs hl ht hok g k e hrd he
  · have hle : decide (100 < (L.length : Int)) = true := by simp; omega
    have hm := hs.1
    clear hs hl ht
    go_enter Tryd.func3, Tryd.ntmps3
    go_wp2_with (go_at_call 5; refine (awake_spec _).mono ?_; rintro e w5 ⟨rfl, hf5⟩)
    go_ret
    exact ⟨rfl, ((Fr.refl _ _).alloc _).trans hf5 (fun _ _ h => h)⟩
end Go.Proofs.YtlfaeabbfejjcaaDoor
