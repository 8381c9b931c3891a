/- The walk of OptsChecks. -/
import Derived.Test.YtlfaeabbfejjcaaDoorTexts
import Derived.Test.YtlfaeabbfejjcaaDoorAwake
import Derived.Test.YtlfaeabbfejjcaaDoorWords
namespace Go.Proofs.YtlfaeabbfejjcaaDoor
open Go.RowKit

/-- Bytes as a text. -/
def bstr (l : List UInt8) : ByteArray := ⟨l.toArray⟩

theorem conv_y {w : World} {a : Option Addr} {N cap : Nat} {l : List UInt8} (h : BL w a N cap l) : (convert 33 9 (.slice a N cap)).run Tryd.prog w = .ok (.string (bstr l)) w := by
  obtain ⟨rfl, hb, _⟩ := h
  rcases a with _ | x
  · have hL : l = [] := by
      cases l with
      | nil => rfl
      | cons b t => obtain ⟨x, hx, _⟩ := hb.2 0 (by simp); cases hx
    subst hL
    exact run_convert_bytes_nil _ 33 5 Tryd.underlying33 Tryd.underlying5 _ _ 9 Tryd.underlying9
  · exact run_convert_bytes_back w 33 9 5 x cap l Tryd.underlying33 Tryd.underlying5 Tryd.underlying9 (fun j hj => by
      obtain ⟨y, hy, _, hc⟩ := hb.2 j hj
      injection hy with hy
      subst hy
      rw [hc, List.getD_eq_getElem?_getD, List.getElem?_eq_getElem hj]; rfl)

def prL (f : Nat → Int) : List ByteArray := cond (okS f) (printL f 21) []
def byL (f : Nat → Int) : List UInt8 := cond (okS f) (bytesS f) []
def koS (f : Nat → Int) : Int := cond (okS f) 0 2

theorem print_any (f : Nat → Int) (w : World) (hn : normP f) (ht : TB w) : Calls Tryd.prog 6 #[.agg (ocells f)] w fun e w' => ∃ ad N cap, e = .returned (.tuple #[.slice ad N cap, .int .i64 (koS f)]) ∧ N = (prL f).length ∧ Strs w' ad (prL f) ∧ Fr (fun _ => False) w w' := by
  unfold prL koS
  cases hok : okS f
  · exact (print_bad f w hok).mono fun e w' ⟨h1, h2⟩ => ⟨none, 0, 0, h1, rfl, ⟨by simp, fun j s hj => by simp at hj⟩, h2⟩
  · exact (print_spec f w hok hn ht).mono fun e w' ⟨ad, cap, h1, h2, h3⟩ => ⟨ad, _, cap, h1, rfl, h2, h3⟩
theorem rprint_any (f : Nat → Int) (w : World) : Calls Tryd.prog 9 #[.agg (ocells f)] w fun e w' => ∃ ad N cap, e = .returned (.tuple #[.slice ad N cap, .int .i64 (koS f)]) ∧ N = (prL f).length ∧ Strs w' ad (prL f) ∧ Fr (fun _ => False) w w' := by
  unfold prL koS
  cases hok : okS f
  · exact (rprint_bad f w hok).mono fun e w' ⟨h1, h2⟩ => ⟨none, 0, 0, h1, rfl, ⟨by simp, fun j s hj => by simp at hj⟩, h2⟩
  · exact (rprint_spec f w hok).mono fun e w' ⟨ad, cap, h1, h2, h3⟩ => ⟨ad, _, cap, h1, rfl, h2, h3⟩
theorem bytes_any (f : Nat → Int) (w : World) : Calls Tryd.prog 10 #[.agg (ocells f)] w fun e w' => ∃ ad N cap, e = .returned (.tuple #[.slice ad N cap, .int .i64 (koS f)]) ∧ BL w' ad N cap (byL f) ∧ Fr (fun _ => False) w w' := by
  unfold byL koS
  cases hok : okS f
  · exact (bytes_bad f w hok).mono fun e w' ⟨h1, h2⟩ => ⟨none, 0, 0, h1, BL.nil0 _, h2⟩
  · exact (bytes_spec f w hok).mono fun e w' ⟨ad, cap, h1, h2, h3, h4⟩ => ⟨ad, _, cap, h1, ⟨rfl, h2, h3⟩, h4⟩
theorem rbytes_any (f : Nat → Int) (w : World) : Calls Tryd.prog 11 #[.agg (ocells f)] w fun e w' => ∃ ad N cap, e = .returned (.tuple #[.slice ad N cap, .int .i64 (koS f)]) ∧ BL w' ad N cap (byL f) ∧ Fr (fun _ => False) w w' := by
  unfold byL koS
  cases hok : okS f
  · exact (rbytes_bad f w hok).mono fun e w' ⟨h1, h2⟩ => ⟨none, 0, 0, h1, BL.nil0 _, h2⟩
  · exact (rbytes_spec f w hok).mono fun e w' ⟨ad, cap, h1, h2, h3, h4⟩ => ⟨ad, _, cap, h1, ⟨rfl, h2, h3⟩, h4⟩
theorem prL_len (f : Nat → Int) : (prL f).length ≤ 1000 := by
  unfold prL
  cases okS f
  · exact Nat.zero_le _
  · exact Nat.le_trans (printL_len f 21) (by decide)
theorem texts_v (a b : Option Addr) (L : List ByteArray) (M N c d : Nat) (w : World) (hM : M = L.length) (hN : N = L.length) (ha : Strs w a L) (hb : Strs w b L) (hl : L.length ≤ 1000) :
    Calls Tryd.prog 13 #[.slice a M c, .slice b N d] w fun e w' => e = .returned (.bool true) ∧ Fr (fun _ => False) w w' := by
  subst hM hN
  exact texts_spec a b L c d w ha hb hl

theorem BL.fr {w w' : World} {a : Option Addr} {N cap : Nat} {l : List UInt8} (h : BL w a N cap l) (f : Fr (fun _ => False) w w') : BL w' a N cap l := ⟨h.len, h.byts.fr1 f, h.nil⟩

/-- What the last region knows. -/
structure CK (w0 : World) (o : Nat) (f : Nat → Int) (A : List ByteArray) (B : List UInt8) (a1 a2 : Option Addr) (M1 M2 : Nat) (b1 b2 : Option Addr) (N1 q1 N2 q2 : Nat) (w : World) : Prop where
  ob : Blk w o 23 (ocells f)
  m1 : M1 = A.length
  m2 : M2 = A.length
  s1 : Strs w a1 A
  s2 : Strs w a2 A
  y1 : BL w b1 N1 q1 B
  y2 : BL w b2 N2 q2 B
  fr : Fr (fun _ => False) w0 w
theorem CK.on {w0 w w1 : World} {o : Nat} {f : Nat → Int} {A : List ByteArray} {B : List UInt8} {a1 a2 : Option Addr} {M1 M2 : Nat} {b1 b2 : Option Addr} {N1 q1 N2 q2 : Nat} (h : CK w0 o f A B a1 a2 M1 M2 b1 b2 N1 q1 N2 q2 w) (k : Fr (fun _ => False) w w1) : CK w0 o f A B a1 a2 M1 M2 b1 b2 N1 q1 N2 q2 w1 :=
  ⟨h.ob.fr k (fun h => h), h.m1, h.m2, h.s1.fr k, h.s2.fr k, h.y1.fr k, h.y2.fr k, h.fr.trans k (fun _ _ h => h)⟩

theorem step_load_23 {ops : Array Oper} {o : Oper} {a : Act} {w : World} {K : Act → World → Prop} {Q : Exit → Act → World → Prop} {E : Prop} (f : Nat → Int) (hgd : o.guard = none) (x : Operand) (ho : o.op = .load 23 x)
    (g : Nat) (hx : a.eval x = .pointer (some ⟨g, 0, none⟩)) (hg : Blk w g 23 (ocells f))
    (h : K (a.put o.dst (.agg (ocells f))) w) : if Region.wanted o (yielded ops a.tmps) = true then Oper.wp Tryd.prog o a w K Q else E := by
  rw [if_pos (by simp [Region.wanted, hgd])]
  exact wp_load_row 23 x ho g hx 23 (ocells f) (0, 0) _ hg Tryd.underlying23 rfl Tryd.size23 h

theorem cells21 {w : World} {o : Nat} {f : Nat → Int} (h : Blk w o 23 (ocells f)) : w.cell? ⟨o, 0, none⟩ = some (.int .i64 (f 0)) ∧ w.cell? ⟨o, 1, none⟩ = some (.int .i64 (f 1)) ∧ w.cell? ⟨o, 2, none⟩ = some (.bool (f 2 == 1)) ∧ w.cell? ⟨o, 3, none⟩ = some (.bool (f 3 == 1)) ∧ w.cell? ⟨o, 4, none⟩ = some (.bool (f 4 == 1)) ∧ w.cell? ⟨o, 5, none⟩ = some (.bool (f 5 == 1)) ∧ w.cell? ⟨o, 6, none⟩ = some (.bool (f 6 == 1)) ∧ w.cell? ⟨o, 7, none⟩ = some (.bool (f 7 == 1)) ∧ w.cell? ⟨o, 8, none⟩ = some (.bool (f 8 == 1)) ∧ w.cell? ⟨o, 9, none⟩ = some (.bool (f 9 == 1)) ∧ w.cell? ⟨o, 10, none⟩ = some (.bool (f 10 == 1)) ∧ w.cell? ⟨o, 11, none⟩ = some (.bool (f 11 == 1)) ∧ w.cell? ⟨o, 12, none⟩ = some (.bool (f 12 == 1)) ∧ w.cell? ⟨o, 13, none⟩ = some (.bool (f 13 == 1)) ∧ w.cell? ⟨o, 14, none⟩ = some (.bool (f 14 == 1)) ∧ w.cell? ⟨o, 15, none⟩ = some (.bool (f 15 == 1)) ∧ w.cell? ⟨o, 16, none⟩ = some (.bool (f 16 == 1)) ∧ w.cell? ⟨o, 17, none⟩ = some (.bool (f 17 == 1)) ∧ w.cell? ⟨o, 18, none⟩ = some (.int .i64 (f 18)) ∧ w.cell? ⟨o, 19, none⟩ = some (.int .i64 (f 19)) ∧ w.cell? ⟨o, 20, none⟩ = some (.int .i64 (f 20)) :=
  ⟨h.cell 0 rfl, h.cell 1 rfl, h.cell 2 rfl, h.cell 3 rfl, h.cell 4 rfl, h.cell 5 rfl, h.cell 6 rfl, h.cell 7 rfl, h.cell 8 rfl, h.cell 9 rfl, h.cell 10 rfl, h.cell 11 rfl, h.cell 12 rfl, h.cell 13 rfl, h.cell 14 rfl, h.cell 15 rfl, h.cell 16 rfl, h.cell 17 rfl, h.cell 18 rfl, h.cell 19 rfl, h.cell 20 rfl⟩

noncomputable def rowLoadM (a : Addr) : Sem Value := loadVar 23 a
theorem rowLoad_of (a : Addr) : loadVar 23 a = rowLoadM a := rfl
attribute [local go_sem ↓] rowLoad_of
theorem keep_all {w0 w' : World} {o : Nat} {f : Nat → Int} {A : List ByteArray} {B : List UInt8} {a1 a2 : Option Addr} {M1 M2 : Nat} {b1 b2 : Option Addr} {N1 q1 N2 q2 : Nat} (h : CK w0 o f A B a1 a2 M1 M2 b1 b2 N1 q1 N2 q2 w') : (rowLoadM ⟨o, 0, none⟩).run Tryd.prog w' = .ok (.agg (ocells f)) w' ∧ (convert 33 9 (.slice b1 N1 q1)).run Tryd.prog w' = .ok (.string (bstr B)) w' ∧ (convert 33 9 (.slice b2 N2 q2)).run Tryd.prog w' = .ok (.string (bstr B)) w' :=
  ⟨run_loadVar_row w' o 23 23 (ocells f) (0, 0) _ h.ob Tryd.underlying23 rfl Tryd.size23, conv_y h.y1, conv_y h.y2⟩

set_option maxRecDepth 100000 in
set_option maxHeartbeats 4000000 in
theorem checks_walk (f : Nat → Int) (w : World) (hn : normP f) (ht : TB w) : Calls Tryd.prog 4 #[.agg (ocells f)] w fun e w' => e = .returned (.bool true) ∧ Fr (fun _ => False) w w' := by
  have HB0 := Lib.hid (Blk.new w 23 (ocells f))
  have HF0 := Lib.hid ((Fr.refl (fun _ => False) w).alloc (.cells (ocells f) 23))
  have HP := Lib.hid (fun wx (hx : TB wx) => print_any f wx hn hx)
  have HRP := Lib.hid (fun wx => rprint_any f wx)
  have HBY := Lib.hid (fun wx => bytes_any f wx)
  have HRB := Lib.hid (fun wx => rbytes_any f wx)
  have HC := Lib.hid (fun wx => check_spec f wx)
  have HRC := Lib.hid (fun wx => rcheck_spec f wx)
  have HT := Lib.hid ht
  have HLN := Lib.hid (prL_len f)
  have heq : ∀ w, (binOp .eql 23 (.agg (ocells dflt)) (.agg (ocells dflt))).run Tryd.prog w = .ok (.bool true) w := fun w => by rw [run_eql25, eqO_refl]
  clear hn ht
  generalize prL f = A at HP HRP HLN
  generalize byL f = B at HBY HRB
  generalize koS f = K at HP HRP HBY HRB
  generalize ckS f = C at HC HRC
  have HD := Lib.hid (fun wx => default_spec wx)
  have HRD := Lib.hid (fun wx => rdefault_spec wx)
  generalize ocells dflt = DD at HD HRD heq
  go_enter Tryd.func4, Tryd.ntmps4
  go_wp2_with (first
    | (refine wpList_load_row rfl 23 _ rfl w.heap.size rfl 23 (ocells f) (0, 0) _ HB0.out Tryd.underlying23 rfl Tryd.size23 ?_)
    | (go_at_call 6; refine (HP.out _ (HT.out.fr HF0.out)).mono ?_; rintro e0 w1 ⟨a1, M1, c1, rfl, hm1, hs1, hf⟩; have HB1 := Lib.hid (HB0.out.fr hf (fun h => h)); have HF1 := Lib.hid (HF0.out.trans hf (fun _ _ h => h)); have HM1 := Lib.hid hm1; have HS1 := Lib.hid hs1; clear hf hs1 hm1 HB0)
    | (refine wpList_load_row rfl 23 _ rfl w.heap.size rfl 23 (ocells f) (0, 0) _ HB1.out Tryd.underlying23 rfl Tryd.size23 ?_)
    | (go_at_call 9; refine (HRP.out _).mono ?_; rintro e0 w2 ⟨a2, M2, c2, rfl, hm2, hs2, hf⟩; have HB2 := Lib.hid (HB1.out.fr hf (fun h => h)); have HF2 := Lib.hid (HF1.out.trans hf (fun _ _ h => h)); have HM2 := Lib.hid hm2; have HS2 := Lib.hid hs2; have HS1b := Lib.hid (HS1.out.fr hf); clear hf hs2 hm2 HB1)
    | (refine wpList_load_row rfl 23 _ rfl w.heap.size rfl 23 (ocells f) (0, 0) _ HB2.out Tryd.underlying23 rfl Tryd.size23 ?_)
    | (go_at_call 10; refine (HBY.out _).mono ?_; rintro e0 w3 ⟨b1, N1, q1, rfl, hy1, hf⟩; have HB3 := Lib.hid (HB2.out.fr hf (fun h => h)); have HF3 := Lib.hid (HF2.out.trans hf (fun _ _ h => h)); have HS1c := Lib.hid (HS1b.out.fr hf); have HS2c := Lib.hid (HS2.out.fr hf); have HY1 := Lib.hid hy1; clear hf hy1 HB2)
    | (refine wpList_load_row rfl 23 _ rfl w.heap.size rfl 23 (ocells f) (0, 0) _ HB3.out Tryd.underlying23 rfl Tryd.size23 ?_)
    | (go_at_call 11; refine (HRB.out _).mono ?_; rintro e0 w4 ⟨b2, N2, q2, rfl, hy2, hf⟩; have HK : Hid (CK w w.heap.size f A B a1 a2 M1 M2 b1 b2 N1 q1 N2 q2 w4) := Lib.hid ⟨HB3.out.fr hf (fun h => h), HM1.out, HM2.out, HS1c.out.fr hf, HS2c.out.fr hf, HY1.out.fr hf, hy2, HF3.out.trans hf (fun _ _ h => h)⟩; clear hf hy2 HB3))
  clear HF0 HF1 HF2 HF3 HS1 HS1b HS1c HS2 HS2c HY1 HM1 HM2 HP HRP HBY HRB HT
  generalize w.heap.size = o at HK ⊢
  have HK := Lib.hid (HK.out.on ((Fr.refl (fun _ => False) w4).drew))
  have hcc : (C == C) = true := by simp
  have hkk : (K == K) = true := by simp
  go_region_held3 (fun w' => (rowLoadM ⟨o, 0, none⟩).run Tryd.prog w' = .ok (.agg (ocells f)) w' ∧ (convert 33 9 (.slice b1 N1 q1)).run Tryd.prog w' = .ok (.string (bstr B)) w' ∧ (convert 33 9 (.slice b2 N2 q2)).run Tryd.prog w' = .ok (.string (bstr B)) w')
   (first | exact keep_all HK.out)
   (first
    | (go_at_call 7; ((with_reducible refine (HC.out _).mono ?_); rintro e0 w5 ⟨rfl, hf⟩; have HK := Lib.hid (HK.out.on hf); clear hf))
    | (go_at_call 12; ((with_reducible refine (HRC.out _).mono ?_); rintro e0 w6 ⟨rfl, hf⟩; have HK := Lib.hid (HK.out.on hf); clear hf))
    | (go_at_call 13; ((with_reducible refine (texts_v a1 a2 A M1 M2 c1 c2 _ HK.out.m1 HK.out.m2 HK.out.s1 HK.out.s2 HLN.out).mono ?_); rintro e0 w7 ⟨rfl, hf⟩; have HK := Lib.hid (HK.out.on hf); clear hf))
    | (go_at_call 14; ((with_reducible refine (HD.out _).mono ?_); rintro e0 w8 ⟨rfl, hf⟩; have HK := Lib.hid (HK.out.on hf); clear hf))
    | (go_at_call 15; ((with_reducible refine (HRD.out _).mono ?_); rintro e0 w9 ⟨rfl, hf⟩; have HK := Lib.hid (HK.out.on hf); clear hf))
    | (go_at_call 5; ((with_reducible refine (awake_spec _).mono ?_); rintro e0 w10 ⟨rfl, hf⟩; have HK := Lib.hid (HK.out.on hf); clear hf)))
  clear HC HRC HD HRD heq HLN
  have HFF := Lib.hid HK.out.fr
  clear HK
  go_wp2_with (fail)
  go_ret
  exact ⟨rfl, HFF.out⟩
end Go.Proofs.YtlfaeabbfejjcaaDoor
