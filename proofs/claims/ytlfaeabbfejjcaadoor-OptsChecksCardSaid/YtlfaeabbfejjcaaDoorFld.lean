/- The walks of the fields' makers: number, flag, fields; their closures. -/
import Derived.Test.YtlfaeabbfejjcaaDoorProg
import Derived.Test.YtlfaeabbfejjcaaDoorFr
import Derived.KernelRfl
import Derived.Lib.Hide
import Derived.Laws.Rows
import Derived.Laws.EntriesVeiled
import Derived.Deep.Light
namespace Go.Proofs.YtlfaeabbfejjcaaDoor
open Go.RowKit

/-- A closure over one box. -/
def clo (f b : Nat) : Value := .func (.func f) #[] #[.pointer (some ⟨b, 0, none⟩)]

/-- The fields' names, kinds and places. -/
def nm : Nat → ByteArray
  | 0 => ⟨#[100, 101, 108, 101, 116, 101]⟩
  | 1 => ⟨#[109, 97, 120, 45, 100, 101, 108, 101, 116, 101]⟩
  | 2 => ⟨#[99, 104, 101, 99, 107, 115, 117, 109]⟩
  | 3 => ⟨#[115, 105, 122, 101, 45, 111, 110, 108, 121]⟩
  | 4 => ⟨#[117, 112, 100, 97, 116, 101]⟩
  | 5 => ⟨#[101, 120, 105, 115, 116, 105, 110, 103]⟩
  | 6 => ⟨#[110, 101, 119, 45, 111, 110, 108, 121]⟩
  | 7 => ⟨#[112, 101, 114, 109, 115]⟩
  | 8 => ⟨#[116, 105, 109, 101, 115]⟩
  | 9 => ⟨#[111, 119, 110, 101, 114]⟩
  | 10 => ⟨#[108, 105, 110, 107, 115]⟩
  | 11 => ⟨#[104, 97, 114, 100]⟩
  | 12 => ⟨#[115, 97, 102, 101]⟩
  | 13 => ⟨#[112, 97, 114, 116, 105, 97, 108]⟩
  | 14 => ⟨#[102, 117, 122, 122, 121]⟩
  | 15 => ⟨#[109, 111, 118, 101, 115]⟩
  | 16 => ⟨#[119, 104, 111, 108, 101]⟩
  | 17 => ⟨#[100, 114, 121]⟩
  | 18 => ⟨#[119, 105, 110, 100, 111, 119]⟩
  | 19 => ⟨#[98, 108, 111, 99, 107]⟩
  | 20 => ⟨#[115, 116, 114, 101, 110, 103, 116, 104]⟩
  | _ => ⟨#[]⟩
def kd : Nat → Int
  | 0 => 2
  | 1 => 1
  | 18 => 1
  | 19 => 1
  | 20 => 1
  | _ => 0
def atF : Nat → Nat
  | 0 => 28
  | 1 => 29
  | 2 => 31
  | 3 => 32
  | 4 => 33
  | 5 => 34
  | 6 => 35
  | 7 => 36
  | 8 => 37
  | 9 => 38
  | 10 => 39
  | 11 => 40
  | 12 => 41
  | 13 => 42
  | 14 => 43
  | 15 => 44
  | 16 => 45
  | 17 => 46
  | 18 => 47
  | 19 => 48
  | 20 => 49
  | _ => 0
def gF : Nat → Nat
  | 0 => 57
  | 1 => 57
  | 18 => 57
  | 19 => 57
  | 20 => 57
  | _ => 59
def sF : Nat → Nat
  | 0 => 58
  | 1 => 58
  | 18 => 58
  | 19 => 58
  | 20 => 58
  | _ => 60
def boxT : Nat → Nat
  | 0 => 58
  | 1 => 58
  | 18 => 58
  | 19 => 58
  | 20 => 58
  | _ => 61
/-- The cells of the slice of all fields, their boxes at bs. -/
def fcells (bs : Nat → Nat) : Array Value := #[.string (nm 0), .int .i64 (kd 0), clo (gF 0) (bs 0), clo (sF 0) (bs 0), .string (nm 1), .int .i64 (kd 1), clo (gF 1) (bs 1), clo (sF 1) (bs 1), .string (nm 2), .int .i64 (kd 2), clo (gF 2) (bs 2), clo (sF 2) (bs 2), .string (nm 3), .int .i64 (kd 3), clo (gF 3) (bs 3), clo (sF 3) (bs 3), .string (nm 4), .int .i64 (kd 4), clo (gF 4) (bs 4), clo (sF 4) (bs 4), .string (nm 5), .int .i64 (kd 5), clo (gF 5) (bs 5), clo (sF 5) (bs 5), .string (nm 6), .int .i64 (kd 6), clo (gF 6) (bs 6), clo (sF 6) (bs 6), .string (nm 7), .int .i64 (kd 7), clo (gF 7) (bs 7), clo (sF 7) (bs 7), .string (nm 8), .int .i64 (kd 8), clo (gF 8) (bs 8), clo (sF 8) (bs 8), .string (nm 9), .int .i64 (kd 9), clo (gF 9) (bs 9), clo (sF 9) (bs 9), .string (nm 10), .int .i64 (kd 10), clo (gF 10) (bs 10), clo (sF 10) (bs 10), .string (nm 11), .int .i64 (kd 11), clo (gF 11) (bs 11), clo (sF 11) (bs 11), .string (nm 12), .int .i64 (kd 12), clo (gF 12) (bs 12), clo (sF 12) (bs 12), .string (nm 13), .int .i64 (kd 13), clo (gF 13) (bs 13), clo (sF 13) (bs 13), .string (nm 14), .int .i64 (kd 14), clo (gF 14) (bs 14), clo (sF 14) (bs 14), .string (nm 15), .int .i64 (kd 15), clo (gF 15) (bs 15), clo (sF 15) (bs 15), .string (nm 16), .int .i64 (kd 16), clo (gF 16) (bs 16), clo (sF 16) (bs 16), .string (nm 17), .int .i64 (kd 17), clo (gF 17) (bs 17), clo (sF 17) (bs 17), .string (nm 18), .int .i64 (kd 18), clo (gF 18) (bs 18), clo (sF 18) (bs 18), .string (nm 19), .int .i64 (kd 19), clo (gF 19) (bs 19), clo (sF 19) (bs 19), .string (nm 20), .int .i64 (kd 20), clo (gF 20) (bs 20), clo (sF 20) (bs 20)]
/-- Options as numbers; the cells of an Opts. -/
def ocells (f : Nat → Int) : Array Value := #[.int .i64 (f 0), .int .i64 (f 1), .bool (f 2 == 1), .bool (f 3 == 1), .bool (f 4 == 1), .bool (f 5 == 1), .bool (f 6 == 1), .bool (f 7 == 1), .bool (f 8 == 1), .bool (f 9 == 1), .bool (f 10 == 1), .bool (f 11 == 1), .bool (f 12 == 1), .bool (f 13 == 1), .bool (f 14 == 1), .bool (f 15 == 1), .bool (f 16 == 1), .bool (f 17 == 1), .int .i64 (f 18), .int .i64 (f 19), .int .i64 (f 20)]

def upd (f : Nat → Int) (i : Nat) (n : Int) : Nat → Int := fun j => if j = i then n else f j

theorem Tryd.size44 : (Tryd.prog.info? 44).map (·.size) = some 4 := by kernel_rfl
theorem Tryd.size23 : (Tryd.prog.info? 23).map (·.size) = some 21 := by kernel_rfl

set_option maxHeartbeats 8000000 in
theorem number_spec (nm : ByteArray) (k : Int) (f : Nat) (w : World) :
    Calls Tryd.prog 27 #[.string nm, .int .i64 k, .func (.func f) #[] #[]] w fun e w' => e = .returned (.agg #[.string nm, .int .i64 k, clo 57 w.heap.size, clo 58 w.heap.size]) ∧ Blk w' w.heap.size 58 #[.func (.func f) #[] #[]] ∧ Fr (fun _ => False) w w' := by
  have hb := Blk.new w 58 #[.func (.func f) #[] #[]]
  have hn := Blk.new (w.alloc (.cells #[.func (.func f) #[] #[]] 58)) 44 #[.string nm, .int .i64 k, clo 57 w.heap.size, clo 58 w.heap.size]
  rw [show (w.alloc (.cells #[.func (.func f) #[] #[]] 58)).heap.size = w.heap.size + 1 from Array.size_push ..] at hn
  have HB := Lib.hid hb
  have HN := Lib.hid hn
  clear hb hn
  go_enter Tryd.func27, Tryd.ntmps27
  go_wp2_with (fail)
  exact bodyPost_ret (results_cell_row rfl _ _ (w.heap.size + 1) 44 #[.string nm, .int .i64 k, clo 57 w.heap.size, clo 58 w.heap.size] (0, 0) _ rfl HN.out Tryd.underlying44 rfl Tryd.size44) rfl ⟨rfl, HB.out.alloc _, ((Fr.refl _ _).alloc _).alloc _⟩
set_option maxHeartbeats 8000000 in
theorem flag_spec (nm : ByteArray) (f : Nat) (w : World) :
    Calls Tryd.prog 30 #[.string nm, .func (.func f) #[] #[]] w fun e w' => e = .returned (.agg #[.string nm, .int .i64 0, clo 59 w.heap.size, clo 60 w.heap.size]) ∧ Blk w' w.heap.size 61 #[.func (.func f) #[] #[]] ∧ Fr (fun _ => False) w w' := by
  have hb := Blk.new w 61 #[.func (.func f) #[] #[]]
  have hn := Blk.new (w.alloc (.cells #[.func (.func f) #[] #[]] 61)) 44 #[.string nm, .int .i64 0, clo 59 w.heap.size, clo 60 w.heap.size]
  rw [show (w.alloc (.cells #[.func (.func f) #[] #[]] 61)).heap.size = w.heap.size + 1 from Array.size_push ..] at hn
  have HB := Lib.hid hb
  have HN := Lib.hid hn
  clear hb hn
  go_enter Tryd.func30, Tryd.ntmps30
  go_wp2_with (fail)
  exact bodyPost_ret (results_cell_row rfl _ _ (w.heap.size + 1) 44 #[.string nm, .int .i64 0, clo 59 w.heap.size, clo 60 w.heap.size] (0, 0) _ rfl HN.out Tryd.underlying44 rfl Tryd.size44) rfl ⟨rfl, HB.out.alloc _, ((Fr.refl _ _).alloc _).alloc _⟩

/-- All fields lie at g, their boxes at bs, all behind 'base'. -/
structure Flds (low : Nat) (w : World) (g : Nat) (bs : Nat → Nat) : Prop where
  row : Blk w g 44 (fcells bs)
  base : low ≤ g
  boxes : ∀ i, i < 21 → low ≤ bs i
  box : ∀ i, i < 21 → Blk w (bs i) (boxT i) #[.func (.func (atF i)) #[] #[]]

theorem Flds.fr {base : Nat} {S : Nat → Prop} {w w' : World} {g : Nat} {bs : Nat → Nat} (h : Flds base w g bs) (f : Fr S w w') (hS : ∀ k, base ≤ k → ¬ S k) : Flds base w' g bs :=
  ⟨h.row.fr f (hS _ h.base), h.base, h.boxes, fun i hi => (h.box i hi).fr f (hS _ (h.boxes i hi))⟩

theorem box_step {a b : World} {k : Nat} {T : TypeId} {vs : Array Value} (h : Blk a k T vs) (f : Fr (fun _ => False) a b) : Blk b k T vs := h.fr f (fun h => h)

theorem by21 {p : Nat → Prop} (h0 : p 0) (h1 : p 1) (h2 : p 2) (h3 : p 3) (h4 : p 4) (h5 : p 5) (h6 : p 6) (h7 : p 7) (h8 : p 8) (h9 : p 9) (h10 : p 10) (h11 : p 11) (h12 : p 12) (h13 : p 13) (h14 : p 14) (h15 : p 15) (h16 : p 16) (h17 : p 17) (h18 : p 18) (h19 : p 19) (h20 : p 20) : ∀ i, i < 21 → p i := by
  intro i hi
  match i, hi with
  | 0, _ => exact h0
  | 1, _ => exact h1
  | 2, _ => exact h2
  | 3, _ => exact h3
  | 4, _ => exact h4
  | 5, _ => exact h5
  | 6, _ => exact h6
  | 7, _ => exact h7
  | 8, _ => exact h8
  | 9, _ => exact h9
  | 10, _ => exact h10
  | 11, _ => exact h11
  | 12, _ => exact h12
  | 13, _ => exact h13
  | 14, _ => exact h14
  | 15, _ => exact h15
  | 16, _ => exact h16
  | 17, _ => exact h17
  | 18, _ => exact h18
  | 19, _ => exact h19
  | 20, _ => exact h20
  | i + 21, h => omega

set_option maxHeartbeats 16000000 in
theorem fields_spec (w : World) :
    Calls Tryd.prog 16 #[] w fun e w' => ∃ g bs, e = .returned (.slice (some ⟨g, 0, none⟩) 21 21) ∧ Flds w.heap.size w' g bs ∧ Fr (fun _ => False) w w' := by
  go_enter Tryd.func16, Tryd.ntmps16
  go_wp2_with (first | (go_at_call 27; refine (number_spec _ _ _ _).mono ?_; rintro e w' ⟨rfl, hb, hf⟩) | (go_at_call 30; refine (flag_spec _ _ _).mono ?_; rintro e w' ⟨rfl, hb, hf⟩))
  go_light
  rename_i w1 b1 f1 w2 b2 f2 w3 b3 f3 w4 b4 f4 w5 b5 f5 w6 b6 f6 w7 b7 f7 w8 b8 f8 w9 b9 f9 w10 b10 f10 w11 b11 f11 w12 b12 f12 w13 b13 f13 w14 b14 f14 w15 b15 f15 w16 b16 f16 w17 b17 f17 w18 b18 f18 w19 b19 f19 w20 b20 f20
  have F21 : Fr (fun _ => False) w' w' := Fr.refl _ _
  have F20 : Fr (fun _ => False) w20 w' := hf.trans F21 (fun _ _ h => h)
  have F19 : Fr (fun _ => False) w19 w' := f20.trans F20 (fun _ _ h => h)
  have F18 : Fr (fun _ => False) w18 w' := f19.trans F19 (fun _ _ h => h)
  have F17 : Fr (fun _ => False) w17 w' := f18.trans F18 (fun _ _ h => h)
  have F16 : Fr (fun _ => False) w16 w' := f17.trans F17 (fun _ _ h => h)
  have F15 : Fr (fun _ => False) w15 w' := f16.trans F16 (fun _ _ h => h)
  have F14 : Fr (fun _ => False) w14 w' := f15.trans F15 (fun _ _ h => h)
  have F13 : Fr (fun _ => False) w13 w' := f14.trans F14 (fun _ _ h => h)
  have F12 : Fr (fun _ => False) w12 w' := f13.trans F13 (fun _ _ h => h)
  have F11 : Fr (fun _ => False) w11 w' := f12.trans F12 (fun _ _ h => h)
  have F10 : Fr (fun _ => False) w10 w' := f11.trans F11 (fun _ _ h => h)
  have F9 : Fr (fun _ => False) w9 w' := f10.trans F10 (fun _ _ h => h)
  have F8 : Fr (fun _ => False) w8 w' := f9.trans F9 (fun _ _ h => h)
  have F7 : Fr (fun _ => False) w7 w' := f8.trans F8 (fun _ _ h => h)
  have F6 : Fr (fun _ => False) w6 w' := f7.trans F7 (fun _ _ h => h)
  have F5 : Fr (fun _ => False) w5 w' := f6.trans F6 (fun _ _ h => h)
  have F4 : Fr (fun _ => False) w4 w' := f5.trans F5 (fun _ _ h => h)
  have F3 : Fr (fun _ => False) w3 w' := f4.trans F4 (fun _ _ h => h)
  have F2 : Fr (fun _ => False) w2 w' := f3.trans F3 (fun _ _ h => h)
  have F1 : Fr (fun _ => False) w1 w' := f2.trans F2 (fun _ _ h => h)
  have G0 : w.heap.size ≤ w.heap.size := Nat.le_refl _
  have G1 : w.heap.size ≤ w1.heap.size := Nat.le_trans G0 f1.size
  have G2 : w.heap.size ≤ w2.heap.size := Nat.le_trans G1 f2.size
  have G3 : w.heap.size ≤ w3.heap.size := Nat.le_trans G2 f3.size
  have G4 : w.heap.size ≤ w4.heap.size := Nat.le_trans G3 f4.size
  have G5 : w.heap.size ≤ w5.heap.size := Nat.le_trans G4 f5.size
  have G6 : w.heap.size ≤ w6.heap.size := Nat.le_trans G5 f6.size
  have G7 : w.heap.size ≤ w7.heap.size := Nat.le_trans G6 f7.size
  have G8 : w.heap.size ≤ w8.heap.size := Nat.le_trans G7 f8.size
  have G9 : w.heap.size ≤ w9.heap.size := Nat.le_trans G8 f9.size
  have G10 : w.heap.size ≤ w10.heap.size := Nat.le_trans G9 f10.size
  have G11 : w.heap.size ≤ w11.heap.size := Nat.le_trans G10 f11.size
  have G12 : w.heap.size ≤ w12.heap.size := Nat.le_trans G11 f12.size
  have G13 : w.heap.size ≤ w13.heap.size := Nat.le_trans G12 f13.size
  have G14 : w.heap.size ≤ w14.heap.size := Nat.le_trans G13 f14.size
  have G15 : w.heap.size ≤ w15.heap.size := Nat.le_trans G14 f15.size
  have G16 : w.heap.size ≤ w16.heap.size := Nat.le_trans G15 f16.size
  have G17 : w.heap.size ≤ w17.heap.size := Nat.le_trans G16 f17.size
  have G18 : w.heap.size ≤ w18.heap.size := Nat.le_trans G17 f18.size
  have G19 : w.heap.size ≤ w19.heap.size := Nat.le_trans G18 f19.size
  have G20 : w.heap.size ≤ w20.heap.size := Nat.le_trans G19 f20.size
  have G21 : w.heap.size ≤ w'.heap.size := Nat.le_trans G20 hf.size
  have hfr : Fr (fun _ => False) w w' := f1.trans F1 (fun _ _ h => h)
  go_ret
  refine ⟨w'.heap.size, fun i => (#[w.heap.size, w1.heap.size, w2.heap.size, w3.heap.size, w4.heap.size, w5.heap.size, w6.heap.size, w7.heap.size, w8.heap.size, w9.heap.size, w10.heap.size, w11.heap.size, w12.heap.size, w13.heap.size, w14.heap.size, w15.heap.size, w16.heap.size, w17.heap.size, w18.heap.size, w19.heap.size, w20.heap.size].getD i 0), rfl, ⟨Blk.new w' 44 _, G21, by21 G0 G1 G2 G3 G4 G5 G6 G7 G8 G9 G10 G11 G12 G13 G14 G15 G16 G17 G18 G19 G20, by21 ((box_step b1 F1).alloc _) ((box_step b2 F2).alloc _) ((box_step b3 F3).alloc _) ((box_step b4 F4).alloc _) ((box_step b5 F5).alloc _) ((box_step b6 F6).alloc _) ((box_step b7 F7).alloc _) ((box_step b8 F8).alloc _) ((box_step b9 F9).alloc _) ((box_step b10 F10).alloc _) ((box_step b11 F11).alloc _) ((box_step b12 F12).alloc _) ((box_step b13 F13).alloc _) ((box_step b14 F14).alloc _) ((box_step b15 F15).alloc _) ((box_step b16 F16).alloc _) ((box_step b17 F17).alloc _) ((box_step b18 F18).alloc _) ((box_step b19 F19).alloc _) ((box_step b20 F20).alloc _) ((box_step hb F21).alloc _)⟩, hfr.alloc _⟩
end Go.Proofs.YtlfaeabbfejjcaaDoor
