/- roll: the weak sum's words. -/
import Derived.Test.YtphjebbjhfnhoaaSh1
namespace Go.Proofs.Ytphjebbjhfnhoaa
open Go.RowKit

theorem wrap_u32 (n : Int) : IntKind.u32.wrap n = n % 4294967296 := by
  simp [IntKind.wrap, IntKind.bits, IntKind.signed]
theorem toNat_ofInt32 (a : Nat) (h : a < 4294967296) : (BitVec.ofInt 32 (a : Int)).toNat = a := by
  rw [BitVec.toNat_ofInt]; omega
theorem and_u32 (a : Nat) (h : a < 4294967296) : bits BinOp.and IntKind.u32 (a : Int) 65535 = (a : Int) % 65536 := by
  show IntKind.u32.wrap (((BitVec.ofInt 32 (a : Int)) &&& (BitVec.ofInt 32 (65535 : Int))).toNat : Int) = _
  rw [BitVec.toNat_and, toNat_ofInt32 a h, show (BitVec.ofInt 32 (65535 : Int)).toNat = 2 ^ 16 - 1 from rfl, Nat.and_two_pow_sub_one_eq_mod, wrap_u32]
  omega
theorem or_u32 (x y : Nat) (hx : x < 65536) (hy : y < 65536) : bits BinOp.or IntKind.u32 (x : Int) (65536 * y : Nat) = (x : Int) + 65536 * (y : Int) := by
  show IntKind.u32.wrap (((BitVec.ofInt 32 (x : Int)) ||| (BitVec.ofInt 32 ((65536 * y : Nat) : Int))).toNat : Int) = _
  rw [BitVec.toNat_or, toNat_ofInt32 x (by omega), toNat_ofInt32 (65536 * y) (by omega), Nat.or_comm]
  have e := Nat.two_pow_add_eq_or_of_lt (i := 16) (b := x) hx y
  rw [show 65536 * y = 2 ^ 16 * y from rfl, ← e, wrap_u32]
  omega
theorem and_i64 (a : Nat) (h : a < 65536) : bits BinOp.and IntKind.i64 (a : Int) 65535 = (a : Int) := by
  show IntKind.i64.wrap (((BitVec.ofInt 64 (a : Int)) &&& (BitVec.ofInt 64 (65535 : Int))).toNat : Int) = _
  have ht : (BitVec.ofInt 64 (a : Int)).toNat = a := by rw [BitVec.toNat_ofInt]; omega
  rw [BitVec.toNat_and, ht, show (BitVec.ofInt 64 (65535 : Int)).toNat = 2 ^ 16 - 1 from rfl, Nat.and_two_pow_sub_one_eq_mod, IntWalk.i64_in _ (by omega)]
  omega
/-- Two halves as a word. -/
def wkI (a b : Int) : Int := a % 65536 + 65536 * (b % 65536)
theorem halves_spec (a b : Int) (w : World) : Calls Try.prog 51 #[.int .u32 (wkI a b)] w fun e w' => e = .returned (.tuple #[.int .u32 (a % 65536), .int .u32 (b % 65536)]) ∧ w = w' := by
  obtain ⟨n, hn⟩ : ∃ n : Nat, wkI a b = n := ⟨(wkI a b).toNat, by unfold wkI; omega⟩
  have hn2 : n < 4294967296 := by unfold wkI at hn; omega
  have h1 : bits BinOp.and IntKind.u32 (wkI a b) 65535 = a % 65536 := by rw [hn, and_u32 n hn2, ← hn]; unfold wkI; omega
  have h2 : wkI a b / 65536 = b % 65536 := by unfold wkI; omega
  have H1 := Lib.hid h1
  have H2 := Lib.hid h2
  generalize wkI a b = x at H1 H2 ⊢
  clear hn hn2 h1 h2
  go_enter Try.func51, Try.ntmps51
  go_wp2_with (fail)
  have h1 := H1.out
  have h2 := H2.out
  go_ret2
  exact ⟨by rw [← h1, ← h2]; rfl, rfl⟩
theorem join_spec (x y : Int) (hx : 0 ≤ x ∧ x < 4294967296) (w : World) : Calls Try.prog 52 #[.int .u32 x, .int .u32 y] w fun e w' => e = .returned (.int .u32 (wkI x y)) ∧ w = w' := by
  have h1 : bits BinOp.and IntKind.u32 x 65535 = x % 65536 := by
    obtain ⟨n, rfl⟩ := Int.eq_ofNat_of_zero_le hx.1
    exact and_u32 n (by omega)
  have h2 : bits BinOp.or IntKind.u32 (x % 65536) (y * 65536 % 4294967296) = wkI x y := by
    obtain ⟨n, hn⟩ : ∃ n : Nat, x % 65536 = n := ⟨(x % 65536).toNat, by omega⟩
    obtain ⟨m, hm⟩ : ∃ m : Nat, y % 65536 = m := ⟨(y % 65536).toNat, by omega⟩
    have e : y * 65536 % 4294967296 = ((65536 * m : Nat) : Int) := by omega
    rw [hn, e, or_u32 n m (by omega) (by omega)]
    unfold wkI; omega
  have H1 := Lib.hid h1
  have H2 := Lib.hid h2
  clear h1 h2 hx
  go_enter Try.func52, Try.ntmps52
  go_wp2_with (fail)
  have h1 := H1.out
  have h2 := H2.out
  go_ret
  refine ⟨?_, rfl⟩
  rw [← h2, ← h1]; rfl
theorem small_spec (n : Nat) (h : n < 65536) (w : World) : Calls Try.prog 54 #[.int .i64 (n : Int)] w fun e w' => e = .returned (.int .u32 (n : Int)) ∧ w = w' := by
  have h1 : bits BinOp.and IntKind.i64 (n : Int) 65535 % 4294967296 = (n : Int) := by rw [and_i64 n h]; omega
  have H1 := Lib.hid h1
  clear h1
  go_enter Try.func54, Try.ntmps54
  go_wp2_with (fail)
  have h1 := H1.out
  go_ret
  refine ⟨?_, rfl⟩
  show Ending.returned (.int .u32 (bits BinOp.and IntKind.i64 (n : Int) 65535 % 4294967296)) = _
  rw [h1]
theorem wkI_congr {a b c d : Int} (h : a % 65536 = c % 65536) (k : b % 65536 = d % 65536) : wkI a b = wkI c d := by
  unfold wkI; rw [h, k]
theorem in_spec (a b : Int) (n : Int) (c : UInt8) (w : World) : Calls Try.prog 37 #[.int .u32 (wkI a b), .int .i64 n, .int .u8 (c.toNat : Int)] w fun e w' => e = .returned (.int .u32 (wkI (a + c.toNat + 31) (b + a + c.toNat + 31))) ∧ w = w' := by
  have HH := Lib.hid (fun wx => halves_spec a b wx)
  have HJ := Lib.hid (fun x y wx (hx : 0 ≤ x ∧ x < 4294967296) => join_spec x y hx wx)
  have hc : c.toNat < 256 := c.toNat_lt
  generalize c.toNat = d at hc ⊢
  generalize wkI a b = x at HH ⊢
  obtain ⟨a', ha⟩ : ∃ a', a' = a % 65536 := ⟨_, rfl⟩
  obtain ⟨b', hb⟩ : ∃ b', b' = b % 65536 := ⟨_, rfl⟩
  rw [← ha, ← hb] at HH
  have l1 : 0 ≤ a' := by omega
  have l2 : a' < 65536 := by omega
  have l3 : 0 ≤ b' := by omega
  have l4 : b' < 65536 := by omega
  have d1 : (d : Int) < 256 := by omega
  have HA := Lib.hid ha
  have HB := Lib.hid hb
  clear ha hb hc
  go_enter Try.func37, Try.ntmps37
  go_wp2_with (first
    | (go_at_call 51; (refine (HH.out _).mono ?_); rintro e w2 ⟨rfl, rfl⟩)
    | (go_at_call 52; (refine (HJ.out _ _ _ (by omega)).mono ?_); rintro e w3 ⟨rfl, rfl⟩)
    | fail)
  have h1 := HA.out
  have h2 := HB.out
  go_ret
  refine ⟨?_, rfl⟩
  refine congrArg (fun z => Ending.returned (Value.int .u32 z)) (wkI_congr ?_ ?_) <;> omega
theorem out_spec (a b : Int) (n : Nat) (hn : n < 65536) (c : UInt8) (w : World) : Calls Try.prog 42 #[.int .u32 (wkI a b), .int .i64 (n : Int), .int .u8 (c.toNat : Int)] w fun e w' => e = .returned (.int .u32 (wkI (a - (c.toNat + 31)) (b - n * (c.toNat + 31)))) ∧ w = w' := by
  have HH := Lib.hid (fun wx => halves_spec a b wx)
  have HJ := Lib.hid (fun x y wx (hx : 0 ≤ x ∧ x < 4294967296) => join_spec x y hx wx)
  have HS := Lib.hid (fun wx => small_spec n hn wx)
  have hc : c.toNat < 256 := c.toNat_lt
  generalize c.toNat = d at hc ⊢
  generalize wkI a b = x at HH ⊢
  obtain ⟨a', ha⟩ : ∃ a', a' = a % 65536 := ⟨_, rfl⟩
  obtain ⟨b', hb⟩ : ∃ b', b' = b % 65536 := ⟨_, rfl⟩
  rw [← ha, ← hb] at HH
  have l1 : 0 ≤ a' := by omega
  have l2 : a' < 65536 := by omega
  have l3 : 0 ≤ b' := by omega
  have l4 : b' < 65536 := by omega
  have d1 : (d : Int) < 256 := by omega
  have hp : n * (d + 31) ≤ 65535 * 286 := Nat.mul_le_mul (by omega) (by omega)
  have p1 : (0 : Int) ≤ (n : Int) * ((d : Int) + 31) := by have h : (n : Int) * ((d : Int) + 31) = ((n * (d + 31) : Nat) : Int) := by push_cast; rfl
                                                           rw [h]; omega
  have p2 : (n : Int) * ((d : Int) + 31) ≤ 18743010 := by have h : (n : Int) * ((d : Int) + 31) = ((n * (d + 31) : Nat) : Int) := by push_cast; rfl
                                                          rw [h]; omega
  have HA := Lib.hid ha
  have HB := Lib.hid hb
  clear ha hb hc hp hn
  go_enter Try.func42, Try.ntmps42
  go_wp2_with (first
    | (go_at_call 51; (refine (HH.out _).mono ?_); rintro e w2 ⟨rfl, rfl⟩)
    | (go_at_call 54; (refine (HS.out _).mono ?_); rintro e w2 ⟨rfl, rfl⟩)
    | (go_at_call 52; (refine (HJ.out _ _ _ (by omega)).mono ?_); rintro e w3 ⟨rfl, rfl⟩)
    | fail)
  have h1 := HA.out
  have h2 := HB.out
  generalize (n : Int) * ((d : Int) + 31) = q
  go_ret
  refine ⟨?_, rfl⟩
  refine congrArg (fun z => Ending.returned (Value.int .u32 z)) (wkI_congr ?_ ?_) <;> omega

/-- Bytes lie in a row. -/
def Byt (w : World) (ad : Option Addr) (l : List UInt8) : Prop := ∀ j c, l[j]? = some c → ∃ b o, ad = some ⟨b, o, none⟩ ∧ b < w.heap.size ∧ w.cell? ⟨b, o + j, none⟩ = some (.int .u8 (c.toNat : Int))
theorem Byt.fr {w w' : World} {ad : Option Addr} {l : List UInt8} (h : Byt w ad l) (f : Fr (fun _ => False) w w') : Byt w' ad l := fun j c hj => by
  obtain ⟨b, o, e, hb, hc⟩ := h j c hj
  have hk : w'.cell? ⟨b, o + j, none⟩ = w.cell? ⟨b, o + j, none⟩ := World.cell?_of_block (f.block b hb (fun h => h))
  exact ⟨b, o, e, Nat.lt_of_lt_of_le hb f.size, by rw [hk]; exact hc⟩
/-- The weak sum's halves, unbounded. -/
def wst (p : Int × Int) (c : UInt8) : Int × Int := (p.1 + c.toNat + 31, p.2 + p.1 + c.toNat + 31)
def wsum (l : List UInt8) : Int × Int := l.foldl wst (0, 0)
def weak (l : List UInt8) : Int := wkI (wsum l).1 (wsum l).2
theorem wsum_snoc (l : List UInt8) (c : UInt8) : wsum (l ++ [c]) = wst (wsum l) c := by unfold wsum; rw [List.foldl_append]; rfl
theorem wsum_cons_gen (l : List UInt8) : ∀ (a b : Int), l.foldl wst (a, b) = ((wsum l).1 + a, (wsum l).2 + b + l.length * a) := by
  induction l with
  | nil => intro a b; simp [wsum]
  | cons c t ih =>
    intro a b
    have e1 : wsum (c :: t) = t.foldl wst (0 + c.toNat + 31, 0 + 0 + c.toNat + 31) := rfl
    have e2 : (c :: t).foldl wst (a, b) = t.foldl wst (a + c.toNat + 31, b + a + c.toNat + 31) := rfl
    rw [e1, e2, ih, ih, List.length_cons]
    have e3 : (((t.length + 1 : Nat) : Int)) * a = t.length * a + a := by push_cast; rw [Int.add_mul, Int.one_mul]
    have e4 : (t.length : Int) * (a + c.toNat + 31) = t.length * a + t.length * (0 + c.toNat + 31) := by rw [← Int.mul_add]; congr 1; omega
    rw [e3, e4]
    generalize (t.length : Int) * a = q
    generalize (t.length : Int) * (0 + (c.toNat : Int) + 31) = q2
    refine Prod.ext ?_ ?_ <;> simp only <;> omega
theorem wsum_cons (c : UInt8) (t : List UInt8) : wsum (c :: t) = ((wsum t).1 + (c.toNat + 31), (wsum t).2 + (t.length + 1) * (c.toNat + 31)) := by
  show t.foldl wst (wst (0, 0) c) = _
  have e : wst (0, 0) c = ((c.toNat : Int) + 31, (c.toNat : Int) + 31) := by unfold wst; refine Prod.ext ?_ ?_ <;> simp only <;> omega
  rw [e, wsum_cons_gen, Int.add_mul, Int.one_mul]
  refine Prod.ext ?_ ?_ <;> simp only <;> omega
set_option maxHeartbeats 1000000 in
theorem of_spec (ad : Option Addr) (l : List UInt8) (cap : Nat) (w : World) (hl : l.length ≤ 1000000) (hb : Byt w ad l) :
    Calls Try.prog 34 #[.slice ad l.length cap] w fun e w' => e = .returned (.int .u32 (weak l)) ∧ w = w' := by
  obtain ⟨n, hn⟩ : ∃ n, n = l.length := ⟨_, rfl⟩
  rw [← hn] at hl ⊢
  have HI := Lib.hid (fun a b c wx => in_spec a b 0 c wx)
  have HB := Lib.hid hb
  have HN := Lib.hid hn
  have n2 : (n : Int) ≤ 1000000 := by omega
  have HE := Lib.hid (show weak l = weak (l.take n) by rw [hn, List.take_length])
  clear hn hb
  generalize weak l = res at HE ⊢
  go_enter Try.func34, Try.ntmps34
  go_wp2_with (fail)
  go_loopg [3, 8] n (fun gk x3 x8 wr => ∃ i : Nat, i ≤ n ∧ Hid (gk = n - i) ∧ x3 = .int .u32 (weak (l.take i)) ∧ x8 = .int .i64 i ∧ wr = w)
  case atStart => exact ⟨0, Nat.zero_le _, Lib.hid rfl, rfl, rfl, rfl⟩
  case round =>
    obtain ⟨i, hi, HG, rfl, rfl, rfl⟩ := hrel
    have i2 : (i : Int) ≤ 1000000 := by omega
    by_cases hin : i < n
    · have i3 : (i : Int) < (n : Int) := by omega
      obtain ⟨c, hx⟩ : ∃ c, l[i]? = some c := ⟨_, List.getElem?_eq_getElem (by rw [← HN.out]; exact hin)⟩
      obtain ⟨b, o, rfl, _, hc⟩ := HB.out i c hx
      have HC := Lib.hid (HI.out (wsum (l.take i)).1 (wsum (l.take i)).2 c wr)
      have HS := Lib.hid (show wkI ((wsum (l.take i)).1 + c.toNat + 31) ((wsum (l.take i)).2 + (wsum (l.take i)).1 + c.toNat + 31) = weak (l.take (i + 1)) by
        rw [List.take_add_one, hx]
        unfold weak
        rw [show l.take i ++ (some c).toList = l.take i ++ [c] from rfl, wsum_snoc]; rfl)
      rw [HS.out, show wkI (wsum (l.take i)).1 (wsum (l.take i)).2 = weak (l.take i) from rfl] at HC
      have HIN := Lib.hid hin
      clear hx hin hi
      generalize weak (l.take i) = x at HC ⊢
      obtain ⟨y, hy⟩ : ∃ y, y = weak (l.take (i + 1)) := ⟨_, rfl⟩
      rw [← hy] at HC
      have HY := Lib.hid hy
      clear hy HS
      go_wp2_with (go_at_call 37; (refine HC.out.mono ?_); rintro e w2 ⟨rfl, rfl⟩)
      go_roundg (n - (i + 1))
      case measure => have := HG.out; have := HIN.out; omega
      case rel => exact ⟨i + 1, HIN.out, Lib.hid rfl, by rw [HY.out], by go_num, rfl⟩
    · obtain rfl : i = n := by omega
      clear hin
      go_wp2_with (fail)
      have he := HE.out
      go_ret
      exact ⟨by rw [he]; rfl, rfl⟩
end Go.Proofs.Ytphjebbjhfnhoaa
