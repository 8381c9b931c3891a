/- blocks: Right, Count, Range · sig: strong, block. -/
import Derived.Test.YtphjebbjhfnhoaaRo
namespace Go.Proofs.Ytphjebbjhfnhoaa
open Go.RowKit

/-- The block lengths of the law. -/
def isB (B : Nat) : Prop := B = 16 ∨ B = 32 ∨ B = 64
theorem block_spec (B : Nat) (h : isB B) (w : World) : Calls Try.prog 55 #[.int .i64 (B : Int)] w fun e w' => e = .returned (.bool true) ∧ w = w' := by
  rcases h with rfl | rfl | rfl <;>
  · go_enter Try.func55, Try.ntmps55
    go_wp2_with (fail)
    go_ret
    exact ⟨rfl, rfl⟩
theorem right_spec (n B : Nat) (hn : n ≤ 131072) (h : isB B) (w : World) : Calls Try.prog 46 #[.int .i64 (n : Int), .int .i64 (B : Int)] w fun e w' => e = .returned (.bool true) ∧ w = w' := by
  have HB := Lib.hid (fun wx => block_spec B h wx)
  have n1 : (n : Int) ≤ 131072 := by omega
  generalize (B : Int) = b at HB ⊢
  clear hn
  go_enter Try.func46, Try.ntmps46
  go_wp2_with (go_at_call 55; (refine (HB.out _).mono ?_); rintro e w2 ⟨rfl, rfl⟩)
  go_ret
  exact ⟨rfl, rfl⟩
/-- How many blocks. -/
def cnt (n B : Nat) : Nat := (n + B - 1) / B
theorem count_spec (n B : Nat) (hn : n ≤ 131072) (h : isB B) (w : World) : Calls Try.prog 31 #[.int .i64 (n : Int), .int .i64 (B : Int)] w fun e w' => e = .returned (.int .i64 (cnt n B : Int)) ∧ w = w' := by
  have HR := Lib.hid (fun wx => right_spec n B hn h wx)
  have n1 : (n : Int) ≤ 131072 := by omega
  have HC := Lib.hid (show ((cnt n B : Nat) : Int) = ((n : Int) + B - 1) / B by
    unfold cnt
    have hB : 1 ≤ B := by rcases h with rfl | rfl | rfl <;> omega
    rw [Int.natCast_ediv]; congr 1; omega)
  clear hn
  rcases h with rfl | rfl | rfl
  all_goals
    go_enter Try.func31, Try.ntmps31
    go_wp2_with (go_at_call 46; (refine (HR.out _).mono ?_); rintro e w2 ⟨rfl, rfl⟩)
    have hc := HC.out
    go_ret
    refine ⟨?_, rfl⟩
    rw [hc]; rfl
theorem cnt_le (n B : Nat) (h : isB B) : cnt n B ≤ n := by
  unfold cnt; rcases h with rfl | rfl | rfl <;> omega
theorem ret3 {a b c d : Int} {t : Bool} (h : a = b) (k : c = d) : Ending.returned (.tuple #[.int .i64 a, .int .i64 c, .bool t]) = .returned (.tuple #[.int .i64 b, .int .i64 d, .bool t]) := by rw [h, k]
theorem range_in (n B i : Nat) (hn : n ≤ 131072) (h : isB B) (hi : i < cnt n B) (w : World) :
    Calls Try.prog 32 #[.int .i64 (n : Int), .int .i64 (B : Int), .int .i64 (i : Int)] w fun e w' => e = .returned (.tuple #[.int .i64 (i * B : Nat), .int .i64 (min n ((i + 1) * B) : Nat), .bool true]) ∧ w = w' := by
  have HC := Lib.hid (fun wx => count_spec n B hn h wx)
  have hle := cnt_le n B h
  have n1 : (n : Int) ≤ 131072 := by omega
  have i1 : (i : Int) < (cnt n B : Int) := by omega
  have i2 : (i : Int) ≤ 131072 := by omega
  have c2 : (cnt n B : Int) ≤ 131072 := by omega
  generalize cnt n B = c at HC i1 c2 hi hle
  clear hn hi hle
  rcases h with rfl | rfl | rfl
  all_goals
    go_enter Try.func32, Try.ntmps32
    go_wp2_with (go_at_call 31; (refine (HC.out _).mono ?_); rintro e w2 ⟨rfl, rfl⟩)
    all_goals (refine bodyPost_ret (v := .tuple #[.int .i64 _, .int .i64 _, .bool true]) (by simp [results, Try.results32, go_sem]; exact ⟨rfl, rfl⟩) rfl ⟨ret3 (by omega) (by omega), rfl⟩)
theorem range_out (n B : Nat) (i : Int) (hn : n ≤ 131072) (h : isB B) (hi : i < 0 ∨ (cnt n B : Int) ≤ i) (w : World) :
    Calls Try.prog 32 #[.int .i64 (n : Int), .int .i64 (B : Int), .int .i64 i] w fun e w' => e = .returned (.tuple #[.int .i64 0, .int .i64 0, .bool false]) ∧ w = w' := by
  have HC := Lib.hid (fun wx => count_spec n B hn h wx)
  generalize (B : Int) = b at HC ⊢
  generalize (n : Int) = m at HC ⊢
  generalize (cnt n B : Int) = c at HC hi
  clear hn h
  by_cases h0 : i < 0
  · clear hi
    go_enter Try.func32, Try.ntmps32
    go_wp2_with (go_at_call 31; (refine (HC.out _).mono ?_); rintro e w2 ⟨rfl, rfl⟩)
    refine bodyPost_ret (v := .tuple #[.int .i64 0, .int .i64 0, .bool false]) (by simp [results, Try.results32, go_sem]) rfl ⟨rfl, rfl⟩
  · have h1 : 0 ≤ i := by omega
    have h2 : c ≤ i := by omega
    clear hi h0
    go_enter Try.func32, Try.ntmps32
    go_wp2_with (go_at_call 31; (refine (HC.out _).mono ?_); rintro e w2 ⟨rfl, rfl⟩)
    refine bodyPost_ret (v := .tuple #[.int .i64 0, .int .i64 0, .bool false]) (by simp [results, Try.results32, go_sem]) rfl ⟨rfl, rfl⟩
end Go.Proofs.Ytphjebbjhfnhoaa

namespace Go.Proofs.Ytphjebbjhfnhoaa
open Go.RowKit
theorem strong_spec (n : Nat) (h1 : 1 ≤ n) (h2 : n ≤ 32) (w : World) : Calls Try.prog 17 #[.int .i64 (n : Int)] w fun e w' => e = .returned (.bool true) ∧ w = w' := by
  have a1 : (1 : Int) ≤ (n : Int) := by omega
  have a2 : (n : Int) ≤ 32 := by omega
  clear h1 h2
  go_enter Try.func17, Try.ntmps17
  go_wp2_with (fail)
  go_ret
  exact ⟨rfl, rfl⟩
theorem sblock_spec (B : Nat) (h : isB B) (w : World) : Calls Try.prog 18 #[.int .i64 (B : Int)] w fun e w' => e = .returned (.bool true) ∧ w = w' := by
  rcases h with rfl | rfl | rfl <;>
  · go_enter Try.func18, Try.ntmps18
    go_wp2_with (fail)
    go_ret
    exact ⟨rfl, rfl⟩
end Go.Proofs.Ytphjebbjhfnhoaa
