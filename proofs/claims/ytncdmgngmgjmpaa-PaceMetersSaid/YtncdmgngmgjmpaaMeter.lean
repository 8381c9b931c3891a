/- The walks of the meters' methods: the program's. -/
import Derived.Test.YtncdmgngmgjmpaaProg
import Derived.Test.YtncdmgngmgjmpaaFr
import Derived.KernelRfl
import Derived.Deep.QuietTactic
import Derived.BigQuiet
import Derived.Lib.Hide
import Derived.Deep.RegionWith
namespace Go.Proofs.Ytncdmgngmgjmpaa
open Go.RowKit

/-- What turns in a meter as ticks pass. -/
structure MS where
  now : Int
  ts : List Int
  passed : Int

/-- The meter's cells. -/
def mcells (total done : Int) (s : MS) : List Value := [.int .i64 total, .int .i64 done, .int .i64 s.now] ++ (s.ts.map (Value.int .i64) ++ [.int .i64 s.passed])

def Mt (w : World) (b : Nat) (total done : Int) (s : MS) : Prop := s.ts.length = 8 ∧ 0 ≤ s.passed ∧ s.passed ≤ 8 ∧ Blk w b 59 (mcells total done s).toArray

def mstep (s : MS) : MS := ⟨0, s.now :: s.ts.take 7, min (s.passed + 1) 8⟩
def msteps : Nat → MS → MS
  | 0, s => s
  | n + 1, s => mstep (msteps n s)

theorem list8 {α : Type} {l : List α} (h : l.length = 8) : ∃ a b c d e f g i, l = [a, b, c, d, e, f, g, i] := by
  match l, h with
  | [a, b, c, d, e, f, g, i], _ => exact ⟨a, b, c, d, e, f, g, i, rfl⟩

theorem more_any (a n : Int) (w : World) (h0 : 0 ≤ a) (h1 : a ≤ 4611686018427387903) (n0 : 0 ≤ n) :
    Calls Try.prog 33 #[.int .i64 a, .int .i64 n] w fun e w' => e = .returned (.int .i64 (min (a + n) 4611686018427387903)) ∧ w = w' := by
  have e : a + min n (4611686018427387903 - a) = min (a + n) 4611686018427387903 := by omega
  have E := Lib.hid e; clear e
  by_cases k : n ≤ 4611686018427387903 - a
  · have f : min (a + n) 4611686018427387903 = a + n := by omega
    have F := Lib.hid f; clear f
    go_enter Try.func33, Try.ntmps33
    go_wp2
    all_goals (try go_ret)
    all_goals (rw [F.out]; exact ⟨rfl, rfl⟩)
  · have f : min (a + n) 4611686018427387903 = 4611686018427387903 := by omega
    have F := Lib.hid f; clear f
    go_enter Try.func33, Try.ntmps33
    go_wp2
    all_goals (try go_ret)
    all_goals (rw [F.out]; exact ⟨ret_i (by omega), rfl⟩)

theorem mstart_ok (t : Int) (w : World) (h0 : 0 ≤ t) (h1 : t ≤ 4611686018427387903) :
    Calls Try.prog 11 #[.int .i64 t] w fun e w' => e = .returned (.tuple #[.pointer (some ⟨w.heap.size, 0, none⟩), .int .i64 0]) ∧ Mt w' w.heap.size t 0 ⟨0, [0, 0, 0, 0, 0, 0, 0, 0], 0⟩ ∧ Fr (fun _ => False) w w' := by
  go_enter Try.func11, Try.ntmps11
  go_wp2
  go_ret2
  exact ⟨rfl, ⟨rfl, (by decide : (0 : Int) ≤ 0), (by decide : (0 : Int) ≤ 8), Blk.new _ _ _⟩, (Fr.refl _ _).alloc _⟩

theorem mstart_bad (t : Int) (w : World) (h : t < 0 ∨ 4611686018427387903 < t) :
    Calls Try.prog 11 #[.int .i64 t] w fun e w' => e = .returned (.tuple #[.pointer none, .int .i64 2]) ∧ w = w' := by
  go_enter Try.func11, Try.ntmps11
  go_wp2
  all_goals first | omega | (go_ret2; exact ⟨rfl, rfl⟩)

theorem mdone_any (b : Nat) (total done : Int) (s : MS) (w : World) (hb : Mt w b total done s) :
    Calls Try.prog 19 #[.pointer (some ⟨b, 0, none⟩)] w fun e w' => e = .returned (.int .i64 done) ∧ w = w' := by
  have c1 := hb.2.2.2.cell 1 (v := .int .i64 done) rfl
  go_enter Try.func19, Try.ntmps19
  go_wp2
  go_ret
  exact ⟨rfl, rfl⟩

def addN (a n : Int) : Int := if n ≤ 0 then a else min (a + n) 4611686018427387903

set_option maxHeartbeats 2000000 in
theorem madd_any (b : Nat) (total done n : Int) (s : MS) (w : World) (hb : Mt w b total done s) (d0 : 0 ≤ done) (d1 : done ≤ 4611686018427387903) (n0 : 0 ≤ s.now) (n1 : s.now ≤ 4611686018427387903) :
    Calls Try.prog 13 #[.pointer (some ⟨b, 0, none⟩), .int .i64 n] w fun e w' => e = .returned (.tuple #[]) ∧ Mt w' b total (addN done n) ⟨addN s.now n, s.ts, s.passed⟩ ∧ Fr (fun k => k = b) w w' := by
  obtain ⟨now, ts, p⟩ := s
  obtain ⟨h8, p0, p1, hb⟩ := hb
  have c1 := hb.cell 1 (v := .int .i64 done) rfl
  have c2 := hb.cell 2 (v := .int .i64 now) rfl
  have f1 := hb.free 1
  have f2 := hb.free 2
  have hn0 : 0 ≤ now := n0
  have hn1 : now ≤ 4611686018427387903 := n1
  clear n0 n1
  by_cases k : n ≤ 0
  · go_enter Try.func13, Try.ntmps13
    go_wp2
    go_end0
    refine ⟨rfl, ?_, Fr.refl _ _⟩
    rw [addN, if_pos (by omega), addN, if_pos (by omega)]
    exact ⟨h8, p0, p1, hb⟩
  · have e1 : addN done n = min (done + n) 4611686018427387903 := by rw [addN, if_neg (by omega)]
    have e2 : addN now n = min (now + n) 4611686018427387903 := by rw [addN, if_neg (by omega)]
    have E1 := Lib.hid e1
    have E2 := Lib.hid e2
    obtain ⟨t0, t1, t2, t3, t4, t5, t6, t7, rfl⟩ := list8 h8
    have HB := Lib.hid hb
    have P := Lib.hid (And.intro p0 p1)
    clear e1 e2 hb h8 p0 p1
    go_enter Try.func13, Try.ntmps13
    go_wp2_with (fail)
    go_region_with (first | (go_at_call_of 33 (Value.int .i64 done); refine (more_any done n _ d0 d1 (by omega)).mono ?_; rintro e w' ⟨rfl, rfl⟩) | (go_at_call 33; refine (more_any now n _ hn0 hn1 (by omega)).mono ?_; rintro e w' ⟨rfl, rfl⟩))
    all_goals
      go_end0
      rw [E1.out, E2.out]
      refine ⟨rfl, ⟨rfl, P.out.1, P.out.2, ?_⟩, ?_⟩
      · first | exact ((HB.out.set 1 _).set 2 _).drew | exact ((HB.out.set 2 _).set 1 _).drew
      · exact (((Fr.refl (fun k => k = b) w).setCell (fun _ => rfl) _).setCell (fun _ => rfl) _).drew

end Go.Proofs.Ytncdmgngmgjmpaa
