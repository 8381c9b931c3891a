/- The walk of the laws' small case, awake. -/
import Derived.Test.YtncdmgngmgjmpaaBucket
import Derived.Test.YtncdmgngmgjmpaaRate
namespace Go.Proofs.Ytncdmgngmgjmpaa
open Go.RowKit

theorem Bk.fr {S : Nat → Prop} {w w' : World} {b : Nat} {T : TypeId} {r u h : Int} (hb : Bk T w b r u h) (f : Fr S w w') (hS : ¬ S b) : Bk T w' b r u h := Blk.fr (show Blk w b T _ from hb) f hS
theorem Mt.fr {S : Nat → Prop} {w w' : World} {b : Nat} {t d : Int} {s : MS} (hb : Mt w b t d s) (f : Fr S w w') (hS : ¬ S b) : Mt w' b t d s := ⟨hb.1, hb.2.1, hb.2.2.1, hb.2.2.2.fr f hS⟩
theorem Mt.lt {w : World} {b : Nat} {t d : Int} {s : MS} (hb : Mt w b t d s) : b < w.heap.size := hb.2.2.2.lt
theorem Bk.lt {T : TypeId} {w : World} {b : Nat} {r u h : Int} (hb : Bk T w b r u h) : b < w.heap.size := Blk.lt (show Blk w b T _ from hb)

theorem new_ok' (rate burst : Int) (w : World) (h1 : 1 ≤ rate) (h2 : rate ≤ 2147483647) (h3 : 1 ≤ burst) (h4 : burst ≤ 2147483647) :
    Calls Try.prog 23 #[.int .i64 rate, .int .i64 burst] w fun e w' => e = .returned (.tuple #[.pointer (some ⟨w.heap.size, 0, none⟩), .int .i64 0]) ∧ Bk 68 w' w.heap.size rate burst burst ∧ Fr (fun _ => False) w w' := by
  refine (new_ok rate burst w h1 h2 h3 h4).mono ?_
  rintro e w' ⟨rfl, rfl⟩
  exact ⟨rfl, Blk.new _ _ _, (Fr.refl _ _).alloc _⟩

theorem take_any' (b : Nat) (rate burst has n : Int) (w : World) (hb : Bk 68 w b rate burst has) (h0 : 0 ≤ has) (h1 : has ≤ 2147483647) :
    Calls Try.prog 27 #[.pointer (some ⟨b, 0, none⟩), .int .i64 n] w fun e w' => e = .returned (.int .i64 (takeN n has)) ∧ Bk 68 w' b rate burst (has - takeN n has) ∧ Fr (fun k => k = b) w w' := by
  refine (take_any b rate burst has n w hb h0 h1).mono ?_
  rintro e w' ⟨rfl, rfl⟩
  exact ⟨rfl, Blk.set (show Blk w b 68 _ from hb) 2 _, (Fr.refl (fun k => k = b) w).setCell (fun _ => rfl) _⟩

set_option maxHeartbeats 1000000 in
theorem awake_any (w : World) : Calls Try.prog 10 #[] w fun e w' => e = .returned (.bool true) ∧ Below w.heap.size w w' := by
  go_enter Try.func10, Try.ntmps10
  go_wp2_with (fail)
  refine (new_ok' 10 25 _ (by omega) (by omega) (by omega) (by omega)).mono ?_
  rintro e w1 ⟨rfl, hb1, hf1⟩
  go_wp2_with (fail)
  refine (mstart_ok 100 _ (by omega) (by omega)).mono ?_
  rintro e w2 ⟨rfl, hm2, hf2⟩
  have hb2 := hb1.fr hf2 (fun h => h)
  go_wp2_with (fail)
  have hlt : w.heap.size < w1.heap.size := hb1.lt
  have hne : w.heap.size ≠ w1.heap.size := by omega
  have F2 := hf1.trans hf2 (fun _ _ h => h)
  clear hf1 hf2 hb1
  refine (take_any' w.heap.size 10 25 25 20 _ hb2 (by omega) (by omega)).mono ?_
  rintro e w3 ⟨rfl, hb3, hf3⟩
  rw [show takeN 20 25 = 20 from rfl] at *
  have hm3 := hm2.fr hf3 (fun h => hne h.symm)
  have F3 := Fr.trans (S := fun k => w.heap.size ≤ k) (F2.mono (fun _ _ h => h.elim)) hf3 (fun i _ h => by omega)
  clear hb2 hm2 hf3 F2
  go_wp2_with (fail)
  refine (wait_any w.heap.size 10 25 (25 - 20) 25 _ hb3 (by omega) (by omega) (by omega) (by omega) (by omega)).mono ?_
  rintro e w4 ⟨rfl, hb4, hf4⟩
  rw [show waitN 10 25 (25 - 20) 25 = 2 from rfl, show waitE 25 25 = 0 from rfl]
  have hm4 := hm3.fr hf4 (fun h => h)
  have F4 := F3.trans hf4 (fun _ _ h => h.elim)
  clear hb3 hm3 hf4 F3 hb4
  go_wp2_with (fail)
  refine (madd_any w1.heap.size 100 0 30 _ _ hm4 (by decide) (by decide) (by decide) (by decide)).mono ?_
  rintro e w5 ⟨rfl, hm5, hf5⟩
  have hm5 : Mt w5 w1.heap.size 100 30 ⟨30, [0, 0, 0, 0, 0, 0, 0, 0], 0⟩ := hm5
  have F5 := F4.trans hf5 (fun i _ h => by omega)
  clear hm4 hf5 F4
  go_wp2_with (fail)
  refine (mpass_any w1.heap.size 100 30 1 _ _ hm5).mono ?_
  rintro e w6 ⟨rfl, hm6, hf6⟩
  have hm6' : Mt w6 w1.heap.size 100 30 ⟨0, [30, 0, 0, 0, 0, 0, 0, 0], 1⟩ := hm6
  have F6 := F5.trans hf6 (fun i _ h => by omega)
  clear hm5 hm6 hf6 F5
  go_wp2_with (fail)
  refine (madd_any w1.heap.size 100 30 10 _ _ hm6' (by decide) (by decide) (by decide) (by decide)).mono ?_
  rintro e w7 ⟨rfl, hm7, hf7⟩
  have hm7 : Mt w7 w1.heap.size 100 40 ⟨10, [30, 0, 0, 0, 0, 0, 0, 0], 1⟩ := hm7
  have F7 := F6.trans hf7 (fun i _ h => by omega)
  clear hm6' hf7 F6
  go_wp2_with (fail)
  refine (mpass_any w1.heap.size 100 40 1 _ _ hm7).mono ?_
  rintro e w8 ⟨rfl, hm8, hf8⟩
  have hm8' : Mt w8 w1.heap.size 100 40 ⟨0, [10, 30, 0, 0, 0, 0, 0, 0], 2⟩ := hm8
  have F8 := F7.trans hf8 (fun i _ h => by omega)
  clear hm7 hm8 hf8 F7
  go_wp2_with (fail)
  have hr : rateP ⟨0, [10, 30, 0, 0, 0, 0, 0, 0], 2⟩ = 20 := rfl
  have hts : ∀ x ∈ (MS.ts ⟨0, [10, 30, 0, 0, 0, 0, 0, 0], 2⟩), 0 ≤ x ∧ x ≤ MaxN := by
    intro x hx
    simp at hx
    unfold MaxN
    omega
  refine (mleft_any w1.heap.size 100 40 _ _ hm8' hts (by decide) (by decide) (by decide) (by decide) (by rw [hr]; decide) (by rw [hr]; decide)).mono ?_
  rintro e w9 ⟨rfl, hd9⟩
  rw [hr, show leftP 100 40 20 = 3 from rfl, show leftB 100 40 20 = true from rfl]
  have hm9 : Mt w9 w1.heap.size 100 40 ⟨0, [10, 30, 0, 0, 0, 0, 0, 0], 2⟩ := hm8'.fr (hd9.fr (fun _ => False)) (fun h => h)
  have F9 := F8.trans (hd9.fr (fun _ => False)) (fun _ _ h => h.elim)
  clear hm8' hd9 F8
  go_wp2_with (fail)
  refine (mrate_any w1.heap.size 100 40 _ _ hm9 hts).mono ?_
  rintro e w10 ⟨rfl, hd10⟩
  rw [hr]
  have F10 := F9.trans (hd10.fr (fun _ => False)) (fun _ _ h => h.elim)
  clear hm9 hd10 F9 hts hr
  go_wp2
  go_ret
  exact ⟨rfl, F10.below (Nat.le_refl _) (fun k hk => by omega)⟩
end Go.Proofs.Ytncdmgngmgjmpaa
