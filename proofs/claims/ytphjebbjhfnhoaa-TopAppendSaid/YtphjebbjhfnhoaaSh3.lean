/- sha: factors, first. -/
import Derived.Test.YtphjebbjhfnhoaaSh2
namespace Go.Proofs.Ytphjebbjhfnhoaa
open Go.RowKit
attribute [local go_sem ↓] z117
def kL : List Int := [0x428a2f98, 0x71374491, 0xb5c0fbcf, 0xe9b5dba5, 0x3956c25b, 0x59f111f1, 0x923f82a4, 0xab1c5ed5,
  0xd807aa98, 0x12835b01, 0x243185be, 0x550c7dc3, 0x72be5d74, 0x80deb1fe, 0x9bdc06a7, 0xc19bf174,
  0xe49b69c1, 0xefbe4786, 0x0fc19dc6, 0x240ca1cc, 0x2de92c6f, 0x4a7484aa, 0x5cb0a9dc, 0x76f988da,
  0x983e5152, 0xa831c66d, 0xb00327c8, 0xbf597fc7, 0xc6e00bf3, 0xd5a79147, 0x06ca6351, 0x14292967,
  0x27b70a85, 0x2e1b2138, 0x4d2c6dfc, 0x53380d13, 0x650a7354, 0x766a0abb, 0x81c2c92e, 0x92722c85,
  0xa2bfe8a1, 0xa81a664b, 0xc24b8b70, 0xc76c51a3, 0xd192e819, 0xd6990624, 0xf40e3585, 0x106aa070,
  0x19a4c116, 0x1e376c08, 0x2748774c, 0x34b0bcb5, 0x391c0cb3, 0x4ed8aa4a, 0x5b9cca4f, 0x682e6ff3,
  0x748f82ee, 0x78a5636f, 0x84c87814, 0x8cc70208, 0x90befffa, 0xa4506ceb, 0xbef9a3f7, 0xc67178f2]
def kF : Nat → Int := fun i => kL.getD i 0
def hL : List Int := [0x6a09e667, 0xbb67ae85, 0x3c6ef372, 0xa54ff53a, 0x510e527f, 0x9b05688c, 0x1f83d9ab, 0x5be0cd19]
def hF : Nat → Int := fun i => hL.getD i 0
theorem z110 (w : World) : (zeroValue 110).run Try.prog w = .ok (.agg (rowK .u32 zN 8)) w := by kernel_rfl
theorem Try.size110 : (Try.prog.info? 110).map (·.size) = some 8 := by kernel_rfl
attribute [local go_sem ↓] z110
theorem built110 : Try.prog.built 110 ((List.range 8).map fun i => (i, Value.int .u32 (hF i))) = some (rowK .u32 hF 8) := by kernel_rfl
theorem built117 : Try.prog.built 117 ((List.range 64).map fun i => (i, Value.int .u32 (kF i))) = some (rowK .u32 kF 64) := by kernel_rfl
set_option maxRecDepth 100000 in
set_option maxHeartbeats 4000000 in
theorem first_spec (w : World) : Calls Try.prog 60 #[] w fun e w' => e = .returned (.agg (rowK .u32 hF 8)) ∧ Fr (fun _ => False) w w' := by
  have HB := Lib.hid (Blk.new w 110 (rowK .u32 zN 8))
  go_enter Try.func60, Try.ntmps60
  go_wp2_with (first
    | (refine wpList_build rfl 110 _ rfl (rowK .u32 hF 8) built110 ?_)
    | (refine wpList_store_row rfl 110 _ _ rfl w.heap.size (rowK .u32 hF 8) rfl rfl 110 (rowK .u32 zN 8) HB.out (by rw [rowK_size]; exact Try.size110) (by rw [rowK_size, rowK_size]) (rowK_one _ _ _) ?_)
    | fail)
  refine bodyPost_ret (results_cell_row rfl _ _ w.heap.size 110 (rowK .u32 hF 8) (0, 0) _ rfl (setRow_heap _ _ _ _ 110 _ HB.out) Try.underlying110 rfl (by rw [rowK_size]; exact Try.size110)) rfl ⟨rfl, ?_⟩
  exact ((Fr.refl _ w).alloc _).trans (fr_setRow _ _ _) (fun i hi e => by omega)
set_option maxRecDepth 100000 in
set_option maxHeartbeats 4000000 in
theorem factors_spec (w : World) : Calls Try.prog 65 #[] w fun e w' => e = .returned (.agg (rowK .u32 kF 64)) ∧ Fr (fun _ => False) w w' := by
  have HB := Lib.hid (Blk.new w 117 Z117)
  go_enter Try.func65, Try.ntmps65
  go_wp2_with (first
    | (refine wpList_build rfl 117 _ rfl (rowK .u32 kF 64) built117 ?_)
    | (refine wpList_store_row rfl 117 _ _ rfl w.heap.size (rowK .u32 kF 64) rfl rfl 117 Z117 HB.out (by rw [rowK_size]; exact Try.size117) (by rw [rowK_size]; exact rowK_size _ _ _) (rowK_one _ _ _) ?_)
    | fail)
  refine bodyPost_ret (results_cell_row rfl _ _ w.heap.size 117 (rowK .u32 kF 64) (0, 0) _ rfl (setRow_heap _ _ _ _ 117 _ HB.out) Try.underlying117 rfl (by rw [rowK_size]; exact Try.size117)) rfl ⟨rfl, ?_⟩
  exact ((Fr.refl _ w).alloc _).trans (fr_setRow _ _ _) (fun i hi e => by omega)
end Go.Proofs.Ytphjebbjhfnhoaa
