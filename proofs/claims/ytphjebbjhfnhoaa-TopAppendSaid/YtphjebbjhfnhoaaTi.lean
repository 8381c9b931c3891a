/- sha: take, its first region. -/
import Derived.Test.YtphjebbjhfnhoaaSh5
import Derived.Test.YtphjebbjhfnhoaaRk
import Derived.Deep.CutRange
namespace Go.Proofs.Ytphjebbjhfnhoaa
open Go.RowKit
attribute [local go_sem ↓] z117 z110
def actT (s : Nat) (u : Nat → Value) : Act := { tmps := [.pointer (some ⟨s, 0, none⟩), undef, u 2, u 3, u 4, undef, undef, undef, undef, undef, undef, undef, u 12, u 13, u 14, u 15, u 16, u 17, u 18, u 19,
  u 20, u 21, undef, undef, undef, undef, undef, undef, undef, undef, undef, undef, undef, undef, undef, undef, undef, undef, undef, undef,
  undef, undef, undef, undef, undef, undef, undef, undef, undef, undef, undef, undef, undef, undef, undef, undef, undef, undef, undef, undef,
  undef, undef, undef, undef, undef, undef, undef, undef, undef, undef, undef, undef, undef, undef, undef, undef, undef, undef, undef, undef,
  undef, undef, undef, undef, undef, undef, undef, undef, undef, undef, undef, undef, undef, undef, undef, undef, undef, undef, undef, undef,
  undef, undef, undef, undef, undef, undef, undef, undef, undef, undef, undef, undef, undef, undef, undef, undef].toArray, defers := [] }
def updK (b : Nat → Nat) (i v : Nat) : Nat → Nat := fun k => if k = i then v else b k
theorem updK_self (b : Nat → Nat) (i v : Nat) : updK b i v i = v := if_pos rfl
theorem updK_ne (b : Nat → Nat) (i v k : Nat) (h : k ≠ i) : updK b i v k = b k := if_neg h
/-- The values of the plain operations. -/
def valT (s : Nat) (h bl : Nat → Int) : Nat → Value
  | 2 => .pointer (some ⟨s, 8, none⟩)
  | 3 => .agg (rowK .u8 bl 64)
  | 4 => .agg (rowK .u32 (wrd bl) 64)
  | 5 => .agg (rowK .u32 kF 64)
  | 9 => .agg (rowK .u32 h 8)
  | _ => .pointer (some ⟨s, 0, none⟩)
def tyT : Nat → TypeId | 2 => 110 | _ => 117
def iniT : Nat → Array Value | 2 => rowK .u32 zN 8 | _ => Z117
def finT (h bl : Nat → Int) : Nat → Array Value | 0 => rowK .u32 (wrd bl) 64 | 1 => rowK .u32 kF 64 | _ => rowK .u32 h 8
structure TI (s : Nat) (h bl : Nat → Int) (w0 : World) (L : Nat → Bool) (u : Nat → Value) (b : Nat → Nat) (w : World) : Prop where
  fp : ∀ k, k < 10 → L k = true → u (12 + k) = valT s h bl k
  fa : ∀ k, k < 3 → L (10 + k) = true → u (2 + k) = .pointer (some ⟨b k, 0, none⟩) ∧ w0.heap.size ≤ b k ∧ Blk w (b k) (tyT k) (if L (13 + k) = true then finT h bl k else iniT k)
  fd : ∀ k l, k < 3 → l < 3 → k ≠ l → L (10 + k) = true → L (10 + l) = true → b k ≠ b l
  fl : ∀ k, k < 3 → L (13 + k) = true → L (10 + k) = true
  fr : Fr (fun _ => False) w0 w
theorem TI.plain {s : Nat} {h bl : Nat → Int} {w0 : World} {L : Nat → Bool} {u : Nat → Value} {b : Nat → Nat} {w : World} (H : TI s h bl w0 L u b w) (i : Nat) (hi : i < 10) (v : Value) (hv : v = valT s h bl i) : TI s h bl w0 (updB L i) (updU u (12 + i) v) b w := by
  refine ⟨fun k hk hL => ?_, fun k hk hL => ?_, fun k l hk hl hkl h1 h2 => ?_, fun k hk hL => ?_, H.fr⟩
  · by_cases e : k = i
    · subst e; rw [updU_self, hv]
    · rw [updB_ne _ _ _ e] at hL
      rw [updU_ne _ _ _ _ (by omega)]; exact H.fp k hk hL
  · rw [updB_ne _ _ _ (by omega)] at hL
    rw [updU_ne _ _ _ _ (by omega), updB_ne _ _ _ (by omega)]; exact H.fa k hk hL
  · rw [updB_ne _ _ _ (by omega)] at h1 h2
    exact H.fd k l hk hl hkl h1 h2
  · rw [updB_ne _ _ _ (by omega)] at hL ⊢; exact H.fl k hk hL
theorem TI.world {s : Nat} {h bl : Nat → Int} {w0 : World} {L : Nat → Bool} {u : Nat → Value} {b : Nat → Nat} {w w' : World} (H : TI s h bl w0 L u b w) (f : Fr (fun _ => False) w w') : TI s h bl w0 L u b w' :=
  ⟨H.fp, fun k hk hL => let ⟨h1, h2, h3⟩ := H.fa k hk hL; ⟨h1, h2, h3.fr f (fun x => x)⟩, H.fd, H.fl, H.fr.trans f (fun _ _ h => h)⟩
theorem TI.new {s : Nat} {h bl : Nat → Int} {w0 : World} {L : Nat → Bool} {u : Nat → Value} {b : Nat → Nat} {w : World} (H : TI s h bl w0 L u b w) (i : Nat) (hi : i < 3) (h0 : L (13 + i) = false) :
    TI s h bl w0 (updB L (10 + i)) (updU u (2 + i) (.pointer (some ⟨w.heap.size, 0, none⟩))) (updK b i w.heap.size) (w.alloc (.cells (iniT i) (tyT i))) := by
  refine ⟨fun k hk hL => ?_, fun k hk hL => ?_, fun k l hk hl hkl h1 h2 => ?_, fun k hk hL => ?_, H.fr.alloc _⟩
  · rw [updB_ne _ _ _ (by omega)] at hL
    rw [updU_ne _ _ _ _ (by omega)]; exact H.fp k hk hL
  · by_cases e : k = i
    · subst e
      rw [updU_self, updB_ne _ _ _ (by omega), h0, if_neg Bool.false_ne_true, updK_self]
      exact ⟨rfl, H.fr.size, Blk.new _ _ _⟩
    · rw [updB_ne _ _ _ (by omega)] at hL
      rw [updU_ne _ _ _ _ (by omega), updB_ne _ _ _ (by omega), updK_ne _ _ _ _ e]
      obtain ⟨q1, q2, q3⟩ := H.fa k hk hL
      exact ⟨q1, q2, q3.alloc _⟩
  · by_cases e : k = i
    · subst e
      rw [updK_self, updK_ne _ _ _ _ (by omega)]
      rw [updB_ne _ _ _ (by omega)] at h2
      exact Ne.symm (Nat.ne_of_lt (H.fa l hl h2).2.2.lt)
    · rw [updK_ne _ _ _ _ e]
      rw [updB_ne _ _ _ (by omega)] at h1
      by_cases e2 : l = i
      · subst e2; rw [updK_self]; exact Nat.ne_of_lt (H.fa k hk h1).2.2.lt
      · rw [updK_ne _ _ _ _ e2]
        rw [updB_ne _ _ _ (by omega)] at h2
        exact H.fd k l hk hl hkl h1 h2
  · rw [updB_ne _ _ _ (by omega)] at hL
    by_cases e : k = i
    · subst e; exact updB_self _ _
    · rw [updB_ne _ _ _ (by omega)]; exact H.fl k hk hL
theorem TI.put {s : Nat} {h bl : Nat → Int} {w0 : World} {L : Nat → Bool} {u : Nat → Value} {b : Nat → Nat} {w : World} (H : TI s h bl w0 L u b w) (i : Nat) (hi : i < 3) (h0 : L (10 + i) = true) :
    TI s h bl w0 (updB L (13 + i)) u b (w.setRow (b i) (finT h bl i)) := by
  obtain ⟨p1, p2, p3⟩ := H.fa i hi h0
  refine ⟨fun k hk hL => ?_, fun k hk hL => ?_, fun k l hk hl hkl h1 h2 => ?_, fun k hk hL => ?_, H.fr.trans (fr_setRow _ _ _) (fun j hj e => by omega)⟩
  · rw [updB_ne _ _ _ (by omega)] at hL; exact H.fp k hk hL
  · rw [updB_ne _ _ _ (by omega)] at hL
    obtain ⟨q1, q2, q3⟩ := H.fa k hk hL
    refine ⟨q1, q2, ?_⟩
    by_cases e : k = i
    · subst e
      rw [updB_self, if_pos rfl]
      exact setRow_heap _ _ _ _ _ _ p3
    · rw [updB_ne _ _ _ (by omega)]
      exact q3.fr (fr_setRow _ _ _) (fun x => H.fd k i hk hi e hL h0 x)
  · rw [updB_ne _ _ _ (by omega)] at h1 h2
    exact H.fd k l hk hl hkl h1 h2
  · rw [updB_ne _ _ _ (by omega)]
    by_cases e : k = i
    · subst e; exact h0
    · rw [updB_ne _ _ _ (by omega)] at hL; exact H.fl k hk hL
def InvT (s : Nat) (h bl : Nat → Int) (w0 : World) (L : Nat → Bool) (a : Act) (w : World) : Prop := ∃ u b, a = actT s u ∧ TI s h bl w0 L u b w
end Go.Proofs.Ytphjebbjhfnhoaa
