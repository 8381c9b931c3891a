/-
  No cell of these rows narrows 'for every input' (looked for: loops, veiled, ifaces, maps, wideKeys, modest, calm, conditions, laid).
  DERIVED. THE GIVEN ROWS OF THIS SEAT. 7 by the template 'for every input the law returns true; each argument reads behind the call as it read before'; 0 by the template 'total and deterministic' (their statements: YtncdmgngmgjmpaaTotals.lean).
  GIVEN WITH THE SEED: the statements are not yours to turn. If you find one false, say at which input.
  Laid BY PROGRAM, IN A SANDBOX (cutbox-rows.mjs): the forced cells as the released guide's own fill.sh prints them over the translation 60e8dca228bff3ad… (all of the seat's roots in one cut). By AI agents, Wed Nov 11 2026. No macro, syntax, notation, axiom, sorry.
-/
import Derived.Test.YtncdmgngmgjmpaaChecked
import GoSem.Claim
import GoSem.ClaimJoined
import GoSem.ClaimMapViews
import Derived.JoinedTies
import Derived.KernelRfl
namespace Go.Proofs.Ytncdmgngmgjmpaa
/- THE CELL 'sum', in the pinned program and in every row, IS THE sha256 OF THE DUMP (.gsa) THAT YtncdmgngmgjmpaaProg.lean LOADS. Nothing in Lean hashes anything: it is a label: what it is worth is what the hold of that sum in a sandbox is worth. -/
noncomputable def Try.pinned : Pinned := { name := "ytncdmgngmgjmpaa", sum := "60e8dca228bff3adeddb879fa0862cef74b39fe916535388a7fea777ed55515d", checked := Try.checked }
namespace Rows
def none {H : Type} : Left H := { results := [], args := [] }

/-- 'remoralaw40.PaceMeters': WHATEVER THE INPUT: true; the input reads as it did. -/
def paceMetersSpec : ChangeSpec := { name := "paceMeters", fn := fun _ => fun
  | [d1, d2] => { results := [.lit (.bool true)], args := [d1, d2] }
  | _ => none }
def paceMetersRow : OpenClaim := { program := "ytncdmgngmgjmpaa", sum := "60e8dca228bff3adeddb879fa0862cef74b39fe916535388a7fea777ed55515d", func := "remora/remoralaw40.PaceMeters", spec := "paceMeters", inPlace := ["math/bits.Add64"], named := ["math/bits.divideError", "math/bits.overflowError"], apart := false }
def PaceMetersSaid : Prop := paceMetersRow.holds Try.pinned (OpenSpec.ofChange paceMetersSpec)

/-- ITS FALSE NEIGHBOUR: 'it returns false'. Refute it at one input. -/
def paceMetersWrong : ChangeSpec := { name := "paceMeters", fn := fun _ => fun
  | [d1, d2] => { results := [.lit (.bool false)], args := [d1, d2] }
  | _ => none }
def PaceMetersWrongFalsely : Prop := paceMetersRow.holds Try.pinned (OpenSpec.ofChange paceMetersWrong)

/-- 'remoralaw40.PaceSteady': WHATEVER THE INPUT: true; the input reads as it did. -/
def paceSteadySpec : ChangeSpec := { name := "paceSteady", fn := fun _ => fun
  | [d1, d2, d3] => { results := [.lit (.bool true)], args := [d1, d2, d3] }
  | _ => none }
def paceSteadyRow : OpenClaim := { program := "ytncdmgngmgjmpaa", sum := "60e8dca228bff3adeddb879fa0862cef74b39fe916535388a7fea777ed55515d", func := "remora/remoralaw40.PaceSteady", spec := "paceSteady", inPlace := ["math/bits.Add64"], named := ["math/bits.divideError", "math/bits.overflowError"], apart := false }
def PaceSteadySaid : Prop := paceSteadyRow.holds Try.pinned (OpenSpec.ofChange paceSteadySpec)

/-- ITS FALSE NEIGHBOUR: 'it returns false'. Refute it at one input. -/
def paceSteadyWrong : ChangeSpec := { name := "paceSteady", fn := fun _ => fun
  | [d1, d2, d3] => { results := [.lit (.bool false)], args := [d1, d2, d3] }
  | _ => none }
def PaceSteadyWrongFalsely : Prop := paceSteadyRow.holds Try.pinned (OpenSpec.ofChange paceSteadyWrong)

/-- 'remoralaw40.PaceTakes': WHATEVER THE INPUT: true; the input reads as it did. -/
def paceTakesSpec : ChangeSpec := { name := "paceTakes", fn := fun _ => fun
  | [d1, d2, d3] => { results := [.lit (.bool true)], args := [d1, d2, d3] }
  | _ => none }
def paceTakesRow : OpenClaim := { program := "ytncdmgngmgjmpaa", sum := "60e8dca228bff3adeddb879fa0862cef74b39fe916535388a7fea777ed55515d", func := "remora/remoralaw40.PaceTakes", spec := "paceTakes", inPlace := ["math/bits.Add64"], named := ["math/bits.divideError", "math/bits.overflowError"], apart := false }
def PaceTakesSaid : Prop := paceTakesRow.holds Try.pinned (OpenSpec.ofChange paceTakesSpec)

/-- ITS FALSE NEIGHBOUR: 'it returns false'. Refute it at one input. -/
def paceTakesWrong : ChangeSpec := { name := "paceTakes", fn := fun _ => fun
  | [d1, d2, d3] => { results := [.lit (.bool false)], args := [d1, d2, d3] }
  | _ => none }
def PaceTakesWrongFalsely : Prop := paceTakesRow.holds Try.pinned (OpenSpec.ofChange paceTakesWrong)

/-- 'remoralaw40.PaceBounds': WHATEVER THE INPUT: true; the input reads as it did. -/
def paceBoundsSpec : ChangeSpec := { name := "paceBounds", fn := fun _ => fun
  | [d1, d2, d3] => { results := [.lit (.bool true)], args := [d1, d2, d3] }
  | _ => none }
def paceBoundsRow : OpenClaim := { program := "ytncdmgngmgjmpaa", sum := "60e8dca228bff3adeddb879fa0862cef74b39fe916535388a7fea777ed55515d", func := "remora/remoralaw40.PaceBounds", spec := "paceBounds", inPlace := ["math/bits.Add64"], named := ["math/bits.divideError", "math/bits.overflowError"], apart := false }
def PaceBoundsSaid : Prop := paceBoundsRow.holds Try.pinned (OpenSpec.ofChange paceBoundsSpec)

/-- ITS FALSE NEIGHBOUR: 'it returns false'. Refute it at one input. -/
def paceBoundsWrong : ChangeSpec := { name := "paceBounds", fn := fun _ => fun
  | [d1, d2, d3] => { results := [.lit (.bool false)], args := [d1, d2, d3] }
  | _ => none }
def PaceBoundsWrongFalsely : Prop := paceBoundsRow.holds Try.pinned (OpenSpec.ofChange paceBoundsWrong)

/-- 'remoralaw40.PaceWaits': WHATEVER THE INPUT: true; the input reads as it did. -/
def paceWaitsSpec : ChangeSpec := { name := "paceWaits", fn := fun _ => fun
  | [d1, d2, d3] => { results := [.lit (.bool true)], args := [d1, d2, d3] }
  | _ => none }
def paceWaitsRow : OpenClaim := { program := "ytncdmgngmgjmpaa", sum := "60e8dca228bff3adeddb879fa0862cef74b39fe916535388a7fea777ed55515d", func := "remora/remoralaw40.PaceWaits", spec := "paceWaits", inPlace := ["math/bits.Add64"], named := ["math/bits.divideError", "math/bits.overflowError"], apart := false }
def PaceWaitsSaid : Prop := paceWaitsRow.holds Try.pinned (OpenSpec.ofChange paceWaitsSpec)

/-- ITS FALSE NEIGHBOUR: 'it returns false'. Refute it at one input. -/
def paceWaitsWrong : ChangeSpec := { name := "paceWaits", fn := fun _ => fun
  | [d1, d2, d3] => { results := [.lit (.bool false)], args := [d1, d2, d3] }
  | _ => none }
def PaceWaitsWrongFalsely : Prop := paceWaitsRow.holds Try.pinned (OpenSpec.ofChange paceWaitsWrong)

/-- 'remoralaw40.PaceTogether': WHATEVER THE INPUT: true; the input reads as it did. -/
def paceTogetherSpec : ChangeSpec := { name := "paceTogether", fn := fun _ => fun
  | [d1, d2, d3] => { results := [.lit (.bool true)], args := [d1, d2, d3] }
  | _ => none }
def paceTogetherRow : OpenClaim := { program := "ytncdmgngmgjmpaa", sum := "60e8dca228bff3adeddb879fa0862cef74b39fe916535388a7fea777ed55515d", func := "remora/remoralaw40.PaceTogether", spec := "paceTogether", inPlace := ["math/bits.Add64"], named := ["math/bits.divideError", "math/bits.overflowError"], apart := false }
def PaceTogetherSaid : Prop := paceTogetherRow.holds Try.pinned (OpenSpec.ofChange paceTogetherSpec)

/-- ITS FALSE NEIGHBOUR: 'it returns false'. Refute it at one input. -/
def paceTogetherWrong : ChangeSpec := { name := "paceTogether", fn := fun _ => fun
  | [d1, d2, d3] => { results := [.lit (.bool false)], args := [d1, d2, d3] }
  | _ => none }
def PaceTogetherWrongFalsely : Prop := paceTogetherRow.holds Try.pinned (OpenSpec.ofChange paceTogetherWrong)

/-- 'remoralaw40.PaceNone': WHATEVER THE INPUT: true; the input reads as it did. -/
def paceNoneSpec : ChangeSpec := { name := "paceNone", fn := fun _ => fun
  | [d] => { results := [.lit (.bool true)], args := [d] }
  | _ => none }
def paceNoneRow : OpenClaim := { program := "ytncdmgngmgjmpaa", sum := "60e8dca228bff3adeddb879fa0862cef74b39fe916535388a7fea777ed55515d", func := "remora/remoralaw40.PaceNone", spec := "paceNone", inPlace := ["math/bits.Add64"], named := ["math/bits.divideError", "math/bits.overflowError"], apart := false }
def PaceNoneSaid : Prop := paceNoneRow.holds Try.pinned (OpenSpec.ofChange paceNoneSpec)

/-- ITS FALSE NEIGHBOUR: 'it returns false'. Refute it at one input. -/
def paceNoneWrong : ChangeSpec := { name := "paceNone", fn := fun _ => fun
  | [d] => { results := [.lit (.bool false)], args := [d] }
  | _ => none }
def PaceNoneWrongFalsely : Prop := paceNoneRow.holds Try.pinned (OpenSpec.ofChange paceNoneWrong)

/- THE SECOND FORM. 'bulk': how many values and letters a reading holds, each counted each time it is reached (what is shared counts as often as it is met; a slice's spare places count too). A statement '..UptoSaid' is the law's where the arguments, and the package variables that the reading takes, are together of bulk at most 1048576: NARROWER than '..Said'. Prove '..Said' where nothing that the law and all that it calls make is longer than what came in: it says more and counts as full. Else prove '..UptoSaid'. A law counts once. -/
mutual
def uptoBulk {H : Type} : DataW H → Nat
  | .lit (.string bytes) => bytes.length + 1
  | .lit _ => 1
  | .nil => 1
  | .ptr d => uptoBulk d + 1
  | .slice elems spare => uptoBulkAll elems + uptoBulkAll spare + 1
  | .agg parts => uptoBulkAll parts + 1
  | .iface _ d => uptoBulk d + 1
  | .map entries => uptoBulkEntries entries + 1
  | .held _ => 1
def uptoBulkAll {H : Type} : List (DataW H) → Nat
  | [] => 0
  | d :: r => uptoBulk d + uptoBulkAll r
def uptoBulkEntries {H : Type} : List (Lit × DataW H) → Nat
  | [] => 0
  | x :: r => uptoBulkEntry x + uptoBulkEntries r
def uptoBulkEntry {H : Type} : Lit × DataW H → Nat
  | (.string bytes, d) => bytes.length + uptoBulk d + 1
  | (_, d) => uptoBulk d + 1
 end
def uptoSmall : (H : Type) → List (DataW H) → Bool := fun _ ds => decide (uptoBulkAll ds ≤ 1048576)
def OpenSpec.upto (s : _root_.Go.ChangeSpec) : _root_.Go.OpenSpec := { _root_.Go.OpenSpec.ofChange s with cond := some uptoSmall }

/-- 'remoralaw40.PaceMeters', WHERE WHAT IT READS IS OF BULK AT MOST 1048576: true; the input reads as it did. -/
def paceMetersUptoRow : OpenClaim := { program := "ytncdmgngmgjmpaa", sum := "60e8dca228bff3adeddb879fa0862cef74b39fe916535388a7fea777ed55515d", func := "remora/remoralaw40.PaceMeters", spec := "paceMeters", inPlace := ["math/bits.Add64"], named := ["math/bits.divideError", "math/bits.overflowError"], apart := false, narrowed := true }
def PaceMetersUptoSaid : Prop := paceMetersUptoRow.holds Try.pinned (OpenSpec.upto paceMetersSpec)

/-- 'remoralaw40.PaceSteady', WHERE WHAT IT READS IS OF BULK AT MOST 1048576: true; the input reads as it did. -/
def paceSteadyUptoRow : OpenClaim := { program := "ytncdmgngmgjmpaa", sum := "60e8dca228bff3adeddb879fa0862cef74b39fe916535388a7fea777ed55515d", func := "remora/remoralaw40.PaceSteady", spec := "paceSteady", inPlace := ["math/bits.Add64"], named := ["math/bits.divideError", "math/bits.overflowError"], apart := false, narrowed := true }
def PaceSteadyUptoSaid : Prop := paceSteadyUptoRow.holds Try.pinned (OpenSpec.upto paceSteadySpec)

/-- 'remoralaw40.PaceTakes', WHERE WHAT IT READS IS OF BULK AT MOST 1048576: true; the input reads as it did. -/
def paceTakesUptoRow : OpenClaim := { program := "ytncdmgngmgjmpaa", sum := "60e8dca228bff3adeddb879fa0862cef74b39fe916535388a7fea777ed55515d", func := "remora/remoralaw40.PaceTakes", spec := "paceTakes", inPlace := ["math/bits.Add64"], named := ["math/bits.divideError", "math/bits.overflowError"], apart := false, narrowed := true }
def PaceTakesUptoSaid : Prop := paceTakesUptoRow.holds Try.pinned (OpenSpec.upto paceTakesSpec)

/-- 'remoralaw40.PaceBounds', WHERE WHAT IT READS IS OF BULK AT MOST 1048576: true; the input reads as it did. -/
def paceBoundsUptoRow : OpenClaim := { program := "ytncdmgngmgjmpaa", sum := "60e8dca228bff3adeddb879fa0862cef74b39fe916535388a7fea777ed55515d", func := "remora/remoralaw40.PaceBounds", spec := "paceBounds", inPlace := ["math/bits.Add64"], named := ["math/bits.divideError", "math/bits.overflowError"], apart := false, narrowed := true }
def PaceBoundsUptoSaid : Prop := paceBoundsUptoRow.holds Try.pinned (OpenSpec.upto paceBoundsSpec)

/-- 'remoralaw40.PaceWaits', WHERE WHAT IT READS IS OF BULK AT MOST 1048576: true; the input reads as it did. -/
def paceWaitsUptoRow : OpenClaim := { program := "ytncdmgngmgjmpaa", sum := "60e8dca228bff3adeddb879fa0862cef74b39fe916535388a7fea777ed55515d", func := "remora/remoralaw40.PaceWaits", spec := "paceWaits", inPlace := ["math/bits.Add64"], named := ["math/bits.divideError", "math/bits.overflowError"], apart := false, narrowed := true }
def PaceWaitsUptoSaid : Prop := paceWaitsUptoRow.holds Try.pinned (OpenSpec.upto paceWaitsSpec)

/-- 'remoralaw40.PaceTogether', WHERE WHAT IT READS IS OF BULK AT MOST 1048576: true; the input reads as it did. -/
def paceTogetherUptoRow : OpenClaim := { program := "ytncdmgngmgjmpaa", sum := "60e8dca228bff3adeddb879fa0862cef74b39fe916535388a7fea777ed55515d", func := "remora/remoralaw40.PaceTogether", spec := "paceTogether", inPlace := ["math/bits.Add64"], named := ["math/bits.divideError", "math/bits.overflowError"], apart := false, narrowed := true }
def PaceTogetherUptoSaid : Prop := paceTogetherUptoRow.holds Try.pinned (OpenSpec.upto paceTogetherSpec)

/-- 'remoralaw40.PaceNone', WHERE WHAT IT READS IS OF BULK AT MOST 1048576: true; the input reads as it did. -/
def paceNoneUptoRow : OpenClaim := { program := "ytncdmgngmgjmpaa", sum := "60e8dca228bff3adeddb879fa0862cef74b39fe916535388a7fea777ed55515d", func := "remora/remoralaw40.PaceNone", spec := "paceNone", inPlace := ["math/bits.Add64"], named := ["math/bits.divideError", "math/bits.overflowError"], apart := false, narrowed := true }
def PaceNoneUptoSaid : Prop := paceNoneUptoRow.holds Try.pinned (OpenSpec.upto paceNoneSpec)

end Rows
end Go.Proofs.Ytncdmgngmgjmpaa
