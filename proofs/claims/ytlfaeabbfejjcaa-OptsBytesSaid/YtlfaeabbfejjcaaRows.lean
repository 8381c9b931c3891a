/-
  No cell of these rows narrows 'for every input' (looked for: loops, veiled, ifaces, maps, wideKeys, modest, calm, conditions, laid).
  DERIVED. THE GIVEN ROWS OF THIS SEAT. 5 by the template 'for every input the law returns true; each argument reads behind the call as it read before'; 0 by the template 'total and deterministic' (their statements: YtlfaeabbfejjcaaTotals.lean).
  GIVEN WITH THE SEED: the statements are not yours to turn. If you find one false, say at which input.
  Laid BY PROGRAM, IN A SANDBOX (cutbox-rows.mjs): the forced cells as the released guide's own fill.sh prints them over the translation 86250aa6b6a86087… (all of the seat's roots in one cut). By AI agents, Wed Nov 11 2026. No macro, syntax, notation, axiom, sorry.
-/
import Derived.Test.YtlfaeabbfejjcaaChecked
import GoSem.Claim
import GoSem.ClaimJoined
import GoSem.ClaimMapViews
import Derived.JoinedTies
import Derived.KernelRfl
namespace Go.Proofs.Ytlfaeabbfejjcaa
/- THE CELL 'sum', in the pinned program and in every row, IS THE sha256 OF THE DUMP (.gsa) THAT YtlfaeabbfejjcaaProg.lean LOADS. Nothing in Lean hashes anything: it is a label: what it is worth is what the hold of that sum in a sandbox is worth. -/
noncomputable def Try.pinned : Pinned := { name := "ytlfaeabbfejjcaa", sum := "86250aa6b6a8608746e2729ca90ab519d8ed843f3527243c4a4a13f19f74eb41", checked := Try.checked }
namespace Rows
def none {H : Type} : Left H := { results := [], args := [] }

/-- 'remoralaw25.OptsParses': WHATEVER THE INPUT: true; the input reads as it did. -/
def optsParsesSpec : ChangeSpec := { name := "optsParses", fn := fun _ => fun
  | [d] => { results := [.lit (.bool true)], args := [d] }
  | _ => none }
def optsParsesRow : OpenClaim := { program := "ytlfaeabbfejjcaa", sum := "86250aa6b6a8608746e2729ca90ab519d8ed843f3527243c4a4a13f19f74eb41", func := "remora/remoralaw25.OptsParses", spec := "optsParses", unfollowed := true, recurses := true, apart := false }
def OptsParsesSaid : Prop := optsParsesRow.holds Try.pinned (OpenSpec.ofChange optsParsesSpec)

/-- ITS FALSE NEIGHBOUR: 'it returns false'. Refute it at one input. -/
def optsParsesWrong : ChangeSpec := { name := "optsParses", fn := fun _ => fun
  | [d] => { results := [.lit (.bool false)], args := [d] }
  | _ => none }
def OptsParsesWrongFalsely : Prop := optsParsesRow.holds Try.pinned (OpenSpec.ofChange optsParsesWrong)

/-- 'remoralaw25.OptsOrder': WHATEVER THE INPUT: true; the input reads as it did. -/
def optsOrderSpec : ChangeSpec := { name := "optsOrder", fn := fun _ => fun
  | [d] => { results := [.lit (.bool true)], args := [d] }
  | _ => none }
def optsOrderRow : OpenClaim := { program := "ytlfaeabbfejjcaa", sum := "86250aa6b6a8608746e2729ca90ab519d8ed843f3527243c4a4a13f19f74eb41", func := "remora/remoralaw25.OptsOrder", spec := "optsOrder", unfollowed := true, recurses := true, apart := false }
def OptsOrderSaid : Prop := optsOrderRow.holds Try.pinned (OpenSpec.ofChange optsOrderSpec)

/-- ITS FALSE NEIGHBOUR: 'it returns false'. Refute it at one input. -/
def optsOrderWrong : ChangeSpec := { name := "optsOrder", fn := fun _ => fun
  | [d] => { results := [.lit (.bool false)], args := [d] }
  | _ => none }
def OptsOrderWrongFalsely : Prop := optsOrderRow.holds Try.pinned (OpenSpec.ofChange optsOrderWrong)

/-- 'remoralaw25.OptsOnce': WHATEVER THE INPUT: true; the input reads as it did. -/
def optsOnceSpec : ChangeSpec := { name := "optsOnce", fn := fun _ => fun
  | [d1, d2] => { results := [.lit (.bool true)], args := [d1, d2] }
  | _ => none }
def optsOnceRow : OpenClaim := { program := "ytlfaeabbfejjcaa", sum := "86250aa6b6a8608746e2729ca90ab519d8ed843f3527243c4a4a13f19f74eb41", func := "remora/remoralaw25.OptsOnce", spec := "optsOnce", unfollowed := true, recurses := true, apart := false }
def OptsOnceSaid : Prop := optsOnceRow.holds Try.pinned (OpenSpec.ofChange optsOnceSpec)

/-- ITS FALSE NEIGHBOUR: 'it returns false'. Refute it at one input. -/
def optsOnceWrong : ChangeSpec := { name := "optsOnce", fn := fun _ => fun
  | [d1, d2] => { results := [.lit (.bool false)], args := [d1, d2] }
  | _ => none }
def OptsOnceWrongFalsely : Prop := optsOnceRow.holds Try.pinned (OpenSpec.ofChange optsOnceWrong)

/-- 'remoralaw25.OptsReads': WHATEVER THE INPUT: true; the input reads as it did. -/
def optsReadsSpec : ChangeSpec := { name := "optsReads", fn := fun _ => fun
  | [d1, d2] => { results := [.lit (.bool true)], args := [d1, d2] }
  | _ => none }
def optsReadsRow : OpenClaim := { program := "ytlfaeabbfejjcaa", sum := "86250aa6b6a8608746e2729ca90ab519d8ed843f3527243c4a4a13f19f74eb41", func := "remora/remoralaw25.OptsReads", spec := "optsReads", unfollowed := true, recurses := true, apart := false }
def OptsReadsSaid : Prop := optsReadsRow.holds Try.pinned (OpenSpec.ofChange optsReadsSpec)

/-- ITS FALSE NEIGHBOUR: 'it returns false'. Refute it at one input. -/
def optsReadsWrong : ChangeSpec := { name := "optsReads", fn := fun _ => fun
  | [d1, d2] => { results := [.lit (.bool false)], args := [d1, d2] }
  | _ => none }
def OptsReadsWrongFalsely : Prop := optsReadsRow.holds Try.pinned (OpenSpec.ofChange optsReadsWrong)

/-- 'remoralaw25.OptsBytes': WHATEVER THE INPUT: true; the input reads as it did. -/
def optsBytesSpec : ChangeSpec := { name := "optsBytes", fn := fun _ => fun
  | [d1, d2, d3] => { results := [.lit (.bool true)], args := [d1, d2, d3] }
  | _ => none }
def optsBytesRow : OpenClaim := { program := "ytlfaeabbfejjcaa", sum := "86250aa6b6a8608746e2729ca90ab519d8ed843f3527243c4a4a13f19f74eb41", func := "remora/remoralaw25.OptsBytes", spec := "optsBytes", unfollowed := true, recurses := true, apart := false }
def OptsBytesSaid : Prop := optsBytesRow.holds Try.pinned (OpenSpec.ofChange optsBytesSpec)

/-- ITS FALSE NEIGHBOUR: 'it returns false'. Refute it at one input. -/
def optsBytesWrong : ChangeSpec := { name := "optsBytes", fn := fun _ => fun
  | [d1, d2, d3] => { results := [.lit (.bool false)], args := [d1, d2, d3] }
  | _ => none }
def OptsBytesWrongFalsely : Prop := optsBytesRow.holds Try.pinned (OpenSpec.ofChange optsBytesWrong)

/- THE SECOND FORM. 'bulk': how many values and letters a reading holds, each counted each time it is reached (what is shared counts as often as it is met; a slice's spare places count too). A statement '..UptoSaid' is the law's where the arguments, and the package variables that the reading takes, are together of bulk at most 1048576: NARROWER than '..Said'. Prove '..Said' where nothing that the law and all that it calls make is longer than what came in: it says more and counts as full. Else prove '..UptoSaid'. A law counts once. -/
mutual
def uptoBulk {H : Type} : DataW H → Nat
  | .lit (.string bytes) => bytes.length + 1
  | .lit _ => 1
  | .nil => 1
  | .ptr d => uptoBulk d + 1
  | .slice elems spare => uptoBulkAll elems + uptoBulkAll spare + 1
  | .agg parts => uptoBulkAll parts + 1
  | .iface _ d => uptoBulk d + 1
  | .map entries => uptoBulkEntries entries + 1
  | .held _ => 1
def uptoBulkAll {H : Type} : List (DataW H) → Nat
  | [] => 0
  | d :: r => uptoBulk d + uptoBulkAll r
def uptoBulkEntries {H : Type} : List (Lit × DataW H) → Nat
  | [] => 0
  | x :: r => uptoBulkEntry x + uptoBulkEntries r
def uptoBulkEntry {H : Type} : Lit × DataW H → Nat
  | (.string bytes, d) => bytes.length + uptoBulk d + 1
  | (_, d) => uptoBulk d + 1
 end
def uptoSmall : (H : Type) → List (DataW H) → Bool := fun _ ds => decide (uptoBulkAll ds ≤ 1048576)
def OpenSpec.upto (s : _root_.Go.ChangeSpec) : _root_.Go.OpenSpec := { _root_.Go.OpenSpec.ofChange s with cond := some uptoSmall }

/-- 'remoralaw25.OptsParses', WHERE WHAT IT READS IS OF BULK AT MOST 1048576: true; the input reads as it did. -/
def optsParsesUptoRow : OpenClaim := { program := "ytlfaeabbfejjcaa", sum := "86250aa6b6a8608746e2729ca90ab519d8ed843f3527243c4a4a13f19f74eb41", func := "remora/remoralaw25.OptsParses", spec := "optsParses", unfollowed := true, recurses := true, apart := false, narrowed := true }
def OptsParsesUptoSaid : Prop := optsParsesUptoRow.holds Try.pinned (OpenSpec.upto optsParsesSpec)

/-- 'remoralaw25.OptsOrder', WHERE WHAT IT READS IS OF BULK AT MOST 1048576: true; the input reads as it did. -/
def optsOrderUptoRow : OpenClaim := { program := "ytlfaeabbfejjcaa", sum := "86250aa6b6a8608746e2729ca90ab519d8ed843f3527243c4a4a13f19f74eb41", func := "remora/remoralaw25.OptsOrder", spec := "optsOrder", unfollowed := true, recurses := true, apart := false, narrowed := true }
def OptsOrderUptoSaid : Prop := optsOrderUptoRow.holds Try.pinned (OpenSpec.upto optsOrderSpec)

/-- 'remoralaw25.OptsOnce', WHERE WHAT IT READS IS OF BULK AT MOST 1048576: true; the input reads as it did. -/
def optsOnceUptoRow : OpenClaim := { program := "ytlfaeabbfejjcaa", sum := "86250aa6b6a8608746e2729ca90ab519d8ed843f3527243c4a4a13f19f74eb41", func := "remora/remoralaw25.OptsOnce", spec := "optsOnce", unfollowed := true, recurses := true, apart := false, narrowed := true }
def OptsOnceUptoSaid : Prop := optsOnceUptoRow.holds Try.pinned (OpenSpec.upto optsOnceSpec)

/-- 'remoralaw25.OptsReads', WHERE WHAT IT READS IS OF BULK AT MOST 1048576: true; the input reads as it did. -/
def optsReadsUptoRow : OpenClaim := { program := "ytlfaeabbfejjcaa", sum := "86250aa6b6a8608746e2729ca90ab519d8ed843f3527243c4a4a13f19f74eb41", func := "remora/remoralaw25.OptsReads", spec := "optsReads", unfollowed := true, recurses := true, apart := false, narrowed := true }
def OptsReadsUptoSaid : Prop := optsReadsUptoRow.holds Try.pinned (OpenSpec.upto optsReadsSpec)

/-- 'remoralaw25.OptsBytes', WHERE WHAT IT READS IS OF BULK AT MOST 1048576: true; the input reads as it did. -/
def optsBytesUptoRow : OpenClaim := { program := "ytlfaeabbfejjcaa", sum := "86250aa6b6a8608746e2729ca90ab519d8ed843f3527243c4a4a13f19f74eb41", func := "remora/remoralaw25.OptsBytes", spec := "optsBytes", unfollowed := true, recurses := true, apart := false, narrowed := true }
def OptsBytesUptoSaid : Prop := optsBytesUptoRow.holds Try.pinned (OpenSpec.upto optsBytesSpec)

end Rows
end Go.Proofs.Ytlfaeabbfejjcaa
