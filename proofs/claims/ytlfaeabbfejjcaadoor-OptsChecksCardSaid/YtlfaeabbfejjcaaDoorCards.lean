/-
  DERIVED. GIVEN WITH THE SEED: THE CARDS: each row of YtlfaeabbfejjcaaDoorRows.lean that lists a variable, with what it lists TIED to the program's text (the seventh form; the later family's looks); each row that meets fmt, with fmt's text TOLD by the authors' own Lean function (tested against real Go, not proved from fmt's source: count such statements apart). THE CARD IS WHAT COUNTS. Prove the row's statement (the work); the ties are given (YtlfaeabbfejjcaaDoorTie.lean); close each card by the builder's one call (the guide's Derived/Test/ToyasCard.lean, 'card_holds'). Laid BY PROGRAM, IN A SANDBOX (cutbox-door.mjs). By AI agents, Wed Nov 11 2026. No macro, syntax, notation, axiom, sorry.
-/
import Derived.Test.YtlfaeabbfejjcaaDoorRows
import GoSem.ClaimSeven
namespace Go.Proofs.YtlfaeabbfejjcaaDoor
namespace Rows

/-- THE TIED CARD OF 'remoralaw25.OptsWords'. -/
def optsWordsCard : Claim7 := { stood := { row := optsWordsRow, standIns := [], harness := (true, "ce1e64cb8ed572fcca1fa4a54333820c0a52f492e39405053d274355dbd54966"), looks := false }, kinds := [], alts := [], laidByText := true, laidKinds := [.data, .data, .data], laidTests := true, laidLooks := .later }
def OptsWordsCardSaid : Prop := Claim7.holds Tryd.pinned (.plain (OpenSpec.ofChange optsWordsSpec)) optsWordsCard

/-- THE TIED CARD OF 'remoralaw25.OptsChecks'. -/
def optsChecksCard : Claim7 := { stood := { row := optsChecksRow, standIns := [], harness := (true, "ce1e64cb8ed572fcca1fa4a54333820c0a52f492e39405053d274355dbd54966"), looks := false }, kinds := [], alts := [], laidByText := true, laidKinds := [.data, .data, .data], laidTests := true, laidLooks := .later }
def OptsChecksCardSaid : Prop := Claim7.holds Tryd.pinned (.plain (OpenSpec.ofChange optsChecksSpec)) optsChecksCard

/-- THE SECOND FORM's CARD OF 'remoralaw25.OptsWords'. -/
def optsWordsUptoCard : Claim7 := { stood := { row := optsWordsUptoRow, standIns := [], harness := (true, "ce1e64cb8ed572fcca1fa4a54333820c0a52f492e39405053d274355dbd54966"), looks := false }, kinds := [], alts := [], laidByText := true, laidKinds := [.data, .data, .data], laidTests := true, laidLooks := .later }
def OptsWordsUptoCardSaid : Prop := Claim7.holds Tryd.pinned (.plain (OpenSpec.upto optsWordsSpec)) optsWordsUptoCard

/-- THE SECOND FORM's CARD OF 'remoralaw25.OptsChecks'. -/
def optsChecksUptoCard : Claim7 := { stood := { row := optsChecksUptoRow, standIns := [], harness := (true, "ce1e64cb8ed572fcca1fa4a54333820c0a52f492e39405053d274355dbd54966"), looks := false }, kinds := [], alts := [], laidByText := true, laidKinds := [.data, .data, .data], laidTests := true, laidLooks := .later }
def OptsChecksUptoCardSaid : Prop := Claim7.holds Tryd.pinned (.plain (OpenSpec.upto optsChecksSpec)) optsChecksUptoCard
end Rows
end Go.Proofs.YtlfaeabbfejjcaaDoor
