/-
  DERIVED. GIVEN WITH THE SEED: THE CARDS: each row of YtmmobhmiemmioaaDoorRows.lean that lists a variable, with what it lists TIED to the program's text (the seventh form; the later family's looks); each row that meets fmt, with fmt's text TOLD by the authors' own Lean function (tested against real Go, not proved from fmt's source: count such statements apart). THE CARD IS WHAT COUNTS. Prove the row's statement (the work); the ties are given (YtmmobhmiemmioaaDoorTie.lean); close each card by the builder's one call (the guide's Derived/Test/ToyasCard.lean, 'card_holds'). Laid BY PROGRAM, IN A SANDBOX (cutbox-door.mjs). By AI agents, Wed Nov 11 2026. No macro, syntax, notation, axiom, sorry.
-/
import Derived.Test.YtmmobhmiemmioaaDoorRows
import GoSem.ClaimSeven
namespace Go.Proofs.YtmmobhmiemmioaaDoor
namespace Rows

/-- THE TIED CARD OF 'remoratop.TopSeen'. -/
def topSeenCard : Claim7 := { stood := { row := topSeenRow, standIns := [], harness := (true, "97daef4c30246c0acde1159ffc570d5eb6ab8b25ce6d0b2a53118808bafbb454"), looks := false }, kinds := [], alts := [], laidByText := true, laidKinds := [.data, .pinned], laidTests := true, laidLooks := .later }
def TopSeenCardSaid : Prop := Claim7.holds Tryd.pinned (.plain (OpenSpec.ofChange topSeenSpec)) topSeenCard

/-- THE SECOND FORM's CARD OF 'remoratop.TopSeen'. -/
def topSeenUptoCard : Claim7 := { stood := { row := topSeenUptoRow, standIns := [], harness := (true, "97daef4c30246c0acde1159ffc570d5eb6ab8b25ce6d0b2a53118808bafbb454"), looks := false }, kinds := [], alts := [], laidByText := true, laidKinds := [.data, .pinned], laidTests := true, laidLooks := .later }
def TopSeenUptoCardSaid : Prop := Claim7.holds Tryd.pinned (.plain (OpenSpec.upto topSeenSpec)) topSeenUptoCard
end Rows
end Go.Proofs.YtmmobhmiemmioaaDoor
