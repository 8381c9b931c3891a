/-
  DERIVED. GIVEN WITH THE SEED: THE CARDS: each row of YthnhieikeigjcaaDoorRows.lean that lists a variable, with what it lists TIED to the program's text (the seventh form; the later family's looks); each row that meets fmt, with fmt's text TOLD by the authors' own Lean function (tested against real Go, not proved from fmt's source: count such statements apart). THE CARD IS WHAT COUNTS. Prove the row's statement (the work); the ties are given (YthnhieikeigjcaaDoorTie.lean); close each card by the builder's one call (the guide's Derived/Test/ToyasCard.lean, 'card_holds'). Laid BY PROGRAM, IN A SANDBOX (cutbox-door.mjs). By AI agents, Wed Nov 11 2026. No macro, syntax, notation, axiom, sorry.
-/
import Derived.Test.YthnhieikeigjcaaDoorRows
import GoSem.ClaimSeven
namespace Go.Proofs.YthnhieikeigjcaaDoor
namespace Rows

/-- THE TIED CARD OF 'remoralaw48.ReportNumbers'. -/
def reportNumbersCard : Claim7 := { stood := { row := reportNumbersRow, standIns := [], harness := (true, "bc8c65e4b19d95cddac4e5685a73b43c5735154161d2f1f1b33a810db72e23c3"), looks := false }, kinds := [], alts := [], laidByText := true, laidKinds := [.data, .data, .data], laidTests := true, laidLooks := .later }
def ReportNumbersCardSaid : Prop := Claim7.holds Tryd.pinned (.plain (OpenSpec.ofChange reportNumbersSpec)) reportNumbersCard

/-- THE TIED CARD OF 'remoralaw48.ReportTotals'. -/
def reportTotalsCard : Claim7 := { stood := { row := reportTotalsRow, standIns := [], harness := (true, "bc8c65e4b19d95cddac4e5685a73b43c5735154161d2f1f1b33a810db72e23c3"), looks := false }, kinds := [], alts := [], laidByText := true, laidKinds := [.data, .data, .data], laidTests := true, laidLooks := .later }
def ReportTotalsCardSaid : Prop := Claim7.holds Tryd.pinned (.plain (OpenSpec.ofChange reportTotalsSpec)) reportTotalsCard

/-- THE TIED CARD OF 'remoralaw48.ReportSizes'. -/
def reportSizesCard : Claim7 := { stood := { row := reportSizesRow, standIns := [], harness := (true, "bc8c65e4b19d95cddac4e5685a73b43c5735154161d2f1f1b33a810db72e23c3"), looks := false }, kinds := [], alts := [], laidByText := true, laidKinds := [.data, .data, .data], laidTests := true, laidLooks := .later }
def ReportSizesCardSaid : Prop := Claim7.holds Tryd.pinned (.plain (OpenSpec.ofChange reportSizesSpec)) reportSizesCard

/-- THE TIED CARD OF 'remoralaw48.ReportParts'. -/
def reportPartsCard : Claim7 := { stood := { row := reportPartsRow, standIns := [], harness := (true, "bc8c65e4b19d95cddac4e5685a73b43c5735154161d2f1f1b33a810db72e23c3"), looks := false }, kinds := [], alts := [], laidByText := true, laidKinds := [.data, .data, .data], laidTests := true, laidLooks := .later }
def ReportPartsCardSaid : Prop := Claim7.holds Tryd.pinned (.plain (OpenSpec.ofChange reportPartsSpec)) reportPartsCard

/-- THE TIED CARD OF 'remoralaw48.ReportSpans'. -/
def reportSpansCard : Claim7 := { stood := { row := reportSpansRow, standIns := [], harness := (true, "bc8c65e4b19d95cddac4e5685a73b43c5735154161d2f1f1b33a810db72e23c3"), looks := false }, kinds := [], alts := [], laidByText := true, laidKinds := [.data, .data, .data], laidTests := true, laidLooks := .later }
def ReportSpansCardSaid : Prop := Claim7.holds Tryd.pinned (.plain (OpenSpec.ofChange reportSpansSpec)) reportSpansCard

/-- THE TIED CARD OF 'remoralaw48.ReportOnce'. -/
def reportOnceCard : Claim7 := { stood := { row := reportOnceRow, standIns := [], harness := (true, "bc8c65e4b19d95cddac4e5685a73b43c5735154161d2f1f1b33a810db72e23c3"), looks := false }, kinds := [], alts := [], laidByText := true, laidKinds := [.data, .data, .data], laidTests := true, laidLooks := .later }
def ReportOnceCardSaid : Prop := Claim7.holds Tryd.pinned (.plain (OpenSpec.ofChange reportOnceSpec)) reportOnceCard

/-- THE SECOND FORM's CARD OF 'remoralaw48.ReportNumbers'. -/
def reportNumbersUptoCard : Claim7 := { stood := { row := reportNumbersUptoRow, standIns := [], harness := (true, "bc8c65e4b19d95cddac4e5685a73b43c5735154161d2f1f1b33a810db72e23c3"), looks := false }, kinds := [], alts := [], laidByText := true, laidKinds := [.data, .data, .data], laidTests := true, laidLooks := .later }
def ReportNumbersUptoCardSaid : Prop := Claim7.holds Tryd.pinned (.plain (OpenSpec.upto reportNumbersSpec)) reportNumbersUptoCard

/-- THE SECOND FORM's CARD OF 'remoralaw48.ReportTotals'. -/
def reportTotalsUptoCard : Claim7 := { stood := { row := reportTotalsUptoRow, standIns := [], harness := (true, "bc8c65e4b19d95cddac4e5685a73b43c5735154161d2f1f1b33a810db72e23c3"), looks := false }, kinds := [], alts := [], laidByText := true, laidKinds := [.data, .data, .data], laidTests := true, laidLooks := .later }
def ReportTotalsUptoCardSaid : Prop := Claim7.holds Tryd.pinned (.plain (OpenSpec.upto reportTotalsSpec)) reportTotalsUptoCard

/-- THE SECOND FORM's CARD OF 'remoralaw48.ReportSizes'. -/
def reportSizesUptoCard : Claim7 := { stood := { row := reportSizesUptoRow, standIns := [], harness := (true, "bc8c65e4b19d95cddac4e5685a73b43c5735154161d2f1f1b33a810db72e23c3"), looks := false }, kinds := [], alts := [], laidByText := true, laidKinds := [.data, .data, .data], laidTests := true, laidLooks := .later }
def ReportSizesUptoCardSaid : Prop := Claim7.holds Tryd.pinned (.plain (OpenSpec.upto reportSizesSpec)) reportSizesUptoCard

/-- THE SECOND FORM's CARD OF 'remoralaw48.ReportParts'. -/
def reportPartsUptoCard : Claim7 := { stood := { row := reportPartsUptoRow, standIns := [], harness := (true, "bc8c65e4b19d95cddac4e5685a73b43c5735154161d2f1f1b33a810db72e23c3"), looks := false }, kinds := [], alts := [], laidByText := true, laidKinds := [.data, .data, .data], laidTests := true, laidLooks := .later }
def ReportPartsUptoCardSaid : Prop := Claim7.holds Tryd.pinned (.plain (OpenSpec.upto reportPartsSpec)) reportPartsUptoCard

/-- THE SECOND FORM's CARD OF 'remoralaw48.ReportSpans'. -/
def reportSpansUptoCard : Claim7 := { stood := { row := reportSpansUptoRow, standIns := [], harness := (true, "bc8c65e4b19d95cddac4e5685a73b43c5735154161d2f1f1b33a810db72e23c3"), looks := false }, kinds := [], alts := [], laidByText := true, laidKinds := [.data, .data, .data], laidTests := true, laidLooks := .later }
def ReportSpansUptoCardSaid : Prop := Claim7.holds Tryd.pinned (.plain (OpenSpec.upto reportSpansSpec)) reportSpansUptoCard

/-- THE SECOND FORM's CARD OF 'remoralaw48.ReportOnce'. -/
def reportOnceUptoCard : Claim7 := { stood := { row := reportOnceUptoRow, standIns := [], harness := (true, "bc8c65e4b19d95cddac4e5685a73b43c5735154161d2f1f1b33a810db72e23c3"), looks := false }, kinds := [], alts := [], laidByText := true, laidKinds := [.data, .data, .data], laidTests := true, laidLooks := .later }
def ReportOnceUptoCardSaid : Prop := Claim7.holds Tryd.pinned (.plain (OpenSpec.upto reportOnceSpec)) reportOnceUptoCard
end Rows
end Go.Proofs.YthnhieikeigjcaaDoor
