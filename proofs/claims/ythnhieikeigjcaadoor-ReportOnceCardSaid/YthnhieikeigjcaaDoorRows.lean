/-
  NARROWER THAN 'FOR EVERY INPUT', by the rows' own cells (each row's printed sentence says how): ReportNumbers: laid · ReportTotals: laid · ReportSizes: laid · ReportParts: laid · ReportSpans: laid · ReportOnce: laid.
  DERIVED. THE GIVEN ROWS OF THIS SEAT. 6 by the template 'for every input the law returns true; each argument reads behind the call as it read before'; 0 by the template 'total and deterministic' (their statements: YthnhieikeigjcaaDoorTotals.lean).
  GIVEN WITH THE SEED: the statements are not yours to turn. If you find one false, say at which input.
  Laid BY PROGRAM, IN A SANDBOX (cutbox-rows.mjs): the forced cells as the released guide's own fill.sh prints them over the translation 265c83c09f2908e0… (all of the seat's roots in one cut). By AI agents, Wed Nov 11 2026. No macro, syntax, notation, axiom, sorry.
-/
import Derived.Test.YthnhieikeigjcaaDoorChecked
import GoSem.Claim
import GoSem.ClaimJoined
import GoSem.ClaimMapViews
import Derived.JoinedTies
import Derived.KernelRfl
namespace Go.Proofs.YthnhieikeigjcaaDoor
/- THE CELL 'sum', in the pinned program and in every row, IS THE sha256 OF THE DUMP (.gsa) THAT YthnhieikeigjcaaDoorProg.lean LOADS. Nothing in Lean hashes anything: it is a label: what it is worth is what the hold of that sum in a sandbox is worth. -/
noncomputable def Tryd.pinned : Pinned := { name := "ythnhieikeigjcaadoor", sum := "265c83c09f2908e0c8d50c1595e5b4ccae78be945386fec59662147a633f0221", checked := Tryd.checked }
namespace Rows
def none {H : Type} : Left H := { results := [], args := [] }

/- WHAT THE LISTED PACKAGE-LEVEL VARIABLES READ AS WHEN THE CALL BEGINS. Each datum BY PROGRAM (the guide's laid-datum.mjs) off the statement by which the dump's own 'gosem.cut.vars' lays the variable. In a bare row this is a premise. The card (YthnhieikeigjcaaDoorCards.lean) ties it to the program's text. -/
def laid_math_bits_deBruijn32tab {H : Type} : DataW H := .agg [.lit (.int .u8 0), .lit (.int .u8 1), .lit (.int .u8 28), .lit (.int .u8 2), .lit (.int .u8 29), .lit (.int .u8 14), .lit (.int .u8 24), .lit (.int .u8 3), .lit (.int .u8 30), .lit (.int .u8 22), .lit (.int .u8 20), .lit (.int .u8 15), .lit (.int .u8 25), .lit (.int .u8 17), .lit (.int .u8 4), .lit (.int .u8 8), .lit (.int .u8 31), .lit (.int .u8 27), .lit (.int .u8 13), .lit (.int .u8 23), .lit (.int .u8 21), .lit (.int .u8 19), .lit (.int .u8 16), .lit (.int .u8 7), .lit (.int .u8 26), .lit (.int .u8 12), .lit (.int .u8 18), .lit (.int .u8 6), .lit (.int .u8 11), .lit (.int .u8 5), .lit (.int .u8 10), .lit (.int .u8 9)]
def laid_math_bits_deBruijn64tab {H : Type} : DataW H := .agg [.lit (.int .u8 0), .lit (.int .u8 1), .lit (.int .u8 56), .lit (.int .u8 2), .lit (.int .u8 57), .lit (.int .u8 49), .lit (.int .u8 28), .lit (.int .u8 3), .lit (.int .u8 61), .lit (.int .u8 58), .lit (.int .u8 42), .lit (.int .u8 50), .lit (.int .u8 38), .lit (.int .u8 29), .lit (.int .u8 17), .lit (.int .u8 4), .lit (.int .u8 62), .lit (.int .u8 47), .lit (.int .u8 59), .lit (.int .u8 36), .lit (.int .u8 45), .lit (.int .u8 43), .lit (.int .u8 51), .lit (.int .u8 22), .lit (.int .u8 53), .lit (.int .u8 39), .lit (.int .u8 33), .lit (.int .u8 30), .lit (.int .u8 24), .lit (.int .u8 18), .lit (.int .u8 12), .lit (.int .u8 5), .lit (.int .u8 63), .lit (.int .u8 55), .lit (.int .u8 48), .lit (.int .u8 27), .lit (.int .u8 60), .lit (.int .u8 41), .lit (.int .u8 37), .lit (.int .u8 16), .lit (.int .u8 46), .lit (.int .u8 35), .lit (.int .u8 44), .lit (.int .u8 21), .lit (.int .u8 52), .lit (.int .u8 32), .lit (.int .u8 23), .lit (.int .u8 11), .lit (.int .u8 54), .lit (.int .u8 26), .lit (.int .u8 40), .lit (.int .u8 15), .lit (.int .u8 34), .lit (.int .u8 20), .lit (.int .u8 31), .lit (.int .u8 10), .lit (.int .u8 25), .lit (.int .u8 14), .lit (.int .u8 19), .lit (.int .u8 9), .lit (.int .u8 13), .lit (.int .u8 8), .lit (.int .u8 7), .lit (.int .u8 6)]
def laid_internal_strconv_uint64pow10 {H : Type} : DataW H := .agg [.lit (.int .u64 1), .lit (.int .u64 10), .lit (.int .u64 100), .lit (.int .u64 1000), .lit (.int .u64 10000), .lit (.int .u64 100000), .lit (.int .u64 1000000), .lit (.int .u64 10000000), .lit (.int .u64 100000000), .lit (.int .u64 1000000000), .lit (.int .u64 10000000000), .lit (.int .u64 100000000000), .lit (.int .u64 1000000000000), .lit (.int .u64 10000000000000), .lit (.int .u64 100000000000000), .lit (.int .u64 1000000000000000), .lit (.int .u64 10000000000000000), .lit (.int .u64 100000000000000000), .lit (.int .u64 1000000000000000000), .lit (.int .u64 10000000000000000000)]

/-- 'remoralaw48.ReportNumbers': WHATEVER THE INPUT: true; the input reads as it did. -/
def reportNumbersSpec : ChangeSpec := { name := "reportNumbers", fn := fun _ => fun
  | [d1, d2] => { results := [.lit (.bool true)], args := [d1, d2] }
  | _ => none }
def reportNumbersRow : OpenClaim := { program := "ythnhieikeigjcaadoor", sum := "265c83c09f2908e0c8d50c1595e5b4ccae78be945386fec59662147a633f0221", func := "remora/remoralaw48.ReportNumbers", spec := "reportNumbers", inPlace := ["internal/abi.NoEscape"], recurses := true, named := ["internal/strconv.uint64pow10", "math/bits.deBruijn32tab", "math/bits.deBruijn64tab", "math/bits.divideError", "math/bits.overflowError"], apart := false, laid := [("math/bits.deBruijn32tab", laid_math_bits_deBruijn32tab), ("math/bits.deBruijn64tab", laid_math_bits_deBruijn64tab), ("internal/strconv.uint64pow10", laid_internal_strconv_uint64pow10)] }
def ReportNumbersSaid : Prop := reportNumbersRow.holds Tryd.pinned (OpenSpec.ofChange reportNumbersSpec)

/-- ITS FALSE NEIGHBOUR: 'it returns false'. Refute it at one input. -/
def reportNumbersWrong : ChangeSpec := { name := "reportNumbers", fn := fun _ => fun
  | [d1, d2] => { results := [.lit (.bool false)], args := [d1, d2] }
  | _ => none }
def ReportNumbersWrongFalsely : Prop := reportNumbersRow.holds Tryd.pinned (OpenSpec.ofChange reportNumbersWrong)

/-- 'remoralaw48.ReportTotals': WHATEVER THE INPUT: true; the input reads as it did. -/
def reportTotalsSpec : ChangeSpec := { name := "reportTotals", fn := fun _ => fun
  | [d1, d2, d3] => { results := [.lit (.bool true)], args := [d1, d2, d3] }
  | _ => none }
def reportTotalsRow : OpenClaim := { program := "ythnhieikeigjcaadoor", sum := "265c83c09f2908e0c8d50c1595e5b4ccae78be945386fec59662147a633f0221", func := "remora/remoralaw48.ReportTotals", spec := "reportTotals", inPlace := ["internal/abi.NoEscape"], recurses := true, named := ["internal/strconv.uint64pow10", "math/bits.deBruijn32tab", "math/bits.deBruijn64tab", "math/bits.divideError", "math/bits.overflowError"], apart := false, laid := [("math/bits.deBruijn32tab", laid_math_bits_deBruijn32tab), ("math/bits.deBruijn64tab", laid_math_bits_deBruijn64tab), ("internal/strconv.uint64pow10", laid_internal_strconv_uint64pow10)] }
def ReportTotalsSaid : Prop := reportTotalsRow.holds Tryd.pinned (OpenSpec.ofChange reportTotalsSpec)

/-- ITS FALSE NEIGHBOUR: 'it returns false'. Refute it at one input. -/
def reportTotalsWrong : ChangeSpec := { name := "reportTotals", fn := fun _ => fun
  | [d1, d2, d3] => { results := [.lit (.bool false)], args := [d1, d2, d3] }
  | _ => none }
def ReportTotalsWrongFalsely : Prop := reportTotalsRow.holds Tryd.pinned (OpenSpec.ofChange reportTotalsWrong)

/-- 'remoralaw48.ReportSizes': WHATEVER THE INPUT: true; the input reads as it did. -/
def reportSizesSpec : ChangeSpec := { name := "reportSizes", fn := fun _ => fun
  | [d1, d2] => { results := [.lit (.bool true)], args := [d1, d2] }
  | _ => none }
def reportSizesRow : OpenClaim := { program := "ythnhieikeigjcaadoor", sum := "265c83c09f2908e0c8d50c1595e5b4ccae78be945386fec59662147a633f0221", func := "remora/remoralaw48.ReportSizes", spec := "reportSizes", inPlace := ["internal/abi.NoEscape"], named := ["internal/strconv.uint64pow10", "math/bits.deBruijn32tab", "math/bits.deBruijn64tab", "math/bits.divideError", "math/bits.overflowError"], apart := false, laid := [("math/bits.deBruijn32tab", laid_math_bits_deBruijn32tab), ("math/bits.deBruijn64tab", laid_math_bits_deBruijn64tab), ("internal/strconv.uint64pow10", laid_internal_strconv_uint64pow10)] }
def ReportSizesSaid : Prop := reportSizesRow.holds Tryd.pinned (OpenSpec.ofChange reportSizesSpec)

/-- ITS FALSE NEIGHBOUR: 'it returns false'. Refute it at one input. -/
def reportSizesWrong : ChangeSpec := { name := "reportSizes", fn := fun _ => fun
  | [d1, d2] => { results := [.lit (.bool false)], args := [d1, d2] }
  | _ => none }
def ReportSizesWrongFalsely : Prop := reportSizesRow.holds Tryd.pinned (OpenSpec.ofChange reportSizesWrong)

/-- 'remoralaw48.ReportParts': WHATEVER THE INPUT: true; the input reads as it did. -/
def reportPartsSpec : ChangeSpec := { name := "reportParts", fn := fun _ => fun
  | [d1, d2, d3] => { results := [.lit (.bool true)], args := [d1, d2, d3] }
  | _ => none }
def reportPartsRow : OpenClaim := { program := "ythnhieikeigjcaadoor", sum := "265c83c09f2908e0c8d50c1595e5b4ccae78be945386fec59662147a633f0221", func := "remora/remoralaw48.ReportParts", spec := "reportParts", inPlace := ["internal/abi.NoEscape"], named := ["math/bits.divideError", "math/bits.overflowError", "internal/strconv.uint64pow10", "math/bits.deBruijn32tab", "math/bits.deBruijn64tab"], apart := false, laid := [("math/bits.deBruijn32tab", laid_math_bits_deBruijn32tab), ("math/bits.deBruijn64tab", laid_math_bits_deBruijn64tab), ("internal/strconv.uint64pow10", laid_internal_strconv_uint64pow10)] }
def ReportPartsSaid : Prop := reportPartsRow.holds Tryd.pinned (OpenSpec.ofChange reportPartsSpec)

/-- ITS FALSE NEIGHBOUR: 'it returns false'. Refute it at one input. -/
def reportPartsWrong : ChangeSpec := { name := "reportParts", fn := fun _ => fun
  | [d1, d2, d3] => { results := [.lit (.bool false)], args := [d1, d2, d3] }
  | _ => none }
def ReportPartsWrongFalsely : Prop := reportPartsRow.holds Tryd.pinned (OpenSpec.ofChange reportPartsWrong)

/-- 'remoralaw48.ReportSpans': WHATEVER THE INPUT: true; the input reads as it did. -/
def reportSpansSpec : ChangeSpec := { name := "reportSpans", fn := fun _ => fun
  | [d] => { results := [.lit (.bool true)], args := [d] }
  | _ => none }
def reportSpansRow : OpenClaim := { program := "ythnhieikeigjcaadoor", sum := "265c83c09f2908e0c8d50c1595e5b4ccae78be945386fec59662147a633f0221", func := "remora/remoralaw48.ReportSpans", spec := "reportSpans", inPlace := ["internal/abi.NoEscape"], named := ["internal/strconv.uint64pow10", "math/bits.deBruijn32tab", "math/bits.deBruijn64tab", "math/bits.divideError", "math/bits.overflowError"], apart := false, laid := [("math/bits.deBruijn32tab", laid_math_bits_deBruijn32tab), ("math/bits.deBruijn64tab", laid_math_bits_deBruijn64tab), ("internal/strconv.uint64pow10", laid_internal_strconv_uint64pow10)] }
def ReportSpansSaid : Prop := reportSpansRow.holds Tryd.pinned (OpenSpec.ofChange reportSpansSpec)

/-- ITS FALSE NEIGHBOUR: 'it returns false'. Refute it at one input. -/
def reportSpansWrong : ChangeSpec := { name := "reportSpans", fn := fun _ => fun
  | [d] => { results := [.lit (.bool false)], args := [d] }
  | _ => none }
def ReportSpansWrongFalsely : Prop := reportSpansRow.holds Tryd.pinned (OpenSpec.ofChange reportSpansWrong)

/-- 'remoralaw48.ReportOnce': WHATEVER THE INPUT: true; the input reads as it did. -/
def reportOnceSpec : ChangeSpec := { name := "reportOnce", fn := fun _ => fun
  | [d1, d2] => { results := [.lit (.bool true)], args := [d1, d2] }
  | _ => none }
def reportOnceRow : OpenClaim := { program := "ythnhieikeigjcaadoor", sum := "265c83c09f2908e0c8d50c1595e5b4ccae78be945386fec59662147a633f0221", func := "remora/remoralaw48.ReportOnce", spec := "reportOnce", inPlace := ["internal/abi.NoEscape"], named := ["internal/strconv.uint64pow10", "math/bits.deBruijn32tab", "math/bits.deBruijn64tab", "math/bits.divideError", "math/bits.overflowError"], apart := false, laid := [("math/bits.deBruijn32tab", laid_math_bits_deBruijn32tab), ("math/bits.deBruijn64tab", laid_math_bits_deBruijn64tab), ("internal/strconv.uint64pow10", laid_internal_strconv_uint64pow10)] }
def ReportOnceSaid : Prop := reportOnceRow.holds Tryd.pinned (OpenSpec.ofChange reportOnceSpec)

/-- ITS FALSE NEIGHBOUR: 'it returns false'. Refute it at one input. -/
def reportOnceWrong : ChangeSpec := { name := "reportOnce", fn := fun _ => fun
  | [d1, d2] => { results := [.lit (.bool false)], args := [d1, d2] }
  | _ => none }
def ReportOnceWrongFalsely : Prop := reportOnceRow.holds Tryd.pinned (OpenSpec.ofChange reportOnceWrong)

/- THE SECOND FORM. 'bulk': how many values and letters a reading holds, each counted each time it is reached (what is shared counts as often as it is met; a slice's spare places count too). A statement '..UptoSaid' is the law's where the arguments, and the package variables that the reading takes, are together of bulk at most 1048576: NARROWER than '..Said'. Prove '..Said' where nothing that the law and all that it calls make is longer than what came in: it says more and counts as full. Else prove '..UptoSaid'. A law counts once. -/
mutual
def uptoBulk {H : Type} : DataW H → Nat
  | .lit (.string bytes) => bytes.length + 1
  | .lit _ => 1
  | .nil => 1
  | .ptr d => uptoBulk d + 1
  | .slice elems spare => uptoBulkAll elems + uptoBulkAll spare + 1
  | .agg parts => uptoBulkAll parts + 1
  | .iface _ d => uptoBulk d + 1
  | .map entries => uptoBulkEntries entries + 1
  | .held _ => 1
def uptoBulkAll {H : Type} : List (DataW H) → Nat
  | [] => 0
  | d :: r => uptoBulk d + uptoBulkAll r
def uptoBulkEntries {H : Type} : List (Lit × DataW H) → Nat
  | [] => 0
  | x :: r => uptoBulkEntry x + uptoBulkEntries r
def uptoBulkEntry {H : Type} : Lit × DataW H → Nat
  | (.string bytes, d) => bytes.length + uptoBulk d + 1
  | (_, d) => uptoBulk d + 1
 end
def uptoSmall : (H : Type) → List (DataW H) → Bool := fun _ ds => decide (uptoBulkAll ds ≤ 1048576)
def OpenSpec.upto (s : _root_.Go.ChangeSpec) : _root_.Go.OpenSpec := { _root_.Go.OpenSpec.ofChange s with cond := some uptoSmall }

/-- 'remoralaw48.ReportNumbers', WHERE WHAT IT READS IS OF BULK AT MOST 1048576: true; the input reads as it did. -/
def reportNumbersUptoRow : OpenClaim := { program := "ythnhieikeigjcaadoor", sum := "265c83c09f2908e0c8d50c1595e5b4ccae78be945386fec59662147a633f0221", func := "remora/remoralaw48.ReportNumbers", spec := "reportNumbers", inPlace := ["internal/abi.NoEscape"], recurses := true, named := ["internal/strconv.uint64pow10", "math/bits.deBruijn32tab", "math/bits.deBruijn64tab", "math/bits.divideError", "math/bits.overflowError"], apart := false, laid := [("math/bits.deBruijn32tab", laid_math_bits_deBruijn32tab), ("math/bits.deBruijn64tab", laid_math_bits_deBruijn64tab), ("internal/strconv.uint64pow10", laid_internal_strconv_uint64pow10)], narrowed := true }
def ReportNumbersUptoSaid : Prop := reportNumbersUptoRow.holds Tryd.pinned (OpenSpec.upto reportNumbersSpec)

/-- 'remoralaw48.ReportTotals', WHERE WHAT IT READS IS OF BULK AT MOST 1048576: true; the input reads as it did. -/
def reportTotalsUptoRow : OpenClaim := { program := "ythnhieikeigjcaadoor", sum := "265c83c09f2908e0c8d50c1595e5b4ccae78be945386fec59662147a633f0221", func := "remora/remoralaw48.ReportTotals", spec := "reportTotals", inPlace := ["internal/abi.NoEscape"], recurses := true, named := ["internal/strconv.uint64pow10", "math/bits.deBruijn32tab", "math/bits.deBruijn64tab", "math/bits.divideError", "math/bits.overflowError"], apart := false, laid := [("math/bits.deBruijn32tab", laid_math_bits_deBruijn32tab), ("math/bits.deBruijn64tab", laid_math_bits_deBruijn64tab), ("internal/strconv.uint64pow10", laid_internal_strconv_uint64pow10)], narrowed := true }
def ReportTotalsUptoSaid : Prop := reportTotalsUptoRow.holds Tryd.pinned (OpenSpec.upto reportTotalsSpec)

/-- 'remoralaw48.ReportSizes', WHERE WHAT IT READS IS OF BULK AT MOST 1048576: true; the input reads as it did. -/
def reportSizesUptoRow : OpenClaim := { program := "ythnhieikeigjcaadoor", sum := "265c83c09f2908e0c8d50c1595e5b4ccae78be945386fec59662147a633f0221", func := "remora/remoralaw48.ReportSizes", spec := "reportSizes", inPlace := ["internal/abi.NoEscape"], named := ["internal/strconv.uint64pow10", "math/bits.deBruijn32tab", "math/bits.deBruijn64tab", "math/bits.divideError", "math/bits.overflowError"], apart := false, laid := [("math/bits.deBruijn32tab", laid_math_bits_deBruijn32tab), ("math/bits.deBruijn64tab", laid_math_bits_deBruijn64tab), ("internal/strconv.uint64pow10", laid_internal_strconv_uint64pow10)], narrowed := true }
def ReportSizesUptoSaid : Prop := reportSizesUptoRow.holds Tryd.pinned (OpenSpec.upto reportSizesSpec)

/-- 'remoralaw48.ReportParts', WHERE WHAT IT READS IS OF BULK AT MOST 1048576: true; the input reads as it did. -/
def reportPartsUptoRow : OpenClaim := { program := "ythnhieikeigjcaadoor", sum := "265c83c09f2908e0c8d50c1595e5b4ccae78be945386fec59662147a633f0221", func := "remora/remoralaw48.ReportParts", spec := "reportParts", inPlace := ["internal/abi.NoEscape"], named := ["math/bits.divideError", "math/bits.overflowError", "internal/strconv.uint64pow10", "math/bits.deBruijn32tab", "math/bits.deBruijn64tab"], apart := false, laid := [("math/bits.deBruijn32tab", laid_math_bits_deBruijn32tab), ("math/bits.deBruijn64tab", laid_math_bits_deBruijn64tab), ("internal/strconv.uint64pow10", laid_internal_strconv_uint64pow10)], narrowed := true }
def ReportPartsUptoSaid : Prop := reportPartsUptoRow.holds Tryd.pinned (OpenSpec.upto reportPartsSpec)

/-- 'remoralaw48.ReportSpans', WHERE WHAT IT READS IS OF BULK AT MOST 1048576: true; the input reads as it did. -/
def reportSpansUptoRow : OpenClaim := { program := "ythnhieikeigjcaadoor", sum := "265c83c09f2908e0c8d50c1595e5b4ccae78be945386fec59662147a633f0221", func := "remora/remoralaw48.ReportSpans", spec := "reportSpans", inPlace := ["internal/abi.NoEscape"], named := ["internal/strconv.uint64pow10", "math/bits.deBruijn32tab", "math/bits.deBruijn64tab", "math/bits.divideError", "math/bits.overflowError"], apart := false, laid := [("math/bits.deBruijn32tab", laid_math_bits_deBruijn32tab), ("math/bits.deBruijn64tab", laid_math_bits_deBruijn64tab), ("internal/strconv.uint64pow10", laid_internal_strconv_uint64pow10)], narrowed := true }
def ReportSpansUptoSaid : Prop := reportSpansUptoRow.holds Tryd.pinned (OpenSpec.upto reportSpansSpec)

/-- 'remoralaw48.ReportOnce', WHERE WHAT IT READS IS OF BULK AT MOST 1048576: true; the input reads as it did. -/
def reportOnceUptoRow : OpenClaim := { program := "ythnhieikeigjcaadoor", sum := "265c83c09f2908e0c8d50c1595e5b4ccae78be945386fec59662147a633f0221", func := "remora/remoralaw48.ReportOnce", spec := "reportOnce", inPlace := ["internal/abi.NoEscape"], named := ["internal/strconv.uint64pow10", "math/bits.deBruijn32tab", "math/bits.deBruijn64tab", "math/bits.divideError", "math/bits.overflowError"], apart := false, laid := [("math/bits.deBruijn32tab", laid_math_bits_deBruijn32tab), ("math/bits.deBruijn64tab", laid_math_bits_deBruijn64tab), ("internal/strconv.uint64pow10", laid_internal_strconv_uint64pow10)], narrowed := true }
def ReportOnceUptoSaid : Prop := reportOnceUptoRow.holds Tryd.pinned (OpenSpec.upto reportOnceSpec)

end Rows
end Go.Proofs.YthnhieikeigjcaaDoor
