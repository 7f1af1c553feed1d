/-
  NARROWER THAN 'FOR EVERY INPUT', by the rows' own cells (each row's printed sentence says how): FnExactPatternOf: laid · FnExactGraphOfIntervals: laid · FnExactWordModel: laid · FnExactQuotientBy: laid · FnExactEdgesIn: laid · FnExactClawOf: laid · FnExactApartTriple: laid · FnExactIntervalsOk: laid · FnUndone: laid.
  DERIVED. THE GIVEN ROWS OF THIS SEAT. 9 by the template 'for every input the law returns true; each argument reads behind the call as it read before'; 0 by the template 'total and deterministic' (their statements: YtehejjmmbjekgaaDoorTotals.lean).
  GIVEN WITH THE SEED: the statements are not yours to turn. If you find one false, say at which input.
  Laid BY PROGRAM, IN A SANDBOX (cutbox-rows.mjs): the forced cells as the released guide's own fill.sh prints them over the translation 7e522399ce80e972… (all of the seat's roots in one cut). By AI agents, Wed Nov 11 2026. No macro, syntax, notation, axiom, sorry.
-/
import Derived.Test.YtehejjmmbjekgaaDoorChecked
import GoSem.Claim
import GoSem.ClaimJoined
import GoSem.ClaimMapViews
import Derived.JoinedTies
import Derived.KernelRfl
namespace Go.Proofs.YtehejjmmbjekgaaDoor
/- THE CELL 'sum', in the pinned program and in every row, IS THE sha256 OF THE DUMP (.gsa) THAT YtehejjmmbjekgaaDoorProg.lean LOADS. Nothing in Lean hashes anything: it is a label: what it is worth is what the hold of that sum in a sandbox is worth. -/
noncomputable def Tryd.pinned : Pinned := { name := "ytehejjmmbjekgaadoor", sum := "7e522399ce80e97267c4aeb1b2e9921ed1170fdc5d8ebeb1ad46772b3c4aa872", checked := Tryd.checked }
namespace Rows
def none {H : Type} : Left H := { results := [], args := [] }

/- WHAT THE LISTED PACKAGE-LEVEL VARIABLES READ AS WHEN THE CALL BEGINS. Each datum BY PROGRAM (the guide's laid-datum.mjs) off the statement by which the dump's own 'gosem.cut.vars' lays the variable. In a bare row this is a premise. The card (YtehejjmmbjekgaaDoorCards.lean) ties it to the program's text. -/
def laid_math_bits_deBruijn32tab {H : Type} : DataW H := .agg [.lit (.int .u8 0), .lit (.int .u8 1), .lit (.int .u8 28), .lit (.int .u8 2), .lit (.int .u8 29), .lit (.int .u8 14), .lit (.int .u8 24), .lit (.int .u8 3), .lit (.int .u8 30), .lit (.int .u8 22), .lit (.int .u8 20), .lit (.int .u8 15), .lit (.int .u8 25), .lit (.int .u8 17), .lit (.int .u8 4), .lit (.int .u8 8), .lit (.int .u8 31), .lit (.int .u8 27), .lit (.int .u8 13), .lit (.int .u8 23), .lit (.int .u8 21), .lit (.int .u8 19), .lit (.int .u8 16), .lit (.int .u8 7), .lit (.int .u8 26), .lit (.int .u8 12), .lit (.int .u8 18), .lit (.int .u8 6), .lit (.int .u8 11), .lit (.int .u8 5), .lit (.int .u8 10), .lit (.int .u8 9)]

/-- 'laws.FnExactPatternOf': WHATEVER THE INPUT: true; the input reads as it did. -/
def fnExactPatternOfSpec : ChangeSpec := { name := "fnExactPatternOf", fn := fun _ => fun
  | [d] => { results := [.lit (.bool true)], args := [d] }
  | _ => none }
def fnExactPatternOfRow : OpenClaim := { program := "ytehejjmmbjekgaadoor", sum := "7e522399ce80e97267c4aeb1b2e9921ed1170fdc5d8ebeb1ad46772b3c4aa872", func := "loop.example/g00871/laws.FnExactPatternOf", spec := "fnExactPatternOf", named := ["math/bits.deBruijn32tab"], apart := false, laid := [("math/bits.deBruijn32tab", laid_math_bits_deBruijn32tab)] }
def FnExactPatternOfSaid : Prop := fnExactPatternOfRow.holds Tryd.pinned (OpenSpec.ofChange fnExactPatternOfSpec)

/-- ITS FALSE NEIGHBOUR: 'it returns false'. Refute it at one input. -/
def fnExactPatternOfWrong : ChangeSpec := { name := "fnExactPatternOf", fn := fun _ => fun
  | [d] => { results := [.lit (.bool false)], args := [d] }
  | _ => none }
def FnExactPatternOfWrongFalsely : Prop := fnExactPatternOfRow.holds Tryd.pinned (OpenSpec.ofChange fnExactPatternOfWrong)

/-- 'laws.FnExactGraphOfIntervals': WHATEVER THE INPUT: true; the input reads as it did. -/
def fnExactGraphOfIntervalsSpec : ChangeSpec := { name := "fnExactGraphOfIntervals", fn := fun _ => fun
  | [d] => { results := [.lit (.bool true)], args := [d] }
  | _ => none }
def fnExactGraphOfIntervalsRow : OpenClaim := { program := "ytehejjmmbjekgaadoor", sum := "7e522399ce80e97267c4aeb1b2e9921ed1170fdc5d8ebeb1ad46772b3c4aa872", func := "loop.example/g00871/laws.FnExactGraphOfIntervals", spec := "fnExactGraphOfIntervals", unfollowed := true, recurses := true, named := ["math/bits.deBruijn32tab"], apart := false, laid := [("math/bits.deBruijn32tab", laid_math_bits_deBruijn32tab)] }
def FnExactGraphOfIntervalsSaid : Prop := fnExactGraphOfIntervalsRow.holds Tryd.pinned (OpenSpec.ofChange fnExactGraphOfIntervalsSpec)

/-- ITS FALSE NEIGHBOUR: 'it returns false'. Refute it at one input. -/
def fnExactGraphOfIntervalsWrong : ChangeSpec := { name := "fnExactGraphOfIntervals", fn := fun _ => fun
  | [d] => { results := [.lit (.bool false)], args := [d] }
  | _ => none }
def FnExactGraphOfIntervalsWrongFalsely : Prop := fnExactGraphOfIntervalsRow.holds Tryd.pinned (OpenSpec.ofChange fnExactGraphOfIntervalsWrong)

/-- 'laws.FnExactWordModel': WHATEVER THE INPUT: true; the input reads as it did. -/
def fnExactWordModelSpec : ChangeSpec := { name := "fnExactWordModel", fn := fun _ => fun
  | [d] => { results := [.lit (.bool true)], args := [d] }
  | _ => none }
def fnExactWordModelRow : OpenClaim := { program := "ytehejjmmbjekgaadoor", sum := "7e522399ce80e97267c4aeb1b2e9921ed1170fdc5d8ebeb1ad46772b3c4aa872", func := "loop.example/g00871/laws.FnExactWordModel", spec := "fnExactWordModel", unfollowed := true, recurses := true, named := ["math/bits.deBruijn32tab"], apart := false, laid := [("math/bits.deBruijn32tab", laid_math_bits_deBruijn32tab)] }
def FnExactWordModelSaid : Prop := fnExactWordModelRow.holds Tryd.pinned (OpenSpec.ofChange fnExactWordModelSpec)

/-- ITS FALSE NEIGHBOUR: 'it returns false'. Refute it at one input. -/
def fnExactWordModelWrong : ChangeSpec := { name := "fnExactWordModel", fn := fun _ => fun
  | [d] => { results := [.lit (.bool false)], args := [d] }
  | _ => none }
def FnExactWordModelWrongFalsely : Prop := fnExactWordModelRow.holds Tryd.pinned (OpenSpec.ofChange fnExactWordModelWrong)

/-- 'laws.FnExactQuotientBy': WHATEVER THE INPUT: true; the input reads as it did. -/
def fnExactQuotientBySpec : ChangeSpec := { name := "fnExactQuotientBy", fn := fun _ => fun
  | [d1, d2] => { results := [.lit (.bool true)], args := [d1, d2] }
  | _ => none }
def fnExactQuotientByRow : OpenClaim := { program := "ytehejjmmbjekgaadoor", sum := "7e522399ce80e97267c4aeb1b2e9921ed1170fdc5d8ebeb1ad46772b3c4aa872", func := "loop.example/g00871/laws.FnExactQuotientBy", spec := "fnExactQuotientBy", unfollowed := true, recurses := true, named := ["math/bits.deBruijn32tab"], apart := false, laid := [("math/bits.deBruijn32tab", laid_math_bits_deBruijn32tab)] }
def FnExactQuotientBySaid : Prop := fnExactQuotientByRow.holds Tryd.pinned (OpenSpec.ofChange fnExactQuotientBySpec)

/-- ITS FALSE NEIGHBOUR: 'it returns false'. Refute it at one input. -/
def fnExactQuotientByWrong : ChangeSpec := { name := "fnExactQuotientBy", fn := fun _ => fun
  | [d1, d2] => { results := [.lit (.bool false)], args := [d1, d2] }
  | _ => none }
def FnExactQuotientByWrongFalsely : Prop := fnExactQuotientByRow.holds Tryd.pinned (OpenSpec.ofChange fnExactQuotientByWrong)

/-- 'laws.FnExactEdgesIn': WHATEVER THE INPUT: true; the input reads as it did. -/
def fnExactEdgesInSpec : ChangeSpec := { name := "fnExactEdgesIn", fn := fun _ => fun
  | [d] => { results := [.lit (.bool true)], args := [d] }
  | _ => none }
def fnExactEdgesInRow : OpenClaim := { program := "ytehejjmmbjekgaadoor", sum := "7e522399ce80e97267c4aeb1b2e9921ed1170fdc5d8ebeb1ad46772b3c4aa872", func := "loop.example/g00871/laws.FnExactEdgesIn", spec := "fnExactEdgesIn", named := ["math/bits.deBruijn32tab"], apart := false, laid := [("math/bits.deBruijn32tab", laid_math_bits_deBruijn32tab)] }
def FnExactEdgesInSaid : Prop := fnExactEdgesInRow.holds Tryd.pinned (OpenSpec.ofChange fnExactEdgesInSpec)

/-- ITS FALSE NEIGHBOUR: 'it returns false'. Refute it at one input. -/
def fnExactEdgesInWrong : ChangeSpec := { name := "fnExactEdgesIn", fn := fun _ => fun
  | [d] => { results := [.lit (.bool false)], args := [d] }
  | _ => none }
def FnExactEdgesInWrongFalsely : Prop := fnExactEdgesInRow.holds Tryd.pinned (OpenSpec.ofChange fnExactEdgesInWrong)

/-- 'laws.FnExactClawOf': WHATEVER THE INPUT: true; the input reads as it did. -/
def fnExactClawOfSpec : ChangeSpec := { name := "fnExactClawOf", fn := fun _ => fun
  | [d] => { results := [.lit (.bool true)], args := [d] }
  | _ => none }
def fnExactClawOfRow : OpenClaim := { program := "ytehejjmmbjekgaadoor", sum := "7e522399ce80e97267c4aeb1b2e9921ed1170fdc5d8ebeb1ad46772b3c4aa872", func := "loop.example/g00871/laws.FnExactClawOf", spec := "fnExactClawOf", unfollowed := true, recurses := true, named := ["math/bits.deBruijn32tab"], apart := false, laid := [("math/bits.deBruijn32tab", laid_math_bits_deBruijn32tab)] }
def FnExactClawOfSaid : Prop := fnExactClawOfRow.holds Tryd.pinned (OpenSpec.ofChange fnExactClawOfSpec)

/-- ITS FALSE NEIGHBOUR: 'it returns false'. Refute it at one input. -/
def fnExactClawOfWrong : ChangeSpec := { name := "fnExactClawOf", fn := fun _ => fun
  | [d] => { results := [.lit (.bool false)], args := [d] }
  | _ => none }
def FnExactClawOfWrongFalsely : Prop := fnExactClawOfRow.holds Tryd.pinned (OpenSpec.ofChange fnExactClawOfWrong)

/-- 'laws.FnExactApartTriple': WHATEVER THE INPUT: true; the input reads as it did. -/
def fnExactApartTripleSpec : ChangeSpec := { name := "fnExactApartTriple", fn := fun _ => fun
  | [d] => { results := [.lit (.bool true)], args := [d] }
  | _ => none }
def fnExactApartTripleRow : OpenClaim := { program := "ytehejjmmbjekgaadoor", sum := "7e522399ce80e97267c4aeb1b2e9921ed1170fdc5d8ebeb1ad46772b3c4aa872", func := "loop.example/g00871/laws.FnExactApartTriple", spec := "fnExactApartTriple", unfollowed := true, recurses := true, named := ["math/bits.deBruijn32tab"], apart := false, laid := [("math/bits.deBruijn32tab", laid_math_bits_deBruijn32tab)] }
def FnExactApartTripleSaid : Prop := fnExactApartTripleRow.holds Tryd.pinned (OpenSpec.ofChange fnExactApartTripleSpec)

/-- ITS FALSE NEIGHBOUR: 'it returns false'. Refute it at one input. -/
def fnExactApartTripleWrong : ChangeSpec := { name := "fnExactApartTriple", fn := fun _ => fun
  | [d] => { results := [.lit (.bool false)], args := [d] }
  | _ => none }
def FnExactApartTripleWrongFalsely : Prop := fnExactApartTripleRow.holds Tryd.pinned (OpenSpec.ofChange fnExactApartTripleWrong)

/-- 'laws.FnExactIntervalsOk': WHATEVER THE INPUT: true; the input reads as it did. -/
def fnExactIntervalsOkSpec : ChangeSpec := { name := "fnExactIntervalsOk", fn := fun _ => fun
  | [d1, d2] => { results := [.lit (.bool true)], args := [d1, d2] }
  | _ => none }
def fnExactIntervalsOkRow : OpenClaim := { program := "ytehejjmmbjekgaadoor", sum := "7e522399ce80e97267c4aeb1b2e9921ed1170fdc5d8ebeb1ad46772b3c4aa872", func := "loop.example/g00871/laws.FnExactIntervalsOk", spec := "fnExactIntervalsOk", unfollowed := true, recurses := true, named := ["math/bits.deBruijn32tab"], apart := false, laid := [("math/bits.deBruijn32tab", laid_math_bits_deBruijn32tab)] }
def FnExactIntervalsOkSaid : Prop := fnExactIntervalsOkRow.holds Tryd.pinned (OpenSpec.ofChange fnExactIntervalsOkSpec)

/-- ITS FALSE NEIGHBOUR: 'it returns false'. Refute it at one input. -/
def fnExactIntervalsOkWrong : ChangeSpec := { name := "fnExactIntervalsOk", fn := fun _ => fun
  | [d1, d2] => { results := [.lit (.bool false)], args := [d1, d2] }
  | _ => none }
def FnExactIntervalsOkWrongFalsely : Prop := fnExactIntervalsOkRow.holds Tryd.pinned (OpenSpec.ofChange fnExactIntervalsOkWrong)

/-- 'laws.FnUndone': WHATEVER THE INPUT: true; the input reads as it did. -/
def fnUndoneSpec : ChangeSpec := { name := "fnUndone", fn := fun _ => fun
  | [d] => { results := [.lit (.bool true)], args := [d] }
  | _ => none }
def fnUndoneRow : OpenClaim := { program := "ytehejjmmbjekgaadoor", sum := "7e522399ce80e97267c4aeb1b2e9921ed1170fdc5d8ebeb1ad46772b3c4aa872", func := "loop.example/g00871/laws.FnUndone", spec := "fnUndone", unfollowed := true, recurses := true, named := ["math/bits.deBruijn32tab"], apart := false, laid := [("math/bits.deBruijn32tab", laid_math_bits_deBruijn32tab)] }
def FnUndoneSaid : Prop := fnUndoneRow.holds Tryd.pinned (OpenSpec.ofChange fnUndoneSpec)

/-- ITS FALSE NEIGHBOUR: 'it returns false'. Refute it at one input. -/
def fnUndoneWrong : ChangeSpec := { name := "fnUndone", fn := fun _ => fun
  | [d] => { results := [.lit (.bool false)], args := [d] }
  | _ => none }
def FnUndoneWrongFalsely : Prop := fnUndoneRow.holds Tryd.pinned (OpenSpec.ofChange fnUndoneWrong)

/- THE SECOND FORM. 'bulk': how many values and letters a reading holds, each counted each time it is reached (what is shared counts as often as it is met; a slice's spare places count too). A statement '..UptoSaid' is the law's where the arguments, and the package variables that the reading takes, are together of bulk at most 1048576: NARROWER than '..Said'. Prove '..Said' where nothing that the law and all that it calls make is longer than what came in: it says more and counts as full. Else prove '..UptoSaid'. A law counts once. -/
mutual
def uptoBulk {H : Type} : DataW H → Nat
  | .lit (.string bytes) => bytes.length + 1
  | .lit _ => 1
  | .nil => 1
  | .ptr d => uptoBulk d + 1
  | .slice elems spare => uptoBulkAll elems + uptoBulkAll spare + 1
  | .agg parts => uptoBulkAll parts + 1
  | .iface _ d => uptoBulk d + 1
  | .map entries => uptoBulkEntries entries + 1
  | .held _ => 1
def uptoBulkAll {H : Type} : List (DataW H) → Nat
  | [] => 0
  | d :: r => uptoBulk d + uptoBulkAll r
def uptoBulkEntries {H : Type} : List (Lit × DataW H) → Nat
  | [] => 0
  | x :: r => uptoBulkEntry x + uptoBulkEntries r
def uptoBulkEntry {H : Type} : Lit × DataW H → Nat
  | (.string bytes, d) => bytes.length + uptoBulk d + 1
  | (_, d) => uptoBulk d + 1
 end
def uptoSmall : (H : Type) → List (DataW H) → Bool := fun _ ds => decide (uptoBulkAll ds ≤ 1048576)
def OpenSpec.upto (s : _root_.Go.ChangeSpec) : _root_.Go.OpenSpec := { _root_.Go.OpenSpec.ofChange s with cond := some uptoSmall }

/-- 'laws.FnExactPatternOf', WHERE WHAT IT READS IS OF BULK AT MOST 1048576: true; the input reads as it did. -/
def fnExactPatternOfUptoRow : OpenClaim := { program := "ytehejjmmbjekgaadoor", sum := "7e522399ce80e97267c4aeb1b2e9921ed1170fdc5d8ebeb1ad46772b3c4aa872", func := "loop.example/g00871/laws.FnExactPatternOf", spec := "fnExactPatternOf", named := ["math/bits.deBruijn32tab"], apart := false, laid := [("math/bits.deBruijn32tab", laid_math_bits_deBruijn32tab)], narrowed := true }
def FnExactPatternOfUptoSaid : Prop := fnExactPatternOfUptoRow.holds Tryd.pinned (OpenSpec.upto fnExactPatternOfSpec)

/-- 'laws.FnExactGraphOfIntervals', WHERE WHAT IT READS IS OF BULK AT MOST 1048576: true; the input reads as it did. -/
def fnExactGraphOfIntervalsUptoRow : OpenClaim := { program := "ytehejjmmbjekgaadoor", sum := "7e522399ce80e97267c4aeb1b2e9921ed1170fdc5d8ebeb1ad46772b3c4aa872", func := "loop.example/g00871/laws.FnExactGraphOfIntervals", spec := "fnExactGraphOfIntervals", unfollowed := true, recurses := true, named := ["math/bits.deBruijn32tab"], apart := false, laid := [("math/bits.deBruijn32tab", laid_math_bits_deBruijn32tab)], narrowed := true }
def FnExactGraphOfIntervalsUptoSaid : Prop := fnExactGraphOfIntervalsUptoRow.holds Tryd.pinned (OpenSpec.upto fnExactGraphOfIntervalsSpec)

/-- 'laws.FnExactWordModel', WHERE WHAT IT READS IS OF BULK AT MOST 1048576: true; the input reads as it did. -/
def fnExactWordModelUptoRow : OpenClaim := { program := "ytehejjmmbjekgaadoor", sum := "7e522399ce80e97267c4aeb1b2e9921ed1170fdc5d8ebeb1ad46772b3c4aa872", func := "loop.example/g00871/laws.FnExactWordModel", spec := "fnExactWordModel", unfollowed := true, recurses := true, named := ["math/bits.deBruijn32tab"], apart := false, laid := [("math/bits.deBruijn32tab", laid_math_bits_deBruijn32tab)], narrowed := true }
def FnExactWordModelUptoSaid : Prop := fnExactWordModelUptoRow.holds Tryd.pinned (OpenSpec.upto fnExactWordModelSpec)

/-- 'laws.FnExactQuotientBy', WHERE WHAT IT READS IS OF BULK AT MOST 1048576: true; the input reads as it did. -/
def fnExactQuotientByUptoRow : OpenClaim := { program := "ytehejjmmbjekgaadoor", sum := "7e522399ce80e97267c4aeb1b2e9921ed1170fdc5d8ebeb1ad46772b3c4aa872", func := "loop.example/g00871/laws.FnExactQuotientBy", spec := "fnExactQuotientBy", unfollowed := true, recurses := true, named := ["math/bits.deBruijn32tab"], apart := false, laid := [("math/bits.deBruijn32tab", laid_math_bits_deBruijn32tab)], narrowed := true }
def FnExactQuotientByUptoSaid : Prop := fnExactQuotientByUptoRow.holds Tryd.pinned (OpenSpec.upto fnExactQuotientBySpec)

/-- 'laws.FnExactEdgesIn', WHERE WHAT IT READS IS OF BULK AT MOST 1048576: true; the input reads as it did. -/
def fnExactEdgesInUptoRow : OpenClaim := { program := "ytehejjmmbjekgaadoor", sum := "7e522399ce80e97267c4aeb1b2e9921ed1170fdc5d8ebeb1ad46772b3c4aa872", func := "loop.example/g00871/laws.FnExactEdgesIn", spec := "fnExactEdgesIn", named := ["math/bits.deBruijn32tab"], apart := false, laid := [("math/bits.deBruijn32tab", laid_math_bits_deBruijn32tab)], narrowed := true }
def FnExactEdgesInUptoSaid : Prop := fnExactEdgesInUptoRow.holds Tryd.pinned (OpenSpec.upto fnExactEdgesInSpec)

/-- 'laws.FnExactClawOf', WHERE WHAT IT READS IS OF BULK AT MOST 1048576: true; the input reads as it did. -/
def fnExactClawOfUptoRow : OpenClaim := { program := "ytehejjmmbjekgaadoor", sum := "7e522399ce80e97267c4aeb1b2e9921ed1170fdc5d8ebeb1ad46772b3c4aa872", func := "loop.example/g00871/laws.FnExactClawOf", spec := "fnExactClawOf", unfollowed := true, recurses := true, named := ["math/bits.deBruijn32tab"], apart := false, laid := [("math/bits.deBruijn32tab", laid_math_bits_deBruijn32tab)], narrowed := true }
def FnExactClawOfUptoSaid : Prop := fnExactClawOfUptoRow.holds Tryd.pinned (OpenSpec.upto fnExactClawOfSpec)

/-- 'laws.FnExactApartTriple', WHERE WHAT IT READS IS OF BULK AT MOST 1048576: true; the input reads as it did. -/
def fnExactApartTripleUptoRow : OpenClaim := { program := "ytehejjmmbjekgaadoor", sum := "7e522399ce80e97267c4aeb1b2e9921ed1170fdc5d8ebeb1ad46772b3c4aa872", func := "loop.example/g00871/laws.FnExactApartTriple", spec := "fnExactApartTriple", unfollowed := true, recurses := true, named := ["math/bits.deBruijn32tab"], apart := false, laid := [("math/bits.deBruijn32tab", laid_math_bits_deBruijn32tab)], narrowed := true }
def FnExactApartTripleUptoSaid : Prop := fnExactApartTripleUptoRow.holds Tryd.pinned (OpenSpec.upto fnExactApartTripleSpec)

/-- 'laws.FnExactIntervalsOk', WHERE WHAT IT READS IS OF BULK AT MOST 1048576: true; the input reads as it did. -/
def fnExactIntervalsOkUptoRow : OpenClaim := { program := "ytehejjmmbjekgaadoor", sum := "7e522399ce80e97267c4aeb1b2e9921ed1170fdc5d8ebeb1ad46772b3c4aa872", func := "loop.example/g00871/laws.FnExactIntervalsOk", spec := "fnExactIntervalsOk", unfollowed := true, recurses := true, named := ["math/bits.deBruijn32tab"], apart := false, laid := [("math/bits.deBruijn32tab", laid_math_bits_deBruijn32tab)], narrowed := true }
def FnExactIntervalsOkUptoSaid : Prop := fnExactIntervalsOkUptoRow.holds Tryd.pinned (OpenSpec.upto fnExactIntervalsOkSpec)

/-- 'laws.FnUndone', WHERE WHAT IT READS IS OF BULK AT MOST 1048576: true; the input reads as it did. -/
def fnUndoneUptoRow : OpenClaim := { program := "ytehejjmmbjekgaadoor", sum := "7e522399ce80e97267c4aeb1b2e9921ed1170fdc5d8ebeb1ad46772b3c4aa872", func := "loop.example/g00871/laws.FnUndone", spec := "fnUndone", unfollowed := true, recurses := true, named := ["math/bits.deBruijn32tab"], apart := false, laid := [("math/bits.deBruijn32tab", laid_math_bits_deBruijn32tab)], narrowed := true }
def FnUndoneUptoSaid : Prop := fnUndoneUptoRow.holds Tryd.pinned (OpenSpec.upto fnUndoneSpec)

end Rows
end Go.Proofs.YtehejjmmbjekgaaDoor
