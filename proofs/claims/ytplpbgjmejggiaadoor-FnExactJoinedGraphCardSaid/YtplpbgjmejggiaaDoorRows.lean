/-
  NARROWER THAN 'FOR EVERY INPUT', by the rows' own cells (each row's printed sentence says how): FnExactWordModel: laid · FnExactFullGraph: laid · FnExactPatternOf: laid · FnExactGraphOf: laid · FnExactGraphOfIntervals: laid · FnExactTwoSided: laid · FnExactWheelGraph: laid · FnExactBeside: laid · FnExactJoinedGraph: laid · FnExactComplement: laid · FnExactAddedVertex: laid · FnExactQuotientBy: laid.
  DERIVED. THE GIVEN ROWS OF THIS SEAT. 12 by the template 'for every input the law returns true; each argument reads behind the call as it read before'; 0 by the template 'total and deterministic' (their statements: YtplpbgjmejggiaaDoorTotals.lean).
  GIVEN WITH THE SEED: the statements are not yours to turn. If you find one false, say at which input.
  Laid BY PROGRAM, IN A SANDBOX (cutbox-rows.mjs): the forced cells as the released guide's own fill.sh prints them over the translation e79eb52633bf6837… (all of the seat's roots in one cut). By AI agents, Wed Nov 11 2026. No macro, syntax, notation, axiom, sorry.
-/
import Derived.Test.YtplpbgjmejggiaaDoorChecked
import GoSem.Claim
import GoSem.ClaimJoined
import GoSem.ClaimMapViews
import Derived.JoinedTies
import Derived.KernelRfl
namespace Go.Proofs.YtplpbgjmejggiaaDoor
/- THE CELL 'sum', in the pinned program and in every row, IS THE sha256 OF THE DUMP (.gsa) THAT YtplpbgjmejggiaaDoorProg.lean LOADS. Nothing in Lean hashes anything: it is a label: what it is worth is what the hold of that sum in a sandbox is worth. -/
noncomputable def Tryd.pinned : Pinned := { name := "ytplpbgjmejggiaadoor", sum := "e79eb52633bf68371086c73964f9d87d418dc14745e2f71177bdb8d7536fdea4", checked := Tryd.checked }
namespace Rows
def none {H : Type} : Left H := { results := [], args := [] }

/- WHAT THE LISTED PACKAGE-LEVEL VARIABLES READ AS WHEN THE CALL BEGINS. Each datum BY PROGRAM (the guide's laid-datum.mjs) off the statement by which the dump's own 'gosem.cut.vars' lays the variable. In a bare row this is a premise. The card (YtplpbgjmejggiaaDoorCards.lean) ties it to the program's text. -/
def laid_math_bits_deBruijn32tab {H : Type} : DataW H := .agg [.lit (.int .u8 0), .lit (.int .u8 1), .lit (.int .u8 28), .lit (.int .u8 2), .lit (.int .u8 29), .lit (.int .u8 14), .lit (.int .u8 24), .lit (.int .u8 3), .lit (.int .u8 30), .lit (.int .u8 22), .lit (.int .u8 20), .lit (.int .u8 15), .lit (.int .u8 25), .lit (.int .u8 17), .lit (.int .u8 4), .lit (.int .u8 8), .lit (.int .u8 31), .lit (.int .u8 27), .lit (.int .u8 13), .lit (.int .u8 23), .lit (.int .u8 21), .lit (.int .u8 19), .lit (.int .u8 16), .lit (.int .u8 7), .lit (.int .u8 26), .lit (.int .u8 12), .lit (.int .u8 18), .lit (.int .u8 6), .lit (.int .u8 11), .lit (.int .u8 5), .lit (.int .u8 10), .lit (.int .u8 9)]

/-- 'laws.FnExactWordModel': WHATEVER THE INPUT: true; the input reads as it did. -/
def fnExactWordModelSpec : ChangeSpec := { name := "fnExactWordModel", fn := fun _ => fun
  | [d] => { results := [.lit (.bool true)], args := [d] }
  | _ => none }
def fnExactWordModelRow : OpenClaim := { program := "ytplpbgjmejggiaadoor", sum := "e79eb52633bf68371086c73964f9d87d418dc14745e2f71177bdb8d7536fdea4", func := "loop.example/g00871/laws.FnExactWordModel", spec := "fnExactWordModel", unfollowed := true, recurses := true, named := ["math/bits.deBruijn32tab"], apart := false, laid := [("math/bits.deBruijn32tab", laid_math_bits_deBruijn32tab)] }
def FnExactWordModelSaid : Prop := fnExactWordModelRow.holds Tryd.pinned (OpenSpec.ofChange fnExactWordModelSpec)

/-- ITS FALSE NEIGHBOUR: 'it returns false'. Refute it at one input. -/
def fnExactWordModelWrong : ChangeSpec := { name := "fnExactWordModel", fn := fun _ => fun
  | [d] => { results := [.lit (.bool false)], args := [d] }
  | _ => none }
def FnExactWordModelWrongFalsely : Prop := fnExactWordModelRow.holds Tryd.pinned (OpenSpec.ofChange fnExactWordModelWrong)

/-- 'laws.FnExactFullGraph': WHATEVER THE INPUT: true; the input reads as it did. -/
def fnExactFullGraphSpec : ChangeSpec := { name := "fnExactFullGraph", fn := fun _ => fun
  | [d] => { results := [.lit (.bool true)], args := [d] }
  | _ => none }
def fnExactFullGraphRow : OpenClaim := { program := "ytplpbgjmejggiaadoor", sum := "e79eb52633bf68371086c73964f9d87d418dc14745e2f71177bdb8d7536fdea4", func := "loop.example/g00871/laws.FnExactFullGraph", spec := "fnExactFullGraph", named := ["math/bits.deBruijn32tab"], apart := false, laid := [("math/bits.deBruijn32tab", laid_math_bits_deBruijn32tab)] }
def FnExactFullGraphSaid : Prop := fnExactFullGraphRow.holds Tryd.pinned (OpenSpec.ofChange fnExactFullGraphSpec)

/-- ITS FALSE NEIGHBOUR: 'it returns false'. Refute it at one input. -/
def fnExactFullGraphWrong : ChangeSpec := { name := "fnExactFullGraph", fn := fun _ => fun
  | [d] => { results := [.lit (.bool false)], args := [d] }
  | _ => none }
def FnExactFullGraphWrongFalsely : Prop := fnExactFullGraphRow.holds Tryd.pinned (OpenSpec.ofChange fnExactFullGraphWrong)

/-- 'laws.FnExactPatternOf': WHATEVER THE INPUT: true; the input reads as it did. -/
def fnExactPatternOfSpec : ChangeSpec := { name := "fnExactPatternOf", fn := fun _ => fun
  | [d] => { results := [.lit (.bool true)], args := [d] }
  | _ => none }
def fnExactPatternOfRow : OpenClaim := { program := "ytplpbgjmejggiaadoor", sum := "e79eb52633bf68371086c73964f9d87d418dc14745e2f71177bdb8d7536fdea4", func := "loop.example/g00871/laws.FnExactPatternOf", spec := "fnExactPatternOf", named := ["math/bits.deBruijn32tab"], apart := false, laid := [("math/bits.deBruijn32tab", laid_math_bits_deBruijn32tab)] }
def FnExactPatternOfSaid : Prop := fnExactPatternOfRow.holds Tryd.pinned (OpenSpec.ofChange fnExactPatternOfSpec)

/-- ITS FALSE NEIGHBOUR: 'it returns false'. Refute it at one input. -/
def fnExactPatternOfWrong : ChangeSpec := { name := "fnExactPatternOf", fn := fun _ => fun
  | [d] => { results := [.lit (.bool false)], args := [d] }
  | _ => none }
def FnExactPatternOfWrongFalsely : Prop := fnExactPatternOfRow.holds Tryd.pinned (OpenSpec.ofChange fnExactPatternOfWrong)

/-- 'laws.FnExactGraphOf': WHATEVER THE INPUT: true; the input reads as it did. -/
def fnExactGraphOfSpec : ChangeSpec := { name := "fnExactGraphOf", fn := fun _ => fun
  | [d1, d2] => { results := [.lit (.bool true)], args := [d1, d2] }
  | _ => none }
def fnExactGraphOfRow : OpenClaim := { program := "ytplpbgjmejggiaadoor", sum := "e79eb52633bf68371086c73964f9d87d418dc14745e2f71177bdb8d7536fdea4", func := "loop.example/g00871/laws.FnExactGraphOf", spec := "fnExactGraphOf", named := ["math/bits.deBruijn32tab"], apart := false, laid := [("math/bits.deBruijn32tab", laid_math_bits_deBruijn32tab)] }
def FnExactGraphOfSaid : Prop := fnExactGraphOfRow.holds Tryd.pinned (OpenSpec.ofChange fnExactGraphOfSpec)

/-- ITS FALSE NEIGHBOUR: 'it returns false'. Refute it at one input. -/
def fnExactGraphOfWrong : ChangeSpec := { name := "fnExactGraphOf", fn := fun _ => fun
  | [d1, d2] => { results := [.lit (.bool false)], args := [d1, d2] }
  | _ => none }
def FnExactGraphOfWrongFalsely : Prop := fnExactGraphOfRow.holds Tryd.pinned (OpenSpec.ofChange fnExactGraphOfWrong)

/-- 'laws.FnExactGraphOfIntervals': WHATEVER THE INPUT: true; the input reads as it did. -/
def fnExactGraphOfIntervalsSpec : ChangeSpec := { name := "fnExactGraphOfIntervals", fn := fun _ => fun
  | [d] => { results := [.lit (.bool true)], args := [d] }
  | _ => none }
def fnExactGraphOfIntervalsRow : OpenClaim := { program := "ytplpbgjmejggiaadoor", sum := "e79eb52633bf68371086c73964f9d87d418dc14745e2f71177bdb8d7536fdea4", func := "loop.example/g00871/laws.FnExactGraphOfIntervals", spec := "fnExactGraphOfIntervals", unfollowed := true, recurses := true, named := ["math/bits.deBruijn32tab"], apart := false, laid := [("math/bits.deBruijn32tab", laid_math_bits_deBruijn32tab)] }
def FnExactGraphOfIntervalsSaid : Prop := fnExactGraphOfIntervalsRow.holds Tryd.pinned (OpenSpec.ofChange fnExactGraphOfIntervalsSpec)

/-- ITS FALSE NEIGHBOUR: 'it returns false'. Refute it at one input. -/
def fnExactGraphOfIntervalsWrong : ChangeSpec := { name := "fnExactGraphOfIntervals", fn := fun _ => fun
  | [d] => { results := [.lit (.bool false)], args := [d] }
  | _ => none }
def FnExactGraphOfIntervalsWrongFalsely : Prop := fnExactGraphOfIntervalsRow.holds Tryd.pinned (OpenSpec.ofChange fnExactGraphOfIntervalsWrong)

/-- 'laws.FnExactTwoSided': WHATEVER THE INPUT: true; the input reads as it did. -/
def fnExactTwoSidedSpec : ChangeSpec := { name := "fnExactTwoSided", fn := fun _ => fun
  | [d1, d2] => { results := [.lit (.bool true)], args := [d1, d2] }
  | _ => none }
def fnExactTwoSidedRow : OpenClaim := { program := "ytplpbgjmejggiaadoor", sum := "e79eb52633bf68371086c73964f9d87d418dc14745e2f71177bdb8d7536fdea4", func := "loop.example/g00871/laws.FnExactTwoSided", spec := "fnExactTwoSided", named := ["math/bits.deBruijn32tab"], apart := false, laid := [("math/bits.deBruijn32tab", laid_math_bits_deBruijn32tab)] }
def FnExactTwoSidedSaid : Prop := fnExactTwoSidedRow.holds Tryd.pinned (OpenSpec.ofChange fnExactTwoSidedSpec)

/-- ITS FALSE NEIGHBOUR: 'it returns false'. Refute it at one input. -/
def fnExactTwoSidedWrong : ChangeSpec := { name := "fnExactTwoSided", fn := fun _ => fun
  | [d1, d2] => { results := [.lit (.bool false)], args := [d1, d2] }
  | _ => none }
def FnExactTwoSidedWrongFalsely : Prop := fnExactTwoSidedRow.holds Tryd.pinned (OpenSpec.ofChange fnExactTwoSidedWrong)

/-- 'laws.FnExactWheelGraph': WHATEVER THE INPUT: true; the input reads as it did. -/
def fnExactWheelGraphSpec : ChangeSpec := { name := "fnExactWheelGraph", fn := fun _ => fun
  | [d] => { results := [.lit (.bool true)], args := [d] }
  | _ => none }
def fnExactWheelGraphRow : OpenClaim := { program := "ytplpbgjmejggiaadoor", sum := "e79eb52633bf68371086c73964f9d87d418dc14745e2f71177bdb8d7536fdea4", func := "loop.example/g00871/laws.FnExactWheelGraph", spec := "fnExactWheelGraph", named := ["math/bits.deBruijn32tab"], apart := false, laid := [("math/bits.deBruijn32tab", laid_math_bits_deBruijn32tab)] }
def FnExactWheelGraphSaid : Prop := fnExactWheelGraphRow.holds Tryd.pinned (OpenSpec.ofChange fnExactWheelGraphSpec)

/-- ITS FALSE NEIGHBOUR: 'it returns false'. Refute it at one input. -/
def fnExactWheelGraphWrong : ChangeSpec := { name := "fnExactWheelGraph", fn := fun _ => fun
  | [d] => { results := [.lit (.bool false)], args := [d] }
  | _ => none }
def FnExactWheelGraphWrongFalsely : Prop := fnExactWheelGraphRow.holds Tryd.pinned (OpenSpec.ofChange fnExactWheelGraphWrong)

/-- 'laws.FnExactBeside': WHATEVER THE INPUT: true; the input reads as it did. -/
def fnExactBesideSpec : ChangeSpec := { name := "fnExactBeside", fn := fun _ => fun
  | [d1, d2] => { results := [.lit (.bool true)], args := [d1, d2] }
  | _ => none }
def fnExactBesideRow : OpenClaim := { program := "ytplpbgjmejggiaadoor", sum := "e79eb52633bf68371086c73964f9d87d418dc14745e2f71177bdb8d7536fdea4", func := "loop.example/g00871/laws.FnExactBeside", spec := "fnExactBeside", named := ["math/bits.deBruijn32tab"], apart := false, laid := [("math/bits.deBruijn32tab", laid_math_bits_deBruijn32tab)] }
def FnExactBesideSaid : Prop := fnExactBesideRow.holds Tryd.pinned (OpenSpec.ofChange fnExactBesideSpec)

/-- ITS FALSE NEIGHBOUR: 'it returns false'. Refute it at one input. -/
def fnExactBesideWrong : ChangeSpec := { name := "fnExactBeside", fn := fun _ => fun
  | [d1, d2] => { results := [.lit (.bool false)], args := [d1, d2] }
  | _ => none }
def FnExactBesideWrongFalsely : Prop := fnExactBesideRow.holds Tryd.pinned (OpenSpec.ofChange fnExactBesideWrong)

/-- 'laws.FnExactJoinedGraph': WHATEVER THE INPUT: true; the input reads as it did. -/
def fnExactJoinedGraphSpec : ChangeSpec := { name := "fnExactJoinedGraph", fn := fun _ => fun
  | [d1, d2] => { results := [.lit (.bool true)], args := [d1, d2] }
  | _ => none }
def fnExactJoinedGraphRow : OpenClaim := { program := "ytplpbgjmejggiaadoor", sum := "e79eb52633bf68371086c73964f9d87d418dc14745e2f71177bdb8d7536fdea4", func := "loop.example/g00871/laws.FnExactJoinedGraph", spec := "fnExactJoinedGraph", named := ["math/bits.deBruijn32tab"], apart := false, laid := [("math/bits.deBruijn32tab", laid_math_bits_deBruijn32tab)] }
def FnExactJoinedGraphSaid : Prop := fnExactJoinedGraphRow.holds Tryd.pinned (OpenSpec.ofChange fnExactJoinedGraphSpec)

/-- ITS FALSE NEIGHBOUR: 'it returns false'. Refute it at one input. -/
def fnExactJoinedGraphWrong : ChangeSpec := { name := "fnExactJoinedGraph", fn := fun _ => fun
  | [d1, d2] => { results := [.lit (.bool false)], args := [d1, d2] }
  | _ => none }
def FnExactJoinedGraphWrongFalsely : Prop := fnExactJoinedGraphRow.holds Tryd.pinned (OpenSpec.ofChange fnExactJoinedGraphWrong)

/-- 'laws.FnExactComplement': WHATEVER THE INPUT: true; the input reads as it did. -/
def fnExactComplementSpec : ChangeSpec := { name := "fnExactComplement", fn := fun _ => fun
  | [d] => { results := [.lit (.bool true)], args := [d] }
  | _ => none }
def fnExactComplementRow : OpenClaim := { program := "ytplpbgjmejggiaadoor", sum := "e79eb52633bf68371086c73964f9d87d418dc14745e2f71177bdb8d7536fdea4", func := "loop.example/g00871/laws.FnExactComplement", spec := "fnExactComplement", named := ["math/bits.deBruijn32tab"], apart := false, laid := [("math/bits.deBruijn32tab", laid_math_bits_deBruijn32tab)] }
def FnExactComplementSaid : Prop := fnExactComplementRow.holds Tryd.pinned (OpenSpec.ofChange fnExactComplementSpec)

/-- ITS FALSE NEIGHBOUR: 'it returns false'. Refute it at one input. -/
def fnExactComplementWrong : ChangeSpec := { name := "fnExactComplement", fn := fun _ => fun
  | [d] => { results := [.lit (.bool false)], args := [d] }
  | _ => none }
def FnExactComplementWrongFalsely : Prop := fnExactComplementRow.holds Tryd.pinned (OpenSpec.ofChange fnExactComplementWrong)

/-- 'laws.FnExactAddedVertex': WHATEVER THE INPUT: true; the input reads as it did. -/
def fnExactAddedVertexSpec : ChangeSpec := { name := "fnExactAddedVertex", fn := fun _ => fun
  | [d1, d2] => { results := [.lit (.bool true)], args := [d1, d2] }
  | _ => none }
def fnExactAddedVertexRow : OpenClaim := { program := "ytplpbgjmejggiaadoor", sum := "e79eb52633bf68371086c73964f9d87d418dc14745e2f71177bdb8d7536fdea4", func := "loop.example/g00871/laws.FnExactAddedVertex", spec := "fnExactAddedVertex", named := ["math/bits.deBruijn32tab"], apart := false, laid := [("math/bits.deBruijn32tab", laid_math_bits_deBruijn32tab)] }
def FnExactAddedVertexSaid : Prop := fnExactAddedVertexRow.holds Tryd.pinned (OpenSpec.ofChange fnExactAddedVertexSpec)

/-- ITS FALSE NEIGHBOUR: 'it returns false'. Refute it at one input. -/
def fnExactAddedVertexWrong : ChangeSpec := { name := "fnExactAddedVertex", fn := fun _ => fun
  | [d1, d2] => { results := [.lit (.bool false)], args := [d1, d2] }
  | _ => none }
def FnExactAddedVertexWrongFalsely : Prop := fnExactAddedVertexRow.holds Tryd.pinned (OpenSpec.ofChange fnExactAddedVertexWrong)

/-- 'laws.FnExactQuotientBy': WHATEVER THE INPUT: true; the input reads as it did. -/
def fnExactQuotientBySpec : ChangeSpec := { name := "fnExactQuotientBy", fn := fun _ => fun
  | [d1, d2] => { results := [.lit (.bool true)], args := [d1, d2] }
  | _ => none }
def fnExactQuotientByRow : OpenClaim := { program := "ytplpbgjmejggiaadoor", sum := "e79eb52633bf68371086c73964f9d87d418dc14745e2f71177bdb8d7536fdea4", func := "loop.example/g00871/laws.FnExactQuotientBy", spec := "fnExactQuotientBy", unfollowed := true, recurses := true, named := ["math/bits.deBruijn32tab"], apart := false, laid := [("math/bits.deBruijn32tab", laid_math_bits_deBruijn32tab)] }
def FnExactQuotientBySaid : Prop := fnExactQuotientByRow.holds Tryd.pinned (OpenSpec.ofChange fnExactQuotientBySpec)

/-- ITS FALSE NEIGHBOUR: 'it returns false'. Refute it at one input. -/
def fnExactQuotientByWrong : ChangeSpec := { name := "fnExactQuotientBy", fn := fun _ => fun
  | [d1, d2] => { results := [.lit (.bool false)], args := [d1, d2] }
  | _ => none }
def FnExactQuotientByWrongFalsely : Prop := fnExactQuotientByRow.holds Tryd.pinned (OpenSpec.ofChange fnExactQuotientByWrong)

/- THE SECOND FORM. 'bulk': how many values and letters a reading holds, each counted each time it is reached (what is shared counts as often as it is met; a slice's spare places count too). A statement '..UptoSaid' is the law's where the arguments, and the package variables that the reading takes, are together of bulk at most 1048576: NARROWER than '..Said'. Prove '..Said' where nothing that the law and all that it calls make is longer than what came in: it says more and counts as full. Else prove '..UptoSaid'. A law counts once. -/
mutual
def uptoBulk {H : Type} : DataW H → Nat
  | .lit (.string bytes) => bytes.length + 1
  | .lit _ => 1
  | .nil => 1
  | .ptr d => uptoBulk d + 1
  | .slice elems spare => uptoBulkAll elems + uptoBulkAll spare + 1
  | .agg parts => uptoBulkAll parts + 1
  | .iface _ d => uptoBulk d + 1
  | .map entries => uptoBulkEntries entries + 1
  | .held _ => 1
def uptoBulkAll {H : Type} : List (DataW H) → Nat
  | [] => 0
  | d :: r => uptoBulk d + uptoBulkAll r
def uptoBulkEntries {H : Type} : List (Lit × DataW H) → Nat
  | [] => 0
  | x :: r => uptoBulkEntry x + uptoBulkEntries r
def uptoBulkEntry {H : Type} : Lit × DataW H → Nat
  | (.string bytes, d) => bytes.length + uptoBulk d + 1
  | (_, d) => uptoBulk d + 1
 end
def uptoSmall : (H : Type) → List (DataW H) → Bool := fun _ ds => decide (uptoBulkAll ds ≤ 1048576)
def OpenSpec.upto (s : _root_.Go.ChangeSpec) : _root_.Go.OpenSpec := { _root_.Go.OpenSpec.ofChange s with cond := some uptoSmall }

/-- 'laws.FnExactWordModel', WHERE WHAT IT READS IS OF BULK AT MOST 1048576: true; the input reads as it did. -/
def fnExactWordModelUptoRow : OpenClaim := { program := "ytplpbgjmejggiaadoor", sum := "e79eb52633bf68371086c73964f9d87d418dc14745e2f71177bdb8d7536fdea4", func := "loop.example/g00871/laws.FnExactWordModel", spec := "fnExactWordModel", unfollowed := true, recurses := true, named := ["math/bits.deBruijn32tab"], apart := false, laid := [("math/bits.deBruijn32tab", laid_math_bits_deBruijn32tab)], narrowed := true }
def FnExactWordModelUptoSaid : Prop := fnExactWordModelUptoRow.holds Tryd.pinned (OpenSpec.upto fnExactWordModelSpec)

/-- 'laws.FnExactFullGraph', WHERE WHAT IT READS IS OF BULK AT MOST 1048576: true; the input reads as it did. -/
def fnExactFullGraphUptoRow : OpenClaim := { program := "ytplpbgjmejggiaadoor", sum := "e79eb52633bf68371086c73964f9d87d418dc14745e2f71177bdb8d7536fdea4", func := "loop.example/g00871/laws.FnExactFullGraph", spec := "fnExactFullGraph", named := ["math/bits.deBruijn32tab"], apart := false, laid := [("math/bits.deBruijn32tab", laid_math_bits_deBruijn32tab)], narrowed := true }
def FnExactFullGraphUptoSaid : Prop := fnExactFullGraphUptoRow.holds Tryd.pinned (OpenSpec.upto fnExactFullGraphSpec)

/-- 'laws.FnExactPatternOf', WHERE WHAT IT READS IS OF BULK AT MOST 1048576: true; the input reads as it did. -/
def fnExactPatternOfUptoRow : OpenClaim := { program := "ytplpbgjmejggiaadoor", sum := "e79eb52633bf68371086c73964f9d87d418dc14745e2f71177bdb8d7536fdea4", func := "loop.example/g00871/laws.FnExactPatternOf", spec := "fnExactPatternOf", named := ["math/bits.deBruijn32tab"], apart := false, laid := [("math/bits.deBruijn32tab", laid_math_bits_deBruijn32tab)], narrowed := true }
def FnExactPatternOfUptoSaid : Prop := fnExactPatternOfUptoRow.holds Tryd.pinned (OpenSpec.upto fnExactPatternOfSpec)

/-- 'laws.FnExactGraphOf', WHERE WHAT IT READS IS OF BULK AT MOST 1048576: true; the input reads as it did. -/
def fnExactGraphOfUptoRow : OpenClaim := { program := "ytplpbgjmejggiaadoor", sum := "e79eb52633bf68371086c73964f9d87d418dc14745e2f71177bdb8d7536fdea4", func := "loop.example/g00871/laws.FnExactGraphOf", spec := "fnExactGraphOf", named := ["math/bits.deBruijn32tab"], apart := false, laid := [("math/bits.deBruijn32tab", laid_math_bits_deBruijn32tab)], narrowed := true }
def FnExactGraphOfUptoSaid : Prop := fnExactGraphOfUptoRow.holds Tryd.pinned (OpenSpec.upto fnExactGraphOfSpec)

/-- 'laws.FnExactGraphOfIntervals', WHERE WHAT IT READS IS OF BULK AT MOST 1048576: true; the input reads as it did. -/
def fnExactGraphOfIntervalsUptoRow : OpenClaim := { program := "ytplpbgjmejggiaadoor", sum := "e79eb52633bf68371086c73964f9d87d418dc14745e2f71177bdb8d7536fdea4", func := "loop.example/g00871/laws.FnExactGraphOfIntervals", spec := "fnExactGraphOfIntervals", unfollowed := true, recurses := true, named := ["math/bits.deBruijn32tab"], apart := false, laid := [("math/bits.deBruijn32tab", laid_math_bits_deBruijn32tab)], narrowed := true }
def FnExactGraphOfIntervalsUptoSaid : Prop := fnExactGraphOfIntervalsUptoRow.holds Tryd.pinned (OpenSpec.upto fnExactGraphOfIntervalsSpec)

/-- 'laws.FnExactTwoSided', WHERE WHAT IT READS IS OF BULK AT MOST 1048576: true; the input reads as it did. -/
def fnExactTwoSidedUptoRow : OpenClaim := { program := "ytplpbgjmejggiaadoor", sum := "e79eb52633bf68371086c73964f9d87d418dc14745e2f71177bdb8d7536fdea4", func := "loop.example/g00871/laws.FnExactTwoSided", spec := "fnExactTwoSided", named := ["math/bits.deBruijn32tab"], apart := false, laid := [("math/bits.deBruijn32tab", laid_math_bits_deBruijn32tab)], narrowed := true }
def FnExactTwoSidedUptoSaid : Prop := fnExactTwoSidedUptoRow.holds Tryd.pinned (OpenSpec.upto fnExactTwoSidedSpec)

/-- 'laws.FnExactWheelGraph', WHERE WHAT IT READS IS OF BULK AT MOST 1048576: true; the input reads as it did. -/
def fnExactWheelGraphUptoRow : OpenClaim := { program := "ytplpbgjmejggiaadoor", sum := "e79eb52633bf68371086c73964f9d87d418dc14745e2f71177bdb8d7536fdea4", func := "loop.example/g00871/laws.FnExactWheelGraph", spec := "fnExactWheelGraph", named := ["math/bits.deBruijn32tab"], apart := false, laid := [("math/bits.deBruijn32tab", laid_math_bits_deBruijn32tab)], narrowed := true }
def FnExactWheelGraphUptoSaid : Prop := fnExactWheelGraphUptoRow.holds Tryd.pinned (OpenSpec.upto fnExactWheelGraphSpec)

/-- 'laws.FnExactBeside', WHERE WHAT IT READS IS OF BULK AT MOST 1048576: true; the input reads as it did. -/
def fnExactBesideUptoRow : OpenClaim := { program := "ytplpbgjmejggiaadoor", sum := "e79eb52633bf68371086c73964f9d87d418dc14745e2f71177bdb8d7536fdea4", func := "loop.example/g00871/laws.FnExactBeside", spec := "fnExactBeside", named := ["math/bits.deBruijn32tab"], apart := false, laid := [("math/bits.deBruijn32tab", laid_math_bits_deBruijn32tab)], narrowed := true }
def FnExactBesideUptoSaid : Prop := fnExactBesideUptoRow.holds Tryd.pinned (OpenSpec.upto fnExactBesideSpec)

/-- 'laws.FnExactJoinedGraph', WHERE WHAT IT READS IS OF BULK AT MOST 1048576: true; the input reads as it did. -/
def fnExactJoinedGraphUptoRow : OpenClaim := { program := "ytplpbgjmejggiaadoor", sum := "e79eb52633bf68371086c73964f9d87d418dc14745e2f71177bdb8d7536fdea4", func := "loop.example/g00871/laws.FnExactJoinedGraph", spec := "fnExactJoinedGraph", named := ["math/bits.deBruijn32tab"], apart := false, laid := [("math/bits.deBruijn32tab", laid_math_bits_deBruijn32tab)], narrowed := true }
def FnExactJoinedGraphUptoSaid : Prop := fnExactJoinedGraphUptoRow.holds Tryd.pinned (OpenSpec.upto fnExactJoinedGraphSpec)

/-- 'laws.FnExactComplement', WHERE WHAT IT READS IS OF BULK AT MOST 1048576: true; the input reads as it did. -/
def fnExactComplementUptoRow : OpenClaim := { program := "ytplpbgjmejggiaadoor", sum := "e79eb52633bf68371086c73964f9d87d418dc14745e2f71177bdb8d7536fdea4", func := "loop.example/g00871/laws.FnExactComplement", spec := "fnExactComplement", named := ["math/bits.deBruijn32tab"], apart := false, laid := [("math/bits.deBruijn32tab", laid_math_bits_deBruijn32tab)], narrowed := true }
def FnExactComplementUptoSaid : Prop := fnExactComplementUptoRow.holds Tryd.pinned (OpenSpec.upto fnExactComplementSpec)

/-- 'laws.FnExactAddedVertex', WHERE WHAT IT READS IS OF BULK AT MOST 1048576: true; the input reads as it did. -/
def fnExactAddedVertexUptoRow : OpenClaim := { program := "ytplpbgjmejggiaadoor", sum := "e79eb52633bf68371086c73964f9d87d418dc14745e2f71177bdb8d7536fdea4", func := "loop.example/g00871/laws.FnExactAddedVertex", spec := "fnExactAddedVertex", named := ["math/bits.deBruijn32tab"], apart := false, laid := [("math/bits.deBruijn32tab", laid_math_bits_deBruijn32tab)], narrowed := true }
def FnExactAddedVertexUptoSaid : Prop := fnExactAddedVertexUptoRow.holds Tryd.pinned (OpenSpec.upto fnExactAddedVertexSpec)

/-- 'laws.FnExactQuotientBy', WHERE WHAT IT READS IS OF BULK AT MOST 1048576: true; the input reads as it did. -/
def fnExactQuotientByUptoRow : OpenClaim := { program := "ytplpbgjmejggiaadoor", sum := "e79eb52633bf68371086c73964f9d87d418dc14745e2f71177bdb8d7536fdea4", func := "loop.example/g00871/laws.FnExactQuotientBy", spec := "fnExactQuotientBy", unfollowed := true, recurses := true, named := ["math/bits.deBruijn32tab"], apart := false, laid := [("math/bits.deBruijn32tab", laid_math_bits_deBruijn32tab)], narrowed := true }
def FnExactQuotientByUptoSaid : Prop := fnExactQuotientByUptoRow.holds Tryd.pinned (OpenSpec.upto fnExactQuotientBySpec)

end Rows
end Go.Proofs.YtplpbgjmejggiaaDoor
