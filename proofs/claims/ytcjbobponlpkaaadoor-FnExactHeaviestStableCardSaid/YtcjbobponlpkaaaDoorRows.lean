/-
  NARROWER THAN 'FOR EVERY INPUT', by the rows' own cells (each row's printed sentence says how): FnExactOpenOf: laid · FnExactBehindOf: laid · FnExactPartsOf: laid · FnExactCutVertices: laid · FnExactBetweenOf: laid · FnExactClosureOf: laid · FnExactLeastRule: laid · FnExactLeastCover: laid · FnExactBestStable: laid · FnExactBestClique: laid · FnExactBreakSet: laid · FnExactHeaviestStable: laid.
  DERIVED. THE GIVEN ROWS OF THIS SEAT. 12 by the template 'for every input the law returns true; each argument reads behind the call as it read before'; 0 by the template 'total and deterministic' (their statements: YtcjbobponlpkaaaDoorTotals.lean).
  GIVEN WITH THE SEED: the statements are not yours to turn. If you find one false, say at which input.
  Laid BY PROGRAM, IN A SANDBOX (cutbox-rows.mjs): the forced cells as the released guide's own fill.sh prints them over the translation 3244cde63a4b4d9c… (all of the seat's roots in one cut). By AI agents, Wed Nov 11 2026. No macro, syntax, notation, axiom, sorry.
-/
import Derived.Test.YtcjbobponlpkaaaDoorChecked
import GoSem.Claim
import GoSem.ClaimJoined
import GoSem.ClaimMapViews
import Derived.JoinedTies
import Derived.KernelRfl
namespace Go.Proofs.YtcjbobponlpkaaaDoor
/- THE CELL 'sum', in the pinned program and in every row, IS THE sha256 OF THE DUMP (.gsa) THAT YtcjbobponlpkaaaDoorProg.lean LOADS. Nothing in Lean hashes anything: it is a label: what it is worth is what the hold of that sum in a sandbox is worth. -/
noncomputable def Tryd.pinned : Pinned := { name := "ytcjbobponlpkaaadoor", sum := "3244cde63a4b4d9cb7fc0735ade3c00a2c6dc04f5751fc9b9d4893df4625a0e7", checked := Tryd.checked }
namespace Rows
def none {H : Type} : Left H := { results := [], args := [] }

/- WHAT THE LISTED PACKAGE-LEVEL VARIABLES READ AS WHEN THE CALL BEGINS. Each datum BY PROGRAM (the guide's laid-datum.mjs) off the statement by which the dump's own 'gosem.cut.vars' lays the variable. In a bare row this is a premise. The card (YtcjbobponlpkaaaDoorCards.lean) ties it to the program's text. -/
def laid_math_bits_deBruijn32tab {H : Type} : DataW H := .agg [.lit (.int .u8 0), .lit (.int .u8 1), .lit (.int .u8 28), .lit (.int .u8 2), .lit (.int .u8 29), .lit (.int .u8 14), .lit (.int .u8 24), .lit (.int .u8 3), .lit (.int .u8 30), .lit (.int .u8 22), .lit (.int .u8 20), .lit (.int .u8 15), .lit (.int .u8 25), .lit (.int .u8 17), .lit (.int .u8 4), .lit (.int .u8 8), .lit (.int .u8 31), .lit (.int .u8 27), .lit (.int .u8 13), .lit (.int .u8 23), .lit (.int .u8 21), .lit (.int .u8 19), .lit (.int .u8 16), .lit (.int .u8 7), .lit (.int .u8 26), .lit (.int .u8 12), .lit (.int .u8 18), .lit (.int .u8 6), .lit (.int .u8 11), .lit (.int .u8 5), .lit (.int .u8 10), .lit (.int .u8 9)]

/-- 'laws.FnExactOpenOf': WHATEVER THE INPUT: true; the input reads as it did. -/
def fnExactOpenOfSpec : ChangeSpec := { name := "fnExactOpenOf", fn := fun _ => fun
  | [d1, d2] => { results := [.lit (.bool true)], args := [d1, d2] }
  | _ => none }
def fnExactOpenOfRow : OpenClaim := { program := "ytcjbobponlpkaaadoor", sum := "3244cde63a4b4d9cb7fc0735ade3c00a2c6dc04f5751fc9b9d4893df4625a0e7", func := "loop.example/g00871/laws.FnExactOpenOf", spec := "fnExactOpenOf", named := ["math/bits.deBruijn32tab"], apart := false, laid := [("math/bits.deBruijn32tab", laid_math_bits_deBruijn32tab)] }
def FnExactOpenOfSaid : Prop := fnExactOpenOfRow.holds Tryd.pinned (OpenSpec.ofChange fnExactOpenOfSpec)

/-- ITS FALSE NEIGHBOUR: 'it returns false'. Refute it at one input. -/
def fnExactOpenOfWrong : ChangeSpec := { name := "fnExactOpenOf", fn := fun _ => fun
  | [d1, d2] => { results := [.lit (.bool false)], args := [d1, d2] }
  | _ => none }
def FnExactOpenOfWrongFalsely : Prop := fnExactOpenOfRow.holds Tryd.pinned (OpenSpec.ofChange fnExactOpenOfWrong)

/-- 'laws.FnExactBehindOf': WHATEVER THE INPUT: true; the input reads as it did. -/
def fnExactBehindOfSpec : ChangeSpec := { name := "fnExactBehindOf", fn := fun _ => fun
  | [d1, d2, d3] => { results := [.lit (.bool true)], args := [d1, d2, d3] }
  | _ => none }
def fnExactBehindOfRow : OpenClaim := { program := "ytcjbobponlpkaaadoor", sum := "3244cde63a4b4d9cb7fc0735ade3c00a2c6dc04f5751fc9b9d4893df4625a0e7", func := "loop.example/g00871/laws.FnExactBehindOf", spec := "fnExactBehindOf", named := ["math/bits.deBruijn32tab"], apart := false, laid := [("math/bits.deBruijn32tab", laid_math_bits_deBruijn32tab)] }
def FnExactBehindOfSaid : Prop := fnExactBehindOfRow.holds Tryd.pinned (OpenSpec.ofChange fnExactBehindOfSpec)

/-- ITS FALSE NEIGHBOUR: 'it returns false'. Refute it at one input. -/
def fnExactBehindOfWrong : ChangeSpec := { name := "fnExactBehindOf", fn := fun _ => fun
  | [d1, d2, d3] => { results := [.lit (.bool false)], args := [d1, d2, d3] }
  | _ => none }
def FnExactBehindOfWrongFalsely : Prop := fnExactBehindOfRow.holds Tryd.pinned (OpenSpec.ofChange fnExactBehindOfWrong)

/-- 'laws.FnExactPartsOf': WHATEVER THE INPUT: true; the input reads as it did. -/
def fnExactPartsOfSpec : ChangeSpec := { name := "fnExactPartsOf", fn := fun _ => fun
  | [d] => { results := [.lit (.bool true)], args := [d] }
  | _ => none }
def fnExactPartsOfRow : OpenClaim := { program := "ytcjbobponlpkaaadoor", sum := "3244cde63a4b4d9cb7fc0735ade3c00a2c6dc04f5751fc9b9d4893df4625a0e7", func := "loop.example/g00871/laws.FnExactPartsOf", spec := "fnExactPartsOf", named := ["math/bits.deBruijn32tab"], apart := false, laid := [("math/bits.deBruijn32tab", laid_math_bits_deBruijn32tab)] }
def FnExactPartsOfSaid : Prop := fnExactPartsOfRow.holds Tryd.pinned (OpenSpec.ofChange fnExactPartsOfSpec)

/-- ITS FALSE NEIGHBOUR: 'it returns false'. Refute it at one input. -/
def fnExactPartsOfWrong : ChangeSpec := { name := "fnExactPartsOf", fn := fun _ => fun
  | [d] => { results := [.lit (.bool false)], args := [d] }
  | _ => none }
def FnExactPartsOfWrongFalsely : Prop := fnExactPartsOfRow.holds Tryd.pinned (OpenSpec.ofChange fnExactPartsOfWrong)

/-- 'laws.FnExactCutVertices': WHATEVER THE INPUT: true; the input reads as it did. -/
def fnExactCutVerticesSpec : ChangeSpec := { name := "fnExactCutVertices", fn := fun _ => fun
  | [d] => { results := [.lit (.bool true)], args := [d] }
  | _ => none }
def fnExactCutVerticesRow : OpenClaim := { program := "ytcjbobponlpkaaadoor", sum := "3244cde63a4b4d9cb7fc0735ade3c00a2c6dc04f5751fc9b9d4893df4625a0e7", func := "loop.example/g00871/laws.FnExactCutVertices", spec := "fnExactCutVertices", named := ["math/bits.deBruijn32tab"], apart := false, laid := [("math/bits.deBruijn32tab", laid_math_bits_deBruijn32tab)] }
def FnExactCutVerticesSaid : Prop := fnExactCutVerticesRow.holds Tryd.pinned (OpenSpec.ofChange fnExactCutVerticesSpec)

/-- ITS FALSE NEIGHBOUR: 'it returns false'. Refute it at one input. -/
def fnExactCutVerticesWrong : ChangeSpec := { name := "fnExactCutVertices", fn := fun _ => fun
  | [d] => { results := [.lit (.bool false)], args := [d] }
  | _ => none }
def FnExactCutVerticesWrongFalsely : Prop := fnExactCutVerticesRow.holds Tryd.pinned (OpenSpec.ofChange fnExactCutVerticesWrong)

/-- 'laws.FnExactBetweenOf': WHATEVER THE INPUT: true; the input reads as it did. -/
def fnExactBetweenOfSpec : ChangeSpec := { name := "fnExactBetweenOf", fn := fun _ => fun
  | [d1, d2, d3] => { results := [.lit (.bool true)], args := [d1, d2, d3] }
  | _ => none }
def fnExactBetweenOfRow : OpenClaim := { program := "ytcjbobponlpkaaadoor", sum := "3244cde63a4b4d9cb7fc0735ade3c00a2c6dc04f5751fc9b9d4893df4625a0e7", func := "loop.example/g00871/laws.FnExactBetweenOf", spec := "fnExactBetweenOf", named := ["math/bits.deBruijn32tab"], apart := false, laid := [("math/bits.deBruijn32tab", laid_math_bits_deBruijn32tab)] }
def FnExactBetweenOfSaid : Prop := fnExactBetweenOfRow.holds Tryd.pinned (OpenSpec.ofChange fnExactBetweenOfSpec)

/-- ITS FALSE NEIGHBOUR: 'it returns false'. Refute it at one input. -/
def fnExactBetweenOfWrong : ChangeSpec := { name := "fnExactBetweenOf", fn := fun _ => fun
  | [d1, d2, d3] => { results := [.lit (.bool false)], args := [d1, d2, d3] }
  | _ => none }
def FnExactBetweenOfWrongFalsely : Prop := fnExactBetweenOfRow.holds Tryd.pinned (OpenSpec.ofChange fnExactBetweenOfWrong)

/-- 'laws.FnExactClosureOf': WHATEVER THE INPUT: true; the input reads as it did. -/
def fnExactClosureOfSpec : ChangeSpec := { name := "fnExactClosureOf", fn := fun _ => fun
  | [d1, d2] => { results := [.lit (.bool true)], args := [d1, d2] }
  | _ => none }
def fnExactClosureOfRow : OpenClaim := { program := "ytcjbobponlpkaaadoor", sum := "3244cde63a4b4d9cb7fc0735ade3c00a2c6dc04f5751fc9b9d4893df4625a0e7", func := "loop.example/g00871/laws.FnExactClosureOf", spec := "fnExactClosureOf", named := ["math/bits.deBruijn32tab"], apart := false, laid := [("math/bits.deBruijn32tab", laid_math_bits_deBruijn32tab)] }
def FnExactClosureOfSaid : Prop := fnExactClosureOfRow.holds Tryd.pinned (OpenSpec.ofChange fnExactClosureOfSpec)

/-- ITS FALSE NEIGHBOUR: 'it returns false'. Refute it at one input. -/
def fnExactClosureOfWrong : ChangeSpec := { name := "fnExactClosureOf", fn := fun _ => fun
  | [d1, d2] => { results := [.lit (.bool false)], args := [d1, d2] }
  | _ => none }
def FnExactClosureOfWrongFalsely : Prop := fnExactClosureOfRow.holds Tryd.pinned (OpenSpec.ofChange fnExactClosureOfWrong)

/-- 'laws.FnExactLeastRule': WHATEVER THE INPUT: true; the input reads as it did. -/
def fnExactLeastRuleSpec : ChangeSpec := { name := "fnExactLeastRule", fn := fun _ => fun
  | [d] => { results := [.lit (.bool true)], args := [d] }
  | _ => none }
def fnExactLeastRuleRow : OpenClaim := { program := "ytcjbobponlpkaaadoor", sum := "3244cde63a4b4d9cb7fc0735ade3c00a2c6dc04f5751fc9b9d4893df4625a0e7", func := "loop.example/g00871/laws.FnExactLeastRule", spec := "fnExactLeastRule", unfollowed := true, recurses := true, named := ["math/bits.deBruijn32tab"], apart := false, laid := [("math/bits.deBruijn32tab", laid_math_bits_deBruijn32tab)] }
def FnExactLeastRuleSaid : Prop := fnExactLeastRuleRow.holds Tryd.pinned (OpenSpec.ofChange fnExactLeastRuleSpec)

/-- ITS FALSE NEIGHBOUR: 'it returns false'. Refute it at one input. -/
def fnExactLeastRuleWrong : ChangeSpec := { name := "fnExactLeastRule", fn := fun _ => fun
  | [d] => { results := [.lit (.bool false)], args := [d] }
  | _ => none }
def FnExactLeastRuleWrongFalsely : Prop := fnExactLeastRuleRow.holds Tryd.pinned (OpenSpec.ofChange fnExactLeastRuleWrong)

/-- 'laws.FnExactLeastCover': WHATEVER THE INPUT: true; the input reads as it did. -/
def fnExactLeastCoverSpec : ChangeSpec := { name := "fnExactLeastCover", fn := fun _ => fun
  | [d] => { results := [.lit (.bool true)], args := [d] }
  | _ => none }
def fnExactLeastCoverRow : OpenClaim := { program := "ytcjbobponlpkaaadoor", sum := "3244cde63a4b4d9cb7fc0735ade3c00a2c6dc04f5751fc9b9d4893df4625a0e7", func := "loop.example/g00871/laws.FnExactLeastCover", spec := "fnExactLeastCover", unfollowed := true, recurses := true, named := ["math/bits.deBruijn32tab"], apart := false, laid := [("math/bits.deBruijn32tab", laid_math_bits_deBruijn32tab)] }
def FnExactLeastCoverSaid : Prop := fnExactLeastCoverRow.holds Tryd.pinned (OpenSpec.ofChange fnExactLeastCoverSpec)

/-- ITS FALSE NEIGHBOUR: 'it returns false'. Refute it at one input. -/
def fnExactLeastCoverWrong : ChangeSpec := { name := "fnExactLeastCover", fn := fun _ => fun
  | [d] => { results := [.lit (.bool false)], args := [d] }
  | _ => none }
def FnExactLeastCoverWrongFalsely : Prop := fnExactLeastCoverRow.holds Tryd.pinned (OpenSpec.ofChange fnExactLeastCoverWrong)

/-- 'laws.FnExactBestStable': WHATEVER THE INPUT: true; the input reads as it did. -/
def fnExactBestStableSpec : ChangeSpec := { name := "fnExactBestStable", fn := fun _ => fun
  | [d] => { results := [.lit (.bool true)], args := [d] }
  | _ => none }
def fnExactBestStableRow : OpenClaim := { program := "ytcjbobponlpkaaadoor", sum := "3244cde63a4b4d9cb7fc0735ade3c00a2c6dc04f5751fc9b9d4893df4625a0e7", func := "loop.example/g00871/laws.FnExactBestStable", spec := "fnExactBestStable", unfollowed := true, recurses := true, named := ["math/bits.deBruijn32tab"], apart := false, laid := [("math/bits.deBruijn32tab", laid_math_bits_deBruijn32tab)] }
def FnExactBestStableSaid : Prop := fnExactBestStableRow.holds Tryd.pinned (OpenSpec.ofChange fnExactBestStableSpec)

/-- ITS FALSE NEIGHBOUR: 'it returns false'. Refute it at one input. -/
def fnExactBestStableWrong : ChangeSpec := { name := "fnExactBestStable", fn := fun _ => fun
  | [d] => { results := [.lit (.bool false)], args := [d] }
  | _ => none }
def FnExactBestStableWrongFalsely : Prop := fnExactBestStableRow.holds Tryd.pinned (OpenSpec.ofChange fnExactBestStableWrong)

/-- 'laws.FnExactBestClique': WHATEVER THE INPUT: true; the input reads as it did. -/
def fnExactBestCliqueSpec : ChangeSpec := { name := "fnExactBestClique", fn := fun _ => fun
  | [d] => { results := [.lit (.bool true)], args := [d] }
  | _ => none }
def fnExactBestCliqueRow : OpenClaim := { program := "ytcjbobponlpkaaadoor", sum := "3244cde63a4b4d9cb7fc0735ade3c00a2c6dc04f5751fc9b9d4893df4625a0e7", func := "loop.example/g00871/laws.FnExactBestClique", spec := "fnExactBestClique", unfollowed := true, recurses := true, named := ["math/bits.deBruijn32tab"], apart := false, laid := [("math/bits.deBruijn32tab", laid_math_bits_deBruijn32tab)] }
def FnExactBestCliqueSaid : Prop := fnExactBestCliqueRow.holds Tryd.pinned (OpenSpec.ofChange fnExactBestCliqueSpec)

/-- ITS FALSE NEIGHBOUR: 'it returns false'. Refute it at one input. -/
def fnExactBestCliqueWrong : ChangeSpec := { name := "fnExactBestClique", fn := fun _ => fun
  | [d] => { results := [.lit (.bool false)], args := [d] }
  | _ => none }
def FnExactBestCliqueWrongFalsely : Prop := fnExactBestCliqueRow.holds Tryd.pinned (OpenSpec.ofChange fnExactBestCliqueWrong)

/-- 'laws.FnExactBreakSet': WHATEVER THE INPUT: true; the input reads as it did. -/
def fnExactBreakSetSpec : ChangeSpec := { name := "fnExactBreakSet", fn := fun _ => fun
  | [d] => { results := [.lit (.bool true)], args := [d] }
  | _ => none }
def fnExactBreakSetRow : OpenClaim := { program := "ytcjbobponlpkaaadoor", sum := "3244cde63a4b4d9cb7fc0735ade3c00a2c6dc04f5751fc9b9d4893df4625a0e7", func := "loop.example/g00871/laws.FnExactBreakSet", spec := "fnExactBreakSet", unfollowed := true, recurses := true, named := ["math/bits.deBruijn32tab"], apart := false, laid := [("math/bits.deBruijn32tab", laid_math_bits_deBruijn32tab)] }
def FnExactBreakSetSaid : Prop := fnExactBreakSetRow.holds Tryd.pinned (OpenSpec.ofChange fnExactBreakSetSpec)

/-- ITS FALSE NEIGHBOUR: 'it returns false'. Refute it at one input. -/
def fnExactBreakSetWrong : ChangeSpec := { name := "fnExactBreakSet", fn := fun _ => fun
  | [d] => { results := [.lit (.bool false)], args := [d] }
  | _ => none }
def FnExactBreakSetWrongFalsely : Prop := fnExactBreakSetRow.holds Tryd.pinned (OpenSpec.ofChange fnExactBreakSetWrong)

/-- 'laws.FnExactHeaviestStable': WHATEVER THE INPUT: true; the input reads as it did. -/
def fnExactHeaviestStableSpec : ChangeSpec := { name := "fnExactHeaviestStable", fn := fun _ => fun
  | [d1, d2] => { results := [.lit (.bool true)], args := [d1, d2] }
  | _ => none }
def fnExactHeaviestStableRow : OpenClaim := { program := "ytcjbobponlpkaaadoor", sum := "3244cde63a4b4d9cb7fc0735ade3c00a2c6dc04f5751fc9b9d4893df4625a0e7", func := "loop.example/g00871/laws.FnExactHeaviestStable", spec := "fnExactHeaviestStable", unfollowed := true, recurses := true, named := ["math/bits.deBruijn32tab"], apart := false, laid := [("math/bits.deBruijn32tab", laid_math_bits_deBruijn32tab)] }
def FnExactHeaviestStableSaid : Prop := fnExactHeaviestStableRow.holds Tryd.pinned (OpenSpec.ofChange fnExactHeaviestStableSpec)

/-- ITS FALSE NEIGHBOUR: 'it returns false'. Refute it at one input. -/
def fnExactHeaviestStableWrong : ChangeSpec := { name := "fnExactHeaviestStable", fn := fun _ => fun
  | [d1, d2] => { results := [.lit (.bool false)], args := [d1, d2] }
  | _ => none }
def FnExactHeaviestStableWrongFalsely : Prop := fnExactHeaviestStableRow.holds Tryd.pinned (OpenSpec.ofChange fnExactHeaviestStableWrong)

/- THE SECOND FORM. 'bulk': how many values and letters a reading holds, each counted each time it is reached (what is shared counts as often as it is met; a slice's spare places count too). A statement '..UptoSaid' is the law's where the arguments, and the package variables that the reading takes, are together of bulk at most 1048576: NARROWER than '..Said'. Prove '..Said' where nothing that the law and all that it calls make is longer than what came in: it says more and counts as full. Else prove '..UptoSaid'. A law counts once. -/
mutual
def uptoBulk {H : Type} : DataW H → Nat
  | .lit (.string bytes) => bytes.length + 1
  | .lit _ => 1
  | .nil => 1
  | .ptr d => uptoBulk d + 1
  | .slice elems spare => uptoBulkAll elems + uptoBulkAll spare + 1
  | .agg parts => uptoBulkAll parts + 1
  | .iface _ d => uptoBulk d + 1
  | .map entries => uptoBulkEntries entries + 1
  | .held _ => 1
def uptoBulkAll {H : Type} : List (DataW H) → Nat
  | [] => 0
  | d :: r => uptoBulk d + uptoBulkAll r
def uptoBulkEntries {H : Type} : List (Lit × DataW H) → Nat
  | [] => 0
  | x :: r => uptoBulkEntry x + uptoBulkEntries r
def uptoBulkEntry {H : Type} : Lit × DataW H → Nat
  | (.string bytes, d) => bytes.length + uptoBulk d + 1
  | (_, d) => uptoBulk d + 1
 end
def uptoSmall : (H : Type) → List (DataW H) → Bool := fun _ ds => decide (uptoBulkAll ds ≤ 1048576)
def OpenSpec.upto (s : _root_.Go.ChangeSpec) : _root_.Go.OpenSpec := { _root_.Go.OpenSpec.ofChange s with cond := some uptoSmall }

/-- 'laws.FnExactOpenOf', WHERE WHAT IT READS IS OF BULK AT MOST 1048576: true; the input reads as it did. -/
def fnExactOpenOfUptoRow : OpenClaim := { program := "ytcjbobponlpkaaadoor", sum := "3244cde63a4b4d9cb7fc0735ade3c00a2c6dc04f5751fc9b9d4893df4625a0e7", func := "loop.example/g00871/laws.FnExactOpenOf", spec := "fnExactOpenOf", named := ["math/bits.deBruijn32tab"], apart := false, laid := [("math/bits.deBruijn32tab", laid_math_bits_deBruijn32tab)], narrowed := true }
def FnExactOpenOfUptoSaid : Prop := fnExactOpenOfUptoRow.holds Tryd.pinned (OpenSpec.upto fnExactOpenOfSpec)

/-- 'laws.FnExactBehindOf', WHERE WHAT IT READS IS OF BULK AT MOST 1048576: true; the input reads as it did. -/
def fnExactBehindOfUptoRow : OpenClaim := { program := "ytcjbobponlpkaaadoor", sum := "3244cde63a4b4d9cb7fc0735ade3c00a2c6dc04f5751fc9b9d4893df4625a0e7", func := "loop.example/g00871/laws.FnExactBehindOf", spec := "fnExactBehindOf", named := ["math/bits.deBruijn32tab"], apart := false, laid := [("math/bits.deBruijn32tab", laid_math_bits_deBruijn32tab)], narrowed := true }
def FnExactBehindOfUptoSaid : Prop := fnExactBehindOfUptoRow.holds Tryd.pinned (OpenSpec.upto fnExactBehindOfSpec)

/-- 'laws.FnExactPartsOf', WHERE WHAT IT READS IS OF BULK AT MOST 1048576: true; the input reads as it did. -/
def fnExactPartsOfUptoRow : OpenClaim := { program := "ytcjbobponlpkaaadoor", sum := "3244cde63a4b4d9cb7fc0735ade3c00a2c6dc04f5751fc9b9d4893df4625a0e7", func := "loop.example/g00871/laws.FnExactPartsOf", spec := "fnExactPartsOf", named := ["math/bits.deBruijn32tab"], apart := false, laid := [("math/bits.deBruijn32tab", laid_math_bits_deBruijn32tab)], narrowed := true }
def FnExactPartsOfUptoSaid : Prop := fnExactPartsOfUptoRow.holds Tryd.pinned (OpenSpec.upto fnExactPartsOfSpec)

/-- 'laws.FnExactCutVertices', WHERE WHAT IT READS IS OF BULK AT MOST 1048576: true; the input reads as it did. -/
def fnExactCutVerticesUptoRow : OpenClaim := { program := "ytcjbobponlpkaaadoor", sum := "3244cde63a4b4d9cb7fc0735ade3c00a2c6dc04f5751fc9b9d4893df4625a0e7", func := "loop.example/g00871/laws.FnExactCutVertices", spec := "fnExactCutVertices", named := ["math/bits.deBruijn32tab"], apart := false, laid := [("math/bits.deBruijn32tab", laid_math_bits_deBruijn32tab)], narrowed := true }
def FnExactCutVerticesUptoSaid : Prop := fnExactCutVerticesUptoRow.holds Tryd.pinned (OpenSpec.upto fnExactCutVerticesSpec)

/-- 'laws.FnExactBetweenOf', WHERE WHAT IT READS IS OF BULK AT MOST 1048576: true; the input reads as it did. -/
def fnExactBetweenOfUptoRow : OpenClaim := { program := "ytcjbobponlpkaaadoor", sum := "3244cde63a4b4d9cb7fc0735ade3c00a2c6dc04f5751fc9b9d4893df4625a0e7", func := "loop.example/g00871/laws.FnExactBetweenOf", spec := "fnExactBetweenOf", named := ["math/bits.deBruijn32tab"], apart := false, laid := [("math/bits.deBruijn32tab", laid_math_bits_deBruijn32tab)], narrowed := true }
def FnExactBetweenOfUptoSaid : Prop := fnExactBetweenOfUptoRow.holds Tryd.pinned (OpenSpec.upto fnExactBetweenOfSpec)

/-- 'laws.FnExactClosureOf', WHERE WHAT IT READS IS OF BULK AT MOST 1048576: true; the input reads as it did. -/
def fnExactClosureOfUptoRow : OpenClaim := { program := "ytcjbobponlpkaaadoor", sum := "3244cde63a4b4d9cb7fc0735ade3c00a2c6dc04f5751fc9b9d4893df4625a0e7", func := "loop.example/g00871/laws.FnExactClosureOf", spec := "fnExactClosureOf", named := ["math/bits.deBruijn32tab"], apart := false, laid := [("math/bits.deBruijn32tab", laid_math_bits_deBruijn32tab)], narrowed := true }
def FnExactClosureOfUptoSaid : Prop := fnExactClosureOfUptoRow.holds Tryd.pinned (OpenSpec.upto fnExactClosureOfSpec)

/-- 'laws.FnExactLeastRule', WHERE WHAT IT READS IS OF BULK AT MOST 1048576: true; the input reads as it did. -/
def fnExactLeastRuleUptoRow : OpenClaim := { program := "ytcjbobponlpkaaadoor", sum := "3244cde63a4b4d9cb7fc0735ade3c00a2c6dc04f5751fc9b9d4893df4625a0e7", func := "loop.example/g00871/laws.FnExactLeastRule", spec := "fnExactLeastRule", unfollowed := true, recurses := true, named := ["math/bits.deBruijn32tab"], apart := false, laid := [("math/bits.deBruijn32tab", laid_math_bits_deBruijn32tab)], narrowed := true }
def FnExactLeastRuleUptoSaid : Prop := fnExactLeastRuleUptoRow.holds Tryd.pinned (OpenSpec.upto fnExactLeastRuleSpec)

/-- 'laws.FnExactLeastCover', WHERE WHAT IT READS IS OF BULK AT MOST 1048576: true; the input reads as it did. -/
def fnExactLeastCoverUptoRow : OpenClaim := { program := "ytcjbobponlpkaaadoor", sum := "3244cde63a4b4d9cb7fc0735ade3c00a2c6dc04f5751fc9b9d4893df4625a0e7", func := "loop.example/g00871/laws.FnExactLeastCover", spec := "fnExactLeastCover", unfollowed := true, recurses := true, named := ["math/bits.deBruijn32tab"], apart := false, laid := [("math/bits.deBruijn32tab", laid_math_bits_deBruijn32tab)], narrowed := true }
def FnExactLeastCoverUptoSaid : Prop := fnExactLeastCoverUptoRow.holds Tryd.pinned (OpenSpec.upto fnExactLeastCoverSpec)

/-- 'laws.FnExactBestStable', WHERE WHAT IT READS IS OF BULK AT MOST 1048576: true; the input reads as it did. -/
def fnExactBestStableUptoRow : OpenClaim := { program := "ytcjbobponlpkaaadoor", sum := "3244cde63a4b4d9cb7fc0735ade3c00a2c6dc04f5751fc9b9d4893df4625a0e7", func := "loop.example/g00871/laws.FnExactBestStable", spec := "fnExactBestStable", unfollowed := true, recurses := true, named := ["math/bits.deBruijn32tab"], apart := false, laid := [("math/bits.deBruijn32tab", laid_math_bits_deBruijn32tab)], narrowed := true }
def FnExactBestStableUptoSaid : Prop := fnExactBestStableUptoRow.holds Tryd.pinned (OpenSpec.upto fnExactBestStableSpec)

/-- 'laws.FnExactBestClique', WHERE WHAT IT READS IS OF BULK AT MOST 1048576: true; the input reads as it did. -/
def fnExactBestCliqueUptoRow : OpenClaim := { program := "ytcjbobponlpkaaadoor", sum := "3244cde63a4b4d9cb7fc0735ade3c00a2c6dc04f5751fc9b9d4893df4625a0e7", func := "loop.example/g00871/laws.FnExactBestClique", spec := "fnExactBestClique", unfollowed := true, recurses := true, named := ["math/bits.deBruijn32tab"], apart := false, laid := [("math/bits.deBruijn32tab", laid_math_bits_deBruijn32tab)], narrowed := true }
def FnExactBestCliqueUptoSaid : Prop := fnExactBestCliqueUptoRow.holds Tryd.pinned (OpenSpec.upto fnExactBestCliqueSpec)

/-- 'laws.FnExactBreakSet', WHERE WHAT IT READS IS OF BULK AT MOST 1048576: true; the input reads as it did. -/
def fnExactBreakSetUptoRow : OpenClaim := { program := "ytcjbobponlpkaaadoor", sum := "3244cde63a4b4d9cb7fc0735ade3c00a2c6dc04f5751fc9b9d4893df4625a0e7", func := "loop.example/g00871/laws.FnExactBreakSet", spec := "fnExactBreakSet", unfollowed := true, recurses := true, named := ["math/bits.deBruijn32tab"], apart := false, laid := [("math/bits.deBruijn32tab", laid_math_bits_deBruijn32tab)], narrowed := true }
def FnExactBreakSetUptoSaid : Prop := fnExactBreakSetUptoRow.holds Tryd.pinned (OpenSpec.upto fnExactBreakSetSpec)

/-- 'laws.FnExactHeaviestStable', WHERE WHAT IT READS IS OF BULK AT MOST 1048576: true; the input reads as it did. -/
def fnExactHeaviestStableUptoRow : OpenClaim := { program := "ytcjbobponlpkaaadoor", sum := "3244cde63a4b4d9cb7fc0735ade3c00a2c6dc04f5751fc9b9d4893df4625a0e7", func := "loop.example/g00871/laws.FnExactHeaviestStable", spec := "fnExactHeaviestStable", unfollowed := true, recurses := true, named := ["math/bits.deBruijn32tab"], apart := false, laid := [("math/bits.deBruijn32tab", laid_math_bits_deBruijn32tab)], narrowed := true }
def FnExactHeaviestStableUptoSaid : Prop := fnExactHeaviestStableUptoRow.holds Tryd.pinned (OpenSpec.upto fnExactHeaviestStableSpec)

end Rows
end Go.Proofs.YtcjbobponlpkaaaDoor
