/-
  NARROWER THAN 'FOR EVERY INPUT', by the rows' own cells (each row's printed sentence says how): FnExactCutEdge: laid · FnExactAddedEdge: laid · FnExactInduced: laid · FnExactApexOf: laid · FnExactCutVertex: laid · FnExactSplitEdge: laid · FnExactContracted: laid · FnUndone: laid · FnExactEdgesIn: laid · FnExactClawOf: laid · FnExactSimplicialIn: laid.
  DERIVED. THE GIVEN ROWS OF THIS SEAT. 11 by the template 'for every input the law returns true; each argument reads behind the call as it read before'; 0 by the template 'total and deterministic' (their statements: YtikcooagdaghnaaDoorTotals.lean).
  GIVEN WITH THE SEED: the statements are not yours to turn. If you find one false, say at which input.
  Laid BY PROGRAM, IN A SANDBOX (cutbox-rows.mjs): the forced cells as the released guide's own fill.sh prints them over the translation 4f2845c5fb6a285a… (all of the seat's roots in one cut). By AI agents, Wed Nov 11 2026. No macro, syntax, notation, axiom, sorry.
-/
import Derived.Test.YtikcooagdaghnaaDoorChecked
import GoSem.Claim
import GoSem.ClaimJoined
import GoSem.ClaimMapViews
import Derived.JoinedTies
import Derived.KernelRfl
namespace Go.Proofs.YtikcooagdaghnaaDoor
/- THE CELL 'sum', in the pinned program and in every row, IS THE sha256 OF THE DUMP (.gsa) THAT YtikcooagdaghnaaDoorProg.lean LOADS. Nothing in Lean hashes anything: it is a label: what it is worth is what the hold of that sum in a sandbox is worth. -/
noncomputable def Tryd.pinned : Pinned := { name := "ytikcooagdaghnaadoor", sum := "4f2845c5fb6a285a523adc29224cba9e6d4c2e530112eb9d4054395d6857e3bc", checked := Tryd.checked }
namespace Rows
def none {H : Type} : Left H := { results := [], args := [] }

/- WHAT THE LISTED PACKAGE-LEVEL VARIABLES READ AS WHEN THE CALL BEGINS. Each datum BY PROGRAM (the guide's laid-datum.mjs) off the statement by which the dump's own 'gosem.cut.vars' lays the variable. In a bare row this is a premise. The card (YtikcooagdaghnaaDoorCards.lean) ties it to the program's text. -/
def laid_math_bits_deBruijn32tab {H : Type} : DataW H := .agg [.lit (.int .u8 0), .lit (.int .u8 1), .lit (.int .u8 28), .lit (.int .u8 2), .lit (.int .u8 29), .lit (.int .u8 14), .lit (.int .u8 24), .lit (.int .u8 3), .lit (.int .u8 30), .lit (.int .u8 22), .lit (.int .u8 20), .lit (.int .u8 15), .lit (.int .u8 25), .lit (.int .u8 17), .lit (.int .u8 4), .lit (.int .u8 8), .lit (.int .u8 31), .lit (.int .u8 27), .lit (.int .u8 13), .lit (.int .u8 23), .lit (.int .u8 21), .lit (.int .u8 19), .lit (.int .u8 16), .lit (.int .u8 7), .lit (.int .u8 26), .lit (.int .u8 12), .lit (.int .u8 18), .lit (.int .u8 6), .lit (.int .u8 11), .lit (.int .u8 5), .lit (.int .u8 10), .lit (.int .u8 9)]

/-- 'laws.FnExactCutEdge': WHATEVER THE INPUT: true; the input reads as it did. -/
def fnExactCutEdgeSpec : ChangeSpec := { name := "fnExactCutEdge", fn := fun _ => fun
  | [d1, d2, d3] => { results := [.lit (.bool true)], args := [d1, d2, d3] }
  | _ => none }
def fnExactCutEdgeRow : OpenClaim := { program := "ytikcooagdaghnaadoor", sum := "4f2845c5fb6a285a523adc29224cba9e6d4c2e530112eb9d4054395d6857e3bc", func := "loop.example/g00871/laws.FnExactCutEdge", spec := "fnExactCutEdge", named := ["math/bits.deBruijn32tab"], apart := false, laid := [("math/bits.deBruijn32tab", laid_math_bits_deBruijn32tab)] }
def FnExactCutEdgeSaid : Prop := fnExactCutEdgeRow.holds Tryd.pinned (OpenSpec.ofChange fnExactCutEdgeSpec)

/-- ITS FALSE NEIGHBOUR: 'it returns false'. Refute it at one input. -/
def fnExactCutEdgeWrong : ChangeSpec := { name := "fnExactCutEdge", fn := fun _ => fun
  | [d1, d2, d3] => { results := [.lit (.bool false)], args := [d1, d2, d3] }
  | _ => none }
def FnExactCutEdgeWrongFalsely : Prop := fnExactCutEdgeRow.holds Tryd.pinned (OpenSpec.ofChange fnExactCutEdgeWrong)

/-- 'laws.FnExactAddedEdge': WHATEVER THE INPUT: true; the input reads as it did. -/
def fnExactAddedEdgeSpec : ChangeSpec := { name := "fnExactAddedEdge", fn := fun _ => fun
  | [d1, d2, d3] => { results := [.lit (.bool true)], args := [d1, d2, d3] }
  | _ => none }
def fnExactAddedEdgeRow : OpenClaim := { program := "ytikcooagdaghnaadoor", sum := "4f2845c5fb6a285a523adc29224cba9e6d4c2e530112eb9d4054395d6857e3bc", func := "loop.example/g00871/laws.FnExactAddedEdge", spec := "fnExactAddedEdge", named := ["math/bits.deBruijn32tab"], apart := false, laid := [("math/bits.deBruijn32tab", laid_math_bits_deBruijn32tab)] }
def FnExactAddedEdgeSaid : Prop := fnExactAddedEdgeRow.holds Tryd.pinned (OpenSpec.ofChange fnExactAddedEdgeSpec)

/-- ITS FALSE NEIGHBOUR: 'it returns false'. Refute it at one input. -/
def fnExactAddedEdgeWrong : ChangeSpec := { name := "fnExactAddedEdge", fn := fun _ => fun
  | [d1, d2, d3] => { results := [.lit (.bool false)], args := [d1, d2, d3] }
  | _ => none }
def FnExactAddedEdgeWrongFalsely : Prop := fnExactAddedEdgeRow.holds Tryd.pinned (OpenSpec.ofChange fnExactAddedEdgeWrong)

/-- 'laws.FnExactInduced': WHATEVER THE INPUT: true; the input reads as it did. -/
def fnExactInducedSpec : ChangeSpec := { name := "fnExactInduced", fn := fun _ => fun
  | [d1, d2] => { results := [.lit (.bool true)], args := [d1, d2] }
  | _ => none }
def fnExactInducedRow : OpenClaim := { program := "ytikcooagdaghnaadoor", sum := "4f2845c5fb6a285a523adc29224cba9e6d4c2e530112eb9d4054395d6857e3bc", func := "loop.example/g00871/laws.FnExactInduced", spec := "fnExactInduced", named := ["math/bits.deBruijn32tab"], apart := false, laid := [("math/bits.deBruijn32tab", laid_math_bits_deBruijn32tab)] }
def FnExactInducedSaid : Prop := fnExactInducedRow.holds Tryd.pinned (OpenSpec.ofChange fnExactInducedSpec)

/-- ITS FALSE NEIGHBOUR: 'it returns false'. Refute it at one input. -/
def fnExactInducedWrong : ChangeSpec := { name := "fnExactInduced", fn := fun _ => fun
  | [d1, d2] => { results := [.lit (.bool false)], args := [d1, d2] }
  | _ => none }
def FnExactInducedWrongFalsely : Prop := fnExactInducedRow.holds Tryd.pinned (OpenSpec.ofChange fnExactInducedWrong)

/-- 'laws.FnExactApexOf': WHATEVER THE INPUT: true; the input reads as it did. -/
def fnExactApexOfSpec : ChangeSpec := { name := "fnExactApexOf", fn := fun _ => fun
  | [d] => { results := [.lit (.bool true)], args := [d] }
  | _ => none }
def fnExactApexOfRow : OpenClaim := { program := "ytikcooagdaghnaadoor", sum := "4f2845c5fb6a285a523adc29224cba9e6d4c2e530112eb9d4054395d6857e3bc", func := "loop.example/g00871/laws.FnExactApexOf", spec := "fnExactApexOf", named := ["math/bits.deBruijn32tab"], apart := false, laid := [("math/bits.deBruijn32tab", laid_math_bits_deBruijn32tab)] }
def FnExactApexOfSaid : Prop := fnExactApexOfRow.holds Tryd.pinned (OpenSpec.ofChange fnExactApexOfSpec)

/-- ITS FALSE NEIGHBOUR: 'it returns false'. Refute it at one input. -/
def fnExactApexOfWrong : ChangeSpec := { name := "fnExactApexOf", fn := fun _ => fun
  | [d] => { results := [.lit (.bool false)], args := [d] }
  | _ => none }
def FnExactApexOfWrongFalsely : Prop := fnExactApexOfRow.holds Tryd.pinned (OpenSpec.ofChange fnExactApexOfWrong)

/-- 'laws.FnExactCutVertex': WHATEVER THE INPUT: true; the input reads as it did. -/
def fnExactCutVertexSpec : ChangeSpec := { name := "fnExactCutVertex", fn := fun _ => fun
  | [d1, d2] => { results := [.lit (.bool true)], args := [d1, d2] }
  | _ => none }
def fnExactCutVertexRow : OpenClaim := { program := "ytikcooagdaghnaadoor", sum := "4f2845c5fb6a285a523adc29224cba9e6d4c2e530112eb9d4054395d6857e3bc", func := "loop.example/g00871/laws.FnExactCutVertex", spec := "fnExactCutVertex", named := ["math/bits.deBruijn32tab"], apart := false, laid := [("math/bits.deBruijn32tab", laid_math_bits_deBruijn32tab)] }
def FnExactCutVertexSaid : Prop := fnExactCutVertexRow.holds Tryd.pinned (OpenSpec.ofChange fnExactCutVertexSpec)

/-- ITS FALSE NEIGHBOUR: 'it returns false'. Refute it at one input. -/
def fnExactCutVertexWrong : ChangeSpec := { name := "fnExactCutVertex", fn := fun _ => fun
  | [d1, d2] => { results := [.lit (.bool false)], args := [d1, d2] }
  | _ => none }
def FnExactCutVertexWrongFalsely : Prop := fnExactCutVertexRow.holds Tryd.pinned (OpenSpec.ofChange fnExactCutVertexWrong)

/-- 'laws.FnExactSplitEdge': WHATEVER THE INPUT: true; the input reads as it did. -/
def fnExactSplitEdgeSpec : ChangeSpec := { name := "fnExactSplitEdge", fn := fun _ => fun
  | [d1, d2, d3] => { results := [.lit (.bool true)], args := [d1, d2, d3] }
  | _ => none }
def fnExactSplitEdgeRow : OpenClaim := { program := "ytikcooagdaghnaadoor", sum := "4f2845c5fb6a285a523adc29224cba9e6d4c2e530112eb9d4054395d6857e3bc", func := "loop.example/g00871/laws.FnExactSplitEdge", spec := "fnExactSplitEdge", named := ["math/bits.deBruijn32tab"], apart := false, laid := [("math/bits.deBruijn32tab", laid_math_bits_deBruijn32tab)] }
def FnExactSplitEdgeSaid : Prop := fnExactSplitEdgeRow.holds Tryd.pinned (OpenSpec.ofChange fnExactSplitEdgeSpec)

/-- ITS FALSE NEIGHBOUR: 'it returns false'. Refute it at one input. -/
def fnExactSplitEdgeWrong : ChangeSpec := { name := "fnExactSplitEdge", fn := fun _ => fun
  | [d1, d2, d3] => { results := [.lit (.bool false)], args := [d1, d2, d3] }
  | _ => none }
def FnExactSplitEdgeWrongFalsely : Prop := fnExactSplitEdgeRow.holds Tryd.pinned (OpenSpec.ofChange fnExactSplitEdgeWrong)

/-- 'laws.FnExactContracted': WHATEVER THE INPUT: true; the input reads as it did. -/
def fnExactContractedSpec : ChangeSpec := { name := "fnExactContracted", fn := fun _ => fun
  | [d1, d2, d3] => { results := [.lit (.bool true)], args := [d1, d2, d3] }
  | _ => none }
def fnExactContractedRow : OpenClaim := { program := "ytikcooagdaghnaadoor", sum := "4f2845c5fb6a285a523adc29224cba9e6d4c2e530112eb9d4054395d6857e3bc", func := "loop.example/g00871/laws.FnExactContracted", spec := "fnExactContracted", named := ["math/bits.deBruijn32tab"], apart := false, laid := [("math/bits.deBruijn32tab", laid_math_bits_deBruijn32tab)] }
def FnExactContractedSaid : Prop := fnExactContractedRow.holds Tryd.pinned (OpenSpec.ofChange fnExactContractedSpec)

/-- ITS FALSE NEIGHBOUR: 'it returns false'. Refute it at one input. -/
def fnExactContractedWrong : ChangeSpec := { name := "fnExactContracted", fn := fun _ => fun
  | [d1, d2, d3] => { results := [.lit (.bool false)], args := [d1, d2, d3] }
  | _ => none }
def FnExactContractedWrongFalsely : Prop := fnExactContractedRow.holds Tryd.pinned (OpenSpec.ofChange fnExactContractedWrong)

/-- 'laws.FnUndone': WHATEVER THE INPUT: true; the input reads as it did. -/
def fnUndoneSpec : ChangeSpec := { name := "fnUndone", fn := fun _ => fun
  | [d] => { results := [.lit (.bool true)], args := [d] }
  | _ => none }
def fnUndoneRow : OpenClaim := { program := "ytikcooagdaghnaadoor", sum := "4f2845c5fb6a285a523adc29224cba9e6d4c2e530112eb9d4054395d6857e3bc", func := "loop.example/g00871/laws.FnUndone", spec := "fnUndone", unfollowed := true, recurses := true, named := ["math/bits.deBruijn32tab"], apart := false, laid := [("math/bits.deBruijn32tab", laid_math_bits_deBruijn32tab)] }
def FnUndoneSaid : Prop := fnUndoneRow.holds Tryd.pinned (OpenSpec.ofChange fnUndoneSpec)

/-- ITS FALSE NEIGHBOUR: 'it returns false'. Refute it at one input. -/
def fnUndoneWrong : ChangeSpec := { name := "fnUndone", fn := fun _ => fun
  | [d] => { results := [.lit (.bool false)], args := [d] }
  | _ => none }
def FnUndoneWrongFalsely : Prop := fnUndoneRow.holds Tryd.pinned (OpenSpec.ofChange fnUndoneWrong)

/-- 'laws.FnExactEdgesIn': WHATEVER THE INPUT: true; the input reads as it did. -/
def fnExactEdgesInSpec : ChangeSpec := { name := "fnExactEdgesIn", fn := fun _ => fun
  | [d] => { results := [.lit (.bool true)], args := [d] }
  | _ => none }
def fnExactEdgesInRow : OpenClaim := { program := "ytikcooagdaghnaadoor", sum := "4f2845c5fb6a285a523adc29224cba9e6d4c2e530112eb9d4054395d6857e3bc", func := "loop.example/g00871/laws.FnExactEdgesIn", spec := "fnExactEdgesIn", named := ["math/bits.deBruijn32tab"], apart := false, laid := [("math/bits.deBruijn32tab", laid_math_bits_deBruijn32tab)] }
def FnExactEdgesInSaid : Prop := fnExactEdgesInRow.holds Tryd.pinned (OpenSpec.ofChange fnExactEdgesInSpec)

/-- ITS FALSE NEIGHBOUR: 'it returns false'. Refute it at one input. -/
def fnExactEdgesInWrong : ChangeSpec := { name := "fnExactEdgesIn", fn := fun _ => fun
  | [d] => { results := [.lit (.bool false)], args := [d] }
  | _ => none }
def FnExactEdgesInWrongFalsely : Prop := fnExactEdgesInRow.holds Tryd.pinned (OpenSpec.ofChange fnExactEdgesInWrong)

/-- 'laws.FnExactClawOf': WHATEVER THE INPUT: true; the input reads as it did. -/
def fnExactClawOfSpec : ChangeSpec := { name := "fnExactClawOf", fn := fun _ => fun
  | [d] => { results := [.lit (.bool true)], args := [d] }
  | _ => none }
def fnExactClawOfRow : OpenClaim := { program := "ytikcooagdaghnaadoor", sum := "4f2845c5fb6a285a523adc29224cba9e6d4c2e530112eb9d4054395d6857e3bc", func := "loop.example/g00871/laws.FnExactClawOf", spec := "fnExactClawOf", unfollowed := true, recurses := true, named := ["math/bits.deBruijn32tab"], apart := false, laid := [("math/bits.deBruijn32tab", laid_math_bits_deBruijn32tab)] }
def FnExactClawOfSaid : Prop := fnExactClawOfRow.holds Tryd.pinned (OpenSpec.ofChange fnExactClawOfSpec)

/-- ITS FALSE NEIGHBOUR: 'it returns false'. Refute it at one input. -/
def fnExactClawOfWrong : ChangeSpec := { name := "fnExactClawOf", fn := fun _ => fun
  | [d] => { results := [.lit (.bool false)], args := [d] }
  | _ => none }
def FnExactClawOfWrongFalsely : Prop := fnExactClawOfRow.holds Tryd.pinned (OpenSpec.ofChange fnExactClawOfWrong)

/-- 'laws.FnExactSimplicialIn': WHATEVER THE INPUT: true; the input reads as it did. -/
def fnExactSimplicialInSpec : ChangeSpec := { name := "fnExactSimplicialIn", fn := fun _ => fun
  | [d] => { results := [.lit (.bool true)], args := [d] }
  | _ => none }
def fnExactSimplicialInRow : OpenClaim := { program := "ytikcooagdaghnaadoor", sum := "4f2845c5fb6a285a523adc29224cba9e6d4c2e530112eb9d4054395d6857e3bc", func := "loop.example/g00871/laws.FnExactSimplicialIn", spec := "fnExactSimplicialIn", named := ["math/bits.deBruijn32tab"], apart := false, laid := [("math/bits.deBruijn32tab", laid_math_bits_deBruijn32tab)] }
def FnExactSimplicialInSaid : Prop := fnExactSimplicialInRow.holds Tryd.pinned (OpenSpec.ofChange fnExactSimplicialInSpec)

/-- ITS FALSE NEIGHBOUR: 'it returns false'. Refute it at one input. -/
def fnExactSimplicialInWrong : ChangeSpec := { name := "fnExactSimplicialIn", fn := fun _ => fun
  | [d] => { results := [.lit (.bool false)], args := [d] }
  | _ => none }
def FnExactSimplicialInWrongFalsely : Prop := fnExactSimplicialInRow.holds Tryd.pinned (OpenSpec.ofChange fnExactSimplicialInWrong)

/- THE SECOND FORM. 'bulk': how many values and letters a reading holds, each counted each time it is reached (what is shared counts as often as it is met; a slice's spare places count too). A statement '..UptoSaid' is the law's where the arguments, and the package variables that the reading takes, are together of bulk at most 1048576: NARROWER than '..Said'. Prove '..Said' where nothing that the law and all that it calls make is longer than what came in: it says more and counts as full. Else prove '..UptoSaid'. A law counts once. -/
mutual
def uptoBulk {H : Type} : DataW H → Nat
  | .lit (.string bytes) => bytes.length + 1
  | .lit _ => 1
  | .nil => 1
  | .ptr d => uptoBulk d + 1
  | .slice elems spare => uptoBulkAll elems + uptoBulkAll spare + 1
  | .agg parts => uptoBulkAll parts + 1
  | .iface _ d => uptoBulk d + 1
  | .map entries => uptoBulkEntries entries + 1
  | .held _ => 1
def uptoBulkAll {H : Type} : List (DataW H) → Nat
  | [] => 0
  | d :: r => uptoBulk d + uptoBulkAll r
def uptoBulkEntries {H : Type} : List (Lit × DataW H) → Nat
  | [] => 0
  | x :: r => uptoBulkEntry x + uptoBulkEntries r
def uptoBulkEntry {H : Type} : Lit × DataW H → Nat
  | (.string bytes, d) => bytes.length + uptoBulk d + 1
  | (_, d) => uptoBulk d + 1
 end
def uptoSmall : (H : Type) → List (DataW H) → Bool := fun _ ds => decide (uptoBulkAll ds ≤ 1048576)
def OpenSpec.upto (s : _root_.Go.ChangeSpec) : _root_.Go.OpenSpec := { _root_.Go.OpenSpec.ofChange s with cond := some uptoSmall }

/-- 'laws.FnExactCutEdge', WHERE WHAT IT READS IS OF BULK AT MOST 1048576: true; the input reads as it did. -/
def fnExactCutEdgeUptoRow : OpenClaim := { program := "ytikcooagdaghnaadoor", sum := "4f2845c5fb6a285a523adc29224cba9e6d4c2e530112eb9d4054395d6857e3bc", func := "loop.example/g00871/laws.FnExactCutEdge", spec := "fnExactCutEdge", named := ["math/bits.deBruijn32tab"], apart := false, laid := [("math/bits.deBruijn32tab", laid_math_bits_deBruijn32tab)], narrowed := true }
def FnExactCutEdgeUptoSaid : Prop := fnExactCutEdgeUptoRow.holds Tryd.pinned (OpenSpec.upto fnExactCutEdgeSpec)

/-- 'laws.FnExactAddedEdge', WHERE WHAT IT READS IS OF BULK AT MOST 1048576: true; the input reads as it did. -/
def fnExactAddedEdgeUptoRow : OpenClaim := { program := "ytikcooagdaghnaadoor", sum := "4f2845c5fb6a285a523adc29224cba9e6d4c2e530112eb9d4054395d6857e3bc", func := "loop.example/g00871/laws.FnExactAddedEdge", spec := "fnExactAddedEdge", named := ["math/bits.deBruijn32tab"], apart := false, laid := [("math/bits.deBruijn32tab", laid_math_bits_deBruijn32tab)], narrowed := true }
def FnExactAddedEdgeUptoSaid : Prop := fnExactAddedEdgeUptoRow.holds Tryd.pinned (OpenSpec.upto fnExactAddedEdgeSpec)

/-- 'laws.FnExactInduced', WHERE WHAT IT READS IS OF BULK AT MOST 1048576: true; the input reads as it did. -/
def fnExactInducedUptoRow : OpenClaim := { program := "ytikcooagdaghnaadoor", sum := "4f2845c5fb6a285a523adc29224cba9e6d4c2e530112eb9d4054395d6857e3bc", func := "loop.example/g00871/laws.FnExactInduced", spec := "fnExactInduced", named := ["math/bits.deBruijn32tab"], apart := false, laid := [("math/bits.deBruijn32tab", laid_math_bits_deBruijn32tab)], narrowed := true }
def FnExactInducedUptoSaid : Prop := fnExactInducedUptoRow.holds Tryd.pinned (OpenSpec.upto fnExactInducedSpec)

/-- 'laws.FnExactApexOf', WHERE WHAT IT READS IS OF BULK AT MOST 1048576: true; the input reads as it did. -/
def fnExactApexOfUptoRow : OpenClaim := { program := "ytikcooagdaghnaadoor", sum := "4f2845c5fb6a285a523adc29224cba9e6d4c2e530112eb9d4054395d6857e3bc", func := "loop.example/g00871/laws.FnExactApexOf", spec := "fnExactApexOf", named := ["math/bits.deBruijn32tab"], apart := false, laid := [("math/bits.deBruijn32tab", laid_math_bits_deBruijn32tab)], narrowed := true }
def FnExactApexOfUptoSaid : Prop := fnExactApexOfUptoRow.holds Tryd.pinned (OpenSpec.upto fnExactApexOfSpec)

/-- 'laws.FnExactCutVertex', WHERE WHAT IT READS IS OF BULK AT MOST 1048576: true; the input reads as it did. -/
def fnExactCutVertexUptoRow : OpenClaim := { program := "ytikcooagdaghnaadoor", sum := "4f2845c5fb6a285a523adc29224cba9e6d4c2e530112eb9d4054395d6857e3bc", func := "loop.example/g00871/laws.FnExactCutVertex", spec := "fnExactCutVertex", named := ["math/bits.deBruijn32tab"], apart := false, laid := [("math/bits.deBruijn32tab", laid_math_bits_deBruijn32tab)], narrowed := true }
def FnExactCutVertexUptoSaid : Prop := fnExactCutVertexUptoRow.holds Tryd.pinned (OpenSpec.upto fnExactCutVertexSpec)

/-- 'laws.FnExactSplitEdge', WHERE WHAT IT READS IS OF BULK AT MOST 1048576: true; the input reads as it did. -/
def fnExactSplitEdgeUptoRow : OpenClaim := { program := "ytikcooagdaghnaadoor", sum := "4f2845c5fb6a285a523adc29224cba9e6d4c2e530112eb9d4054395d6857e3bc", func := "loop.example/g00871/laws.FnExactSplitEdge", spec := "fnExactSplitEdge", named := ["math/bits.deBruijn32tab"], apart := false, laid := [("math/bits.deBruijn32tab", laid_math_bits_deBruijn32tab)], narrowed := true }
def FnExactSplitEdgeUptoSaid : Prop := fnExactSplitEdgeUptoRow.holds Tryd.pinned (OpenSpec.upto fnExactSplitEdgeSpec)

/-- 'laws.FnExactContracted', WHERE WHAT IT READS IS OF BULK AT MOST 1048576: true; the input reads as it did. -/
def fnExactContractedUptoRow : OpenClaim := { program := "ytikcooagdaghnaadoor", sum := "4f2845c5fb6a285a523adc29224cba9e6d4c2e530112eb9d4054395d6857e3bc", func := "loop.example/g00871/laws.FnExactContracted", spec := "fnExactContracted", named := ["math/bits.deBruijn32tab"], apart := false, laid := [("math/bits.deBruijn32tab", laid_math_bits_deBruijn32tab)], narrowed := true }
def FnExactContractedUptoSaid : Prop := fnExactContractedUptoRow.holds Tryd.pinned (OpenSpec.upto fnExactContractedSpec)

/-- 'laws.FnUndone', WHERE WHAT IT READS IS OF BULK AT MOST 1048576: true; the input reads as it did. -/
def fnUndoneUptoRow : OpenClaim := { program := "ytikcooagdaghnaadoor", sum := "4f2845c5fb6a285a523adc29224cba9e6d4c2e530112eb9d4054395d6857e3bc", func := "loop.example/g00871/laws.FnUndone", spec := "fnUndone", unfollowed := true, recurses := true, named := ["math/bits.deBruijn32tab"], apart := false, laid := [("math/bits.deBruijn32tab", laid_math_bits_deBruijn32tab)], narrowed := true }
def FnUndoneUptoSaid : Prop := fnUndoneUptoRow.holds Tryd.pinned (OpenSpec.upto fnUndoneSpec)

/-- 'laws.FnExactEdgesIn', WHERE WHAT IT READS IS OF BULK AT MOST 1048576: true; the input reads as it did. -/
def fnExactEdgesInUptoRow : OpenClaim := { program := "ytikcooagdaghnaadoor", sum := "4f2845c5fb6a285a523adc29224cba9e6d4c2e530112eb9d4054395d6857e3bc", func := "loop.example/g00871/laws.FnExactEdgesIn", spec := "fnExactEdgesIn", named := ["math/bits.deBruijn32tab"], apart := false, laid := [("math/bits.deBruijn32tab", laid_math_bits_deBruijn32tab)], narrowed := true }
def FnExactEdgesInUptoSaid : Prop := fnExactEdgesInUptoRow.holds Tryd.pinned (OpenSpec.upto fnExactEdgesInSpec)

/-- 'laws.FnExactClawOf', WHERE WHAT IT READS IS OF BULK AT MOST 1048576: true; the input reads as it did. -/
def fnExactClawOfUptoRow : OpenClaim := { program := "ytikcooagdaghnaadoor", sum := "4f2845c5fb6a285a523adc29224cba9e6d4c2e530112eb9d4054395d6857e3bc", func := "loop.example/g00871/laws.FnExactClawOf", spec := "fnExactClawOf", unfollowed := true, recurses := true, named := ["math/bits.deBruijn32tab"], apart := false, laid := [("math/bits.deBruijn32tab", laid_math_bits_deBruijn32tab)], narrowed := true }
def FnExactClawOfUptoSaid : Prop := fnExactClawOfUptoRow.holds Tryd.pinned (OpenSpec.upto fnExactClawOfSpec)

/-- 'laws.FnExactSimplicialIn', WHERE WHAT IT READS IS OF BULK AT MOST 1048576: true; the input reads as it did. -/
def fnExactSimplicialInUptoRow : OpenClaim := { program := "ytikcooagdaghnaadoor", sum := "4f2845c5fb6a285a523adc29224cba9e6d4c2e530112eb9d4054395d6857e3bc", func := "loop.example/g00871/laws.FnExactSimplicialIn", spec := "fnExactSimplicialIn", named := ["math/bits.deBruijn32tab"], apart := false, laid := [("math/bits.deBruijn32tab", laid_math_bits_deBruijn32tab)], narrowed := true }
def FnExactSimplicialInUptoSaid : Prop := fnExactSimplicialInUptoRow.holds Tryd.pinned (OpenSpec.upto fnExactSimplicialInSpec)

end Rows
end Go.Proofs.YtikcooagdaghnaaDoor
