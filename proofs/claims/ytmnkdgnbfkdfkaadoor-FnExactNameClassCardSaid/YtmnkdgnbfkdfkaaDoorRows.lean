/-
  NARROWER THAN 'FOR EVERY INPUT', by the rows' own cells (each row's printed sentence says how): FnExactClassName: laid · FnExactNameClass: laid · FnExactStarGraph: laid · FnExactPathGraph: laid · FnExactGridGraph: laid · FnExactLoopGraph: laid · FnExactDiceGraph: laid · FnExactKneserGraph: laid.
  DERIVED. THE GIVEN ROWS OF THIS SEAT. 8 by the template 'for every input the law returns true; each argument reads behind the call as it read before'; 0 by the template 'total and deterministic' (their statements: YtmnkdgnbfkdfkaaDoorTotals.lean).
  GIVEN WITH THE SEED: the statements are not yours to turn. If you find one false, say at which input.
  Laid BY PROGRAM, IN A SANDBOX (cutbox-rows.mjs): the forced cells as the released guide's own fill.sh prints them over the translation 962e6f1b3c6c0784… (all of the seat's roots in one cut). By AI agents, Wed Nov 11 2026. No macro, syntax, notation, axiom, sorry.
-/
import Derived.Test.YtmnkdgnbfkdfkaaDoorChecked
import GoSem.Claim
import GoSem.ClaimJoined
import GoSem.ClaimMapViews
import Derived.JoinedTies
import Derived.KernelRfl
namespace Go.Proofs.YtmnkdgnbfkdfkaaDoor
/- THE CELL 'sum', in the pinned program and in every row, IS THE sha256 OF THE DUMP (.gsa) THAT YtmnkdgnbfkdfkaaDoorProg.lean LOADS. Nothing in Lean hashes anything: it is a label: what it is worth is what the hold of that sum in a sandbox is worth. -/
noncomputable def Tryd.pinned : Pinned := { name := "ytmnkdgnbfkdfkaadoor", sum := "962e6f1b3c6c0784328d71c06bf34dcf1862da935875ae219aff7b2f7b86a3f0", checked := Tryd.checked }
namespace Rows
def none {H : Type} : Left H := { results := [], args := [] }

/- WHAT THE LISTED PACKAGE-LEVEL VARIABLES READ AS WHEN THE CALL BEGINS. Each datum BY PROGRAM (the guide's laid-datum.mjs) off the statement by which the dump's own 'gosem.cut.vars' lays the variable. In a bare row this is a premise. The card (YtmnkdgnbfkdfkaaDoorCards.lean) ties it to the program's text. -/
def laid_loop_example_g00871_impl_classNames {H : Type} : DataW H := .slice [.lit (.string [115, 105, 100, 101, 115]), .lit (.string [99, 104, 111, 114, 100, 97, 108]), .lit (.string [105, 110, 116, 101, 114, 118, 97, 108]), .lit (.string [99, 111, 109, 112, 97, 114, 97, 98, 105, 108, 105, 116, 121]), .lit (.string [112, 101, 114, 109, 117, 116, 97, 116, 105, 111, 110]), .lit (.string [99, 111, 103, 114, 97, 112, 104]), .lit (.string [100, 105, 115, 116, 97, 110, 99, 101]), .lit (.string [115, 101, 114, 105, 101, 115]), .lit (.string [111, 117, 116, 101, 114]), .lit (.string [112, 108, 97, 110, 97, 114])] []
def laid_math_bits_deBruijn32tab {H : Type} : DataW H := .agg [.lit (.int .u8 0), .lit (.int .u8 1), .lit (.int .u8 28), .lit (.int .u8 2), .lit (.int .u8 29), .lit (.int .u8 14), .lit (.int .u8 24), .lit (.int .u8 3), .lit (.int .u8 30), .lit (.int .u8 22), .lit (.int .u8 20), .lit (.int .u8 15), .lit (.int .u8 25), .lit (.int .u8 17), .lit (.int .u8 4), .lit (.int .u8 8), .lit (.int .u8 31), .lit (.int .u8 27), .lit (.int .u8 13), .lit (.int .u8 23), .lit (.int .u8 21), .lit (.int .u8 19), .lit (.int .u8 16), .lit (.int .u8 7), .lit (.int .u8 26), .lit (.int .u8 12), .lit (.int .u8 18), .lit (.int .u8 6), .lit (.int .u8 11), .lit (.int .u8 5), .lit (.int .u8 10), .lit (.int .u8 9)]

/-- 'laws.FnExactClassName': WHATEVER THE INPUT: true; the input reads as it did. -/
def fnExactClassNameSpec : ChangeSpec := { name := "fnExactClassName", vars := ["loop.example/g00871/impl.classNames"], fn := fun _ => fun
  | [d, g1] => { results := [.lit (.bool true)], args := [d], vars := [g1] }
  | _ => none }
def fnExactClassNameRow : OpenClaim := { program := "ytmnkdgnbfkdfkaadoor", sum := "962e6f1b3c6c0784328d71c06bf34dcf1862da935875ae219aff7b2f7b86a3f0", func := "loop.example/g00871/laws.FnExactClassName", spec := "fnExactClassName", named := ["loop.example/g00871/impl.classNames"], apart := false, laid := [("loop.example/g00871/impl.classNames", laid_loop_example_g00871_impl_classNames)] }
def FnExactClassNameSaid : Prop := fnExactClassNameRow.holds Tryd.pinned (OpenSpec.ofChange fnExactClassNameSpec)

/-- ITS FALSE NEIGHBOUR: 'it returns false'. Refute it at one input. -/
def fnExactClassNameWrong : ChangeSpec := { name := "fnExactClassName", vars := ["loop.example/g00871/impl.classNames"], fn := fun _ => fun
  | [d, g1] => { results := [.lit (.bool false)], args := [d], vars := [g1] }
  | _ => none }
def FnExactClassNameWrongFalsely : Prop := fnExactClassNameRow.holds Tryd.pinned (OpenSpec.ofChange fnExactClassNameWrong)

/-- 'laws.FnExactNameClass': WHATEVER THE INPUT: true; the input reads as it did. -/
def fnExactNameClassSpec : ChangeSpec := { name := "fnExactNameClass", vars := ["loop.example/g00871/impl.classNames"], fn := fun _ => fun
  | [d, g1] => { results := [.lit (.bool true)], args := [d], vars := [g1] }
  | _ => none }
def fnExactNameClassRow : OpenClaim := { program := "ytmnkdgnbfkdfkaadoor", sum := "962e6f1b3c6c0784328d71c06bf34dcf1862da935875ae219aff7b2f7b86a3f0", func := "loop.example/g00871/laws.FnExactNameClass", spec := "fnExactNameClass", named := ["loop.example/g00871/impl.classNames"], apart := false, laid := [("loop.example/g00871/impl.classNames", laid_loop_example_g00871_impl_classNames)] }
def FnExactNameClassSaid : Prop := fnExactNameClassRow.holds Tryd.pinned (OpenSpec.ofChange fnExactNameClassSpec)

/-- ITS FALSE NEIGHBOUR: 'it returns false'. Refute it at one input. -/
def fnExactNameClassWrong : ChangeSpec := { name := "fnExactNameClass", vars := ["loop.example/g00871/impl.classNames"], fn := fun _ => fun
  | [d, g1] => { results := [.lit (.bool false)], args := [d], vars := [g1] }
  | _ => none }
def FnExactNameClassWrongFalsely : Prop := fnExactNameClassRow.holds Tryd.pinned (OpenSpec.ofChange fnExactNameClassWrong)

/-- 'laws.FnExactStarGraph': WHATEVER THE INPUT: true; the input reads as it did. -/
def fnExactStarGraphSpec : ChangeSpec := { name := "fnExactStarGraph", fn := fun _ => fun
  | [d] => { results := [.lit (.bool true)], args := [d] }
  | _ => none }
def fnExactStarGraphRow : OpenClaim := { program := "ytmnkdgnbfkdfkaadoor", sum := "962e6f1b3c6c0784328d71c06bf34dcf1862da935875ae219aff7b2f7b86a3f0", func := "loop.example/g00871/laws.FnExactStarGraph", spec := "fnExactStarGraph", named := ["math/bits.deBruijn32tab"], apart := false, laid := [("math/bits.deBruijn32tab", laid_math_bits_deBruijn32tab)] }
def FnExactStarGraphSaid : Prop := fnExactStarGraphRow.holds Tryd.pinned (OpenSpec.ofChange fnExactStarGraphSpec)

/-- ITS FALSE NEIGHBOUR: 'it returns false'. Refute it at one input. -/
def fnExactStarGraphWrong : ChangeSpec := { name := "fnExactStarGraph", fn := fun _ => fun
  | [d] => { results := [.lit (.bool false)], args := [d] }
  | _ => none }
def FnExactStarGraphWrongFalsely : Prop := fnExactStarGraphRow.holds Tryd.pinned (OpenSpec.ofChange fnExactStarGraphWrong)

/-- 'laws.FnExactPathGraph': WHATEVER THE INPUT: true; the input reads as it did. -/
def fnExactPathGraphSpec : ChangeSpec := { name := "fnExactPathGraph", fn := fun _ => fun
  | [d] => { results := [.lit (.bool true)], args := [d] }
  | _ => none }
def fnExactPathGraphRow : OpenClaim := { program := "ytmnkdgnbfkdfkaadoor", sum := "962e6f1b3c6c0784328d71c06bf34dcf1862da935875ae219aff7b2f7b86a3f0", func := "loop.example/g00871/laws.FnExactPathGraph", spec := "fnExactPathGraph", named := ["math/bits.deBruijn32tab"], apart := false, laid := [("math/bits.deBruijn32tab", laid_math_bits_deBruijn32tab)] }
def FnExactPathGraphSaid : Prop := fnExactPathGraphRow.holds Tryd.pinned (OpenSpec.ofChange fnExactPathGraphSpec)

/-- ITS FALSE NEIGHBOUR: 'it returns false'. Refute it at one input. -/
def fnExactPathGraphWrong : ChangeSpec := { name := "fnExactPathGraph", fn := fun _ => fun
  | [d] => { results := [.lit (.bool false)], args := [d] }
  | _ => none }
def FnExactPathGraphWrongFalsely : Prop := fnExactPathGraphRow.holds Tryd.pinned (OpenSpec.ofChange fnExactPathGraphWrong)

/-- 'laws.FnExactGridGraph': WHATEVER THE INPUT: true; the input reads as it did. -/
def fnExactGridGraphSpec : ChangeSpec := { name := "fnExactGridGraph", fn := fun _ => fun
  | [d1, d2] => { results := [.lit (.bool true)], args := [d1, d2] }
  | _ => none }
def fnExactGridGraphRow : OpenClaim := { program := "ytmnkdgnbfkdfkaadoor", sum := "962e6f1b3c6c0784328d71c06bf34dcf1862da935875ae219aff7b2f7b86a3f0", func := "loop.example/g00871/laws.FnExactGridGraph", spec := "fnExactGridGraph", named := ["math/bits.deBruijn32tab"], apart := false, laid := [("math/bits.deBruijn32tab", laid_math_bits_deBruijn32tab)] }
def FnExactGridGraphSaid : Prop := fnExactGridGraphRow.holds Tryd.pinned (OpenSpec.ofChange fnExactGridGraphSpec)

/-- ITS FALSE NEIGHBOUR: 'it returns false'. Refute it at one input. -/
def fnExactGridGraphWrong : ChangeSpec := { name := "fnExactGridGraph", fn := fun _ => fun
  | [d1, d2] => { results := [.lit (.bool false)], args := [d1, d2] }
  | _ => none }
def FnExactGridGraphWrongFalsely : Prop := fnExactGridGraphRow.holds Tryd.pinned (OpenSpec.ofChange fnExactGridGraphWrong)

/-- 'laws.FnExactLoopGraph': WHATEVER THE INPUT: true; the input reads as it did. -/
def fnExactLoopGraphSpec : ChangeSpec := { name := "fnExactLoopGraph", fn := fun _ => fun
  | [d] => { results := [.lit (.bool true)], args := [d] }
  | _ => none }
def fnExactLoopGraphRow : OpenClaim := { program := "ytmnkdgnbfkdfkaadoor", sum := "962e6f1b3c6c0784328d71c06bf34dcf1862da935875ae219aff7b2f7b86a3f0", func := "loop.example/g00871/laws.FnExactLoopGraph", spec := "fnExactLoopGraph", named := ["math/bits.deBruijn32tab"], apart := false, laid := [("math/bits.deBruijn32tab", laid_math_bits_deBruijn32tab)] }
def FnExactLoopGraphSaid : Prop := fnExactLoopGraphRow.holds Tryd.pinned (OpenSpec.ofChange fnExactLoopGraphSpec)

/-- ITS FALSE NEIGHBOUR: 'it returns false'. Refute it at one input. -/
def fnExactLoopGraphWrong : ChangeSpec := { name := "fnExactLoopGraph", fn := fun _ => fun
  | [d] => { results := [.lit (.bool false)], args := [d] }
  | _ => none }
def FnExactLoopGraphWrongFalsely : Prop := fnExactLoopGraphRow.holds Tryd.pinned (OpenSpec.ofChange fnExactLoopGraphWrong)

/-- 'laws.FnExactDiceGraph': WHATEVER THE INPUT: true; the input reads as it did. -/
def fnExactDiceGraphSpec : ChangeSpec := { name := "fnExactDiceGraph", fn := fun _ => fun
  | [d1, d2, d3] => { results := [.lit (.bool true)], args := [d1, d2, d3] }
  | _ => none }
def fnExactDiceGraphRow : OpenClaim := { program := "ytmnkdgnbfkdfkaadoor", sum := "962e6f1b3c6c0784328d71c06bf34dcf1862da935875ae219aff7b2f7b86a3f0", func := "loop.example/g00871/laws.FnExactDiceGraph", spec := "fnExactDiceGraph", named := ["math/bits.deBruijn32tab"], apart := false, laid := [("math/bits.deBruijn32tab", laid_math_bits_deBruijn32tab)] }
def FnExactDiceGraphSaid : Prop := fnExactDiceGraphRow.holds Tryd.pinned (OpenSpec.ofChange fnExactDiceGraphSpec)

/-- ITS FALSE NEIGHBOUR: 'it returns false'. Refute it at one input. -/
def fnExactDiceGraphWrong : ChangeSpec := { name := "fnExactDiceGraph", fn := fun _ => fun
  | [d1, d2, d3] => { results := [.lit (.bool false)], args := [d1, d2, d3] }
  | _ => none }
def FnExactDiceGraphWrongFalsely : Prop := fnExactDiceGraphRow.holds Tryd.pinned (OpenSpec.ofChange fnExactDiceGraphWrong)

/-- 'laws.FnExactKneserGraph': WHATEVER THE INPUT: true; the input reads as it did. -/
def fnExactKneserGraphSpec : ChangeSpec := { name := "fnExactKneserGraph", fn := fun _ => fun
  | [d] => { results := [.lit (.bool true)], args := [d] }
  | _ => none }
def fnExactKneserGraphRow : OpenClaim := { program := "ytmnkdgnbfkdfkaadoor", sum := "962e6f1b3c6c0784328d71c06bf34dcf1862da935875ae219aff7b2f7b86a3f0", func := "loop.example/g00871/laws.FnExactKneserGraph", spec := "fnExactKneserGraph", named := ["math/bits.deBruijn32tab"], apart := false, laid := [("math/bits.deBruijn32tab", laid_math_bits_deBruijn32tab)] }
def FnExactKneserGraphSaid : Prop := fnExactKneserGraphRow.holds Tryd.pinned (OpenSpec.ofChange fnExactKneserGraphSpec)

/-- ITS FALSE NEIGHBOUR: 'it returns false'. Refute it at one input. -/
def fnExactKneserGraphWrong : ChangeSpec := { name := "fnExactKneserGraph", fn := fun _ => fun
  | [d] => { results := [.lit (.bool false)], args := [d] }
  | _ => none }
def FnExactKneserGraphWrongFalsely : Prop := fnExactKneserGraphRow.holds Tryd.pinned (OpenSpec.ofChange fnExactKneserGraphWrong)

/- THE SECOND FORM. 'bulk': how many values and letters a reading holds, each counted each time it is reached (what is shared counts as often as it is met; a slice's spare places count too). A statement '..UptoSaid' is the law's where the arguments, and the package variables that the reading takes, are together of bulk at most 1048576: NARROWER than '..Said'. Prove '..Said' where nothing that the law and all that it calls make is longer than what came in: it says more and counts as full. Else prove '..UptoSaid'. A law counts once. -/
mutual
def uptoBulk {H : Type} : DataW H → Nat
  | .lit (.string bytes) => bytes.length + 1
  | .lit _ => 1
  | .nil => 1
  | .ptr d => uptoBulk d + 1
  | .slice elems spare => uptoBulkAll elems + uptoBulkAll spare + 1
  | .agg parts => uptoBulkAll parts + 1
  | .iface _ d => uptoBulk d + 1
  | .map entries => uptoBulkEntries entries + 1
  | .held _ => 1
def uptoBulkAll {H : Type} : List (DataW H) → Nat
  | [] => 0
  | d :: r => uptoBulk d + uptoBulkAll r
def uptoBulkEntries {H : Type} : List (Lit × DataW H) → Nat
  | [] => 0
  | x :: r => uptoBulkEntry x + uptoBulkEntries r
def uptoBulkEntry {H : Type} : Lit × DataW H → Nat
  | (.string bytes, d) => bytes.length + uptoBulk d + 1
  | (_, d) => uptoBulk d + 1
 end
def uptoSmall : (H : Type) → List (DataW H) → Bool := fun _ ds => decide (uptoBulkAll ds ≤ 1048576)
def OpenSpec.upto (s : _root_.Go.ChangeSpec) : _root_.Go.OpenSpec := { _root_.Go.OpenSpec.ofChange s with cond := some uptoSmall }

/-- 'laws.FnExactClassName', WHERE WHAT IT READS IS OF BULK AT MOST 1048576: true; the input reads as it did. -/
def fnExactClassNameUptoRow : OpenClaim := { program := "ytmnkdgnbfkdfkaadoor", sum := "962e6f1b3c6c0784328d71c06bf34dcf1862da935875ae219aff7b2f7b86a3f0", func := "loop.example/g00871/laws.FnExactClassName", spec := "fnExactClassName", named := ["loop.example/g00871/impl.classNames"], apart := false, laid := [("loop.example/g00871/impl.classNames", laid_loop_example_g00871_impl_classNames)], narrowed := true }
def FnExactClassNameUptoSaid : Prop := fnExactClassNameUptoRow.holds Tryd.pinned (OpenSpec.upto fnExactClassNameSpec)

/-- 'laws.FnExactNameClass', WHERE WHAT IT READS IS OF BULK AT MOST 1048576: true; the input reads as it did. -/
def fnExactNameClassUptoRow : OpenClaim := { program := "ytmnkdgnbfkdfkaadoor", sum := "962e6f1b3c6c0784328d71c06bf34dcf1862da935875ae219aff7b2f7b86a3f0", func := "loop.example/g00871/laws.FnExactNameClass", spec := "fnExactNameClass", named := ["loop.example/g00871/impl.classNames"], apart := false, laid := [("loop.example/g00871/impl.classNames", laid_loop_example_g00871_impl_classNames)], narrowed := true }
def FnExactNameClassUptoSaid : Prop := fnExactNameClassUptoRow.holds Tryd.pinned (OpenSpec.upto fnExactNameClassSpec)

/-- 'laws.FnExactStarGraph', WHERE WHAT IT READS IS OF BULK AT MOST 1048576: true; the input reads as it did. -/
def fnExactStarGraphUptoRow : OpenClaim := { program := "ytmnkdgnbfkdfkaadoor", sum := "962e6f1b3c6c0784328d71c06bf34dcf1862da935875ae219aff7b2f7b86a3f0", func := "loop.example/g00871/laws.FnExactStarGraph", spec := "fnExactStarGraph", named := ["math/bits.deBruijn32tab"], apart := false, laid := [("math/bits.deBruijn32tab", laid_math_bits_deBruijn32tab)], narrowed := true }
def FnExactStarGraphUptoSaid : Prop := fnExactStarGraphUptoRow.holds Tryd.pinned (OpenSpec.upto fnExactStarGraphSpec)

/-- 'laws.FnExactPathGraph', WHERE WHAT IT READS IS OF BULK AT MOST 1048576: true; the input reads as it did. -/
def fnExactPathGraphUptoRow : OpenClaim := { program := "ytmnkdgnbfkdfkaadoor", sum := "962e6f1b3c6c0784328d71c06bf34dcf1862da935875ae219aff7b2f7b86a3f0", func := "loop.example/g00871/laws.FnExactPathGraph", spec := "fnExactPathGraph", named := ["math/bits.deBruijn32tab"], apart := false, laid := [("math/bits.deBruijn32tab", laid_math_bits_deBruijn32tab)], narrowed := true }
def FnExactPathGraphUptoSaid : Prop := fnExactPathGraphUptoRow.holds Tryd.pinned (OpenSpec.upto fnExactPathGraphSpec)

/-- 'laws.FnExactGridGraph', WHERE WHAT IT READS IS OF BULK AT MOST 1048576: true; the input reads as it did. -/
def fnExactGridGraphUptoRow : OpenClaim := { program := "ytmnkdgnbfkdfkaadoor", sum := "962e6f1b3c6c0784328d71c06bf34dcf1862da935875ae219aff7b2f7b86a3f0", func := "loop.example/g00871/laws.FnExactGridGraph", spec := "fnExactGridGraph", named := ["math/bits.deBruijn32tab"], apart := false, laid := [("math/bits.deBruijn32tab", laid_math_bits_deBruijn32tab)], narrowed := true }
def FnExactGridGraphUptoSaid : Prop := fnExactGridGraphUptoRow.holds Tryd.pinned (OpenSpec.upto fnExactGridGraphSpec)

/-- 'laws.FnExactLoopGraph', WHERE WHAT IT READS IS OF BULK AT MOST 1048576: true; the input reads as it did. -/
def fnExactLoopGraphUptoRow : OpenClaim := { program := "ytmnkdgnbfkdfkaadoor", sum := "962e6f1b3c6c0784328d71c06bf34dcf1862da935875ae219aff7b2f7b86a3f0", func := "loop.example/g00871/laws.FnExactLoopGraph", spec := "fnExactLoopGraph", named := ["math/bits.deBruijn32tab"], apart := false, laid := [("math/bits.deBruijn32tab", laid_math_bits_deBruijn32tab)], narrowed := true }
def FnExactLoopGraphUptoSaid : Prop := fnExactLoopGraphUptoRow.holds Tryd.pinned (OpenSpec.upto fnExactLoopGraphSpec)

/-- 'laws.FnExactDiceGraph', WHERE WHAT IT READS IS OF BULK AT MOST 1048576: true; the input reads as it did. -/
def fnExactDiceGraphUptoRow : OpenClaim := { program := "ytmnkdgnbfkdfkaadoor", sum := "962e6f1b3c6c0784328d71c06bf34dcf1862da935875ae219aff7b2f7b86a3f0", func := "loop.example/g00871/laws.FnExactDiceGraph", spec := "fnExactDiceGraph", named := ["math/bits.deBruijn32tab"], apart := false, laid := [("math/bits.deBruijn32tab", laid_math_bits_deBruijn32tab)], narrowed := true }
def FnExactDiceGraphUptoSaid : Prop := fnExactDiceGraphUptoRow.holds Tryd.pinned (OpenSpec.upto fnExactDiceGraphSpec)

/-- 'laws.FnExactKneserGraph', WHERE WHAT IT READS IS OF BULK AT MOST 1048576: true; the input reads as it did. -/
def fnExactKneserGraphUptoRow : OpenClaim := { program := "ytmnkdgnbfkdfkaadoor", sum := "962e6f1b3c6c0784328d71c06bf34dcf1862da935875ae219aff7b2f7b86a3f0", func := "loop.example/g00871/laws.FnExactKneserGraph", spec := "fnExactKneserGraph", named := ["math/bits.deBruijn32tab"], apart := false, laid := [("math/bits.deBruijn32tab", laid_math_bits_deBruijn32tab)], narrowed := true }
def FnExactKneserGraphUptoSaid : Prop := fnExactKneserGraphUptoRow.holds Tryd.pinned (OpenSpec.upto fnExactKneserGraphSpec)

end Rows
end Go.Proofs.YtmnkdgnbfkdfkaaDoor
