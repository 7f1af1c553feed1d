/-
  NARROWER THAN 'FOR EVERY INPUT', by the rows' own cells (each row's printed sentence says how): FnExactSaysText: laid · FnExactLeavesOf: laid · FnExactFreeNames: laid · FnExactDistHereditary: laid · FnExactThinnestFirst: laid · FnRules: laid · FnHeaviest: laid · FnUndone: laid · FnClassNames: laid.
  DERIVED. THE GIVEN ROWS OF THIS SEAT. 9 by the template 'for every input the law returns true; each argument reads behind the call as it read before'; 0 by the template 'total and deterministic' (their statements: YtbhobmngnjfgfaaDoorTotals.lean).
  GIVEN WITH THE SEED: the statements are not yours to turn. If you find one false, say at which input.
  Laid BY PROGRAM, IN A SANDBOX (cutbox-rows.mjs): the forced cells as the released guide's own fill.sh prints them over the translation 1d07f09963b00b53… (all of the seat's roots in one cut). By AI agents, Wed Nov 11 2026. No macro, syntax, notation, axiom, sorry.
-/
import Derived.Test.YtbhobmngnjfgfaaDoorChecked
import GoSem.Claim
import GoSem.ClaimJoined
import GoSem.ClaimMapViews
import Derived.JoinedTies
import Derived.KernelRfl
namespace Go.Proofs.YtbhobmngnjfgfaaDoor
/- THE CELL 'sum', in the pinned program and in every row, IS THE sha256 OF THE DUMP (.gsa) THAT YtbhobmngnjfgfaaDoorProg.lean LOADS. Nothing in Lean hashes anything: it is a label: what it is worth is what the hold of that sum in a sandbox is worth. -/
noncomputable def Tryd.pinned : Pinned := { name := "ytbhobmngnjfgfaadoor", sum := "1d07f09963b00b531fcc969ff4fb2af092f6c4338e3efe5a0508b85ebf379bfd", checked := Tryd.checked }
namespace Rows
def none {H : Type} : Left H := { results := [], args := [] }

/- WHAT THE LISTED PACKAGE-LEVEL VARIABLES READ AS WHEN THE CALL BEGINS. Each datum BY PROGRAM (the guide's laid-datum.mjs) off the statement by which the dump's own 'gosem.cut.vars' lays the variable. In a bare row this is a premise. The card (YtbhobmngnjfgfaaDoorCards.lean) ties it to the program's text. -/
def laid_math_bits_deBruijn32tab {H : Type} : DataW H := .agg [.lit (.int .u8 0), .lit (.int .u8 1), .lit (.int .u8 28), .lit (.int .u8 2), .lit (.int .u8 29), .lit (.int .u8 14), .lit (.int .u8 24), .lit (.int .u8 3), .lit (.int .u8 30), .lit (.int .u8 22), .lit (.int .u8 20), .lit (.int .u8 15), .lit (.int .u8 25), .lit (.int .u8 17), .lit (.int .u8 4), .lit (.int .u8 8), .lit (.int .u8 31), .lit (.int .u8 27), .lit (.int .u8 13), .lit (.int .u8 23), .lit (.int .u8 21), .lit (.int .u8 19), .lit (.int .u8 16), .lit (.int .u8 7), .lit (.int .u8 26), .lit (.int .u8 12), .lit (.int .u8 18), .lit (.int .u8 6), .lit (.int .u8 11), .lit (.int .u8 5), .lit (.int .u8 10), .lit (.int .u8 9)]
def laid_math_bits_deBruijn64tab {H : Type} : DataW H := .agg [.lit (.int .u8 0), .lit (.int .u8 1), .lit (.int .u8 56), .lit (.int .u8 2), .lit (.int .u8 57), .lit (.int .u8 49), .lit (.int .u8 28), .lit (.int .u8 3), .lit (.int .u8 61), .lit (.int .u8 58), .lit (.int .u8 42), .lit (.int .u8 50), .lit (.int .u8 38), .lit (.int .u8 29), .lit (.int .u8 17), .lit (.int .u8 4), .lit (.int .u8 62), .lit (.int .u8 47), .lit (.int .u8 59), .lit (.int .u8 36), .lit (.int .u8 45), .lit (.int .u8 43), .lit (.int .u8 51), .lit (.int .u8 22), .lit (.int .u8 53), .lit (.int .u8 39), .lit (.int .u8 33), .lit (.int .u8 30), .lit (.int .u8 24), .lit (.int .u8 18), .lit (.int .u8 12), .lit (.int .u8 5), .lit (.int .u8 63), .lit (.int .u8 55), .lit (.int .u8 48), .lit (.int .u8 27), .lit (.int .u8 60), .lit (.int .u8 41), .lit (.int .u8 37), .lit (.int .u8 16), .lit (.int .u8 46), .lit (.int .u8 35), .lit (.int .u8 44), .lit (.int .u8 21), .lit (.int .u8 52), .lit (.int .u8 32), .lit (.int .u8 23), .lit (.int .u8 11), .lit (.int .u8 54), .lit (.int .u8 26), .lit (.int .u8 40), .lit (.int .u8 15), .lit (.int .u8 34), .lit (.int .u8 20), .lit (.int .u8 31), .lit (.int .u8 10), .lit (.int .u8 25), .lit (.int .u8 14), .lit (.int .u8 19), .lit (.int .u8 9), .lit (.int .u8 13), .lit (.int .u8 8), .lit (.int .u8 7), .lit (.int .u8 6)]
def laid_internal_strconv_uint64pow10 {H : Type} : DataW H := .agg [.lit (.int .u64 1), .lit (.int .u64 10), .lit (.int .u64 100), .lit (.int .u64 1000), .lit (.int .u64 10000), .lit (.int .u64 100000), .lit (.int .u64 1000000), .lit (.int .u64 10000000), .lit (.int .u64 100000000), .lit (.int .u64 1000000000), .lit (.int .u64 10000000000), .lit (.int .u64 100000000000), .lit (.int .u64 1000000000000), .lit (.int .u64 10000000000000), .lit (.int .u64 100000000000000), .lit (.int .u64 1000000000000000), .lit (.int .u64 10000000000000000), .lit (.int .u64 100000000000000000), .lit (.int .u64 1000000000000000000), .lit (.int .u64 10000000000000000000)]
def laid_loop_example_g00871_impl_classNames {H : Type} : DataW H := .slice [.lit (.string [115, 105, 100, 101, 115]), .lit (.string [99, 104, 111, 114, 100, 97, 108]), .lit (.string [105, 110, 116, 101, 114, 118, 97, 108]), .lit (.string [99, 111, 109, 112, 97, 114, 97, 98, 105, 108, 105, 116, 121]), .lit (.string [112, 101, 114, 109, 117, 116, 97, 116, 105, 111, 110]), .lit (.string [99, 111, 103, 114, 97, 112, 104]), .lit (.string [100, 105, 115, 116, 97, 110, 99, 101]), .lit (.string [115, 101, 114, 105, 101, 115]), .lit (.string [111, 117, 116, 101, 114]), .lit (.string [112, 108, 97, 110, 97, 114])] []

/-- 'laws.FnExactSaysText': WHATEVER THE INPUT: true; the input reads as it did. -/
def fnExactSaysTextSpec : ChangeSpec := { name := "fnExactSaysText", vars := ["loop.example/g00871/impl.classNames"], fn := fun _ => fun
  | [d, g1] => { results := [.lit (.bool true)], args := [d], vars := [g1] }
  | _ => none }
def fnExactSaysTextRow : OpenClaim := { program := "ytbhobmngnjfgfaadoor", sum := "1d07f09963b00b531fcc969ff4fb2af092f6c4338e3efe5a0508b85ebf379bfd", func := "loop.example/g00871/laws.FnExactSaysText", spec := "fnExactSaysText", named := ["loop.example/g00871/impl.classNames", "internal/strconv.uint64pow10", "math/bits.deBruijn32tab", "math/bits.deBruijn64tab"], apart := false, laid := [("math/bits.deBruijn32tab", laid_math_bits_deBruijn32tab), ("math/bits.deBruijn64tab", laid_math_bits_deBruijn64tab), ("internal/strconv.uint64pow10", laid_internal_strconv_uint64pow10), ("loop.example/g00871/impl.classNames", laid_loop_example_g00871_impl_classNames)] }
def FnExactSaysTextSaid : Prop := fnExactSaysTextRow.holds Tryd.pinned (OpenSpec.ofChange fnExactSaysTextSpec)

/-- ITS FALSE NEIGHBOUR: 'it returns false'. Refute it at one input. -/
def fnExactSaysTextWrong : ChangeSpec := { name := "fnExactSaysText", vars := ["loop.example/g00871/impl.classNames"], fn := fun _ => fun
  | [d, g1] => { results := [.lit (.bool false)], args := [d], vars := [g1] }
  | _ => none }
def FnExactSaysTextWrongFalsely : Prop := fnExactSaysTextRow.holds Tryd.pinned (OpenSpec.ofChange fnExactSaysTextWrong)

/-- 'laws.FnExactLeavesOf': WHATEVER THE INPUT: true; the input reads as it did. -/
def fnExactLeavesOfSpec : ChangeSpec := { name := "fnExactLeavesOf", fn := fun _ => fun
  | [d1, d2] => { results := [.lit (.bool true)], args := [d1, d2] }
  | _ => none }
def fnExactLeavesOfRow : OpenClaim := { program := "ytbhobmngnjfgfaadoor", sum := "1d07f09963b00b531fcc969ff4fb2af092f6c4338e3efe5a0508b85ebf379bfd", func := "loop.example/g00871/laws.FnExactLeavesOf", spec := "fnExactLeavesOf", recurses := true, named := ["math/bits.deBruijn32tab"], apart := false, laid := [("math/bits.deBruijn32tab", laid_math_bits_deBruijn32tab)] }
def FnExactLeavesOfSaid : Prop := fnExactLeavesOfRow.holds Tryd.pinned (OpenSpec.ofChange fnExactLeavesOfSpec)

/-- ITS FALSE NEIGHBOUR: 'it returns false'. Refute it at one input. -/
def fnExactLeavesOfWrong : ChangeSpec := { name := "fnExactLeavesOf", fn := fun _ => fun
  | [d1, d2] => { results := [.lit (.bool false)], args := [d1, d2] }
  | _ => none }
def FnExactLeavesOfWrongFalsely : Prop := fnExactLeavesOfRow.holds Tryd.pinned (OpenSpec.ofChange fnExactLeavesOfWrong)

/-- 'laws.FnExactFreeNames': WHATEVER THE INPUT: true; the input reads as it did. -/
def fnExactFreeNamesSpec : ChangeSpec := { name := "fnExactFreeNames", fn := fun _ => fun
  | [d] => { results := [.lit (.bool true)], args := [d] }
  | _ => none }
def fnExactFreeNamesRow : OpenClaim := { program := "ytbhobmngnjfgfaadoor", sum := "1d07f09963b00b531fcc969ff4fb2af092f6c4338e3efe5a0508b85ebf379bfd", func := "loop.example/g00871/laws.FnExactFreeNames", spec := "fnExactFreeNames", unfollowed := true, recurses := true, named := ["math/bits.deBruijn32tab"], apart := false, laid := [("math/bits.deBruijn32tab", laid_math_bits_deBruijn32tab)] }
def FnExactFreeNamesSaid : Prop := fnExactFreeNamesRow.holds Tryd.pinned (OpenSpec.ofChange fnExactFreeNamesSpec)

/-- ITS FALSE NEIGHBOUR: 'it returns false'. Refute it at one input. -/
def fnExactFreeNamesWrong : ChangeSpec := { name := "fnExactFreeNames", fn := fun _ => fun
  | [d] => { results := [.lit (.bool false)], args := [d] }
  | _ => none }
def FnExactFreeNamesWrongFalsely : Prop := fnExactFreeNamesRow.holds Tryd.pinned (OpenSpec.ofChange fnExactFreeNamesWrong)

/-- 'laws.FnExactDistHereditary': WHATEVER THE INPUT: true; the input reads as it did. -/
def fnExactDistHereditarySpec : ChangeSpec := { name := "fnExactDistHereditary", fn := fun _ => fun
  | [d] => { results := [.lit (.bool true)], args := [d] }
  | _ => none }
def fnExactDistHereditaryRow : OpenClaim := { program := "ytbhobmngnjfgfaadoor", sum := "1d07f09963b00b531fcc969ff4fb2af092f6c4338e3efe5a0508b85ebf379bfd", func := "loop.example/g00871/laws.FnExactDistHereditary", spec := "fnExactDistHereditary", named := ["math/bits.deBruijn32tab"], apart := false, laid := [("math/bits.deBruijn32tab", laid_math_bits_deBruijn32tab)] }
def FnExactDistHereditarySaid : Prop := fnExactDistHereditaryRow.holds Tryd.pinned (OpenSpec.ofChange fnExactDistHereditarySpec)

/-- ITS FALSE NEIGHBOUR: 'it returns false'. Refute it at one input. -/
def fnExactDistHereditaryWrong : ChangeSpec := { name := "fnExactDistHereditary", fn := fun _ => fun
  | [d] => { results := [.lit (.bool false)], args := [d] }
  | _ => none }
def FnExactDistHereditaryWrongFalsely : Prop := fnExactDistHereditaryRow.holds Tryd.pinned (OpenSpec.ofChange fnExactDistHereditaryWrong)

/-- 'laws.FnExactThinnestFirst': WHATEVER THE INPUT: true; the input reads as it did. -/
def fnExactThinnestFirstSpec : ChangeSpec := { name := "fnExactThinnestFirst", fn := fun _ => fun
  | [d] => { results := [.lit (.bool true)], args := [d] }
  | _ => none }
def fnExactThinnestFirstRow : OpenClaim := { program := "ytbhobmngnjfgfaadoor", sum := "1d07f09963b00b531fcc969ff4fb2af092f6c4338e3efe5a0508b85ebf379bfd", func := "loop.example/g00871/laws.FnExactThinnestFirst", spec := "fnExactThinnestFirst", recurses := true, named := ["math/bits.deBruijn32tab"], apart := false, laid := [("math/bits.deBruijn32tab", laid_math_bits_deBruijn32tab)] }
def FnExactThinnestFirstSaid : Prop := fnExactThinnestFirstRow.holds Tryd.pinned (OpenSpec.ofChange fnExactThinnestFirstSpec)

/-- ITS FALSE NEIGHBOUR: 'it returns false'. Refute it at one input. -/
def fnExactThinnestFirstWrong : ChangeSpec := { name := "fnExactThinnestFirst", fn := fun _ => fun
  | [d] => { results := [.lit (.bool false)], args := [d] }
  | _ => none }
def FnExactThinnestFirstWrongFalsely : Prop := fnExactThinnestFirstRow.holds Tryd.pinned (OpenSpec.ofChange fnExactThinnestFirstWrong)

/-- 'laws.FnRules': WHATEVER THE INPUT: true; the input reads as it did. -/
def fnRulesSpec : ChangeSpec := { name := "fnRules", fn := fun _ => fun
  | [d] => { results := [.lit (.bool true)], args := [d] }
  | _ => none }
def fnRulesRow : OpenClaim := { program := "ytbhobmngnjfgfaadoor", sum := "1d07f09963b00b531fcc969ff4fb2af092f6c4338e3efe5a0508b85ebf379bfd", func := "loop.example/g00871/laws.FnRules", spec := "fnRules", unfollowed := true, recurses := true, named := ["math/bits.deBruijn32tab"], apart := false, laid := [("math/bits.deBruijn32tab", laid_math_bits_deBruijn32tab)] }
def FnRulesSaid : Prop := fnRulesRow.holds Tryd.pinned (OpenSpec.ofChange fnRulesSpec)

/-- ITS FALSE NEIGHBOUR: 'it returns false'. Refute it at one input. -/
def fnRulesWrong : ChangeSpec := { name := "fnRules", fn := fun _ => fun
  | [d] => { results := [.lit (.bool false)], args := [d] }
  | _ => none }
def FnRulesWrongFalsely : Prop := fnRulesRow.holds Tryd.pinned (OpenSpec.ofChange fnRulesWrong)

/-- 'laws.FnHeaviest': WHATEVER THE INPUT: true; the input reads as it did. -/
def fnHeaviestSpec : ChangeSpec := { name := "fnHeaviest", fn := fun _ => fun
  | [d] => { results := [.lit (.bool true)], args := [d] }
  | _ => none }
def fnHeaviestRow : OpenClaim := { program := "ytbhobmngnjfgfaadoor", sum := "1d07f09963b00b531fcc969ff4fb2af092f6c4338e3efe5a0508b85ebf379bfd", func := "loop.example/g00871/laws.FnHeaviest", spec := "fnHeaviest", unfollowed := true, recurses := true, named := ["math/bits.deBruijn32tab"], apart := false, laid := [("math/bits.deBruijn32tab", laid_math_bits_deBruijn32tab)] }
def FnHeaviestSaid : Prop := fnHeaviestRow.holds Tryd.pinned (OpenSpec.ofChange fnHeaviestSpec)

/-- ITS FALSE NEIGHBOUR: 'it returns false'. Refute it at one input. -/
def fnHeaviestWrong : ChangeSpec := { name := "fnHeaviest", fn := fun _ => fun
  | [d] => { results := [.lit (.bool false)], args := [d] }
  | _ => none }
def FnHeaviestWrongFalsely : Prop := fnHeaviestRow.holds Tryd.pinned (OpenSpec.ofChange fnHeaviestWrong)

/-- 'laws.FnUndone': WHATEVER THE INPUT: true; the input reads as it did. -/
def fnUndoneSpec : ChangeSpec := { name := "fnUndone", fn := fun _ => fun
  | [d] => { results := [.lit (.bool true)], args := [d] }
  | _ => none }
def fnUndoneRow : OpenClaim := { program := "ytbhobmngnjfgfaadoor", sum := "1d07f09963b00b531fcc969ff4fb2af092f6c4338e3efe5a0508b85ebf379bfd", func := "loop.example/g00871/laws.FnUndone", spec := "fnUndone", unfollowed := true, recurses := true, named := ["math/bits.deBruijn32tab"], apart := false, laid := [("math/bits.deBruijn32tab", laid_math_bits_deBruijn32tab)] }
def FnUndoneSaid : Prop := fnUndoneRow.holds Tryd.pinned (OpenSpec.ofChange fnUndoneSpec)

/-- ITS FALSE NEIGHBOUR: 'it returns false'. Refute it at one input. -/
def fnUndoneWrong : ChangeSpec := { name := "fnUndone", fn := fun _ => fun
  | [d] => { results := [.lit (.bool false)], args := [d] }
  | _ => none }
def FnUndoneWrongFalsely : Prop := fnUndoneRow.holds Tryd.pinned (OpenSpec.ofChange fnUndoneWrong)

/-- 'laws.FnClassNames': WHATEVER THE INPUT: true; the input reads as it did. -/
def fnClassNamesSpec : ChangeSpec := { name := "fnClassNames", vars := ["loop.example/g00871/impl.classNames"], fn := fun _ => fun
  | [d, g1] => { results := [.lit (.bool true)], args := [d], vars := [g1] }
  | _ => none }
def fnClassNamesRow : OpenClaim := { program := "ytbhobmngnjfgfaadoor", sum := "1d07f09963b00b531fcc969ff4fb2af092f6c4338e3efe5a0508b85ebf379bfd", func := "loop.example/g00871/laws.FnClassNames", spec := "fnClassNames", named := ["loop.example/g00871/impl.classNames", "internal/strconv.uint64pow10", "math/bits.deBruijn32tab", "math/bits.deBruijn64tab"], apart := false, laid := [("math/bits.deBruijn32tab", laid_math_bits_deBruijn32tab), ("math/bits.deBruijn64tab", laid_math_bits_deBruijn64tab), ("internal/strconv.uint64pow10", laid_internal_strconv_uint64pow10), ("loop.example/g00871/impl.classNames", laid_loop_example_g00871_impl_classNames)] }
def FnClassNamesSaid : Prop := fnClassNamesRow.holds Tryd.pinned (OpenSpec.ofChange fnClassNamesSpec)

/-- ITS FALSE NEIGHBOUR: 'it returns false'. Refute it at one input. -/
def fnClassNamesWrong : ChangeSpec := { name := "fnClassNames", vars := ["loop.example/g00871/impl.classNames"], fn := fun _ => fun
  | [d, g1] => { results := [.lit (.bool false)], args := [d], vars := [g1] }
  | _ => none }
def FnClassNamesWrongFalsely : Prop := fnClassNamesRow.holds Tryd.pinned (OpenSpec.ofChange fnClassNamesWrong)

/- THE SECOND FORM. 'bulk': how many values and letters a reading holds, each counted each time it is reached (what is shared counts as often as it is met; a slice's spare places count too). A statement '..UptoSaid' is the law's where the arguments, and the package variables that the reading takes, are together of bulk at most 1048576: NARROWER than '..Said'. Prove '..Said' where nothing that the law and all that it calls make is longer than what came in: it says more and counts as full. Else prove '..UptoSaid'. A law counts once. -/
mutual
def uptoBulk {H : Type} : DataW H → Nat
  | .lit (.string bytes) => bytes.length + 1
  | .lit _ => 1
  | .nil => 1
  | .ptr d => uptoBulk d + 1
  | .slice elems spare => uptoBulkAll elems + uptoBulkAll spare + 1
  | .agg parts => uptoBulkAll parts + 1
  | .iface _ d => uptoBulk d + 1
  | .map entries => uptoBulkEntries entries + 1
  | .held _ => 1
def uptoBulkAll {H : Type} : List (DataW H) → Nat
  | [] => 0
  | d :: r => uptoBulk d + uptoBulkAll r
def uptoBulkEntries {H : Type} : List (Lit × DataW H) → Nat
  | [] => 0
  | x :: r => uptoBulkEntry x + uptoBulkEntries r
def uptoBulkEntry {H : Type} : Lit × DataW H → Nat
  | (.string bytes, d) => bytes.length + uptoBulk d + 1
  | (_, d) => uptoBulk d + 1
 end
def uptoSmall : (H : Type) → List (DataW H) → Bool := fun _ ds => decide (uptoBulkAll ds ≤ 1048576)
def OpenSpec.upto (s : _root_.Go.ChangeSpec) : _root_.Go.OpenSpec := { _root_.Go.OpenSpec.ofChange s with cond := some uptoSmall }

/-- 'laws.FnExactSaysText', WHERE WHAT IT READS IS OF BULK AT MOST 1048576: true; the input reads as it did. -/
def fnExactSaysTextUptoRow : OpenClaim := { program := "ytbhobmngnjfgfaadoor", sum := "1d07f09963b00b531fcc969ff4fb2af092f6c4338e3efe5a0508b85ebf379bfd", func := "loop.example/g00871/laws.FnExactSaysText", spec := "fnExactSaysText", named := ["loop.example/g00871/impl.classNames", "internal/strconv.uint64pow10", "math/bits.deBruijn32tab", "math/bits.deBruijn64tab"], apart := false, laid := [("math/bits.deBruijn32tab", laid_math_bits_deBruijn32tab), ("math/bits.deBruijn64tab", laid_math_bits_deBruijn64tab), ("internal/strconv.uint64pow10", laid_internal_strconv_uint64pow10), ("loop.example/g00871/impl.classNames", laid_loop_example_g00871_impl_classNames)], narrowed := true }
def FnExactSaysTextUptoSaid : Prop := fnExactSaysTextUptoRow.holds Tryd.pinned (OpenSpec.upto fnExactSaysTextSpec)

/-- 'laws.FnExactLeavesOf', WHERE WHAT IT READS IS OF BULK AT MOST 1048576: true; the input reads as it did. -/
def fnExactLeavesOfUptoRow : OpenClaim := { program := "ytbhobmngnjfgfaadoor", sum := "1d07f09963b00b531fcc969ff4fb2af092f6c4338e3efe5a0508b85ebf379bfd", func := "loop.example/g00871/laws.FnExactLeavesOf", spec := "fnExactLeavesOf", recurses := true, named := ["math/bits.deBruijn32tab"], apart := false, laid := [("math/bits.deBruijn32tab", laid_math_bits_deBruijn32tab)], narrowed := true }
def FnExactLeavesOfUptoSaid : Prop := fnExactLeavesOfUptoRow.holds Tryd.pinned (OpenSpec.upto fnExactLeavesOfSpec)

/-- 'laws.FnExactFreeNames', WHERE WHAT IT READS IS OF BULK AT MOST 1048576: true; the input reads as it did. -/
def fnExactFreeNamesUptoRow : OpenClaim := { program := "ytbhobmngnjfgfaadoor", sum := "1d07f09963b00b531fcc969ff4fb2af092f6c4338e3efe5a0508b85ebf379bfd", func := "loop.example/g00871/laws.FnExactFreeNames", spec := "fnExactFreeNames", unfollowed := true, recurses := true, named := ["math/bits.deBruijn32tab"], apart := false, laid := [("math/bits.deBruijn32tab", laid_math_bits_deBruijn32tab)], narrowed := true }
def FnExactFreeNamesUptoSaid : Prop := fnExactFreeNamesUptoRow.holds Tryd.pinned (OpenSpec.upto fnExactFreeNamesSpec)

/-- 'laws.FnExactDistHereditary', WHERE WHAT IT READS IS OF BULK AT MOST 1048576: true; the input reads as it did. -/
def fnExactDistHereditaryUptoRow : OpenClaim := { program := "ytbhobmngnjfgfaadoor", sum := "1d07f09963b00b531fcc969ff4fb2af092f6c4338e3efe5a0508b85ebf379bfd", func := "loop.example/g00871/laws.FnExactDistHereditary", spec := "fnExactDistHereditary", named := ["math/bits.deBruijn32tab"], apart := false, laid := [("math/bits.deBruijn32tab", laid_math_bits_deBruijn32tab)], narrowed := true }
def FnExactDistHereditaryUptoSaid : Prop := fnExactDistHereditaryUptoRow.holds Tryd.pinned (OpenSpec.upto fnExactDistHereditarySpec)

/-- 'laws.FnExactThinnestFirst', WHERE WHAT IT READS IS OF BULK AT MOST 1048576: true; the input reads as it did. -/
def fnExactThinnestFirstUptoRow : OpenClaim := { program := "ytbhobmngnjfgfaadoor", sum := "1d07f09963b00b531fcc969ff4fb2af092f6c4338e3efe5a0508b85ebf379bfd", func := "loop.example/g00871/laws.FnExactThinnestFirst", spec := "fnExactThinnestFirst", recurses := true, named := ["math/bits.deBruijn32tab"], apart := false, laid := [("math/bits.deBruijn32tab", laid_math_bits_deBruijn32tab)], narrowed := true }
def FnExactThinnestFirstUptoSaid : Prop := fnExactThinnestFirstUptoRow.holds Tryd.pinned (OpenSpec.upto fnExactThinnestFirstSpec)

/-- 'laws.FnRules', WHERE WHAT IT READS IS OF BULK AT MOST 1048576: true; the input reads as it did. -/
def fnRulesUptoRow : OpenClaim := { program := "ytbhobmngnjfgfaadoor", sum := "1d07f09963b00b531fcc969ff4fb2af092f6c4338e3efe5a0508b85ebf379bfd", func := "loop.example/g00871/laws.FnRules", spec := "fnRules", unfollowed := true, recurses := true, named := ["math/bits.deBruijn32tab"], apart := false, laid := [("math/bits.deBruijn32tab", laid_math_bits_deBruijn32tab)], narrowed := true }
def FnRulesUptoSaid : Prop := fnRulesUptoRow.holds Tryd.pinned (OpenSpec.upto fnRulesSpec)

/-- 'laws.FnHeaviest', WHERE WHAT IT READS IS OF BULK AT MOST 1048576: true; the input reads as it did. -/
def fnHeaviestUptoRow : OpenClaim := { program := "ytbhobmngnjfgfaadoor", sum := "1d07f09963b00b531fcc969ff4fb2af092f6c4338e3efe5a0508b85ebf379bfd", func := "loop.example/g00871/laws.FnHeaviest", spec := "fnHeaviest", unfollowed := true, recurses := true, named := ["math/bits.deBruijn32tab"], apart := false, laid := [("math/bits.deBruijn32tab", laid_math_bits_deBruijn32tab)], narrowed := true }
def FnHeaviestUptoSaid : Prop := fnHeaviestUptoRow.holds Tryd.pinned (OpenSpec.upto fnHeaviestSpec)

/-- 'laws.FnUndone', WHERE WHAT IT READS IS OF BULK AT MOST 1048576: true; the input reads as it did. -/
def fnUndoneUptoRow : OpenClaim := { program := "ytbhobmngnjfgfaadoor", sum := "1d07f09963b00b531fcc969ff4fb2af092f6c4338e3efe5a0508b85ebf379bfd", func := "loop.example/g00871/laws.FnUndone", spec := "fnUndone", unfollowed := true, recurses := true, named := ["math/bits.deBruijn32tab"], apart := false, laid := [("math/bits.deBruijn32tab", laid_math_bits_deBruijn32tab)], narrowed := true }
def FnUndoneUptoSaid : Prop := fnUndoneUptoRow.holds Tryd.pinned (OpenSpec.upto fnUndoneSpec)

/-- 'laws.FnClassNames', WHERE WHAT IT READS IS OF BULK AT MOST 1048576: true; the input reads as it did. -/
def fnClassNamesUptoRow : OpenClaim := { program := "ytbhobmngnjfgfaadoor", sum := "1d07f09963b00b531fcc969ff4fb2af092f6c4338e3efe5a0508b85ebf379bfd", func := "loop.example/g00871/laws.FnClassNames", spec := "fnClassNames", named := ["loop.example/g00871/impl.classNames", "internal/strconv.uint64pow10", "math/bits.deBruijn32tab", "math/bits.deBruijn64tab"], apart := false, laid := [("math/bits.deBruijn32tab", laid_math_bits_deBruijn32tab), ("math/bits.deBruijn64tab", laid_math_bits_deBruijn64tab), ("internal/strconv.uint64pow10", laid_internal_strconv_uint64pow10), ("loop.example/g00871/impl.classNames", laid_loop_example_g00871_impl_classNames)], narrowed := true }
def FnClassNamesUptoSaid : Prop := fnClassNamesUptoRow.holds Tryd.pinned (OpenSpec.upto fnClassNamesSpec)

end Rows
end Go.Proofs.YtbhobmngnjfgfaaDoor
