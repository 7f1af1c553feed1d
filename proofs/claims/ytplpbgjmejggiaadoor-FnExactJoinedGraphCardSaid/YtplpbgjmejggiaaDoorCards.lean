/-
  DERIVED. GIVEN WITH THE SEED: THE CARDS: each row of YtplpbgjmejggiaaDoorRows.lean that lists a variable, with what it lists TIED to the program's text (the seventh form; the later family's looks); each row that meets fmt, with fmt's text TOLD by the authors' own Lean function (tested against real Go, not proved from fmt's source: count such statements apart). THE CARD IS WHAT COUNTS. Prove the row's statement (the work); the ties are given (YtplpbgjmejggiaaDoorTie.lean); close each card by the builder's one call (the guide's Derived/Test/ToyasCard.lean, 'card_holds'). Laid BY PROGRAM, IN A SANDBOX (cutbox-door.mjs). By AI agents, Wed Nov 11 2026. No macro, syntax, notation, axiom, sorry.
-/
import Derived.Test.YtplpbgjmejggiaaDoorRows
import GoSem.ClaimSeven
namespace Go.Proofs.YtplpbgjmejggiaaDoor
namespace Rows

/-- THE TIED CARD OF 'laws.FnExactWordModel'. -/
def fnExactWordModelCard : Claim7 := { stood := { row := fnExactWordModelRow, standIns := [], harness := (true, "9ecfa91f8ac8384ebf68d3ae95db9af4da8d681b852f8af7091b375a08a2c5c3"), looks := false }, kinds := [], alts := [], laidByText := true, laidKinds := [.data], laidTests := true, laidLooks := .later }
def FnExactWordModelCardSaid : Prop := Claim7.holds Tryd.pinned (.plain (OpenSpec.ofChange fnExactWordModelSpec)) fnExactWordModelCard

/-- THE TIED CARD OF 'laws.FnExactFullGraph'. -/
def fnExactFullGraphCard : Claim7 := { stood := { row := fnExactFullGraphRow, standIns := [], harness := (true, "9ecfa91f8ac8384ebf68d3ae95db9af4da8d681b852f8af7091b375a08a2c5c3"), looks := false }, kinds := [], alts := [], laidByText := true, laidKinds := [.data], laidTests := true, laidLooks := .later }
def FnExactFullGraphCardSaid : Prop := Claim7.holds Tryd.pinned (.plain (OpenSpec.ofChange fnExactFullGraphSpec)) fnExactFullGraphCard

/-- THE TIED CARD OF 'laws.FnExactPatternOf'. -/
def fnExactPatternOfCard : Claim7 := { stood := { row := fnExactPatternOfRow, standIns := [], harness := (true, "9ecfa91f8ac8384ebf68d3ae95db9af4da8d681b852f8af7091b375a08a2c5c3"), looks := false }, kinds := [], alts := [], laidByText := true, laidKinds := [.data], laidTests := true, laidLooks := .later }
def FnExactPatternOfCardSaid : Prop := Claim7.holds Tryd.pinned (.plain (OpenSpec.ofChange fnExactPatternOfSpec)) fnExactPatternOfCard

/-- THE TIED CARD OF 'laws.FnExactGraphOf'. -/
def fnExactGraphOfCard : Claim7 := { stood := { row := fnExactGraphOfRow, standIns := [], harness := (true, "9ecfa91f8ac8384ebf68d3ae95db9af4da8d681b852f8af7091b375a08a2c5c3"), looks := false }, kinds := [], alts := [], laidByText := true, laidKinds := [.data], laidTests := true, laidLooks := .later }
def FnExactGraphOfCardSaid : Prop := Claim7.holds Tryd.pinned (.plain (OpenSpec.ofChange fnExactGraphOfSpec)) fnExactGraphOfCard

/-- THE TIED CARD OF 'laws.FnExactGraphOfIntervals'. -/
def fnExactGraphOfIntervalsCard : Claim7 := { stood := { row := fnExactGraphOfIntervalsRow, standIns := [], harness := (true, "9ecfa91f8ac8384ebf68d3ae95db9af4da8d681b852f8af7091b375a08a2c5c3"), looks := false }, kinds := [], alts := [], laidByText := true, laidKinds := [.data], laidTests := true, laidLooks := .later }
def FnExactGraphOfIntervalsCardSaid : Prop := Claim7.holds Tryd.pinned (.plain (OpenSpec.ofChange fnExactGraphOfIntervalsSpec)) fnExactGraphOfIntervalsCard

/-- THE TIED CARD OF 'laws.FnExactTwoSided'. -/
def fnExactTwoSidedCard : Claim7 := { stood := { row := fnExactTwoSidedRow, standIns := [], harness := (true, "9ecfa91f8ac8384ebf68d3ae95db9af4da8d681b852f8af7091b375a08a2c5c3"), looks := false }, kinds := [], alts := [], laidByText := true, laidKinds := [.data], laidTests := true, laidLooks := .later }
def FnExactTwoSidedCardSaid : Prop := Claim7.holds Tryd.pinned (.plain (OpenSpec.ofChange fnExactTwoSidedSpec)) fnExactTwoSidedCard

/-- THE TIED CARD OF 'laws.FnExactWheelGraph'. -/
def fnExactWheelGraphCard : Claim7 := { stood := { row := fnExactWheelGraphRow, standIns := [], harness := (true, "9ecfa91f8ac8384ebf68d3ae95db9af4da8d681b852f8af7091b375a08a2c5c3"), looks := false }, kinds := [], alts := [], laidByText := true, laidKinds := [.data], laidTests := true, laidLooks := .later }
def FnExactWheelGraphCardSaid : Prop := Claim7.holds Tryd.pinned (.plain (OpenSpec.ofChange fnExactWheelGraphSpec)) fnExactWheelGraphCard

/-- THE TIED CARD OF 'laws.FnExactBeside'. -/
def fnExactBesideCard : Claim7 := { stood := { row := fnExactBesideRow, standIns := [], harness := (true, "9ecfa91f8ac8384ebf68d3ae95db9af4da8d681b852f8af7091b375a08a2c5c3"), looks := false }, kinds := [], alts := [], laidByText := true, laidKinds := [.data], laidTests := true, laidLooks := .later }
def FnExactBesideCardSaid : Prop := Claim7.holds Tryd.pinned (.plain (OpenSpec.ofChange fnExactBesideSpec)) fnExactBesideCard

/-- THE TIED CARD OF 'laws.FnExactJoinedGraph'. -/
def fnExactJoinedGraphCard : Claim7 := { stood := { row := fnExactJoinedGraphRow, standIns := [], harness := (true, "9ecfa91f8ac8384ebf68d3ae95db9af4da8d681b852f8af7091b375a08a2c5c3"), looks := false }, kinds := [], alts := [], laidByText := true, laidKinds := [.data], laidTests := true, laidLooks := .later }
def FnExactJoinedGraphCardSaid : Prop := Claim7.holds Tryd.pinned (.plain (OpenSpec.ofChange fnExactJoinedGraphSpec)) fnExactJoinedGraphCard

/-- THE TIED CARD OF 'laws.FnExactComplement'. -/
def fnExactComplementCard : Claim7 := { stood := { row := fnExactComplementRow, standIns := [], harness := (true, "9ecfa91f8ac8384ebf68d3ae95db9af4da8d681b852f8af7091b375a08a2c5c3"), looks := false }, kinds := [], alts := [], laidByText := true, laidKinds := [.data], laidTests := true, laidLooks := .later }
def FnExactComplementCardSaid : Prop := Claim7.holds Tryd.pinned (.plain (OpenSpec.ofChange fnExactComplementSpec)) fnExactComplementCard

/-- THE TIED CARD OF 'laws.FnExactAddedVertex'. -/
def fnExactAddedVertexCard : Claim7 := { stood := { row := fnExactAddedVertexRow, standIns := [], harness := (true, "9ecfa91f8ac8384ebf68d3ae95db9af4da8d681b852f8af7091b375a08a2c5c3"), looks := false }, kinds := [], alts := [], laidByText := true, laidKinds := [.data], laidTests := true, laidLooks := .later }
def FnExactAddedVertexCardSaid : Prop := Claim7.holds Tryd.pinned (.plain (OpenSpec.ofChange fnExactAddedVertexSpec)) fnExactAddedVertexCard

/-- THE TIED CARD OF 'laws.FnExactQuotientBy'. -/
def fnExactQuotientByCard : Claim7 := { stood := { row := fnExactQuotientByRow, standIns := [], harness := (true, "9ecfa91f8ac8384ebf68d3ae95db9af4da8d681b852f8af7091b375a08a2c5c3"), looks := false }, kinds := [], alts := [], laidByText := true, laidKinds := [.data], laidTests := true, laidLooks := .later }
def FnExactQuotientByCardSaid : Prop := Claim7.holds Tryd.pinned (.plain (OpenSpec.ofChange fnExactQuotientBySpec)) fnExactQuotientByCard

/-- THE SECOND FORM's CARD OF 'laws.FnExactWordModel'. -/
def fnExactWordModelUptoCard : Claim7 := { stood := { row := fnExactWordModelUptoRow, standIns := [], harness := (true, "9ecfa91f8ac8384ebf68d3ae95db9af4da8d681b852f8af7091b375a08a2c5c3"), looks := false }, kinds := [], alts := [], laidByText := true, laidKinds := [.data], laidTests := true, laidLooks := .later }
def FnExactWordModelUptoCardSaid : Prop := Claim7.holds Tryd.pinned (.plain (OpenSpec.upto fnExactWordModelSpec)) fnExactWordModelUptoCard

/-- THE SECOND FORM's CARD OF 'laws.FnExactFullGraph'. -/
def fnExactFullGraphUptoCard : Claim7 := { stood := { row := fnExactFullGraphUptoRow, standIns := [], harness := (true, "9ecfa91f8ac8384ebf68d3ae95db9af4da8d681b852f8af7091b375a08a2c5c3"), looks := false }, kinds := [], alts := [], laidByText := true, laidKinds := [.data], laidTests := true, laidLooks := .later }
def FnExactFullGraphUptoCardSaid : Prop := Claim7.holds Tryd.pinned (.plain (OpenSpec.upto fnExactFullGraphSpec)) fnExactFullGraphUptoCard

/-- THE SECOND FORM's CARD OF 'laws.FnExactPatternOf'. -/
def fnExactPatternOfUptoCard : Claim7 := { stood := { row := fnExactPatternOfUptoRow, standIns := [], harness := (true, "9ecfa91f8ac8384ebf68d3ae95db9af4da8d681b852f8af7091b375a08a2c5c3"), looks := false }, kinds := [], alts := [], laidByText := true, laidKinds := [.data], laidTests := true, laidLooks := .later }
def FnExactPatternOfUptoCardSaid : Prop := Claim7.holds Tryd.pinned (.plain (OpenSpec.upto fnExactPatternOfSpec)) fnExactPatternOfUptoCard

/-- THE SECOND FORM's CARD OF 'laws.FnExactGraphOf'. -/
def fnExactGraphOfUptoCard : Claim7 := { stood := { row := fnExactGraphOfUptoRow, standIns := [], harness := (true, "9ecfa91f8ac8384ebf68d3ae95db9af4da8d681b852f8af7091b375a08a2c5c3"), looks := false }, kinds := [], alts := [], laidByText := true, laidKinds := [.data], laidTests := true, laidLooks := .later }
def FnExactGraphOfUptoCardSaid : Prop := Claim7.holds Tryd.pinned (.plain (OpenSpec.upto fnExactGraphOfSpec)) fnExactGraphOfUptoCard

/-- THE SECOND FORM's CARD OF 'laws.FnExactGraphOfIntervals'. -/
def fnExactGraphOfIntervalsUptoCard : Claim7 := { stood := { row := fnExactGraphOfIntervalsUptoRow, standIns := [], harness := (true, "9ecfa91f8ac8384ebf68d3ae95db9af4da8d681b852f8af7091b375a08a2c5c3"), looks := false }, kinds := [], alts := [], laidByText := true, laidKinds := [.data], laidTests := true, laidLooks := .later }
def FnExactGraphOfIntervalsUptoCardSaid : Prop := Claim7.holds Tryd.pinned (.plain (OpenSpec.upto fnExactGraphOfIntervalsSpec)) fnExactGraphOfIntervalsUptoCard

/-- THE SECOND FORM's CARD OF 'laws.FnExactTwoSided'. -/
def fnExactTwoSidedUptoCard : Claim7 := { stood := { row := fnExactTwoSidedUptoRow, standIns := [], harness := (true, "9ecfa91f8ac8384ebf68d3ae95db9af4da8d681b852f8af7091b375a08a2c5c3"), looks := false }, kinds := [], alts := [], laidByText := true, laidKinds := [.data], laidTests := true, laidLooks := .later }
def FnExactTwoSidedUptoCardSaid : Prop := Claim7.holds Tryd.pinned (.plain (OpenSpec.upto fnExactTwoSidedSpec)) fnExactTwoSidedUptoCard

/-- THE SECOND FORM's CARD OF 'laws.FnExactWheelGraph'. -/
def fnExactWheelGraphUptoCard : Claim7 := { stood := { row := fnExactWheelGraphUptoRow, standIns := [], harness := (true, "9ecfa91f8ac8384ebf68d3ae95db9af4da8d681b852f8af7091b375a08a2c5c3"), looks := false }, kinds := [], alts := [], laidByText := true, laidKinds := [.data], laidTests := true, laidLooks := .later }
def FnExactWheelGraphUptoCardSaid : Prop := Claim7.holds Tryd.pinned (.plain (OpenSpec.upto fnExactWheelGraphSpec)) fnExactWheelGraphUptoCard

/-- THE SECOND FORM's CARD OF 'laws.FnExactBeside'. -/
def fnExactBesideUptoCard : Claim7 := { stood := { row := fnExactBesideUptoRow, standIns := [], harness := (true, "9ecfa91f8ac8384ebf68d3ae95db9af4da8d681b852f8af7091b375a08a2c5c3"), looks := false }, kinds := [], alts := [], laidByText := true, laidKinds := [.data], laidTests := true, laidLooks := .later }
def FnExactBesideUptoCardSaid : Prop := Claim7.holds Tryd.pinned (.plain (OpenSpec.upto fnExactBesideSpec)) fnExactBesideUptoCard

/-- THE SECOND FORM's CARD OF 'laws.FnExactJoinedGraph'. -/
def fnExactJoinedGraphUptoCard : Claim7 := { stood := { row := fnExactJoinedGraphUptoRow, standIns := [], harness := (true, "9ecfa91f8ac8384ebf68d3ae95db9af4da8d681b852f8af7091b375a08a2c5c3"), looks := false }, kinds := [], alts := [], laidByText := true, laidKinds := [.data], laidTests := true, laidLooks := .later }
def FnExactJoinedGraphUptoCardSaid : Prop := Claim7.holds Tryd.pinned (.plain (OpenSpec.upto fnExactJoinedGraphSpec)) fnExactJoinedGraphUptoCard

/-- THE SECOND FORM's CARD OF 'laws.FnExactComplement'. -/
def fnExactComplementUptoCard : Claim7 := { stood := { row := fnExactComplementUptoRow, standIns := [], harness := (true, "9ecfa91f8ac8384ebf68d3ae95db9af4da8d681b852f8af7091b375a08a2c5c3"), looks := false }, kinds := [], alts := [], laidByText := true, laidKinds := [.data], laidTests := true, laidLooks := .later }
def FnExactComplementUptoCardSaid : Prop := Claim7.holds Tryd.pinned (.plain (OpenSpec.upto fnExactComplementSpec)) fnExactComplementUptoCard

/-- THE SECOND FORM's CARD OF 'laws.FnExactAddedVertex'. -/
def fnExactAddedVertexUptoCard : Claim7 := { stood := { row := fnExactAddedVertexUptoRow, standIns := [], harness := (true, "9ecfa91f8ac8384ebf68d3ae95db9af4da8d681b852f8af7091b375a08a2c5c3"), looks := false }, kinds := [], alts := [], laidByText := true, laidKinds := [.data], laidTests := true, laidLooks := .later }
def FnExactAddedVertexUptoCardSaid : Prop := Claim7.holds Tryd.pinned (.plain (OpenSpec.upto fnExactAddedVertexSpec)) fnExactAddedVertexUptoCard

/-- THE SECOND FORM's CARD OF 'laws.FnExactQuotientBy'. -/
def fnExactQuotientByUptoCard : Claim7 := { stood := { row := fnExactQuotientByUptoRow, standIns := [], harness := (true, "9ecfa91f8ac8384ebf68d3ae95db9af4da8d681b852f8af7091b375a08a2c5c3"), looks := false }, kinds := [], alts := [], laidByText := true, laidKinds := [.data], laidTests := true, laidLooks := .later }
def FnExactQuotientByUptoCardSaid : Prop := Claim7.holds Tryd.pinned (.plain (OpenSpec.upto fnExactQuotientBySpec)) fnExactQuotientByUptoCard
end Rows
end Go.Proofs.YtplpbgjmejggiaaDoor
