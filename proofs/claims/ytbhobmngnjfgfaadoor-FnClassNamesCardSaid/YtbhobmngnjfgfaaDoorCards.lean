/-
  DERIVED. GIVEN WITH THE SEED: THE CARDS: each row of YtbhobmngnjfgfaaDoorRows.lean that lists a variable, with what it lists TIED to the program's text (the seventh form; the later family's looks); each row that meets fmt, with fmt's text TOLD by the authors' own Lean function (tested against real Go, not proved from fmt's source: count such statements apart). THE CARD IS WHAT COUNTS. Prove the row's statement (the work); the ties are given (YtbhobmngnjfgfaaDoorTie.lean); close each card by the builder's one call (the guide's Derived/Test/ToyasCard.lean, 'card_holds'). Laid BY PROGRAM, IN A SANDBOX (cutbox-door.mjs). By AI agents, Wed Nov 11 2026. No macro, syntax, notation, axiom, sorry.
-/
import Derived.Test.YtbhobmngnjfgfaaDoorRows
import GoSem.ClaimSeven
namespace Go.Proofs.YtbhobmngnjfgfaaDoor
namespace Rows

/-- THE TIED CARD OF 'laws.FnExactSaysText'. -/
def fnExactSaysTextCard : Claim7 := { stood := { row := fnExactSaysTextRow, standIns := [], harness := (true, "47d7e725603953a30e366bd36749008e1a0297e762a87e39e0a1671d3a780a40"), looks := false }, kinds := [], alts := [], laidByText := true, laidKinds := [.data, .data, .data, .widerDeep], laidTests := true, laidLooks := .later }
def FnExactSaysTextCardSaid : Prop := Claim7.holds Tryd.pinned (.plain (OpenSpec.ofChange fnExactSaysTextSpec)) fnExactSaysTextCard

/-- THE TIED CARD OF 'laws.FnExactLeavesOf'. -/
def fnExactLeavesOfCard : Claim7 := { stood := { row := fnExactLeavesOfRow, standIns := [], harness := (true, "47d7e725603953a30e366bd36749008e1a0297e762a87e39e0a1671d3a780a40"), looks := false }, kinds := [], alts := [], laidByText := true, laidKinds := [.data], laidTests := true, laidLooks := .later }
def FnExactLeavesOfCardSaid : Prop := Claim7.holds Tryd.pinned (.plain (OpenSpec.ofChange fnExactLeavesOfSpec)) fnExactLeavesOfCard

/-- THE TIED CARD OF 'laws.FnExactFreeNames'. -/
def fnExactFreeNamesCard : Claim7 := { stood := { row := fnExactFreeNamesRow, standIns := [], harness := (true, "47d7e725603953a30e366bd36749008e1a0297e762a87e39e0a1671d3a780a40"), looks := false }, kinds := [], alts := [], laidByText := true, laidKinds := [.data], laidTests := true, laidLooks := .later }
def FnExactFreeNamesCardSaid : Prop := Claim7.holds Tryd.pinned (.plain (OpenSpec.ofChange fnExactFreeNamesSpec)) fnExactFreeNamesCard

/-- THE TIED CARD OF 'laws.FnExactDistHereditary'. -/
def fnExactDistHereditaryCard : Claim7 := { stood := { row := fnExactDistHereditaryRow, standIns := [], harness := (true, "47d7e725603953a30e366bd36749008e1a0297e762a87e39e0a1671d3a780a40"), looks := false }, kinds := [], alts := [], laidByText := true, laidKinds := [.data], laidTests := true, laidLooks := .later }
def FnExactDistHereditaryCardSaid : Prop := Claim7.holds Tryd.pinned (.plain (OpenSpec.ofChange fnExactDistHereditarySpec)) fnExactDistHereditaryCard

/-- THE TIED CARD OF 'laws.FnExactThinnestFirst'. -/
def fnExactThinnestFirstCard : Claim7 := { stood := { row := fnExactThinnestFirstRow, standIns := [], harness := (true, "47d7e725603953a30e366bd36749008e1a0297e762a87e39e0a1671d3a780a40"), looks := false }, kinds := [], alts := [], laidByText := true, laidKinds := [.data], laidTests := true, laidLooks := .later }
def FnExactThinnestFirstCardSaid : Prop := Claim7.holds Tryd.pinned (.plain (OpenSpec.ofChange fnExactThinnestFirstSpec)) fnExactThinnestFirstCard

/-- THE TIED CARD OF 'laws.FnRules'. -/
def fnRulesCard : Claim7 := { stood := { row := fnRulesRow, standIns := [], harness := (true, "47d7e725603953a30e366bd36749008e1a0297e762a87e39e0a1671d3a780a40"), looks := false }, kinds := [], alts := [], laidByText := true, laidKinds := [.data], laidTests := true, laidLooks := .later }
def FnRulesCardSaid : Prop := Claim7.holds Tryd.pinned (.plain (OpenSpec.ofChange fnRulesSpec)) fnRulesCard

/-- THE TIED CARD OF 'laws.FnHeaviest'. -/
def fnHeaviestCard : Claim7 := { stood := { row := fnHeaviestRow, standIns := [], harness := (true, "47d7e725603953a30e366bd36749008e1a0297e762a87e39e0a1671d3a780a40"), looks := false }, kinds := [], alts := [], laidByText := true, laidKinds := [.data], laidTests := true, laidLooks := .later }
def FnHeaviestCardSaid : Prop := Claim7.holds Tryd.pinned (.plain (OpenSpec.ofChange fnHeaviestSpec)) fnHeaviestCard

/-- THE TIED CARD OF 'laws.FnUndone'. -/
def fnUndoneCard : Claim7 := { stood := { row := fnUndoneRow, standIns := [], harness := (true, "47d7e725603953a30e366bd36749008e1a0297e762a87e39e0a1671d3a780a40"), looks := false }, kinds := [], alts := [], laidByText := true, laidKinds := [.data], laidTests := true, laidLooks := .later }
def FnUndoneCardSaid : Prop := Claim7.holds Tryd.pinned (.plain (OpenSpec.ofChange fnUndoneSpec)) fnUndoneCard

/-- THE TIED CARD OF 'laws.FnClassNames'. -/
def fnClassNamesCard : Claim7 := { stood := { row := fnClassNamesRow, standIns := [], harness := (true, "47d7e725603953a30e366bd36749008e1a0297e762a87e39e0a1671d3a780a40"), looks := false }, kinds := [], alts := [], laidByText := true, laidKinds := [.data, .data, .data, .widerDeep], laidTests := true, laidLooks := .later }
def FnClassNamesCardSaid : Prop := Claim7.holds Tryd.pinned (.plain (OpenSpec.ofChange fnClassNamesSpec)) fnClassNamesCard

/-- THE SECOND FORM's CARD OF 'laws.FnExactSaysText'. -/
def fnExactSaysTextUptoCard : Claim7 := { stood := { row := fnExactSaysTextUptoRow, standIns := [], harness := (true, "47d7e725603953a30e366bd36749008e1a0297e762a87e39e0a1671d3a780a40"), looks := false }, kinds := [], alts := [], laidByText := true, laidKinds := [.data, .data, .data, .widerDeep], laidTests := true, laidLooks := .later }
def FnExactSaysTextUptoCardSaid : Prop := Claim7.holds Tryd.pinned (.plain (OpenSpec.upto fnExactSaysTextSpec)) fnExactSaysTextUptoCard

/-- THE SECOND FORM's CARD OF 'laws.FnExactLeavesOf'. -/
def fnExactLeavesOfUptoCard : Claim7 := { stood := { row := fnExactLeavesOfUptoRow, standIns := [], harness := (true, "47d7e725603953a30e366bd36749008e1a0297e762a87e39e0a1671d3a780a40"), looks := false }, kinds := [], alts := [], laidByText := true, laidKinds := [.data], laidTests := true, laidLooks := .later }
def FnExactLeavesOfUptoCardSaid : Prop := Claim7.holds Tryd.pinned (.plain (OpenSpec.upto fnExactLeavesOfSpec)) fnExactLeavesOfUptoCard

/-- THE SECOND FORM's CARD OF 'laws.FnExactFreeNames'. -/
def fnExactFreeNamesUptoCard : Claim7 := { stood := { row := fnExactFreeNamesUptoRow, standIns := [], harness := (true, "47d7e725603953a30e366bd36749008e1a0297e762a87e39e0a1671d3a780a40"), looks := false }, kinds := [], alts := [], laidByText := true, laidKinds := [.data], laidTests := true, laidLooks := .later }
def FnExactFreeNamesUptoCardSaid : Prop := Claim7.holds Tryd.pinned (.plain (OpenSpec.upto fnExactFreeNamesSpec)) fnExactFreeNamesUptoCard

/-- THE SECOND FORM's CARD OF 'laws.FnExactDistHereditary'. -/
def fnExactDistHereditaryUptoCard : Claim7 := { stood := { row := fnExactDistHereditaryUptoRow, standIns := [], harness := (true, "47d7e725603953a30e366bd36749008e1a0297e762a87e39e0a1671d3a780a40"), looks := false }, kinds := [], alts := [], laidByText := true, laidKinds := [.data], laidTests := true, laidLooks := .later }
def FnExactDistHereditaryUptoCardSaid : Prop := Claim7.holds Tryd.pinned (.plain (OpenSpec.upto fnExactDistHereditarySpec)) fnExactDistHereditaryUptoCard

/-- THE SECOND FORM's CARD OF 'laws.FnExactThinnestFirst'. -/
def fnExactThinnestFirstUptoCard : Claim7 := { stood := { row := fnExactThinnestFirstUptoRow, standIns := [], harness := (true, "47d7e725603953a30e366bd36749008e1a0297e762a87e39e0a1671d3a780a40"), looks := false }, kinds := [], alts := [], laidByText := true, laidKinds := [.data], laidTests := true, laidLooks := .later }
def FnExactThinnestFirstUptoCardSaid : Prop := Claim7.holds Tryd.pinned (.plain (OpenSpec.upto fnExactThinnestFirstSpec)) fnExactThinnestFirstUptoCard

/-- THE SECOND FORM's CARD OF 'laws.FnRules'. -/
def fnRulesUptoCard : Claim7 := { stood := { row := fnRulesUptoRow, standIns := [], harness := (true, "47d7e725603953a30e366bd36749008e1a0297e762a87e39e0a1671d3a780a40"), looks := false }, kinds := [], alts := [], laidByText := true, laidKinds := [.data], laidTests := true, laidLooks := .later }
def FnRulesUptoCardSaid : Prop := Claim7.holds Tryd.pinned (.plain (OpenSpec.upto fnRulesSpec)) fnRulesUptoCard

/-- THE SECOND FORM's CARD OF 'laws.FnHeaviest'. -/
def fnHeaviestUptoCard : Claim7 := { stood := { row := fnHeaviestUptoRow, standIns := [], harness := (true, "47d7e725603953a30e366bd36749008e1a0297e762a87e39e0a1671d3a780a40"), looks := false }, kinds := [], alts := [], laidByText := true, laidKinds := [.data], laidTests := true, laidLooks := .later }
def FnHeaviestUptoCardSaid : Prop := Claim7.holds Tryd.pinned (.plain (OpenSpec.upto fnHeaviestSpec)) fnHeaviestUptoCard

/-- THE SECOND FORM's CARD OF 'laws.FnUndone'. -/
def fnUndoneUptoCard : Claim7 := { stood := { row := fnUndoneUptoRow, standIns := [], harness := (true, "47d7e725603953a30e366bd36749008e1a0297e762a87e39e0a1671d3a780a40"), looks := false }, kinds := [], alts := [], laidByText := true, laidKinds := [.data], laidTests := true, laidLooks := .later }
def FnUndoneUptoCardSaid : Prop := Claim7.holds Tryd.pinned (.plain (OpenSpec.upto fnUndoneSpec)) fnUndoneUptoCard

/-- THE SECOND FORM's CARD OF 'laws.FnClassNames'. -/
def fnClassNamesUptoCard : Claim7 := { stood := { row := fnClassNamesUptoRow, standIns := [], harness := (true, "47d7e725603953a30e366bd36749008e1a0297e762a87e39e0a1671d3a780a40"), looks := false }, kinds := [], alts := [], laidByText := true, laidKinds := [.data, .data, .data, .widerDeep], laidTests := true, laidLooks := .later }
def FnClassNamesUptoCardSaid : Prop := Claim7.holds Tryd.pinned (.plain (OpenSpec.upto fnClassNamesSpec)) fnClassNamesUptoCard
end Rows
end Go.Proofs.YtbhobmngnjfgfaaDoor
