/-
  DERIVED. GIVEN WITH THE SEED: THE CARDS: each row of YtikcooagdaghnaaDoorRows.lean that lists a variable, with what it lists TIED to the program's text (the seventh form; the later family's looks); each row that meets fmt, with fmt's text TOLD by the authors' own Lean function (tested against real Go, not proved from fmt's source: count such statements apart). THE CARD IS WHAT COUNTS. Prove the row's statement (the work); the ties are given (YtikcooagdaghnaaDoorTie.lean); close each card by the builder's one call (the guide's Derived/Test/ToyasCard.lean, 'card_holds'). Laid BY PROGRAM, IN A SANDBOX (cutbox-door.mjs). By AI agents, Wed Nov 11 2026. No macro, syntax, notation, axiom, sorry.
-/
import Derived.Test.YtikcooagdaghnaaDoorRows
import GoSem.ClaimSeven
namespace Go.Proofs.YtikcooagdaghnaaDoor
namespace Rows

/-- THE TIED CARD OF 'laws.FnExactCutEdge'. -/
def fnExactCutEdgeCard : Claim7 := { stood := { row := fnExactCutEdgeRow, standIns := [], harness := (true, "ffced45150ce3113e608e147ab54f838c95474ac9d20d4755f87c62b7410e2ef"), looks := false }, kinds := [], alts := [], laidByText := true, laidKinds := [.data], laidTests := true, laidLooks := .later }
def FnExactCutEdgeCardSaid : Prop := Claim7.holds Tryd.pinned (.plain (OpenSpec.ofChange fnExactCutEdgeSpec)) fnExactCutEdgeCard

/-- THE TIED CARD OF 'laws.FnExactAddedEdge'. -/
def fnExactAddedEdgeCard : Claim7 := { stood := { row := fnExactAddedEdgeRow, standIns := [], harness := (true, "ffced45150ce3113e608e147ab54f838c95474ac9d20d4755f87c62b7410e2ef"), looks := false }, kinds := [], alts := [], laidByText := true, laidKinds := [.data], laidTests := true, laidLooks := .later }
def FnExactAddedEdgeCardSaid : Prop := Claim7.holds Tryd.pinned (.plain (OpenSpec.ofChange fnExactAddedEdgeSpec)) fnExactAddedEdgeCard

/-- THE TIED CARD OF 'laws.FnExactInduced'. -/
def fnExactInducedCard : Claim7 := { stood := { row := fnExactInducedRow, standIns := [], harness := (true, "ffced45150ce3113e608e147ab54f838c95474ac9d20d4755f87c62b7410e2ef"), looks := false }, kinds := [], alts := [], laidByText := true, laidKinds := [.data], laidTests := true, laidLooks := .later }
def FnExactInducedCardSaid : Prop := Claim7.holds Tryd.pinned (.plain (OpenSpec.ofChange fnExactInducedSpec)) fnExactInducedCard

/-- THE TIED CARD OF 'laws.FnExactApexOf'. -/
def fnExactApexOfCard : Claim7 := { stood := { row := fnExactApexOfRow, standIns := [], harness := (true, "ffced45150ce3113e608e147ab54f838c95474ac9d20d4755f87c62b7410e2ef"), looks := false }, kinds := [], alts := [], laidByText := true, laidKinds := [.data], laidTests := true, laidLooks := .later }
def FnExactApexOfCardSaid : Prop := Claim7.holds Tryd.pinned (.plain (OpenSpec.ofChange fnExactApexOfSpec)) fnExactApexOfCard

/-- THE TIED CARD OF 'laws.FnExactCutVertex'. -/
def fnExactCutVertexCard : Claim7 := { stood := { row := fnExactCutVertexRow, standIns := [], harness := (true, "ffced45150ce3113e608e147ab54f838c95474ac9d20d4755f87c62b7410e2ef"), looks := false }, kinds := [], alts := [], laidByText := true, laidKinds := [.data], laidTests := true, laidLooks := .later }
def FnExactCutVertexCardSaid : Prop := Claim7.holds Tryd.pinned (.plain (OpenSpec.ofChange fnExactCutVertexSpec)) fnExactCutVertexCard

/-- THE TIED CARD OF 'laws.FnExactSplitEdge'. -/
def fnExactSplitEdgeCard : Claim7 := { stood := { row := fnExactSplitEdgeRow, standIns := [], harness := (true, "ffced45150ce3113e608e147ab54f838c95474ac9d20d4755f87c62b7410e2ef"), looks := false }, kinds := [], alts := [], laidByText := true, laidKinds := [.data], laidTests := true, laidLooks := .later }
def FnExactSplitEdgeCardSaid : Prop := Claim7.holds Tryd.pinned (.plain (OpenSpec.ofChange fnExactSplitEdgeSpec)) fnExactSplitEdgeCard

/-- THE TIED CARD OF 'laws.FnExactContracted'. -/
def fnExactContractedCard : Claim7 := { stood := { row := fnExactContractedRow, standIns := [], harness := (true, "ffced45150ce3113e608e147ab54f838c95474ac9d20d4755f87c62b7410e2ef"), looks := false }, kinds := [], alts := [], laidByText := true, laidKinds := [.data], laidTests := true, laidLooks := .later }
def FnExactContractedCardSaid : Prop := Claim7.holds Tryd.pinned (.plain (OpenSpec.ofChange fnExactContractedSpec)) fnExactContractedCard

/-- THE TIED CARD OF 'laws.FnUndone'. -/
def fnUndoneCard : Claim7 := { stood := { row := fnUndoneRow, standIns := [], harness := (true, "ffced45150ce3113e608e147ab54f838c95474ac9d20d4755f87c62b7410e2ef"), looks := false }, kinds := [], alts := [], laidByText := true, laidKinds := [.data], laidTests := true, laidLooks := .later }
def FnUndoneCardSaid : Prop := Claim7.holds Tryd.pinned (.plain (OpenSpec.ofChange fnUndoneSpec)) fnUndoneCard

/-- THE TIED CARD OF 'laws.FnExactEdgesIn'. -/
def fnExactEdgesInCard : Claim7 := { stood := { row := fnExactEdgesInRow, standIns := [], harness := (true, "ffced45150ce3113e608e147ab54f838c95474ac9d20d4755f87c62b7410e2ef"), looks := false }, kinds := [], alts := [], laidByText := true, laidKinds := [.data], laidTests := true, laidLooks := .later }
def FnExactEdgesInCardSaid : Prop := Claim7.holds Tryd.pinned (.plain (OpenSpec.ofChange fnExactEdgesInSpec)) fnExactEdgesInCard

/-- THE TIED CARD OF 'laws.FnExactClawOf'. -/
def fnExactClawOfCard : Claim7 := { stood := { row := fnExactClawOfRow, standIns := [], harness := (true, "ffced45150ce3113e608e147ab54f838c95474ac9d20d4755f87c62b7410e2ef"), looks := false }, kinds := [], alts := [], laidByText := true, laidKinds := [.data], laidTests := true, laidLooks := .later }
def FnExactClawOfCardSaid : Prop := Claim7.holds Tryd.pinned (.plain (OpenSpec.ofChange fnExactClawOfSpec)) fnExactClawOfCard

/-- THE TIED CARD OF 'laws.FnExactSimplicialIn'. -/
def fnExactSimplicialInCard : Claim7 := { stood := { row := fnExactSimplicialInRow, standIns := [], harness := (true, "ffced45150ce3113e608e147ab54f838c95474ac9d20d4755f87c62b7410e2ef"), looks := false }, kinds := [], alts := [], laidByText := true, laidKinds := [.data], laidTests := true, laidLooks := .later }
def FnExactSimplicialInCardSaid : Prop := Claim7.holds Tryd.pinned (.plain (OpenSpec.ofChange fnExactSimplicialInSpec)) fnExactSimplicialInCard

/-- THE SECOND FORM's CARD OF 'laws.FnExactCutEdge'. -/
def fnExactCutEdgeUptoCard : Claim7 := { stood := { row := fnExactCutEdgeUptoRow, standIns := [], harness := (true, "ffced45150ce3113e608e147ab54f838c95474ac9d20d4755f87c62b7410e2ef"), looks := false }, kinds := [], alts := [], laidByText := true, laidKinds := [.data], laidTests := true, laidLooks := .later }
def FnExactCutEdgeUptoCardSaid : Prop := Claim7.holds Tryd.pinned (.plain (OpenSpec.upto fnExactCutEdgeSpec)) fnExactCutEdgeUptoCard

/-- THE SECOND FORM's CARD OF 'laws.FnExactAddedEdge'. -/
def fnExactAddedEdgeUptoCard : Claim7 := { stood := { row := fnExactAddedEdgeUptoRow, standIns := [], harness := (true, "ffced45150ce3113e608e147ab54f838c95474ac9d20d4755f87c62b7410e2ef"), looks := false }, kinds := [], alts := [], laidByText := true, laidKinds := [.data], laidTests := true, laidLooks := .later }
def FnExactAddedEdgeUptoCardSaid : Prop := Claim7.holds Tryd.pinned (.plain (OpenSpec.upto fnExactAddedEdgeSpec)) fnExactAddedEdgeUptoCard

/-- THE SECOND FORM's CARD OF 'laws.FnExactInduced'. -/
def fnExactInducedUptoCard : Claim7 := { stood := { row := fnExactInducedUptoRow, standIns := [], harness := (true, "ffced45150ce3113e608e147ab54f838c95474ac9d20d4755f87c62b7410e2ef"), looks := false }, kinds := [], alts := [], laidByText := true, laidKinds := [.data], laidTests := true, laidLooks := .later }
def FnExactInducedUptoCardSaid : Prop := Claim7.holds Tryd.pinned (.plain (OpenSpec.upto fnExactInducedSpec)) fnExactInducedUptoCard

/-- THE SECOND FORM's CARD OF 'laws.FnExactApexOf'. -/
def fnExactApexOfUptoCard : Claim7 := { stood := { row := fnExactApexOfUptoRow, standIns := [], harness := (true, "ffced45150ce3113e608e147ab54f838c95474ac9d20d4755f87c62b7410e2ef"), looks := false }, kinds := [], alts := [], laidByText := true, laidKinds := [.data], laidTests := true, laidLooks := .later }
def FnExactApexOfUptoCardSaid : Prop := Claim7.holds Tryd.pinned (.plain (OpenSpec.upto fnExactApexOfSpec)) fnExactApexOfUptoCard

/-- THE SECOND FORM's CARD OF 'laws.FnExactCutVertex'. -/
def fnExactCutVertexUptoCard : Claim7 := { stood := { row := fnExactCutVertexUptoRow, standIns := [], harness := (true, "ffced45150ce3113e608e147ab54f838c95474ac9d20d4755f87c62b7410e2ef"), looks := false }, kinds := [], alts := [], laidByText := true, laidKinds := [.data], laidTests := true, laidLooks := .later }
def FnExactCutVertexUptoCardSaid : Prop := Claim7.holds Tryd.pinned (.plain (OpenSpec.upto fnExactCutVertexSpec)) fnExactCutVertexUptoCard

/-- THE SECOND FORM's CARD OF 'laws.FnExactSplitEdge'. -/
def fnExactSplitEdgeUptoCard : Claim7 := { stood := { row := fnExactSplitEdgeUptoRow, standIns := [], harness := (true, "ffced45150ce3113e608e147ab54f838c95474ac9d20d4755f87c62b7410e2ef"), looks := false }, kinds := [], alts := [], laidByText := true, laidKinds := [.data], laidTests := true, laidLooks := .later }
def FnExactSplitEdgeUptoCardSaid : Prop := Claim7.holds Tryd.pinned (.plain (OpenSpec.upto fnExactSplitEdgeSpec)) fnExactSplitEdgeUptoCard

/-- THE SECOND FORM's CARD OF 'laws.FnExactContracted'. -/
def fnExactContractedUptoCard : Claim7 := { stood := { row := fnExactContractedUptoRow, standIns := [], harness := (true, "ffced45150ce3113e608e147ab54f838c95474ac9d20d4755f87c62b7410e2ef"), looks := false }, kinds := [], alts := [], laidByText := true, laidKinds := [.data], laidTests := true, laidLooks := .later }
def FnExactContractedUptoCardSaid : Prop := Claim7.holds Tryd.pinned (.plain (OpenSpec.upto fnExactContractedSpec)) fnExactContractedUptoCard

/-- THE SECOND FORM's CARD OF 'laws.FnUndone'. -/
def fnUndoneUptoCard : Claim7 := { stood := { row := fnUndoneUptoRow, standIns := [], harness := (true, "ffced45150ce3113e608e147ab54f838c95474ac9d20d4755f87c62b7410e2ef"), looks := false }, kinds := [], alts := [], laidByText := true, laidKinds := [.data], laidTests := true, laidLooks := .later }
def FnUndoneUptoCardSaid : Prop := Claim7.holds Tryd.pinned (.plain (OpenSpec.upto fnUndoneSpec)) fnUndoneUptoCard

/-- THE SECOND FORM's CARD OF 'laws.FnExactEdgesIn'. -/
def fnExactEdgesInUptoCard : Claim7 := { stood := { row := fnExactEdgesInUptoRow, standIns := [], harness := (true, "ffced45150ce3113e608e147ab54f838c95474ac9d20d4755f87c62b7410e2ef"), looks := false }, kinds := [], alts := [], laidByText := true, laidKinds := [.data], laidTests := true, laidLooks := .later }
def FnExactEdgesInUptoCardSaid : Prop := Claim7.holds Tryd.pinned (.plain (OpenSpec.upto fnExactEdgesInSpec)) fnExactEdgesInUptoCard

/-- THE SECOND FORM's CARD OF 'laws.FnExactClawOf'. -/
def fnExactClawOfUptoCard : Claim7 := { stood := { row := fnExactClawOfUptoRow, standIns := [], harness := (true, "ffced45150ce3113e608e147ab54f838c95474ac9d20d4755f87c62b7410e2ef"), looks := false }, kinds := [], alts := [], laidByText := true, laidKinds := [.data], laidTests := true, laidLooks := .later }
def FnExactClawOfUptoCardSaid : Prop := Claim7.holds Tryd.pinned (.plain (OpenSpec.upto fnExactClawOfSpec)) fnExactClawOfUptoCard

/-- THE SECOND FORM's CARD OF 'laws.FnExactSimplicialIn'. -/
def fnExactSimplicialInUptoCard : Claim7 := { stood := { row := fnExactSimplicialInUptoRow, standIns := [], harness := (true, "ffced45150ce3113e608e147ab54f838c95474ac9d20d4755f87c62b7410e2ef"), looks := false }, kinds := [], alts := [], laidByText := true, laidKinds := [.data], laidTests := true, laidLooks := .later }
def FnExactSimplicialInUptoCardSaid : Prop := Claim7.holds Tryd.pinned (.plain (OpenSpec.upto fnExactSimplicialInSpec)) fnExactSimplicialInUptoCard
end Rows
end Go.Proofs.YtikcooagdaghnaaDoor
