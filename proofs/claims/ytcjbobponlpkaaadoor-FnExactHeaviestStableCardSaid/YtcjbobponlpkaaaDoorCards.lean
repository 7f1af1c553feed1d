/-
  DERIVED. GIVEN WITH THE SEED: THE CARDS: each row of YtcjbobponlpkaaaDoorRows.lean that lists a variable, with what it lists TIED to the program's text (the seventh form; the later family's looks); each row that meets fmt, with fmt's text TOLD by the authors' own Lean function (tested against real Go, not proved from fmt's source: count such statements apart). THE CARD IS WHAT COUNTS. Prove the row's statement (the work); the ties are given (YtcjbobponlpkaaaDoorTie.lean); close each card by the builder's one call (the guide's Derived/Test/ToyasCard.lean, 'card_holds'). Laid BY PROGRAM, IN A SANDBOX (cutbox-door.mjs). By AI agents, Wed Nov 11 2026. No macro, syntax, notation, axiom, sorry.
-/
import Derived.Test.YtcjbobponlpkaaaDoorRows
import GoSem.ClaimSeven
namespace Go.Proofs.YtcjbobponlpkaaaDoor
namespace Rows

/-- THE TIED CARD OF 'laws.FnExactOpenOf'. -/
def fnExactOpenOfCard : Claim7 := { stood := { row := fnExactOpenOfRow, standIns := [], harness := (true, "beb49b7aa389e750044000d58e172c425e199f38f0a98a6a1ffc460a69259a45"), looks := false }, kinds := [], alts := [], laidByText := true, laidKinds := [.data], laidTests := true, laidLooks := .later }
def FnExactOpenOfCardSaid : Prop := Claim7.holds Tryd.pinned (.plain (OpenSpec.ofChange fnExactOpenOfSpec)) fnExactOpenOfCard

/-- THE TIED CARD OF 'laws.FnExactBehindOf'. -/
def fnExactBehindOfCard : Claim7 := { stood := { row := fnExactBehindOfRow, standIns := [], harness := (true, "beb49b7aa389e750044000d58e172c425e199f38f0a98a6a1ffc460a69259a45"), looks := false }, kinds := [], alts := [], laidByText := true, laidKinds := [.data], laidTests := true, laidLooks := .later }
def FnExactBehindOfCardSaid : Prop := Claim7.holds Tryd.pinned (.plain (OpenSpec.ofChange fnExactBehindOfSpec)) fnExactBehindOfCard

/-- THE TIED CARD OF 'laws.FnExactPartsOf'. -/
def fnExactPartsOfCard : Claim7 := { stood := { row := fnExactPartsOfRow, standIns := [], harness := (true, "beb49b7aa389e750044000d58e172c425e199f38f0a98a6a1ffc460a69259a45"), looks := false }, kinds := [], alts := [], laidByText := true, laidKinds := [.data], laidTests := true, laidLooks := .later }
def FnExactPartsOfCardSaid : Prop := Claim7.holds Tryd.pinned (.plain (OpenSpec.ofChange fnExactPartsOfSpec)) fnExactPartsOfCard

/-- THE TIED CARD OF 'laws.FnExactCutVertices'. -/
def fnExactCutVerticesCard : Claim7 := { stood := { row := fnExactCutVerticesRow, standIns := [], harness := (true, "beb49b7aa389e750044000d58e172c425e199f38f0a98a6a1ffc460a69259a45"), looks := false }, kinds := [], alts := [], laidByText := true, laidKinds := [.data], laidTests := true, laidLooks := .later }
def FnExactCutVerticesCardSaid : Prop := Claim7.holds Tryd.pinned (.plain (OpenSpec.ofChange fnExactCutVerticesSpec)) fnExactCutVerticesCard

/-- THE TIED CARD OF 'laws.FnExactBetweenOf'. -/
def fnExactBetweenOfCard : Claim7 := { stood := { row := fnExactBetweenOfRow, standIns := [], harness := (true, "beb49b7aa389e750044000d58e172c425e199f38f0a98a6a1ffc460a69259a45"), looks := false }, kinds := [], alts := [], laidByText := true, laidKinds := [.data], laidTests := true, laidLooks := .later }
def FnExactBetweenOfCardSaid : Prop := Claim7.holds Tryd.pinned (.plain (OpenSpec.ofChange fnExactBetweenOfSpec)) fnExactBetweenOfCard

/-- THE TIED CARD OF 'laws.FnExactClosureOf'. -/
def fnExactClosureOfCard : Claim7 := { stood := { row := fnExactClosureOfRow, standIns := [], harness := (true, "beb49b7aa389e750044000d58e172c425e199f38f0a98a6a1ffc460a69259a45"), looks := false }, kinds := [], alts := [], laidByText := true, laidKinds := [.data], laidTests := true, laidLooks := .later }
def FnExactClosureOfCardSaid : Prop := Claim7.holds Tryd.pinned (.plain (OpenSpec.ofChange fnExactClosureOfSpec)) fnExactClosureOfCard

/-- THE TIED CARD OF 'laws.FnExactLeastRule'. -/
def fnExactLeastRuleCard : Claim7 := { stood := { row := fnExactLeastRuleRow, standIns := [], harness := (true, "beb49b7aa389e750044000d58e172c425e199f38f0a98a6a1ffc460a69259a45"), looks := false }, kinds := [], alts := [], laidByText := true, laidKinds := [.data], laidTests := true, laidLooks := .later }
def FnExactLeastRuleCardSaid : Prop := Claim7.holds Tryd.pinned (.plain (OpenSpec.ofChange fnExactLeastRuleSpec)) fnExactLeastRuleCard

/-- THE TIED CARD OF 'laws.FnExactLeastCover'. -/
def fnExactLeastCoverCard : Claim7 := { stood := { row := fnExactLeastCoverRow, standIns := [], harness := (true, "beb49b7aa389e750044000d58e172c425e199f38f0a98a6a1ffc460a69259a45"), looks := false }, kinds := [], alts := [], laidByText := true, laidKinds := [.data], laidTests := true, laidLooks := .later }
def FnExactLeastCoverCardSaid : Prop := Claim7.holds Tryd.pinned (.plain (OpenSpec.ofChange fnExactLeastCoverSpec)) fnExactLeastCoverCard

/-- THE TIED CARD OF 'laws.FnExactBestStable'. -/
def fnExactBestStableCard : Claim7 := { stood := { row := fnExactBestStableRow, standIns := [], harness := (true, "beb49b7aa389e750044000d58e172c425e199f38f0a98a6a1ffc460a69259a45"), looks := false }, kinds := [], alts := [], laidByText := true, laidKinds := [.data], laidTests := true, laidLooks := .later }
def FnExactBestStableCardSaid : Prop := Claim7.holds Tryd.pinned (.plain (OpenSpec.ofChange fnExactBestStableSpec)) fnExactBestStableCard

/-- THE TIED CARD OF 'laws.FnExactBestClique'. -/
def fnExactBestCliqueCard : Claim7 := { stood := { row := fnExactBestCliqueRow, standIns := [], harness := (true, "beb49b7aa389e750044000d58e172c425e199f38f0a98a6a1ffc460a69259a45"), looks := false }, kinds := [], alts := [], laidByText := true, laidKinds := [.data], laidTests := true, laidLooks := .later }
def FnExactBestCliqueCardSaid : Prop := Claim7.holds Tryd.pinned (.plain (OpenSpec.ofChange fnExactBestCliqueSpec)) fnExactBestCliqueCard

/-- THE TIED CARD OF 'laws.FnExactBreakSet'. -/
def fnExactBreakSetCard : Claim7 := { stood := { row := fnExactBreakSetRow, standIns := [], harness := (true, "beb49b7aa389e750044000d58e172c425e199f38f0a98a6a1ffc460a69259a45"), looks := false }, kinds := [], alts := [], laidByText := true, laidKinds := [.data], laidTests := true, laidLooks := .later }
def FnExactBreakSetCardSaid : Prop := Claim7.holds Tryd.pinned (.plain (OpenSpec.ofChange fnExactBreakSetSpec)) fnExactBreakSetCard

/-- THE TIED CARD OF 'laws.FnExactHeaviestStable'. -/
def fnExactHeaviestStableCard : Claim7 := { stood := { row := fnExactHeaviestStableRow, standIns := [], harness := (true, "beb49b7aa389e750044000d58e172c425e199f38f0a98a6a1ffc460a69259a45"), looks := false }, kinds := [], alts := [], laidByText := true, laidKinds := [.data], laidTests := true, laidLooks := .later }
def FnExactHeaviestStableCardSaid : Prop := Claim7.holds Tryd.pinned (.plain (OpenSpec.ofChange fnExactHeaviestStableSpec)) fnExactHeaviestStableCard

/-- THE SECOND FORM's CARD OF 'laws.FnExactOpenOf'. -/
def fnExactOpenOfUptoCard : Claim7 := { stood := { row := fnExactOpenOfUptoRow, standIns := [], harness := (true, "beb49b7aa389e750044000d58e172c425e199f38f0a98a6a1ffc460a69259a45"), looks := false }, kinds := [], alts := [], laidByText := true, laidKinds := [.data], laidTests := true, laidLooks := .later }
def FnExactOpenOfUptoCardSaid : Prop := Claim7.holds Tryd.pinned (.plain (OpenSpec.upto fnExactOpenOfSpec)) fnExactOpenOfUptoCard

/-- THE SECOND FORM's CARD OF 'laws.FnExactBehindOf'. -/
def fnExactBehindOfUptoCard : Claim7 := { stood := { row := fnExactBehindOfUptoRow, standIns := [], harness := (true, "beb49b7aa389e750044000d58e172c425e199f38f0a98a6a1ffc460a69259a45"), looks := false }, kinds := [], alts := [], laidByText := true, laidKinds := [.data], laidTests := true, laidLooks := .later }
def FnExactBehindOfUptoCardSaid : Prop := Claim7.holds Tryd.pinned (.plain (OpenSpec.upto fnExactBehindOfSpec)) fnExactBehindOfUptoCard

/-- THE SECOND FORM's CARD OF 'laws.FnExactPartsOf'. -/
def fnExactPartsOfUptoCard : Claim7 := { stood := { row := fnExactPartsOfUptoRow, standIns := [], harness := (true, "beb49b7aa389e750044000d58e172c425e199f38f0a98a6a1ffc460a69259a45"), looks := false }, kinds := [], alts := [], laidByText := true, laidKinds := [.data], laidTests := true, laidLooks := .later }
def FnExactPartsOfUptoCardSaid : Prop := Claim7.holds Tryd.pinned (.plain (OpenSpec.upto fnExactPartsOfSpec)) fnExactPartsOfUptoCard

/-- THE SECOND FORM's CARD OF 'laws.FnExactCutVertices'. -/
def fnExactCutVerticesUptoCard : Claim7 := { stood := { row := fnExactCutVerticesUptoRow, standIns := [], harness := (true, "beb49b7aa389e750044000d58e172c425e199f38f0a98a6a1ffc460a69259a45"), looks := false }, kinds := [], alts := [], laidByText := true, laidKinds := [.data], laidTests := true, laidLooks := .later }
def FnExactCutVerticesUptoCardSaid : Prop := Claim7.holds Tryd.pinned (.plain (OpenSpec.upto fnExactCutVerticesSpec)) fnExactCutVerticesUptoCard

/-- THE SECOND FORM's CARD OF 'laws.FnExactBetweenOf'. -/
def fnExactBetweenOfUptoCard : Claim7 := { stood := { row := fnExactBetweenOfUptoRow, standIns := [], harness := (true, "beb49b7aa389e750044000d58e172c425e199f38f0a98a6a1ffc460a69259a45"), looks := false }, kinds := [], alts := [], laidByText := true, laidKinds := [.data], laidTests := true, laidLooks := .later }
def FnExactBetweenOfUptoCardSaid : Prop := Claim7.holds Tryd.pinned (.plain (OpenSpec.upto fnExactBetweenOfSpec)) fnExactBetweenOfUptoCard

/-- THE SECOND FORM's CARD OF 'laws.FnExactClosureOf'. -/
def fnExactClosureOfUptoCard : Claim7 := { stood := { row := fnExactClosureOfUptoRow, standIns := [], harness := (true, "beb49b7aa389e750044000d58e172c425e199f38f0a98a6a1ffc460a69259a45"), looks := false }, kinds := [], alts := [], laidByText := true, laidKinds := [.data], laidTests := true, laidLooks := .later }
def FnExactClosureOfUptoCardSaid : Prop := Claim7.holds Tryd.pinned (.plain (OpenSpec.upto fnExactClosureOfSpec)) fnExactClosureOfUptoCard

/-- THE SECOND FORM's CARD OF 'laws.FnExactLeastRule'. -/
def fnExactLeastRuleUptoCard : Claim7 := { stood := { row := fnExactLeastRuleUptoRow, standIns := [], harness := (true, "beb49b7aa389e750044000d58e172c425e199f38f0a98a6a1ffc460a69259a45"), looks := false }, kinds := [], alts := [], laidByText := true, laidKinds := [.data], laidTests := true, laidLooks := .later }
def FnExactLeastRuleUptoCardSaid : Prop := Claim7.holds Tryd.pinned (.plain (OpenSpec.upto fnExactLeastRuleSpec)) fnExactLeastRuleUptoCard

/-- THE SECOND FORM's CARD OF 'laws.FnExactLeastCover'. -/
def fnExactLeastCoverUptoCard : Claim7 := { stood := { row := fnExactLeastCoverUptoRow, standIns := [], harness := (true, "beb49b7aa389e750044000d58e172c425e199f38f0a98a6a1ffc460a69259a45"), looks := false }, kinds := [], alts := [], laidByText := true, laidKinds := [.data], laidTests := true, laidLooks := .later }
def FnExactLeastCoverUptoCardSaid : Prop := Claim7.holds Tryd.pinned (.plain (OpenSpec.upto fnExactLeastCoverSpec)) fnExactLeastCoverUptoCard

/-- THE SECOND FORM's CARD OF 'laws.FnExactBestStable'. -/
def fnExactBestStableUptoCard : Claim7 := { stood := { row := fnExactBestStableUptoRow, standIns := [], harness := (true, "beb49b7aa389e750044000d58e172c425e199f38f0a98a6a1ffc460a69259a45"), looks := false }, kinds := [], alts := [], laidByText := true, laidKinds := [.data], laidTests := true, laidLooks := .later }
def FnExactBestStableUptoCardSaid : Prop := Claim7.holds Tryd.pinned (.plain (OpenSpec.upto fnExactBestStableSpec)) fnExactBestStableUptoCard

/-- THE SECOND FORM's CARD OF 'laws.FnExactBestClique'. -/
def fnExactBestCliqueUptoCard : Claim7 := { stood := { row := fnExactBestCliqueUptoRow, standIns := [], harness := (true, "beb49b7aa389e750044000d58e172c425e199f38f0a98a6a1ffc460a69259a45"), looks := false }, kinds := [], alts := [], laidByText := true, laidKinds := [.data], laidTests := true, laidLooks := .later }
def FnExactBestCliqueUptoCardSaid : Prop := Claim7.holds Tryd.pinned (.plain (OpenSpec.upto fnExactBestCliqueSpec)) fnExactBestCliqueUptoCard

/-- THE SECOND FORM's CARD OF 'laws.FnExactBreakSet'. -/
def fnExactBreakSetUptoCard : Claim7 := { stood := { row := fnExactBreakSetUptoRow, standIns := [], harness := (true, "beb49b7aa389e750044000d58e172c425e199f38f0a98a6a1ffc460a69259a45"), looks := false }, kinds := [], alts := [], laidByText := true, laidKinds := [.data], laidTests := true, laidLooks := .later }
def FnExactBreakSetUptoCardSaid : Prop := Claim7.holds Tryd.pinned (.plain (OpenSpec.upto fnExactBreakSetSpec)) fnExactBreakSetUptoCard

/-- THE SECOND FORM's CARD OF 'laws.FnExactHeaviestStable'. -/
def fnExactHeaviestStableUptoCard : Claim7 := { stood := { row := fnExactHeaviestStableUptoRow, standIns := [], harness := (true, "beb49b7aa389e750044000d58e172c425e199f38f0a98a6a1ffc460a69259a45"), looks := false }, kinds := [], alts := [], laidByText := true, laidKinds := [.data], laidTests := true, laidLooks := .later }
def FnExactHeaviestStableUptoCardSaid : Prop := Claim7.holds Tryd.pinned (.plain (OpenSpec.upto fnExactHeaviestStableSpec)) fnExactHeaviestStableUptoCard
end Rows
end Go.Proofs.YtcjbobponlpkaaaDoor
