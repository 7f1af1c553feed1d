/-
  DERIVED. GIVEN WITH THE SEED: THE CARDS: each row of YtpfhflkpnjkgkaaDoorRows.lean that lists a variable, with what it lists TIED to the program's text (the seventh form; the later family's looks); each row that meets fmt, with fmt's text TOLD by the authors' own Lean function (tested against real Go, not proved from fmt's source: count such statements apart). THE CARD IS WHAT COUNTS. Prove the row's statement (the work); the ties are given (YtpfhflkpnjkgkaaDoorTie.lean); close each card by the builder's one call (the guide's Derived/Test/ToyasCard.lean, 'card_holds'). Laid BY PROGRAM, IN A SANDBOX (cutbox-door.mjs). By AI agents, Wed Nov 11 2026. No macro, syntax, notation, axiom, sorry.
-/
import Derived.Test.YtpfhflkpnjkgkaaDoorRows
import GoSem.ClaimSeven
namespace Go.Proofs.YtpfhflkpnjkgkaaDoor
namespace Rows

/-- THE TIED CARD OF 'laws.FnExactLeavesOf'. -/
def fnExactLeavesOfCard : Claim7 := { stood := { row := fnExactLeavesOfRow, standIns := [], harness := (true, "c8d1b7f5465c54aebf2ec61a65dd19080334fe7a8a760d042d632ae606467b56"), looks := false }, kinds := [], alts := [], laidByText := true, laidKinds := [.data], laidTests := true, laidLooks := .later }
def FnExactLeavesOfCardSaid : Prop := Claim7.holds Tryd.pinned (.plain (OpenSpec.ofChange fnExactLeavesOfSpec)) fnExactLeavesOfCard

/-- THE TIED CARD OF 'laws.FnExactThinnestFirst'. -/
def fnExactThinnestFirstCard : Claim7 := { stood := { row := fnExactThinnestFirstRow, standIns := [], harness := (true, "c8d1b7f5465c54aebf2ec61a65dd19080334fe7a8a760d042d632ae606467b56"), looks := false }, kinds := [], alts := [], laidByText := true, laidKinds := [.data], laidTests := true, laidLooks := .later }
def FnExactThinnestFirstCardSaid : Prop := Claim7.holds Tryd.pinned (.plain (OpenSpec.ofChange fnExactThinnestFirstSpec)) fnExactThinnestFirstCard

/-- THE SECOND FORM's CARD OF 'laws.FnExactLeavesOf'. -/
def fnExactLeavesOfUptoCard : Claim7 := { stood := { row := fnExactLeavesOfUptoRow, standIns := [], harness := (true, "c8d1b7f5465c54aebf2ec61a65dd19080334fe7a8a760d042d632ae606467b56"), looks := false }, kinds := [], alts := [], laidByText := true, laidKinds := [.data], laidTests := true, laidLooks := .later }
def FnExactLeavesOfUptoCardSaid : Prop := Claim7.holds Tryd.pinned (.plain (OpenSpec.upto fnExactLeavesOfSpec)) fnExactLeavesOfUptoCard

/-- THE SECOND FORM's CARD OF 'laws.FnExactThinnestFirst'. -/
def fnExactThinnestFirstUptoCard : Claim7 := { stood := { row := fnExactThinnestFirstUptoRow, standIns := [], harness := (true, "c8d1b7f5465c54aebf2ec61a65dd19080334fe7a8a760d042d632ae606467b56"), looks := false }, kinds := [], alts := [], laidByText := true, laidKinds := [.data], laidTests := true, laidLooks := .later }
def FnExactThinnestFirstUptoCardSaid : Prop := Claim7.holds Tryd.pinned (.plain (OpenSpec.upto fnExactThinnestFirstSpec)) fnExactThinnestFirstUptoCard
end Rows
end Go.Proofs.YtpfhflkpnjkgkaaDoor
