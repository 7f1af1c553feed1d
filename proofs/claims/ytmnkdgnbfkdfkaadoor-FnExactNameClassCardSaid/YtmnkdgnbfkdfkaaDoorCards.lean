/-
  DERIVED. GIVEN WITH THE SEED: THE CARDS: each row of YtmnkdgnbfkdfkaaDoorRows.lean that lists a variable, with what it lists TIED to the program's text (the seventh form; the later family's looks); each row that meets fmt, with fmt's text TOLD by the authors' own Lean function (tested against real Go, not proved from fmt's source: count such statements apart). THE CARD IS WHAT COUNTS. Prove the row's statement (the work); the ties are given (YtmnkdgnbfkdfkaaDoorTie.lean); close each card by the builder's one call (the guide's Derived/Test/ToyasCard.lean, 'card_holds'). Laid BY PROGRAM, IN A SANDBOX (cutbox-door.mjs). By AI agents, Wed Nov 11 2026. No macro, syntax, notation, axiom, sorry.
-/
import Derived.Test.YtmnkdgnbfkdfkaaDoorRows
import GoSem.ClaimSeven
namespace Go.Proofs.YtmnkdgnbfkdfkaaDoor
namespace Rows

/-- THE TIED CARD OF 'laws.FnExactClassName'. -/
def fnExactClassNameCard : Claim7 := { stood := { row := fnExactClassNameRow, standIns := [], harness := (true, "1dfbed37010e552bd5a7027290b6cff843ec9a23c9e566f0763ebd13d781bf60"), looks := false }, kinds := [], alts := [], laidByText := true, laidKinds := [.widerDeep], laidTests := true, laidLooks := .later }
def FnExactClassNameCardSaid : Prop := Claim7.holds Tryd.pinned (.plain (OpenSpec.ofChange fnExactClassNameSpec)) fnExactClassNameCard

/-- THE TIED CARD OF 'laws.FnExactNameClass'. -/
def fnExactNameClassCard : Claim7 := { stood := { row := fnExactNameClassRow, standIns := [], harness := (true, "1dfbed37010e552bd5a7027290b6cff843ec9a23c9e566f0763ebd13d781bf60"), looks := false }, kinds := [], alts := [], laidByText := true, laidKinds := [.widerDeep], laidTests := true, laidLooks := .later }
def FnExactNameClassCardSaid : Prop := Claim7.holds Tryd.pinned (.plain (OpenSpec.ofChange fnExactNameClassSpec)) fnExactNameClassCard

/-- THE TIED CARD OF 'laws.FnExactStarGraph'. -/
def fnExactStarGraphCard : Claim7 := { stood := { row := fnExactStarGraphRow, standIns := [], harness := (true, "1dfbed37010e552bd5a7027290b6cff843ec9a23c9e566f0763ebd13d781bf60"), looks := false }, kinds := [], alts := [], laidByText := true, laidKinds := [.data], laidTests := true, laidLooks := .later }
def FnExactStarGraphCardSaid : Prop := Claim7.holds Tryd.pinned (.plain (OpenSpec.ofChange fnExactStarGraphSpec)) fnExactStarGraphCard

/-- THE TIED CARD OF 'laws.FnExactPathGraph'. -/
def fnExactPathGraphCard : Claim7 := { stood := { row := fnExactPathGraphRow, standIns := [], harness := (true, "1dfbed37010e552bd5a7027290b6cff843ec9a23c9e566f0763ebd13d781bf60"), looks := false }, kinds := [], alts := [], laidByText := true, laidKinds := [.data], laidTests := true, laidLooks := .later }
def FnExactPathGraphCardSaid : Prop := Claim7.holds Tryd.pinned (.plain (OpenSpec.ofChange fnExactPathGraphSpec)) fnExactPathGraphCard

/-- THE TIED CARD OF 'laws.FnExactGridGraph'. -/
def fnExactGridGraphCard : Claim7 := { stood := { row := fnExactGridGraphRow, standIns := [], harness := (true, "1dfbed37010e552bd5a7027290b6cff843ec9a23c9e566f0763ebd13d781bf60"), looks := false }, kinds := [], alts := [], laidByText := true, laidKinds := [.data], laidTests := true, laidLooks := .later }
def FnExactGridGraphCardSaid : Prop := Claim7.holds Tryd.pinned (.plain (OpenSpec.ofChange fnExactGridGraphSpec)) fnExactGridGraphCard

/-- THE TIED CARD OF 'laws.FnExactLoopGraph'. -/
def fnExactLoopGraphCard : Claim7 := { stood := { row := fnExactLoopGraphRow, standIns := [], harness := (true, "1dfbed37010e552bd5a7027290b6cff843ec9a23c9e566f0763ebd13d781bf60"), looks := false }, kinds := [], alts := [], laidByText := true, laidKinds := [.data], laidTests := true, laidLooks := .later }
def FnExactLoopGraphCardSaid : Prop := Claim7.holds Tryd.pinned (.plain (OpenSpec.ofChange fnExactLoopGraphSpec)) fnExactLoopGraphCard

/-- THE TIED CARD OF 'laws.FnExactDiceGraph'. -/
def fnExactDiceGraphCard : Claim7 := { stood := { row := fnExactDiceGraphRow, standIns := [], harness := (true, "1dfbed37010e552bd5a7027290b6cff843ec9a23c9e566f0763ebd13d781bf60"), looks := false }, kinds := [], alts := [], laidByText := true, laidKinds := [.data], laidTests := true, laidLooks := .later }
def FnExactDiceGraphCardSaid : Prop := Claim7.holds Tryd.pinned (.plain (OpenSpec.ofChange fnExactDiceGraphSpec)) fnExactDiceGraphCard

/-- THE TIED CARD OF 'laws.FnExactKneserGraph'. -/
def fnExactKneserGraphCard : Claim7 := { stood := { row := fnExactKneserGraphRow, standIns := [], harness := (true, "1dfbed37010e552bd5a7027290b6cff843ec9a23c9e566f0763ebd13d781bf60"), looks := false }, kinds := [], alts := [], laidByText := true, laidKinds := [.data], laidTests := true, laidLooks := .later }
def FnExactKneserGraphCardSaid : Prop := Claim7.holds Tryd.pinned (.plain (OpenSpec.ofChange fnExactKneserGraphSpec)) fnExactKneserGraphCard

/-- THE SECOND FORM's CARD OF 'laws.FnExactClassName'. -/
def fnExactClassNameUptoCard : Claim7 := { stood := { row := fnExactClassNameUptoRow, standIns := [], harness := (true, "1dfbed37010e552bd5a7027290b6cff843ec9a23c9e566f0763ebd13d781bf60"), looks := false }, kinds := [], alts := [], laidByText := true, laidKinds := [.widerDeep], laidTests := true, laidLooks := .later }
def FnExactClassNameUptoCardSaid : Prop := Claim7.holds Tryd.pinned (.plain (OpenSpec.upto fnExactClassNameSpec)) fnExactClassNameUptoCard

/-- THE SECOND FORM's CARD OF 'laws.FnExactNameClass'. -/
def fnExactNameClassUptoCard : Claim7 := { stood := { row := fnExactNameClassUptoRow, standIns := [], harness := (true, "1dfbed37010e552bd5a7027290b6cff843ec9a23c9e566f0763ebd13d781bf60"), looks := false }, kinds := [], alts := [], laidByText := true, laidKinds := [.widerDeep], laidTests := true, laidLooks := .later }
def FnExactNameClassUptoCardSaid : Prop := Claim7.holds Tryd.pinned (.plain (OpenSpec.upto fnExactNameClassSpec)) fnExactNameClassUptoCard

/-- THE SECOND FORM's CARD OF 'laws.FnExactStarGraph'. -/
def fnExactStarGraphUptoCard : Claim7 := { stood := { row := fnExactStarGraphUptoRow, standIns := [], harness := (true, "1dfbed37010e552bd5a7027290b6cff843ec9a23c9e566f0763ebd13d781bf60"), looks := false }, kinds := [], alts := [], laidByText := true, laidKinds := [.data], laidTests := true, laidLooks := .later }
def FnExactStarGraphUptoCardSaid : Prop := Claim7.holds Tryd.pinned (.plain (OpenSpec.upto fnExactStarGraphSpec)) fnExactStarGraphUptoCard

/-- THE SECOND FORM's CARD OF 'laws.FnExactPathGraph'. -/
def fnExactPathGraphUptoCard : Claim7 := { stood := { row := fnExactPathGraphUptoRow, standIns := [], harness := (true, "1dfbed37010e552bd5a7027290b6cff843ec9a23c9e566f0763ebd13d781bf60"), looks := false }, kinds := [], alts := [], laidByText := true, laidKinds := [.data], laidTests := true, laidLooks := .later }
def FnExactPathGraphUptoCardSaid : Prop := Claim7.holds Tryd.pinned (.plain (OpenSpec.upto fnExactPathGraphSpec)) fnExactPathGraphUptoCard

/-- THE SECOND FORM's CARD OF 'laws.FnExactGridGraph'. -/
def fnExactGridGraphUptoCard : Claim7 := { stood := { row := fnExactGridGraphUptoRow, standIns := [], harness := (true, "1dfbed37010e552bd5a7027290b6cff843ec9a23c9e566f0763ebd13d781bf60"), looks := false }, kinds := [], alts := [], laidByText := true, laidKinds := [.data], laidTests := true, laidLooks := .later }
def FnExactGridGraphUptoCardSaid : Prop := Claim7.holds Tryd.pinned (.plain (OpenSpec.upto fnExactGridGraphSpec)) fnExactGridGraphUptoCard

/-- THE SECOND FORM's CARD OF 'laws.FnExactLoopGraph'. -/
def fnExactLoopGraphUptoCard : Claim7 := { stood := { row := fnExactLoopGraphUptoRow, standIns := [], harness := (true, "1dfbed37010e552bd5a7027290b6cff843ec9a23c9e566f0763ebd13d781bf60"), looks := false }, kinds := [], alts := [], laidByText := true, laidKinds := [.data], laidTests := true, laidLooks := .later }
def FnExactLoopGraphUptoCardSaid : Prop := Claim7.holds Tryd.pinned (.plain (OpenSpec.upto fnExactLoopGraphSpec)) fnExactLoopGraphUptoCard

/-- THE SECOND FORM's CARD OF 'laws.FnExactDiceGraph'. -/
def fnExactDiceGraphUptoCard : Claim7 := { stood := { row := fnExactDiceGraphUptoRow, standIns := [], harness := (true, "1dfbed37010e552bd5a7027290b6cff843ec9a23c9e566f0763ebd13d781bf60"), looks := false }, kinds := [], alts := [], laidByText := true, laidKinds := [.data], laidTests := true, laidLooks := .later }
def FnExactDiceGraphUptoCardSaid : Prop := Claim7.holds Tryd.pinned (.plain (OpenSpec.upto fnExactDiceGraphSpec)) fnExactDiceGraphUptoCard

/-- THE SECOND FORM's CARD OF 'laws.FnExactKneserGraph'. -/
def fnExactKneserGraphUptoCard : Claim7 := { stood := { row := fnExactKneserGraphUptoRow, standIns := [], harness := (true, "1dfbed37010e552bd5a7027290b6cff843ec9a23c9e566f0763ebd13d781bf60"), looks := false }, kinds := [], alts := [], laidByText := true, laidKinds := [.data], laidTests := true, laidLooks := .later }
def FnExactKneserGraphUptoCardSaid : Prop := Claim7.holds Tryd.pinned (.plain (OpenSpec.upto fnExactKneserGraphSpec)) fnExactKneserGraphUptoCard
end Rows
end Go.Proofs.YtmnkdgnbfkdfkaaDoor
