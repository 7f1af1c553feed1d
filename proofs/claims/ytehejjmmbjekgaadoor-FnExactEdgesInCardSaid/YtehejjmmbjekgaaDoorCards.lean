/-
  DERIVED. GIVEN WITH THE SEED: THE CARDS: each row of YtehejjmmbjekgaaDoorRows.lean that lists a variable, with what it lists TIED to the program's text (the seventh form; the later family's looks); each row that meets fmt, with fmt's text TOLD by the authors' own Lean function (tested against real Go, not proved from fmt's source: count such statements apart). THE CARD IS WHAT COUNTS. Prove the row's statement (the work); the ties are given (YtehejjmmbjekgaaDoorTie.lean); close each card by the builder's one call (the guide's Derived/Test/ToyasCard.lean, 'card_holds'). Laid BY PROGRAM, IN A SANDBOX (cutbox-door.mjs). By AI agents, Wed Nov 11 2026. No macro, syntax, notation, axiom, sorry.
-/
import Derived.Test.YtehejjmmbjekgaaDoorRows
import GoSem.ClaimSeven
namespace Go.Proofs.YtehejjmmbjekgaaDoor
namespace Rows

/-- THE TIED CARD OF 'laws.FnExactPatternOf'. -/
def fnExactPatternOfCard : Claim7 := { stood := { row := fnExactPatternOfRow, standIns := [], harness := (true, "64517be611bcb472a39bd8bb704c2ab0241e4abbd177060f49bf60fbd9d9092a"), looks := false }, kinds := [], alts := [], laidByText := true, laidKinds := [.data], laidTests := true, laidLooks := .later }
def FnExactPatternOfCardSaid : Prop := Claim7.holds Tryd.pinned (.plain (OpenSpec.ofChange fnExactPatternOfSpec)) fnExactPatternOfCard

/-- THE TIED CARD OF 'laws.FnExactGraphOfIntervals'. -/
def fnExactGraphOfIntervalsCard : Claim7 := { stood := { row := fnExactGraphOfIntervalsRow, standIns := [], harness := (true, "64517be611bcb472a39bd8bb704c2ab0241e4abbd177060f49bf60fbd9d9092a"), looks := false }, kinds := [], alts := [], laidByText := true, laidKinds := [.data], laidTests := true, laidLooks := .later }
def FnExactGraphOfIntervalsCardSaid : Prop := Claim7.holds Tryd.pinned (.plain (OpenSpec.ofChange fnExactGraphOfIntervalsSpec)) fnExactGraphOfIntervalsCard

/-- THE TIED CARD OF 'laws.FnExactWordModel'. -/
def fnExactWordModelCard : Claim7 := { stood := { row := fnExactWordModelRow, standIns := [], harness := (true, "64517be611bcb472a39bd8bb704c2ab0241e4abbd177060f49bf60fbd9d9092a"), looks := false }, kinds := [], alts := [], laidByText := true, laidKinds := [.data], laidTests := true, laidLooks := .later }
def FnExactWordModelCardSaid : Prop := Claim7.holds Tryd.pinned (.plain (OpenSpec.ofChange fnExactWordModelSpec)) fnExactWordModelCard

/-- THE TIED CARD OF 'laws.FnExactQuotientBy'. -/
def fnExactQuotientByCard : Claim7 := { stood := { row := fnExactQuotientByRow, standIns := [], harness := (true, "64517be611bcb472a39bd8bb704c2ab0241e4abbd177060f49bf60fbd9d9092a"), looks := false }, kinds := [], alts := [], laidByText := true, laidKinds := [.data], laidTests := true, laidLooks := .later }
def FnExactQuotientByCardSaid : Prop := Claim7.holds Tryd.pinned (.plain (OpenSpec.ofChange fnExactQuotientBySpec)) fnExactQuotientByCard

/-- THE TIED CARD OF 'laws.FnExactEdgesIn'. -/
def fnExactEdgesInCard : Claim7 := { stood := { row := fnExactEdgesInRow, standIns := [], harness := (true, "64517be611bcb472a39bd8bb704c2ab0241e4abbd177060f49bf60fbd9d9092a"), looks := false }, kinds := [], alts := [], laidByText := true, laidKinds := [.data], laidTests := true, laidLooks := .later }
def FnExactEdgesInCardSaid : Prop := Claim7.holds Tryd.pinned (.plain (OpenSpec.ofChange fnExactEdgesInSpec)) fnExactEdgesInCard

/-- THE TIED CARD OF 'laws.FnExactClawOf'. -/
def fnExactClawOfCard : Claim7 := { stood := { row := fnExactClawOfRow, standIns := [], harness := (true, "64517be611bcb472a39bd8bb704c2ab0241e4abbd177060f49bf60fbd9d9092a"), looks := false }, kinds := [], alts := [], laidByText := true, laidKinds := [.data], laidTests := true, laidLooks := .later }
def FnExactClawOfCardSaid : Prop := Claim7.holds Tryd.pinned (.plain (OpenSpec.ofChange fnExactClawOfSpec)) fnExactClawOfCard

/-- THE TIED CARD OF 'laws.FnExactApartTriple'. -/
def fnExactApartTripleCard : Claim7 := { stood := { row := fnExactApartTripleRow, standIns := [], harness := (true, "64517be611bcb472a39bd8bb704c2ab0241e4abbd177060f49bf60fbd9d9092a"), looks := false }, kinds := [], alts := [], laidByText := true, laidKinds := [.data], laidTests := true, laidLooks := .later }
def FnExactApartTripleCardSaid : Prop := Claim7.holds Tryd.pinned (.plain (OpenSpec.ofChange fnExactApartTripleSpec)) fnExactApartTripleCard

/-- THE TIED CARD OF 'laws.FnExactIntervalsOk'. -/
def fnExactIntervalsOkCard : Claim7 := { stood := { row := fnExactIntervalsOkRow, standIns := [], harness := (true, "64517be611bcb472a39bd8bb704c2ab0241e4abbd177060f49bf60fbd9d9092a"), looks := false }, kinds := [], alts := [], laidByText := true, laidKinds := [.data], laidTests := true, laidLooks := .later }
def FnExactIntervalsOkCardSaid : Prop := Claim7.holds Tryd.pinned (.plain (OpenSpec.ofChange fnExactIntervalsOkSpec)) fnExactIntervalsOkCard

/-- THE TIED CARD OF 'laws.FnUndone'. -/
def fnUndoneCard : Claim7 := { stood := { row := fnUndoneRow, standIns := [], harness := (true, "64517be611bcb472a39bd8bb704c2ab0241e4abbd177060f49bf60fbd9d9092a"), looks := false }, kinds := [], alts := [], laidByText := true, laidKinds := [.data], laidTests := true, laidLooks := .later }
def FnUndoneCardSaid : Prop := Claim7.holds Tryd.pinned (.plain (OpenSpec.ofChange fnUndoneSpec)) fnUndoneCard

/-- THE SECOND FORM's CARD OF 'laws.FnExactPatternOf'. -/
def fnExactPatternOfUptoCard : Claim7 := { stood := { row := fnExactPatternOfUptoRow, standIns := [], harness := (true, "64517be611bcb472a39bd8bb704c2ab0241e4abbd177060f49bf60fbd9d9092a"), looks := false }, kinds := [], alts := [], laidByText := true, laidKinds := [.data], laidTests := true, laidLooks := .later }
def FnExactPatternOfUptoCardSaid : Prop := Claim7.holds Tryd.pinned (.plain (OpenSpec.upto fnExactPatternOfSpec)) fnExactPatternOfUptoCard

/-- THE SECOND FORM's CARD OF 'laws.FnExactGraphOfIntervals'. -/
def fnExactGraphOfIntervalsUptoCard : Claim7 := { stood := { row := fnExactGraphOfIntervalsUptoRow, standIns := [], harness := (true, "64517be611bcb472a39bd8bb704c2ab0241e4abbd177060f49bf60fbd9d9092a"), looks := false }, kinds := [], alts := [], laidByText := true, laidKinds := [.data], laidTests := true, laidLooks := .later }
def FnExactGraphOfIntervalsUptoCardSaid : Prop := Claim7.holds Tryd.pinned (.plain (OpenSpec.upto fnExactGraphOfIntervalsSpec)) fnExactGraphOfIntervalsUptoCard

/-- THE SECOND FORM's CARD OF 'laws.FnExactWordModel'. -/
def fnExactWordModelUptoCard : Claim7 := { stood := { row := fnExactWordModelUptoRow, standIns := [], harness := (true, "64517be611bcb472a39bd8bb704c2ab0241e4abbd177060f49bf60fbd9d9092a"), looks := false }, kinds := [], alts := [], laidByText := true, laidKinds := [.data], laidTests := true, laidLooks := .later }
def FnExactWordModelUptoCardSaid : Prop := Claim7.holds Tryd.pinned (.plain (OpenSpec.upto fnExactWordModelSpec)) fnExactWordModelUptoCard

/-- THE SECOND FORM's CARD OF 'laws.FnExactQuotientBy'. -/
def fnExactQuotientByUptoCard : Claim7 := { stood := { row := fnExactQuotientByUptoRow, standIns := [], harness := (true, "64517be611bcb472a39bd8bb704c2ab0241e4abbd177060f49bf60fbd9d9092a"), looks := false }, kinds := [], alts := [], laidByText := true, laidKinds := [.data], laidTests := true, laidLooks := .later }
def FnExactQuotientByUptoCardSaid : Prop := Claim7.holds Tryd.pinned (.plain (OpenSpec.upto fnExactQuotientBySpec)) fnExactQuotientByUptoCard

/-- THE SECOND FORM's CARD OF 'laws.FnExactEdgesIn'. -/
def fnExactEdgesInUptoCard : Claim7 := { stood := { row := fnExactEdgesInUptoRow, standIns := [], harness := (true, "64517be611bcb472a39bd8bb704c2ab0241e4abbd177060f49bf60fbd9d9092a"), looks := false }, kinds := [], alts := [], laidByText := true, laidKinds := [.data], laidTests := true, laidLooks := .later }
def FnExactEdgesInUptoCardSaid : Prop := Claim7.holds Tryd.pinned (.plain (OpenSpec.upto fnExactEdgesInSpec)) fnExactEdgesInUptoCard

/-- THE SECOND FORM's CARD OF 'laws.FnExactClawOf'. -/
def fnExactClawOfUptoCard : Claim7 := { stood := { row := fnExactClawOfUptoRow, standIns := [], harness := (true, "64517be611bcb472a39bd8bb704c2ab0241e4abbd177060f49bf60fbd9d9092a"), looks := false }, kinds := [], alts := [], laidByText := true, laidKinds := [.data], laidTests := true, laidLooks := .later }
def FnExactClawOfUptoCardSaid : Prop := Claim7.holds Tryd.pinned (.plain (OpenSpec.upto fnExactClawOfSpec)) fnExactClawOfUptoCard

/-- THE SECOND FORM's CARD OF 'laws.FnExactApartTriple'. -/
def fnExactApartTripleUptoCard : Claim7 := { stood := { row := fnExactApartTripleUptoRow, standIns := [], harness := (true, "64517be611bcb472a39bd8bb704c2ab0241e4abbd177060f49bf60fbd9d9092a"), looks := false }, kinds := [], alts := [], laidByText := true, laidKinds := [.data], laidTests := true, laidLooks := .later }
def FnExactApartTripleUptoCardSaid : Prop := Claim7.holds Tryd.pinned (.plain (OpenSpec.upto fnExactApartTripleSpec)) fnExactApartTripleUptoCard

/-- THE SECOND FORM's CARD OF 'laws.FnExactIntervalsOk'. -/
def fnExactIntervalsOkUptoCard : Claim7 := { stood := { row := fnExactIntervalsOkUptoRow, standIns := [], harness := (true, "64517be611bcb472a39bd8bb704c2ab0241e4abbd177060f49bf60fbd9d9092a"), looks := false }, kinds := [], alts := [], laidByText := true, laidKinds := [.data], laidTests := true, laidLooks := .later }
def FnExactIntervalsOkUptoCardSaid : Prop := Claim7.holds Tryd.pinned (.plain (OpenSpec.upto fnExactIntervalsOkSpec)) fnExactIntervalsOkUptoCard

/-- THE SECOND FORM's CARD OF 'laws.FnUndone'. -/
def fnUndoneUptoCard : Claim7 := { stood := { row := fnUndoneUptoRow, standIns := [], harness := (true, "64517be611bcb472a39bd8bb704c2ab0241e4abbd177060f49bf60fbd9d9092a"), looks := false }, kinds := [], alts := [], laidByText := true, laidKinds := [.data], laidTests := true, laidLooks := .later }
def FnUndoneUptoCardSaid : Prop := Claim7.holds Tryd.pinned (.plain (OpenSpec.upto fnUndoneSpec)) fnUndoneUptoCard
end Rows
end Go.Proofs.YtehejjmmbjekgaaDoor
