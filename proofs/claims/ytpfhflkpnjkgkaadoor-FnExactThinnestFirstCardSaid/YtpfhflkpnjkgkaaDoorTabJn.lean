import Derived.Test.YtpfhflkpnjkgkaaDoorRows
import Derived.Test.YtpfhflkpnjkgkaaDoorCards
import Derived.Test.YtpfhflkpnjkgkaaDoorTie
import Derived.ProofKit
import Derived.LaidMore
import Derived.OpenShut
import Derived.Stop.Joined
import Derived.Lib.LaidTab
import Derived.SevenTiedAt
import Derived.Test.YtpfhflkpnjkgkaaDoorGq00
/-
  What the rows' condition on the table of math/bits gives the walks; that the door's own start meets it.
-/










namespace Go.Proofs.YtpfhflkpnjkgkaaDoor
open Go.ChangeShapes Go.WideShapes Go.ChangeAt Go.WideElems Go.RowKit

theorem own : ownKnob Tryd.prog.godebug = none := by kernel_rfl
theorem laidOut : laidOutB Tryd.prog = true := by kernel_rfl
theorem gTab : Tryd.prog.globalNamed "math/bits.deBruijn32tab" = some 0 := by kernel_rfl
theorem tTab : (Tryd.prog.globals[0]?).map (·.type) = some 96 := by kernel_rfl
theorem cells8 : Tryd.prog.cellsOf 5 = 1 := by kernel_rfl
theorem cells32 : Tryd.prog.cellsOf 96 = 32 := by kernel_rfl

def laidT {H : Type} : List (String × DataW H) := [("math/bits.deBruijn32tab", Rows.laid_math_bits_deBruijn32tab)]

theorem door_met (os : Os) (args : Array Value) : laidMetH Tryd.prog laidT ((World.doorLaid Tryd.prog 400 os).forCall (fun _ _ => 0) ⟨#[], args, []⟩).memory :=
  laidMetH_of_parts3 (fuel := 8) (laidMet_of_run' 8 (by kernel_rfl) (by kernel_rfl)) (by kernel_rfl) (by kernel_rfl)

theorem of_laid {W : World} (h : laidMetH Tryd.prog laidT W) : Tab W := by
  rw [MakeChecks.laidMetH_plain _ _ _ (by kernel_rfl)] at h
  obtain ⟨ps, ⟨g0, t0, cs0, f0, p0, q0, hg0, ht0, hv0, hd0, _, _⟩, _, _⟩ := h
  obtain rfl := Option.some.inj (gTab.symm.trans hg0)
  obtain rfl := Option.some.inj (tTab.symm.trans ht0)
  have hcs := Lib.cells_of_tab (k := .u8) (zs := tab32) Tryd.underlying96 Tryd.underlying5 cells8 cells32 hd0
  intro i hi
  have := World.var?_cell hg0 hv0 i
  rw [this, ← Array.getElem?_toList, hcs]
  have hl : i < tab32.length := hi
  simp [List.getD, hl]
end Go.Proofs.YtpfhflkpnjkgkaaDoor
