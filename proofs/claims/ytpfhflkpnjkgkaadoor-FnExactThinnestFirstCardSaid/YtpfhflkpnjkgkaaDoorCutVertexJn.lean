import Derived.Test.YtpfhflkpnjkgkaaDoorApexJn
import Derived.Test.YtpfhflkpnjkgkaaDoorInduced3Jn
/-
  'CutVertex' of the reference and of the program.
-/


namespace Go.Proofs.YtpfhflkpnjkgkaaDoor
open Go.RowKit

/-- The numbers below n but one. -/
def cutL (n k : Nat) : List Int := rowB n fun b => !decide (b = k)
theorem cutL_length (n k : Nat) : (cutL n k).length ≤ n := rowB_length _ _
theorem cutL_in (n k : Nat) : InP n (cutL n k) := (setP_rowB n _).inP
theorem cutL_without (n k : Nat) : without (allN n) (k : Int) = cutL n k := by
  have h : allN n = rowB n (fun _ => true) := by rw [rowB_all]; rfl
  rw [h, without_rowB]
  rfl
/-- What 'CutVertex' asks. -/
def OkX (xss : List (List Int)) (v : Int) : Prop := vertexB xss v = true ∧ xss.length ≠ 1
instance (xss : List (List Int)) (v : Int) : Decidable (OkX xss v) := by unfold OkX; infer_instance
def CutP (xss : List (List Int)) (v : Int) (rows : List (List Int)) (ok : Bool) : Prop :=
  (¬ OkX xss v ∧ rows = [] ∧ ok = false) ∨ ∃ (e : Nat → Nat → Bool) (k : Nat), Adj xss.length e ∧ xss = rowsB xss.length e ∧ v = k ∧ k < xss.length ∧ OkX xss v ∧ rows = rowsB (cutL xss.length k).length (ofList e (cutL xss.length k)) ∧ ok = true

end Go.Proofs.YtpfhflkpnjkgkaaDoor
