/-
  Induced graphs: 'l2Of' of the reference; 'has', 'narrow', 'induced' of the program.
-/
import Derived.Test.YtcjbobponlpkaaaDoorCutEdge
namespace Go.Proofs.YtcjbobponlpkaaaDoor
open Go.RowKit

/-- The vertex at a place of a list. -/
def atL (xs : List Int) (i : Nat) : Nat := (xs.getD i 0).toNat
theorem atL_eq {xs : List Int} {i x : Nat} (h : xs[i]? = some (x : Int)) : atL xs i = x := by simp [atL, List.getD, h]
/-- All are vertices of n. -/
def InP (n : Nat) (xs : List Int) : Prop := ∀ x ∈ xs, 0 ≤ x ∧ x < (n : Int)
theorem InP.at {n : Nat} {xs : List Int} (h : InP n xs) {i : Nat} {x : Int} (hx : xs[i]? = some x) : ∃ k : Nat, x = k ∧ k < n := by
  have := h x (List.mem_of_getElem? hx)
  exact ⟨x.toNat, by omega, by omega⟩

end Go.Proofs.YtcjbobponlpkaaaDoor
