import Derived.Test.YtbhobmngnjfgfaaDoorFindWmM
import Derived.Test.YtbhobmngnjfgfaaDoorGq06
/-
  'WordModel' of the program: its function, 'slices.Max'.
-/


namespace Go.Proofs.YtbhobmngnjfgfaaDoor
open Go.RowKit

/-- A number that is no place in a word. -/
def badW (x : Int) : Bool := !decide (0 ≤ x ∧ x ≤ 16)
/-- The largest number of a row, from its first one on. -/
def maxTo (x : Int) : List Int → Int
  | [] => x
  | y :: l => maxTo (if x < y then y else x) l
def maxL : List Int → Int
  | [] => 0
  | x :: l => maxTo x l
theorem maxTo_snoc (x : Int) (l : List Int) (y : Int) : maxTo x (l ++ [y]) = if maxTo x l < y then y else maxTo x l := by
  induction l generalizing x with
  | nil => rfl
  | cons z l ih => exact ih _
theorem maxL_succ {xs : List Int} {k : Nat} {y : Int} (hk : 0 < k) (h : xs[k]? = some y) : maxL (xs.take (k + 1)) = if maxL (xs.take k) < y then y else maxL (xs.take k) := by
  rw [take_snoc h]
  cases xs with
  | nil => simp at h
  | cons x l =>
    obtain ⟨k, rfl⟩ : ∃ j, k = j + 1 := ⟨k - 1, by omega⟩
    rw [List.take_succ_cons]
    exact maxTo_snoc x (l.take k) y

end Go.Proofs.YtbhobmngnjfgfaaDoor
