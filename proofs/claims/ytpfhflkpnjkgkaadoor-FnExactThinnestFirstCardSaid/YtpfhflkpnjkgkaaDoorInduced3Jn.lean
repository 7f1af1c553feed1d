import Derived.Test.YtpfhflkpnjkgkaaDoorGq09
/-
  'Induced' of the reference and of the program.
-/

namespace Go.Proofs.YtpfhflkpnjkgkaaDoor
open Go.RowKit

/-- The graph on the vertices of a list. -/
def ofList (e : Nat → Nat → Bool) (xs : List Int) : Nat → Nat → Bool := sym fun a b => e (atL xs b) (atL xs a)
theorem InP.lt {n : Nat} {xs : List Int} (h : InP n xs) {i : Nat} (hi : i < xs.length) : atL xs i < n := by
  obtain ⟨k, hk, hkn⟩ := h.at (i := i) (List.getElem?_eq_getElem hi)
  have : atL xs i = k := atL_eq (by rw [List.getElem?_eq_getElem hi, hk])
  omega
theorem NB_ofList {n : Nat} {e : Nat → Nat → Bool} (hA : Adj n e) {xs : List Int} (hin : InP n xs) : NB xs.length (fun a b => e (atL xs a) (atL xs b)) = NB xs.length (ofList e xs) := by
  refine NB_ext fun a b ha hb => ?_
  have h1 := hin.lt ha
  have h2 := hin.lt hb
  unfold ofList sym
  rcases Nat.lt_trichotomy a b with h | h | h
  · have h3 : ¬ b < a := by omega
    simp [h, h3, hA.sym _ _ h1 h2]
  · subst h
    simp [hA.irr _ h1]
  · have h3 : ¬ a < b := by omega
    simp [h, h3]
theorem SetP.inP {n : Nat} {xs : List Int} (h : SetP n xs) : InP n xs := fun x hx => h.1 x hx

/-- What 'Induced' asks. -/
def OkN (xss : List (List Int)) (xs : List Int) : Prop := okB xss = true ∧ SetP xss.length xs ∧ xs.length ≠ 0
def IndP (xss : List (List Int)) (xs : List Int) (rows : List (List Int)) (ok : Bool) : Prop :=
  (¬ OkN xss xs ∧ rows = [] ∧ ok = false) ∨ ∃ e, Adj xss.length e ∧ xss = rowsB xss.length e ∧ OkN xss xs ∧ rows = rowsB xs.length (ofList e xs) ∧ ok = true

end Go.Proofs.YtpfhflkpnjkgkaaDoor
