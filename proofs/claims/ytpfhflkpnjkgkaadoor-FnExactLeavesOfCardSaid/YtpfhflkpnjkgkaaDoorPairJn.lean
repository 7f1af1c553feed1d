import Derived.Test.YtpfhflkpnjkgkaaDoorComplementJn
/-
  'l1There', 'l2Pair', 'EdgeIn' of the reference; 'isVertex', 'isPair', 'EdgeIn' of the program.
-/

namespace Go.Proofs.YtpfhflkpnjkgkaaDoor
open Go.RowKit

/-- A vertex of n. -/
def inN (n : Nat) (v : Int) : Bool := decide (0 ≤ v ∧ v < (n : Int))
theorem inN_iff {n : Nat} {v : Int} : inN n v = true ↔ 0 ≤ v ∧ v < (n : Int) := by unfold inN; simp
theorem inN_nat {n : Nat} {v : Int} (h : inN n v = true) : ∃ k : Nat, v = k ∧ k < n := by
  have := inN_iff.1 h
  exact ⟨v.toNat, by omega, by omega⟩
def vertexB (xss : List (List Int)) (v : Int) : Bool := okB xss && inN xss.length v
def edgeB (xss : List (List Int)) (u v : Int) : Bool := okB xss && inN xss.length u && (xss.getD u.toNat []).contains v

theorem ok_size {xss : List (List Int)} (h : okB xss = true) : 1 ≤ xss.length ∧ xss.length ≤ 16 := by
  have : OkP xss := by unfold okB at h; simpa using h
  exact this.1

end Go.Proofs.YtpfhflkpnjkgkaaDoor
