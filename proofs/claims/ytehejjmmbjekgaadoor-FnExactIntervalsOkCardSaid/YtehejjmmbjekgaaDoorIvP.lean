/-
  Lists of intervals, plainly: when they are right, and the graph of those that meet.
-/
import Derived.Test.YtehejjmmbjekgaaDoorIvK
import Derived.Test.YtehejjmmbjekgaaDoorOther
namespace Go.Proofs.YtehejjmmbjekgaaDoor
open Go.RowKit

def rightI (p : Int × Int) : Bool := decide (0 ≤ p.1 ∧ p.1 ≤ p.2 ∧ p.2 ≤ 100)
def okI (L : List (Int × Int)) : Bool := decide (1 ≤ L.length ∧ L.length ≤ 16) && L.all rightI
def meetP (p q : Int × Int) : Bool := decide (p.1 ≤ q.2) && decide (q.1 ≤ p.2)
def meetI (L : List (Int × Int)) (a b : Nat) : Bool := meetP (L.getD a (0, 0)) (L.getD b (0, 0))
theorem meetP_comm (p q : Int × Int) : meetP p q = meetP q p := by unfold meetP; rw [Bool.and_comm]
def adjI (L : List (Int × Int)) : Nat → Nat → Bool := fun a b => decide (a ≠ b) && meetI L a b
theorem adjI_sym (L : List (Int × Int)) (n : Nat) : NB n (tri (meetI L) n 0) = NB n (adjI L) := by
  rw [tri_all, sym_of (meetI L) n fun a b _ _ => meetP_comm _ _]
  rfl
theorem adj_of_okI {L : List (Int × Int)} (h : okI L = true) : Adj L.length (adjI L) := by
  unfold okI at h
  simp only [Bool.and_eq_true, decide_eq_true_eq] at h
  refine ⟨h.1.1, h.1.2, ?_, ?_⟩
  · intro u _
    simp [adjI]
  · intro a b _ _
    unfold adjI meetI
    rw [meetP_comm, Bool.eq_iff_iff]
    simp
    omega
theorem getD_at {L : List (Int × Int)} {k : Nat} {p : Int × Int} (h : L[k]? = some p) : L.getD k (0, 0) = p := by
  rw [List.getD_eq_getElem?_getD, h]; rfl
end Go.Proofs.YtehejjmmbjekgaaDoor
