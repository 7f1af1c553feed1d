import Derived.Test.YtpfhflkpnjkgkaaDoorGraphOkJn
import Derived.Test.YtpfhflkpnjkgkaaDoorStepJn
/-
  The program's sets of neighbours: 'maskOf', 'netsOf', 'all', 'complement', 'SetOk'; the reference's 'l1Edge', 'SetOk', 'l1CopyGraph', 'l2Other', 'l1All'.
-/


namespace Go.Proofs.YtpfhflkpnjkgkaaDoor
open Go.RowKit

theorem size_rd (v : Value) (xss : List (List Int)) (w : World) (hr : RdSS v xss w) :
    Calls Tryd.prog 32 #[.agg #[v]] w fun e w' => e = .returned (.int .i64 xss.length) ∧ Below w.heap.size w w' := by
  obtain ⟨a, c, rfl⟩ := hr.shape
  exact size_any a xss.length c w

/-- Nothing in what is owned but the outer row. -/
theorem rowB_all (n : Nat) : rowB n (fun _ => true) = (List.range n).map fun (i : Nat) => (i : Int) := by
  unfold rowB
  rw [List.filter_eq_self.2 (by simp)]

end Go.Proofs.YtpfhflkpnjkgkaaDoor
