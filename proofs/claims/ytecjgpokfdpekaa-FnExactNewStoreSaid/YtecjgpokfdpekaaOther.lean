/-
  The complement: 'l2Other' of the reference; 'maskOf', 'netsOf', 'firstOf', 'all', 'complement' of the program.
-/
import Derived.Test.YtecjgpokfdpekaaNetsOf
import Derived.Test.YtecjgpokfdpekaaTri
import Derived.Test.YtecjgpokfdpekaaPath
namespace Go.Proofs.Ytecjgpokfdpekaa
open Go.RowKit

theorem mask_row (n : Nat) (p : Nat → Bool) : maskB n (inL (rowB n p)) = maskB n p := by
  refine maskB_ext fun i hi => ?_
  unfold inL
  rw [Bool.eq_iff_iff, decide_eq_true_eq, nat_mem_rowB]
  simp [hi]

theorem rowsB_take_succ (n : Nat) (f : Nat → Nat → Bool) (k : Nat) (hk : k < n) : sets ((NB n f).take (k + 1)) = sets ((NB n f).take k) ++ [.int .u32 (maskB n (f k) : Nat)] := by
  rw [take_snoc (NB_at f hk)]
  simp [sets]

end Go.Proofs.Ytecjgpokfdpekaa
