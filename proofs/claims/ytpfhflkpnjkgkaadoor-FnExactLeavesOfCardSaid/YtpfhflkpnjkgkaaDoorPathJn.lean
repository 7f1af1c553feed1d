import Derived.Test.YtpfhflkpnjkgkaaDoorStepJn
/-
  'l6Of', 'PathGraph', 'LoopGraph' of the reference; 'pathNets', 'PathGraph', 'LoopGraph' of the program.
-/

namespace Go.Proofs.YtpfhflkpnjkgkaaDoor
open Go.RowKit

/-- The nets of a path on n vertices, k of its edges laid. -/
def pathM (n k : Nat) : List Nat := (List.range k).foldl (fun ms v => joinS ms v (v + 1)) (List.replicate n 0)
theorem pathM_succ (n k : Nat) : pathM n (k + 1) = joinS (pathM n k) k (k + 1) := by simp [pathM, List.range_succ]
@[simp] theorem pathM_length (n k : Nat) : (pathM n k).length = n := by
  induction k with
  | zero => simp [pathM]
  | succ k ih => rw [pathM_succ, joinS_length, ih]

/-- A graph that a call made goes into a variable. -/
theorem SG.ofRes {w0 w1 : World} {B : Nat} {a : Option Addr} {n c : Nat} {vs : List Value} {ms : List Nat} {o : Obj} (hB : w0.heap.size = B) (hR : GC (w0.alloc o) B (.slice none 0 0))
    (hG : OwnG w1 (w0.alloc o).heap.size 24 2 (.slice a n c) vs ((rowsOf ms).map ints)) (hb : Below (w0.alloc o).heap.size (w0.alloc o) w1) (hl : ms.length = n) :
    SG w0 B w1.heap.size a n c vs ms (w1.alloc (.cells #[.slice a n c] 38)) :=
  SG.start (hR.below hb) (by simpa [hB] using hG) (by subst hB; exact (below_alloc _ _).trans (hb.mono (by simp))) hl

/-- 'make(nets, n)'. -/
theorem NS.made {w0 wa w1 : World} {B n : Nat} {v : Value} (h : w1.ownsRow B 54 1 v n (List.replicate n (.int .u32 0))) (hb : Below wa.heap.size wa w1) (hB : B ≤ wa.heap.size) (h0 : Below B w0 wa) : NS B w0 v (List.replicate n 0) w1 :=
  ⟨by rw [← sets_zeros]; simpa using h, small_zeros _, h0.trans (hb.mono hB)⟩

/-! ### LoopGraph -/
def loopM (n : Nat) : List Nat := joinS (pathM n (n - 1)) 0 (n - 1)
@[simp] theorem loopM_length (n : Nat) : (loopM n).length = n := by simp [loopM]

end Go.Proofs.YtpfhflkpnjkgkaaDoor
