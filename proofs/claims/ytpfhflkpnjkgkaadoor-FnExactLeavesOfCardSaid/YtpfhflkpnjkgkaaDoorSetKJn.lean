import Derived.Test.YtpfhflkpnjkgkaaDoorPairJn
import Derived.Test.YtpfhflkpnjkgkaaDoorVertexJn
import Derived.Test.YtpfhflkpnjkgkaaDoorWayJn
/-
  Sets as masks and as rising rows: 'list' and 'numbers' of a mask, 'l1Into' of a row, in their normal forms.
-/



namespace Go.Proofs.YtpfhflkpnjkgkaaDoor
open Go.RowKit

theorem into_rowB {n : Nat} (hn : n ≤ 32) (o : Nat → Bool) {q : Nat} (hq : q < n) : into (rowB n o) (q : Int) = rowB n fun b => o b || decide (b = q) := by
  rw [← nums_maskB hn o, into_nums _ q (by omega), pow_maskB hq]
  have h : maskB n o ||| maskB n (fun i => decide (i = q)) = maskB n fun b => o b || decide (b = q) := by
    apply Nat.eq_of_testBit_eq
    intro i
    rw [Nat.testBit_or, testBit_maskB, testBit_maskB, testBit_maskB]
    cases decide (i < n) <;> simp
  rw [h, nums_maskB hn]
theorem inL_rowB {n : Nat} {p : Nat → Bool} {b : Nat} (hb : b < n) : inL (rowB n p) b = p b := by
  unfold inL
  rw [Bool.eq_iff_iff, decide_eq_true_eq, nat_mem_rowB]
  exact ⟨fun h => h.2, fun h => ⟨hb, h⟩⟩
theorem inL_nil (b : Nat) : inL [] b = false := by simp [inL]

/-- 'list' of a set. -/
theorem listB_any {n : Nat} (hn : n ≤ 32) (p : Nat → Bool) (z : Int) (hz : z = (maskB n p : Nat)) (w : World) (ht : Tab w) :
    Calls Tryd.prog 51 #[.int .u32 z] w fun e w' => ∃ v, e = .returned v ∧ w'.ownsRow w.heap.size 3 1 v (rowB n p).length (ints (rowB n p)) ∧ Below w.heap.size w w' := by
  subst hz
  have h := list_any (maskB n p) (maskB_small hn p) w ht
  rwa [show (bitsOf (maskB n p)).length = (rowB n p).length by rw [← nums_maskB hn p]; simp [nums], ← ints_nums, nums_maskB hn] at h
/-- 'numbers' of a set. -/
theorem numbersB_any {n : Nat} (hn : n ≤ 32) (p : Nat → Bool) (z : Int) (hz : z = (maskB n p : Nat)) (w : World) (ht : Tab w) :
    Calls Tryd.prog 27 #[.int .u32 z] w (SRes w (rowB n p)) := by
  subst hz
  have h := numbers_any (maskB n p) (maskB_small hn p) w ht
  rwa [nums_maskB hn] at h
/-- An element of a rising row, as a number. -/
theorem row_at {n : Nat} {p : Nat → Bool} {j : Nat} {x : Int} (h : (rowB n p)[j]? = some x) : ∃ q : Nat, q < n ∧ p q = true ∧ x = q := by
  obtain ⟨q, h1, h2, h3⟩ := mem_rowB.1 (List.mem_of_getElem? h)
  exact ⟨q, h1, h2, h3⟩
/-- Bits of two masks, as they are computed. -/
theorem mask_and {n : Nat} (hn : n ≤ 32) (p q : Nat → Bool) : bits BinOp.and IntKind.u32 ((maskB n p : Nat) : Int) ((maskB n q : Nat) : Int) = ((maskB n (fun i => p i && q i) : Nat) : Int) := by
  rw [maskB_and hn p (maskB_small hn q)]
  congr 1
  exact maskB_ext fun i hi => by rw [testBit_maskB]; simp [hi]
theorem mask_andNot {n : Nat} (hn : n ≤ 32) (p q : Nat → Bool) : bits BinOp.andNot IntKind.u32 ((maskB n p : Nat) : Int) ((maskB n q : Nat) : Int) = ((maskB n (fun i => p i && !q i) : Nat) : Int) := by
  rw [maskB_andNot hn p (maskB_small hn q)]
  congr 1
  exact maskB_ext fun i hi => by rw [testBit_maskB]; simp [hi]
theorem mask_eq_iff {n : Nat} {p q : Nat → Bool} : maskB n p = maskB n q ↔ ∀ i, i < n → p i = q i := by
  refine ⟨fun h i hi => ?_, maskB_ext⟩
  have := testBit_maskB n p i
  rw [h, testBit_maskB] at this
  simpa [hi] using this.symm
end Go.Proofs.YtpfhflkpnjkgkaaDoor
