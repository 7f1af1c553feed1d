import Derived.Test.YtpfhflkpnjkgkaaDoorComplementJn
import Derived.Test.YtpfhflkpnjkgkaaDoorGraphOfJn
import Derived.Test.YtpfhflkpnjkgkaaDoorOrder2Jn
/-
  'AddedVertex' of the reference and of the program.
-/



namespace Go.Proofs.YtpfhflkpnjkgkaaDoor
open Go.RowKit

/-- A graph with one more vertex, without edges. -/
def grown (n : Nat) (e : Nat → Nat → Bool) : Nat → Nat → Bool := fun a b => decide (a < n) && decide (b < n) && e a b
/-- The new vertex n is joined to these. -/
def hung (n : Nat) (e : Nat → Nat → Bool) (xs : List Int) : Nat → Nat → Bool := xs.foldl (fun f x => plus f x.toNat n) (grown n e)
theorem plus_comm (f : Nat → Nat → Bool) (u v : Nat) : plus f u v = plus f v u := by
  funext a b
  unfold plus
  rw [Bool.or_assoc, Bool.or_assoc]
  congr 1
  exact Bool.or_comm _ _
theorem hung_succ {n : Nat} {e : Nat → Nat → Bool} {xs : List Int} {k x : Nat} (h : xs[k]? = some (x : Int)) : hung n e (xs.take (k + 1)) = plus (hung n e (xs.take k)) x n := by
  unfold hung
  rw [take_snoc h, List.foldl_append]
  simp

theorem rowB_grown (n : Nat) (p : Nat → Bool) : rowB (n + 1) (fun b => decide (b < n) && p b) = rowB n p := by
  unfold rowB
  rw [filter_range_lt]
theorem rowsB_grown (n : Nat) (e : Nat → Nat → Bool) : rowsB n e ++ [[]] = rowsB (n + 1) (grown n e) := by
  unfold rowsB
  rw [List.range_succ, List.map_append]
  congr 1
  · apply List.map_congr_left
    intro u hu
    have hu' := List.mem_range.1 hu
    rw [← rowB_grown]
    refine rowB_ext fun b hb => ?_
    simp [grown, hu']
  · have : rowB (n + 1) (grown n e n) = [] := by
      unfold rowB
      rw [List.filter_eq_nil_iff.2 (by simp [grown])]
      rfl
    simp [this]
theorem NB_grown (n : Nat) (e : Nat → Nat → Bool) : NB n e ++ [0] = NB (n + 1) (grown n e) := by
  unfold NB
  rw [List.range_succ, List.map_append]
  congr 1
  · apply List.map_congr_left
    intro u hu
    have hu' := List.mem_range.1 hu
    apply Nat.eq_of_testBit_eq
    intro i
    rw [testBit_maskB, testBit_maskB]
    by_cases h : i < n
    · have : i < n + 1 := by omega
      simp [grown, hu', h, this]
    · simp [grown, h]
  · have : maskB (n + 1) (grown n e n) = 0 := maskB_eq_zero.2 fun i _ => by simp [grown]
    simp [this]

/-- An owned graph in a variable, one more row without numbers. -/
theorem rows_snoc (xss : List (List Int)) : (xss ++ [[]]).map ints = xss.map ints ++ [[]] := by simp [ints]

/-- What 'AddedVertex' asks. -/
def OkV (xss : List (List Int)) (xs : List Int) : Prop := okB xss = true ∧ SetP xss.length xs ∧ xss.length ≠ 16

theorem GRes.fin {w0 wr : World} {B b base : Nat} {u : Value} {vs : List Value} {rows : List (List Int)} (hB : w0.heap.size = B) (hb : Below B w0 wr) (hbb : B ≤ b)
    (hG : OwnG wr base 24 2 u vs (rows.map ints)) (hbase : b < base) (ok : Bool) :
    GRes w0 rows ok (.returned (.tuple #[.agg #[u], .bool ok])) (wr.setCell ⟨b, 0, none⟩ u) := by
  subst hB
  exact ⟨u, vs, rfl, (hG.other hbase _).rebase (by omega), hb.setCell hbb _⟩

theorem row_one {w : World} {b : Nat} {x : Value} {t : TypeId} (h : VC t b #[x] w) : Row w 1 (.slice (some ⟨b, 0, none⟩) 1 1) 1 [x] := by
  refine ⟨_, 1, rfl, by omega, by simp [maxLen], rfl, (by intro h; cases h), fun j u hj => ⟨b, 0, rfl, ?_⟩⟩
  match j, hj with
  | 0, hj => simp at hj; subst hj; exact h.cell

end Go.Proofs.YtpfhflkpnjkgkaaDoor
