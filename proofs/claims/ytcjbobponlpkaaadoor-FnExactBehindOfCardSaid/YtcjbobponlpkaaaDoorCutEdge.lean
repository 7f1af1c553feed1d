/-
  'CutEdge' of the reference and of the program.
-/
import Derived.Test.YtcjbobponlpkaaaDoorAddEdge
namespace Go.Proofs.YtcjbobponlpkaaaDoor
open Go.RowKit

/-- One edge less. -/
def minus (e : Nat → Nat → Bool) (u v : Nat) : Nat → Nat → Bool := fun a b => e a b && !(decide (a = u) && decide (b = v)) && !(decide (a = v) && decide (b = u))
def without (xs : List Int) (x : Int) : List Int := xs.filter fun y => y != x
theorem without_rowB (n : Nat) (p : Nat → Bool) (x : Nat) : without (rowB n p) (x : Int) = rowB n (fun b => p b && !decide (b = x)) := by
  unfold without rowB
  rw [List.filter_map, List.filter_filter]
  congr 1
  apply List.filter_congr
  intro i _
  rw [Bool.and_comm]
  congr 1
  rw [Bool.eq_iff_iff]
  simp
  omega
theorem without_snoc {xs : List Int} {k : Nat} {y : Int} (x : Int) (h : xs[k]? = some y) : without (xs.take (k + 1)) x = without (xs.take k) x ++ if y = x then [] else [y] := by
  unfold without
  rw [take_snoc h, List.filter_append]
  by_cases e : y = x <;> simp [e]
theorem without_length (xs : List Int) (x : Int) : (without xs x).length ≤ xs.length := List.length_filter_le _ _
theorem rows_minus (n : Nat) (e : Nat → Nat → Bool) {u v : Nat} (hu : u < n) (hv : v < n) (huv : u ≠ v) :
    ((rowsB n e).set u (rowB n fun b => e u b && !decide (b = v))).set v (rowB n fun b => e v b && !decide (b = u)) = rowsB n (minus e u v) := by
  apply List.ext_getElem (by simp)
  intro i h1 h2
  have hi : i < n := by simpa using h2
  rw [List.getElem_set, List.getElem_set]
  have hr : (rowsB n (minus e u v))[i] = rowB n (minus e u v i) := by simp [rowsB]
  rw [hr]
  by_cases hiv : v = i
  · subst hiv
    rw [if_pos rfl]
    refine rowB_ext fun b _ => ?_
    have : ¬ v = u := fun h => huv h.symm
    simp [minus, this]
  · rw [if_neg hiv]
    by_cases hiu : u = i
    · subst hiu
      rw [if_pos rfl]
      refine rowB_ext fun b _ => ?_
      simp [minus, huv]
    · rw [if_neg hiu]
      have : (rowsB n e)[i]'(by simpa using hi) = rowB n (e i) := by simp [rowsB]
      rw [this]
      refine rowB_ext fun b _ => ?_
      have h3 : ¬ i = u := fun h => hiu h.symm
      have h4 : ¬ i = v := fun h => hiv h.symm
      simp [minus, h3, h4]

/-- What 'CutEdge' asks. -/
def OkC (xss : List (List Int)) (u v : Int) : Prop := vertexB xss u = true ∧ vertexB xss v = true ∧ edgeB xss u v = true
instance (xss : List (List Int)) (u v : Int) : Decidable (OkC xss u v) := by unfold OkC; infer_instance

/-! ### The program -/
def partS (ms : List Nat) (u v : Nat) : List Nat :=
  let ns := ms.set u (ms.getD u 0 &&& (4294967295 - 2 ^ v))
  ns.set v (ns.getD v 0 &&& (4294967295 - 2 ^ u))
@[simp] theorem partS_length (ms : List Nat) (u v : Nat) : (partS ms u v).length = ms.length := by simp [partS]
theorem and_small {a b : Nat} (ha : a < 4294967296) : a &&& b < 4294967296 := by
  have := Nat.and_le_left (n := a) (m := b)
  omega
theorem Small.part {ms : List Nat} (h : Small ms) (u v : Nat) : Small (partS ms u v) := by
  have h1 := h.set u (and_small (b := 4294967295 - 2 ^ v) (h.getD u))
  exact h1.set v (and_small (h1.getD v))
theorem testBit_flip_pow {v : Nat} (hv : v < 32) (i : Nat) : (4294967295 - 2 ^ v).testBit i = (decide (i < 32) && !decide (i = v)) := by
  rw [testBit_flip (pow_small hv), Nat.testBit_two_pow]
  congr 2
  rw [Bool.eq_iff_iff]; simp [eq_comm]
theorem partS_NB {n : Nat} (hn : n ≤ 32) (e : Nat → Nat → Bool) {u v : Nat} (hu : u < n) (hv : v < n) : partS (NB n e) u v = NB n (minus e u v) := by
  refine eq_NB (by simp) fun a b ha => ?_
  unfold partS
  simp only
  rw [getD_set _ _ _ _ (by simpa using hv), getD_set _ _ _ _ (by simpa using hu), getD_set _ _ _ _ (by simpa using hu), NB_getD e hu, NB_getD e hv, NB_getD e ha]
  by_cases hb : b < n
  · have hb32 : b < 32 := by omega
    by_cases h1 : a = v
    · subst h1
      by_cases h2 : a = u
      · subst h2
        simp [Nat.testBit_and, testBit_maskB, testBit_flip_pow (show a < 32 by omega), hb, hb32, minus]
      · simp [Nat.testBit_and, testBit_maskB, testBit_flip_pow (show u < 32 by omega), hb, hb32, minus, h2]
    · by_cases h2 : a = u
      · subst h2
        simp [Nat.testBit_and, testBit_maskB, testBit_flip_pow (show v < 32 by omega), hb, hb32, minus, h1]
      · simp [testBit_maskB, hb, minus, h1, h2]
  · by_cases h1 : a = v
    · subst h1
      by_cases h2 : a = u
      · subst h2
        simp [Nat.testBit_and, testBit_maskB, hb]
      · simp [Nat.testBit_and, testBit_maskB, hb, h2]
    · by_cases h2 : a = u
      · subst h2
        simp [Nat.testBit_and, testBit_maskB, hb, h1]
      · simp [testBit_maskB, hb, h1, h2]

end Go.Proofs.YtcjbobponlpkaaaDoor
