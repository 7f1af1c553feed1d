import Derived.Test.YtpfhflkpnjkgkaaGq05
/-
  'AddedVertex' of the reference and of the program.
-/



namespace Go.Proofs.Ytpfhflkpnjkgkaa
open Go.RowKit

/-- A graph with one more vertex, without edges. -/
def grown (n : Nat) (e : Nat → Nat → Bool) : Nat → Nat → Bool := fun a b => decide (a < n) && decide (b < n) && e a b
/-- The new vertex n is joined to these. -/
def hung (n : Nat) (e : Nat → Nat → Bool) (xs : List Int) : Nat → Nat → Bool := xs.foldl (fun f x => plus f x.toNat n) (grown n e)
theorem plus_comm (f : Nat → Nat → Bool) (u v : Nat) : plus f u v = plus f v u := by
  funext a b
  unfold plus
  rw [Bool.or_assoc, Bool.or_assoc]
  congr 1
  exact Bool.or_comm _ _
theorem hung_succ {n : Nat} {e : Nat → Nat → Bool} {xs : List Int} {k x : Nat} (h : xs[k]? = some (x : Int)) : hung n e (xs.take (k + 1)) = plus (hung n e (xs.take k)) x n := by
  unfold hung
  rw [take_snoc h, List.foldl_append]
  simp

theorem rowB_grown (n : Nat) (p : Nat → Bool) : rowB (n + 1) (fun b => decide (b < n) && p b) = rowB n p := by
  unfold rowB
  rw [filter_range_lt]
theorem rowsB_grown (n : Nat) (e : Nat → Nat → Bool) : rowsB n e ++ [[]] = rowsB (n + 1) (grown n e) := by
  unfold rowsB
  rw [List.range_succ, List.map_append]
  congr 1
  · apply List.map_congr_left
    intro u hu
    have hu' := List.mem_range.1 hu
    rw [← rowB_grown]
    refine rowB_ext fun b hb => ?_
    simp [grown, hu']
  · have : rowB (n + 1) (grown n e n) = [] := by
      unfold rowB
      rw [List.filter_eq_nil_iff.2 (by simp [grown])]
      rfl
    simp [this]
theorem NB_grown (n : Nat) (e : Nat → Nat → Bool) : NB n e ++ [0] = NB (n + 1) (grown n e) := by
  unfold NB
  rw [List.range_succ, List.map_append]
  congr 1
  · apply List.map_congr_left
    intro u hu
    have hu' := List.mem_range.1 hu
    apply Nat.eq_of_testBit_eq
    intro i
    rw [testBit_maskB, testBit_maskB]
    by_cases h : i < n
    · have : i < n + 1 := by omega
      simp [grown, hu', h, this]
    · simp [grown, h]
  · have : maskB (n + 1) (grown n e n) = 0 := maskB_eq_zero.2 fun i _ => by simp [grown]
    simp [this]

/-- An owned graph in a variable, one more row without numbers. -/
theorem rows_snoc (xss : List (List Int)) : (xss ++ [[]]).map ints = xss.map ints ++ [[]] := by simp [ints]

/-- What 'AddedVertex' asks. -/
def OkV (xss : List (List Int)) (xs : List Int) : Prop := okB xss = true ∧ SetP xss.length xs ∧ xss.length ≠ 16

theorem GRes.fin {w0 wr : World} {B b base : Nat} {u : Value} {vs : List Value} {rows : List (List Int)} (hB : w0.heap.size = B) (hb : Below B w0 wr) (hbb : B ≤ b)
    (hG : OwnG wr base 26 2 u vs (rows.map ints)) (hbase : b < base) (ok : Bool) :
    GRes w0 rows ok (.returned (.tuple #[.agg #[u], .bool ok])) (wr.setCell ⟨b, 0, none⟩ u) := by
  subst hB
  exact ⟨u, vs, rfl, (hG.other hbase _).rebase (by omega), hb.setCell hbb _⟩

theorem row_one {w : World} {b : Nat} {x : Value} {t : TypeId} (h : VC t b #[x] w) : Row w 1 (.slice (some ⟨b, 0, none⟩) 1 1) 1 [x] := by
  refine ⟨_, 1, rfl, by omega, by simp [maxLen], rfl, (by intro h; cases h), fun j u hj => ⟨b, 0, rfl, ?_⟩⟩
  match j, hj with
  | 0, hj => simp at hj; subst hj; exact h.cell

end Go.Proofs.Ytpfhflkpnjkgkaa
/-
  'AddedEdge' of the reference and of the program.
-/


namespace Go.Proofs.Ytpfhflkpnjkgkaa
open Go.RowKit

/-- What 'AddedEdge' asks. -/
def OkA (xss : List (List Int)) (u v : Int) : Prop := vertexB xss u = true ∧ vertexB xss v = true ∧ u ≠ v ∧ edgeB xss u v = false
instance (xss : List (List Int)) (u v : Int) : Decidable (OkA xss u v) := by unfold OkA; infer_instance
/-- Two vertices of a valid graph. -/
structure Two (xss : List (List Int)) (u v : Int) (n : Nat) (e : Nat → Nat → Bool) (a b : Nat) : Prop where
  adj : Adj n e
  eq : xss = rowsB n e
  len : xss.length = n
  ua : u = a
  vb : v = b
  an : a < n
  bn : b < n
theorem two_of {xss : List (List Int)} {u v : Int} (h1 : vertexB xss u = true) (h2 : vertexB xss v = true) : ∃ e a b, Two xss u v xss.length e a b := by
  unfold vertexB at h1 h2
  rw [Bool.and_eq_true] at h1 h2
  obtain ⟨e, hA, hx⟩ := (okB_iff xss).1 h1.1
  obtain ⟨a, ha, han⟩ := inN_nat h1.2
  obtain ⟨b, hb, hbn⟩ := inN_nat h2.2
  exact ⟨e, a, b, hA, hx, rfl, ha, hb, han, hbn⟩
theorem edgeB_two {xss : List (List Int)} {u v : Int} {n : Nat} {e : Nat → Nat → Bool} {a b : Nat} (h : Two xss u v n e a b) : edgeB xss u v = e a b := by
  obtain ⟨hA, hx, hl, rfl, rfl, ha, hb⟩ := h
  unfold edgeB
  rw [show okB xss = true by rw [hx]; exact okB_adj hA, show inN xss.length (a : Int) = true by rw [inN_iff]; omega, Int.toNat_natCast, hx, rowsB_getD e ha, contains_rowB]
  simp [hb]

/-- An owned graph, changed in place, goes into the variable of the result. -/
theorem GRes.fin2 {w0 wr : World} {B b base : Nat} {u : Value} {vs : List Value} {rows : List (List Int)} (hB : w0.heap.size = B) (hb : Below B w0 wr) (hbb : B ≤ b)
    (hG : OwnG wr base 26 2 u vs (rows.map ints)) (hbase : b < base) (ok : Bool) :
    GRes w0 rows ok (.returned (.tuple #[.agg #[u], .bool ok])) (wr.setCell ⟨b, 0, none⟩ u) := GRes.fin hB hb hbb hG hbase ok

end Go.Proofs.Ytpfhflkpnjkgkaa
/-
  'CutEdge' of the reference and of the program.
-/

namespace Go.Proofs.Ytpfhflkpnjkgkaa
open Go.RowKit

/-- One edge less. -/
def minus (e : Nat → Nat → Bool) (u v : Nat) : Nat → Nat → Bool := fun a b => e a b && !(decide (a = u) && decide (b = v)) && !(decide (a = v) && decide (b = u))
def without (xs : List Int) (x : Int) : List Int := xs.filter fun y => y != x
theorem without_rowB (n : Nat) (p : Nat → Bool) (x : Nat) : without (rowB n p) (x : Int) = rowB n (fun b => p b && !decide (b = x)) := by
  unfold without rowB
  rw [List.filter_map, List.filter_filter]
  congr 1
  apply List.filter_congr
  intro i _
  rw [Bool.and_comm]
  congr 1
  rw [Bool.eq_iff_iff]
  simp
  omega
theorem without_snoc {xs : List Int} {k : Nat} {y : Int} (x : Int) (h : xs[k]? = some y) : without (xs.take (k + 1)) x = without (xs.take k) x ++ if y = x then [] else [y] := by
  unfold without
  rw [take_snoc h, List.filter_append]
  by_cases e : y = x <;> simp [e]
theorem without_length (xs : List Int) (x : Int) : (without xs x).length ≤ xs.length := List.length_filter_le _ _
theorem rows_minus (n : Nat) (e : Nat → Nat → Bool) {u v : Nat} (_hu : u < n) (_hv : v < n) (huv : u ≠ v) :
    ((rowsB n e).set u (rowB n fun b => e u b && !decide (b = v))).set v (rowB n fun b => e v b && !decide (b = u)) = rowsB n (minus e u v) := by
  apply List.ext_getElem (by simp)
  intro i h1 h2
  have hi : i < n := by simpa using h2
  rw [List.getElem_set, List.getElem_set]
  have hr : (rowsB n (minus e u v))[i] = rowB n (minus e u v i) := by simp [rowsB]
  rw [hr]
  by_cases hiv : v = i
  · subst hiv
    rw [if_pos rfl]
    refine rowB_ext fun b _ => ?_
    have : ¬ v = u := fun h => huv h.symm
    simp [minus, this]
  · rw [if_neg hiv]
    by_cases hiu : u = i
    · subst hiu
      rw [if_pos rfl]
      refine rowB_ext fun b _ => ?_
      simp [minus, huv]
    · rw [if_neg hiu]
      have : (rowsB n e)[i]'(by simpa using hi) = rowB n (e i) := by simp [rowsB]
      rw [this]
      refine rowB_ext fun b _ => ?_
      have h3 : ¬ i = u := fun h => hiu h.symm
      have h4 : ¬ i = v := fun h => hiv h.symm
      simp [minus, h3, h4]

/-- What 'CutEdge' asks. -/
def OkC (xss : List (List Int)) (u v : Int) : Prop := vertexB xss u = true ∧ vertexB xss v = true ∧ edgeB xss u v = true
instance (xss : List (List Int)) (u v : Int) : Decidable (OkC xss u v) := by unfold OkC; infer_instance

/-! ### The program -/
def partS (ms : List Nat) (u v : Nat) : List Nat :=
  let ns := ms.set u (ms.getD u 0 &&& (4294967295 - 2 ^ v))
  ns.set v (ns.getD v 0 &&& (4294967295 - 2 ^ u))
@[simp] theorem partS_length (ms : List Nat) (u v : Nat) : (partS ms u v).length = ms.length := by simp [partS]
theorem and_small {a b : Nat} (ha : a < 4294967296) : a &&& b < 4294967296 := by
  have := Nat.and_le_left (n := a) (m := b)
  omega
theorem Small.part {ms : List Nat} (h : Small ms) (u v : Nat) : Small (partS ms u v) := by
  have h1 := h.set u (and_small (b := 4294967295 - 2 ^ v) (h.getD u))
  exact h1.set v (and_small (h1.getD v))
theorem testBit_flip_pow {v : Nat} (hv : v < 32) (i : Nat) : (4294967295 - 2 ^ v).testBit i = (decide (i < 32) && !decide (i = v)) := by
  rw [testBit_flip (pow_small hv), Nat.testBit_two_pow]
  congr 2
  rw [Bool.eq_iff_iff]; simp [eq_comm]
theorem partS_NB {n : Nat} (hn : n ≤ 32) (e : Nat → Nat → Bool) {u v : Nat} (hu : u < n) (hv : v < n) : partS (NB n e) u v = NB n (minus e u v) := by
  refine eq_NB (by simp) fun a b ha => ?_
  unfold partS
  simp only
  rw [getD_set _ _ _ _ (by simpa using hv), getD_set _ _ _ _ (by simpa using hu), getD_set _ _ _ _ (by simpa using hu), NB_getD e hu, NB_getD e hv, NB_getD e ha]
  by_cases hb : b < n
  · have hb32 : b < 32 := by omega
    by_cases h1 : a = v
    · subst h1
      by_cases h2 : a = u
      · subst h2
        simp [Nat.testBit_and, testBit_maskB, testBit_flip_pow (show a < 32 by omega), hb, hb32, minus]
      · simp [Nat.testBit_and, testBit_maskB, testBit_flip_pow (show u < 32 by omega), hb, hb32, minus, h2]
    · by_cases h2 : a = u
      · subst h2
        simp [Nat.testBit_and, testBit_maskB, testBit_flip_pow (show v < 32 by omega), hb, hb32, minus, h1]
      · simp [testBit_maskB, hb, minus, h1, h2]
  · by_cases h1 : a = v
    · subst h1
      by_cases h2 : a = u
      · subst h2
        simp [Nat.testBit_and, testBit_maskB, hb]
      · simp [Nat.testBit_and, testBit_maskB, hb, h2]
    · by_cases h2 : a = u
      · subst h2
        simp [Nat.testBit_and, testBit_maskB, hb, h1]
      · simp [testBit_maskB, hb, h1, h2]

end Go.Proofs.Ytpfhflkpnjkgkaa
/-
  Induced graphs: 'l2Of' of the reference; 'has', 'narrow', 'induced' of the program.
-/

namespace Go.Proofs.Ytpfhflkpnjkgkaa
open Go.RowKit

/-- The vertex at a place of a list. -/
def atL (xs : List Int) (i : Nat) : Nat := (xs.getD i 0).toNat
theorem atL_eq {xs : List Int} {i x : Nat} (h : xs[i]? = some (x : Int)) : atL xs i = x := by simp [atL, List.getD, h]
/-- All are vertices of n. -/
def InP (n : Nat) (xs : List Int) : Prop := ∀ x ∈ xs, 0 ≤ x ∧ x < (n : Int)
theorem InP.at {n : Nat} {xs : List Int} (h : InP n xs) {i : Nat} {x : Int} (hx : xs[i]? = some x) : ∃ k : Nat, x = k ∧ k < n := by
  have := h x (List.mem_of_getElem? hx)
  exact ⟨x.toNat, by omega, by omega⟩

end Go.Proofs.Ytpfhflkpnjkgkaa
/-
  'has', 'narrow', 'induced' of the program.
-/

namespace Go.Proofs.Ytpfhflkpnjkgkaa
open Go.RowKit

/-- A table filled row by row. -/
def fill (f : Nat → Nat → Bool) (k j : Nat) : Nat → Nat → Bool := fun a b => (decide (a < k) || (decide (a = k) && decide (b < j))) && f a b
theorem fill_no (f : Nat → Nat → Bool) {k j : Nat} (h : f k j = false) : fill f k j = fill f k (j + 1) := by
  funext a b
  unfold fill
  by_cases h1 : a = k
  · subst h1
    by_cases h2 : b = j
    · subst h2; simp [h]
    · have e : decide (b < j) = decide (b < j + 1) := by rw [Bool.eq_iff_iff]; simp; omega
      rw [e]
  · simp [h1]
theorem fill_yes {n : Nat} (f : Nat → Nat → Bool) {k j : Nat} (hk : k < n) (hj : j < n) (h : f k j = true) :
    (NB n (fill f k j)).set k ((NB n (fill f k j)).getD k 0 ||| 2 ^ j) = NB n (fill f k (j + 1)) := by
  refine eq_NB (by simp) fun a b ha => ?_
  rw [getD_set _ _ _ _ (by simpa using hk)]
  by_cases h1 : a = k
  · subst h1
    rw [if_pos rfl, NB_getD _ hk, Nat.testBit_or, testBit_maskB, Nat.testBit_two_pow]
    unfold fill
    by_cases h2 : b = j
    · subst h2; simp [h, hj]
    · have e : decide (b < j) = decide (b < j + 1) := by rw [Bool.eq_iff_iff]; simp; omega
      have h3 : ¬ j = b := fun h => h2 h.symm
      rw [e]
      simp [h3]
  · rw [if_neg h1, NB_getD _ ha, testBit_maskB]
    unfold fill
    simp [h1]
theorem fill_next (n : Nat) (f : Nat → Nat → Bool) (k : Nat) : NB n (fill f k n) = NB n (fill f (k + 1) 0) := by
  refine NB_ext fun a b ha hb => ?_
  unfold fill
  have e : (decide (a < k) || (decide (a = k) && decide (b < n))) = (decide (a < k + 1) || (decide (a = k + 1) && decide (b < 0))) := by rw [Bool.eq_iff_iff]; simp [hb]; omega
  rw [e]
theorem fill_zero (f : Nat → Nat → Bool) : fill f 0 0 = fun _ _ => false := by
  funext a b
  unfold fill
  simp
theorem fill_all (n : Nat) (f : Nat → Nat → Bool) : NB n (fill f n 0) = NB n f := by
  refine NB_ext fun a b ha hb => ?_
  unfold fill
  simp [ha]

end Go.Proofs.Ytpfhflkpnjkgkaa
