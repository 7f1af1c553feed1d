/-
  The plain law of 'l1Link' and 'join': rows kept as lists and as sets stay alike.
-/
import Derived.Test.YtbhobmngnjfgfaaDoorSpecA
namespace Go.Proofs.YtbhobmngnjfgfaaDoor
open Go.RowKit

theorem into_above (xs : List Nat) (v : Nat) (h : ∀ x ∈ xs, v < x) : into (xs.map fun (i : Nat) => (i : Int)) v = ((v :: xs).map fun (i : Nat) => (i : Int)) := by
  cases xs with
  | nil => simp [into]
  | cons x r =>
    have := h x (by simp)
    simp only [List.map_cons, into]
    rw [if_neg (by omega), if_neg (by omega)]

theorem into_filter (p : Nat → Bool) (v : Nat) : ∀ (n a : Nat), a ≤ v → v < a + n →
    into (((List.range' a n).filter p).map fun (i : Nat) => (i : Int)) v = ((List.range' a n).filter fun i => p i || decide (i = v)).map fun (i : Nat) => (i : Int)
  | 0, a, h1, h2 => by omega
  | n + 1, a, h1, h2 => by
    rw [List.range'_succ]
    by_cases hv : a = v
    · subst hv
      have hrest : (List.range' (a + 1) n).filter (fun i => p i || decide (i = a)) = (List.range' (a + 1) n).filter p := by
        apply List.filter_congr
        intro i hi
        have := (List.mem_range'_1.1 hi).1
        have : ¬ i = a := by omega
        simp [this]
      by_cases hp : p a = true
      · rw [List.filter_cons_of_pos hp, List.filter_cons_of_pos (by simp), hrest]
        simp [into]
      · rw [List.filter_cons_of_neg hp, List.filter_cons_of_pos (by simp), hrest]
        refine into_above _ _ fun x hx => ?_
        have := (List.mem_range'_1.1 (List.mem_filter.1 hx).1).1
        omega
    · have ih := into_filter p v n (a + 1) (by omega) (by omega)
      have hd : (p a || decide (a = v)) = p a := by simp [hv]
      by_cases hp : p a = true
      · rw [List.filter_cons_of_pos hp, List.filter_cons_of_pos (by rw [hd]; exact hp), List.map_cons, List.map_cons, into, if_pos (by omega), ih]
      · rw [List.filter_cons_of_neg hp, List.filter_cons_of_neg (by rw [hd]; exact hp), ih]

theorem into_nums (m v : Nat) (hv : v < 32) : into (nums m) v = nums (m ||| 2 ^ v) := by
  unfold nums bitsOf
  rw [List.range_eq_range', into_filter m.testBit v 32 0 (by omega) (by omega)]
  congr 2
  funext i
  rw [Nat.testBit_or, Nat.testBit_two_pow]
  congr 1
  exact decide_eq_decide.2 eq_comm

theorem getD_rowsOf (ms : List Nat) (u : Nat) (hu : u < ms.length) : (rowsOf ms).getD u [] = nums (ms.getD u 0) := by
  simp [rowsOf, List.getD, hu]
theorem rowsOf_set (ms : List Nat) (u x : Nat) : (rowsOf ms).set u (nums x) = rowsOf (ms.set u x) := by simp [rowsOf, List.map_set]
@[simp] theorem rowsOf_length (ms : List Nat) : (rowsOf ms).length = ms.length := by simp [rowsOf]

theorem link_rowsOf (ms : List Nat) (u v : Nat) (hu : u < ms.length) (hv : v < ms.length) (hu2 : u < 32) (hv2 : v < 32) : link (rowsOf ms) u v = rowsOf (joinS ms u v) := by
  unfold link joinS
  simp only
  rw [getD_rowsOf _ _ hu, into_nums _ _ hv2, rowsOf_set, getD_rowsOf _ _ (by simpa using hv), into_nums _ _ hu2, rowsOf_set]

theorem rowsOf_short (ms : List Nat) : ∀ xs ∈ rowsOf ms, xs.length < 1000 := by
  intro xs hx
  obtain ⟨m, _, rfl⟩ := List.mem_map.1 hx
  have := nums_length m
  omega

theorem rowsOf_zeros (n : Nat) : rowsOf (List.replicate n 0) = List.replicate n [] := by
  simp [rowsOf, nums, bitsOf_zero]

/-- 'l1Link' over rows that are sets. -/
theorem link_sets (base : Nat) (v : Value) (vs0 : List Value) (ms : List Nat) (i j : Nat) (I J : Int) (hI : I = i) (hJ : J = j) (w : World) (hi : i < ms.length) (hj : j < ms.length) (hi2 : i < 32) (hj2 : j < 32) (hm : ms.length ≤ 1000)
    (hbase : base ≤ w.heap.size) (h : OwnG w base 30 2 v vs0 ((rowsOf ms).map ints)) :
    Calls Tryd.prog 172 #[.agg #[v], .int .i64 I, .int .i64 J] w fun e w' => ∃ vs', e = .returned (.agg #[v]) ∧
      OwnG w' base 30 2 v vs' ((rowsOf (joinS ms i j)).map ints) ∧ Wrote w w' (fun b => v.ownBlock = some b) := by
  subst hI; subst hJ
  rw [← link_rowsOf ms i j hi hj hi2 hj2]
  exact link_any base v vs0 (rowsOf ms) i j w (by simpa using hi) (by simpa using hj) (rowsOf_short ms) (by simp; omega) hbase h

/-- Rows that are sets hold few numbers. -/
theorem total_rowsOf (ms : List Nat) : ((rowsOf ms).map List.length).sum ≤ 32 * ms.length := by
  induction ms with
  | nil => simp [rowsOf]
  | cons m ms ih =>
    have := nums_length m
    simp only [rowsOf, List.map_cons, List.sum_cons, List.length_cons] at ih ⊢
    omega

/-- The nets of a star. -/
def starM (n k : Nat) : List Nat := (List.range k).foldl (fun ms v => joinS ms 0 (v + 1)) (List.replicate (n + 1) 0)
theorem starM_succ (n k : Nat) : starM n (k + 1) = joinS (starM n k) 0 (k + 1) := by simp [starM, List.range_succ]
@[simp] theorem starM_length (n k : Nat) : (starM n k).length = n + 1 := by
  induction k with
  | zero => simp [starM]
  | succ k ih => rw [starM_succ, joinS_length, ih]
theorem starM_small (n k : Nat) (hk : k < 32) : Small (starM n k) := by
  induction k with
  | zero => exact small_zeros _
  | succ k ih => rw [starM_succ]; exact (ih (by omega)).join (by omega) hk
end Go.Proofs.YtbhobmngnjfgfaaDoor
