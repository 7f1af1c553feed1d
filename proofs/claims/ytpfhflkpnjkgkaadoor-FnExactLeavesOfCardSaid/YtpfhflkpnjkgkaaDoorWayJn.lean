import Derived.Test.YtpfhflkpnjkgkaaDoorGq06
/-
  Ways in a graph, plainly: what is reached from a vertex among some vertices, and the parts of a set.
-/

namespace Go.Proofs.YtpfhflkpnjkgkaaDoor
open Go.RowKit

/-- What is reached from v among those that p lets by; v itself always is. -/
inductive Way (n : Nat) (e : Nat → Nat → Bool) (p : Nat → Bool) (v : Nat) : Nat → Prop
  | here : Way n e p v v
  | step {a b : Nat} (h : Way n e p v a) (hb : b < n) (he : e a b = true) (hp : p b = true) : Way n e p v b

section
variable {n : Nat} {e : Nat → Nat → Bool} {p q : Nat → Bool} {u v b : Nat}
theorem Way.lt (h : Way n e p v b) (hv : v < n) : b < n := by
  cases h with
  | here => exact hv
  | step _ hb _ _ => exact hb
theorem Way.within (h : Way n e p v b) (hv : p v = true) : p b = true := by
  cases h with
  | here => exact hv
  | step _ _ _ hp => exact hp
theorem Way.trans (h1 : Way n e p u v) (h2 : Way n e p v b) : Way n e p u b := by
  induction h2 with
  | here => exact h1
  | step _ hb he hp ih => exact .step ih hb he hp
theorem Way.mono (h : Way n e p v b) (hpq : ∀ b, b < n → p b = true → b = v ∨ q b = true) : Way n e q v b := by
  induction h with
  | here => exact .here
  | step _ hb he hp ih =>
    rcases hpq _ hb hp with rfl | h
    · exact .here
    · exact .step ih hb he h
theorem Way.symm (hA : Adj n e) (h : Way n e p v b) (hv : v < n) (hpv : p v = true) : Way n e p b v := by
  induction h with
  | here => exact .here
  | @step a b h hb he hp ih =>
    have ha := h.lt hv
    exact (Way.step .here ha (by rw [hA.sym b a hb ha]; exact he) (h.within hpv)).trans ih
end

noncomputable def wayB (n : Nat) (e : Nat → Nat → Bool) (p : Nat → Bool) (v : Nat) : Nat → Bool := fun b => @decide (Way n e p v b) (Classical.propDecidable _)
theorem wayB_iff {n : Nat} {e : Nat → Nat → Bool} {p : Nat → Bool} {v b : Nat} : wayB n e p v b = true ↔ Way n e p v b := by
  exact @decide_eq_true_iff (Way n e p v b) (Classical.propDecidable _)
theorem wayB_eq {n : Nat} {e : Nat → Nat → Bool} {p q : Nat → Bool} {v : Nat} (h1 : ∀ b, b < n → p b = true → b = v ∨ q b = true) (h2 : ∀ b, b < n → q b = true → b = v ∨ p b = true) : wayB n e p v = wayB n e q v := by
  funext b
  rw [Bool.eq_iff_iff, wayB_iff, wayB_iff]
  exact ⟨fun h => h.mono h1, fun h => h.mono h2⟩

/-- A set that is reached, holds v, and is closed, is all that is reached. -/
theorem way_mask {n : Nat} {e : Nat → Nat → Bool} {p : Nat → Bool} {v m : Nat} (h0 : m.testBit v = true) (h1 : ∀ b, m.testBit b = true → b < n ∧ Way n e p v b)
    (h2 : ∀ a b, m.testBit a = true → b < n → e a b = true → p b = true → m.testBit b = true) : m = maskB n (wayB n e p v) := by
  apply Nat.eq_of_testBit_eq
  intro b
  rw [testBit_maskB, Bool.eq_iff_iff, Bool.and_eq_true, decide_eq_true_eq, wayB_iff]
  refine ⟨h1 b, fun h => ?_⟩
  replace h := h.2
  induction h with
  | here => exact h0
  | step h hb he hp ih => exact h2 _ _ ih hb he hp
theorem way_row {n : Nat} {e : Nat → Nat → Bool} {p : Nat → Bool} {v : Nat} {o : Nat → Bool} (h0 : o v = true) (h1 : ∀ b, o b = true → b < n ∧ Way n e p v b)
    (h2 : ∀ a b, o a = true → b < n → e a b = true → p b = true → o b = true) : rowB n o = rowB n (wayB n e p v) := by
  refine rowB_ext fun b hb => ?_
  rw [Bool.eq_iff_iff, wayB_iff]
  refine ⟨fun h => (h1 b h).2, fun h => ?_⟩
  clear hb
  induction h with
  | here => exact h0
  | step h hb he hp ih => exact h2 _ _ ih hb he hp

/-! ### How many -/
theorem rowB_succ_length (n : Nat) (p : Nat → Bool) : (rowB (n + 1) p).length = (rowB n p).length + if p n = true then 1 else 0 := by
  unfold rowB
  rw [List.range_succ, List.filter_append, List.map_append, List.length_append]
  by_cases h : p n = true <;> simp [h]
theorem rowB_put_length {p : Nat → Bool} {b : Nat} (h0 : p b = false) : ∀ {n : Nat}, b < n → (rowB n fun x => p x || decide (x = b)).length = (rowB n p).length + 1
  | 0, h => by omega
  | n + 1, h => by
    rw [rowB_succ_length, rowB_succ_length]
    by_cases hb : b = n
    · subst hb
      have e1 : rowB b (fun x => p x || decide (x = b)) = rowB b p := rowB_ext fun x hx => by
        have : decide (x = b) = false := by simp; omega
        rw [this, Bool.or_false]
      rw [e1]
      simp [h0]
    · have ih := rowB_put_length h0 (n := n) (by omega)
      have : decide (n = b) = false := by simp; omega
      rw [ih, this, Bool.or_false]
      omega

/-! ### The parts of a set -/
/-- Is b reached from one below j? -/
noncomputable def doneB (n : Nat) (e : Nat → Nat → Bool) (p : Nat → Bool) (j b : Nat) : Bool := (List.range j).any fun u => p u && wayB n e p u b
noncomputable def leftB (n : Nat) (e : Nat → Nat → Bool) (p : Nat → Bool) (j b : Nat) : Bool := p b && !doneB n e p j b
/-- The parts whose least vertices are below j. -/
noncomputable def partsTo (n : Nat) (e : Nat → Nat → Bool) (p : Nat → Bool) (j : Nat) : List (Nat → Bool) := ((List.range j).filter fun v => leftB n e p v v).map fun v => wayB n e p v

section
variable {n : Nat} {e : Nat → Nat → Bool} {p : Nat → Bool}
theorem doneB_iff {j b : Nat} : doneB n e p j b = true ↔ ∃ u, u < j ∧ p u = true ∧ Way n e p u b := by
  unfold doneB
  simp [wayB_iff]
theorem leftB_zero : leftB n e p 0 = p := by
  funext b
  simp [leftB, doneB]
theorem leftB_ge {j b : Nat} (h : leftB n e p j b = true) : j ≤ b ∧ p b = true := by
  unfold leftB at h
  rw [Bool.and_eq_true, Bool.not_eq_true'] at h
  refine ⟨?_, h.1⟩
  apply Classical.byContradiction
  intro hlt
  have : doneB n e p j b = true := doneB_iff.2 ⟨b, by omega, h.1, .here⟩
  rw [this] at h
  cases h.2
theorem doneB_succ (j b : Nat) : doneB n e p (j + 1) b = (doneB n e p j b || (p j && wayB n e p j b)) := by
  unfold doneB
  rw [List.range_succ, List.any_append]
  simp
theorem partsTo_zero : partsTo n e p 0 = [] := rfl
theorem partsTo_yes {j : Nat} (h : leftB n e p j j = true) : partsTo n e p (j + 1) = partsTo n e p j ++ [wayB n e p j] := by
  unfold partsTo
  rw [List.range_succ, List.filter_append, List.map_append]
  simp [h]
theorem partsTo_no {j : Nat} (h : leftB n e p j j = false) : partsTo n e p (j + 1) = partsTo n e p j := by
  unfold partsTo
  rw [List.range_succ, List.filter_append, List.map_append]
  simp [h]
theorem doneB_no {j : Nat} (h : leftB n e p j j = false) (b : Nat) : doneB n e p (j + 1) b = doneB n e p j b := by
  rw [doneB_succ]
  cases hp : p j with
  | false => simp
  | true =>
    have hd : doneB n e p j j = true := by
      unfold leftB at h
      rw [hp, Bool.true_and] at h
      simpa using h
    obtain ⟨u, hu, hpu, hw⟩ := doneB_iff.1 hd
    rw [Bool.eq_iff_iff, Bool.or_eq_true, Bool.true_and, wayB_iff]
    refine ⟨fun h => ?_, .inl⟩
    rcases h with h | h
    · exact h
    · exact doneB_iff.2 ⟨u, hu, hpu, hw.trans h⟩
/-- Over vertices that are not in the set, or have been reached, nothing new comes. -/
theorem jump {j : Nat} : ∀ (d : Nat), (∀ i, j ≤ i → i < j + d → leftB n e p i i = false) → partsTo n e p (j + d) = partsTo n e p j ∧ ∀ b, doneB n e p (j + d) b = doneB n e p j b
  | 0, _ => ⟨rfl, fun _ => rfl⟩
  | d + 1, h => by
    obtain ⟨h1, h2⟩ := jump d fun i h3 h4 => h i h3 (by omega)
    have h3 := h (j + d) (by omega) (by omega)
    exact ⟨(partsTo_no h3).trans h1, fun b => (doneB_no h3 b).trans (h2 b)⟩
/-- The same from what is left at the start. -/
theorem jumpLeft {j l : Nat} (hjl : j ≤ l) (h : ∀ i, j ≤ i → i < l → leftB n e p j i = false) : partsTo n e p l = partsTo n e p j ∧ ∀ b, doneB n e p l b = doneB n e p j b := by
  obtain ⟨d, rfl⟩ : ∃ d, l = j + d := ⟨l - j, by omega⟩
  clear hjl
  induction d with
  | zero => exact ⟨rfl, fun _ => rfl⟩
  | succ d ih =>
    obtain ⟨h1, h2⟩ := ih fun i h3 h4 => h i h3 (by omega)
    have h3 : leftB n e p (j + d) (j + d) = false := by
      have := h (j + d) (by omega) (by omega)
      unfold leftB at this ⊢
      rw [h2]; exact this
    exact ⟨(partsTo_no h3).trans h1, fun b => (doneB_no h3 b).trans (h2 b)⟩
theorem leftB_of_done {j l : Nat} (h : ∀ b, doneB n e p l b = doneB n e p j b) : leftB n e p l = leftB n e p j := by
  funext b
  unfold leftB
  rw [h]
theorem leftB_yes {j : Nat} (h : leftB n e p j j = true) (b : Nat) : leftB n e p (j + 1) b = (leftB n e p j b && !wayB n e p j b) := by
  have hp := (leftB_ge h).2
  unfold leftB
  rw [doneB_succ, hp, Bool.true_and, Bool.not_or, Bool.and_assoc]
/-- Among what is left the same is reached. -/
theorem wayB_left (hA : Adj n e) (hpn : ∀ b, p b = true → b < n) {j : Nat} (h : leftB n e p j j = true) : wayB n e (leftB n e p j) j = wayB n e p j := by
  have hp := (leftB_ge h).2
  have hn := hpn j hp
  funext b
  rw [Bool.eq_iff_iff, wayB_iff, wayB_iff]
  refine ⟨fun h => h.mono fun b _ h => .inr (leftB_ge h).2, fun hw => ?_⟩
  induction hw with
  | here => exact .here
  | @step a b hw hb he hpb ih =>
    refine .step ih hb he ?_
    unfold leftB
    rw [hpb, Bool.true_and, Bool.not_eq_true', ← Bool.not_eq_true]
    intro hd
    obtain ⟨u, hu, hpu, huw⟩ := doneB_iff.1 hd
    have hjb : Way n e p j b := .step hw hb he hpb
    have : doneB n e p j j = true := doneB_iff.2 ⟨u, hu, hpu, huw.trans (hjb.symm hA hn hp)⟩
    unfold leftB at h
    rw [this] at h
    simp at h
theorem partsTo_length (j : Nat) : (partsTo n e p j).length ≤ j := by
  unfold partsTo
  rw [List.length_map]
  exact Nat.le_trans (List.length_filter_le _ _) (by simp)
end

/-! ### Through a row that rises -/
theorem rising_at {xs : List Int} (h : xs.Pairwise (· < ·)) {i j : Nat} {x y : Int} (hi : xs[i]? = some x) (hj : xs[j]? = some y) (hij : i < j) : x < y := by
  obtain ⟨h1, rfl⟩ := List.getElem?_eq_some_iff.1 hi
  obtain ⟨h2, rfl⟩ := List.getElem?_eq_some_iff.1 hj
  exact List.pairwise_iff_getElem.1 h i j h1 h2 hij
theorem mem_take_iff {xs : List Int} {k : Nat} {x : Int} : x ∈ xs.take k ↔ ∃ i, i < k ∧ xs[i]? = some x := by
  rw [List.mem_iff_getElem?]
  constructor
  · rintro ⟨i, hi⟩
    rw [List.getElem?_take] at hi
    split at hi
    · exact ⟨i, by assumption, hi⟩
    · cases hi
  · rintro ⟨i, hi, h⟩
    exact ⟨i, by rw [List.getElem?_take, if_pos hi]; exact h⟩
/-- J stands just behind the first k numbers of the row. -/
def Past (n : Nat) (p : Nat → Bool) (k J : Nat) : Prop := ∀ b, b < n → p b = true → (b < J ↔ (b : Int) ∈ (rowB n p).take k)
theorem Past.start (n : Nat) (p : Nat → Bool) : Past n p 0 0 := fun b _ _ => by simp
theorem Past.next {n : Nat} {p : Nat → Bool} {k J y : Nat} (hJ : Past n p k J) (h : (rowB n p)[k]? = some (y : Int)) : J ≤ y ∧ (∀ b, J ≤ b → b < y → p b = false) ∧ Past n p (k + 1) (y + 1) := by
  obtain ⟨y', hy, hpy, e⟩ := mem_rowB.1 (List.mem_of_getElem? h)
  obtain rfl : y = y' := by omega
  have hr := rowB_rising n p
  have h1 : J ≤ y := by
    apply Classical.byContradiction
    intro hlt
    obtain ⟨i, hi, hx⟩ := mem_take_iff.1 ((hJ y hy hpy).1 (by omega))
    have := rising_at hr hx h hi
    omega
  have h2 : ∀ b, J ≤ b → b < y → p b = false := by
    intro b hb hby
    cases hp : p b with
    | false => rfl
    | true =>
      exfalso
      obtain ⟨i, hi⟩ := List.mem_iff_getElem?.1 (nat_mem_rowB.2 ⟨(by omega : b < n), hp⟩)
      have hik : ¬ i < k := fun h => by
        have := (hJ b (by omega) hp).2 (mem_take_iff.2 ⟨i, h, hi⟩)
        omega
      by_cases he : i = k
      · subst he
        rw [h] at hi
        have := Option.some.inj hi
        omega
      · have := rising_at hr h hi (by omega)
        omega
  refine ⟨h1, h2, fun b hb hp => ?_⟩
  constructor
  · intro hlt
    by_cases hby : b = y
    · subst hby; exact mem_take_iff.2 ⟨k, by omega, h⟩
    · have hbJ : b < J := by
        apply Classical.byContradiction
        intro hn
        have := h2 b (by omega) (by omega)
        rw [hp] at this
        cases this
      obtain ⟨i, hi, hx⟩ := mem_take_iff.1 ((hJ b hb hp).1 hbJ)
      exact mem_take_iff.2 ⟨i, by omega, hx⟩
  · intro hm
    obtain ⟨i, hi, hx⟩ := mem_take_iff.1 hm
    by_cases hik : i = k
    · subst hik
      rw [h] at hx
      have := Option.some.inj hx
      omega
    · have := (hJ b hb hp).2 (mem_take_iff.2 ⟨i, by omega, hx⟩)
      omega
theorem Past.done {n : Nat} {p : Nat → Bool} {J : Nat} (hJ : Past n p (rowB n p).length J) : ∀ b, J ≤ b → b < n → p b = false := by
  intro b h1 h2
  cases hp : p b with
  | false => rfl
  | true =>
    have := (hJ b h2 hp).2 (by rw [List.take_length]; exact nat_mem_rowB.2 ⟨h2, hp⟩)
    omega
end Go.Proofs.YtpfhflkpnjkgkaaDoor
