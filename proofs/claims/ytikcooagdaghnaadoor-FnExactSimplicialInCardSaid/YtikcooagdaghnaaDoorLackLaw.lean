/-
  Plain law: the two counts are 0 together.
-/
import Derived.Test.YtikcooagdaghnaaDoorMissing
namespace Go.Proofs.YtikcooagdaghnaaDoor
open Go.RowKit

theorem lackRow_zero (e : Nat → Nat → Bool) (xs : List Int) (i j : Nat) : lackRow e xs i j = 0 ↔ ∀ q, q < j → e (atL xs q) (atL xs i) = true := by
  unfold lackRow
  rw [List.length_eq_zero_iff, List.filter_eq_nil_iff]
  simp
theorem lackTo_zero (e : Nat → Nat → Bool) (xs : List Int) : ∀ i, lackTo e xs i = 0 ↔ ∀ k, k < i → ∀ q, q < k → e (atL xs q) (atL xs k) = true
  | 0 => by simp [lackTo]
  | i + 1 => by
    have ih := lackTo_zero e xs i
    have hr := lackRow_zero e xs i i
    simp only [lackTo]
    constructor
    · intro h k hk q hq
      by_cases hki : k = i
      · subst hki; exact hr.1 (by omega) q hq
      · exact ih.1 (by omega) k (by omega) q hq
    · intro h
      have h1 := ih.2 fun k hk q hq => h k (by omega) q hq
      have h2 := hr.2 fun q hq => h i (by omega) q hq
      omega
theorem lacksM_zero {n : Nat} {e : Nat → Nat → Bool} {p : Nat → Bool} {y : Nat} : lacksM n e p y = 0 ↔ ∀ b, b < n → p b = true → b ≠ y → e y b = true := by
  unfold lacksM
  rw [maskB_eq_zero]
  constructor
  · intro h b hb hp hy
    have := h b hb
    simp [hp, hy] at this
    exact this
  · intro h b hb
    by_cases hp : p b = true
    · by_cases hy : b = y
      · simp [hy]
      · simp [h b hb hp hy]
    · simp [hp]
theorem lackC_zero {n : Nat} {e : Nat → Nat → Bool} {p : Nat → Bool} : lackC n e p (rowB n p) = 0 ↔ ∀ a, a < n → p a = true → ∀ b, b < n → p b = true → b ≠ a → e a b = true := by
  unfold lackC
  rw [List.length_eq_zero_iff, List.filter_eq_nil_iff]
  constructor
  · intro h a ha hp
    have := h a (nat_mem_rowB.2 ⟨ha, hp⟩)
    simp at this
    exact lacksM_zero.1 this
  · intro h x hx
    obtain ⟨a, ha, hp, rfl⟩ := mem_rowB.1 hx
    simp
    exact lacksM_zero.2 (h a ha hp)
theorem two_le {l : List Int} {a b : Int} (ha : a ∈ l) (hb : b ∈ l) (h : a ≠ b) : 2 ≤ l.length := by
  match l, ha, hb with
  | [x], ha, hb =>
    rw [List.mem_singleton] at ha hb
    exact (h (ha.trans hb.symm)).elim
  | x :: y :: l, _, _ => simp
theorem lackC_two {n : Nat} {e : Nat → Nat → Bool} (hA : Adj n e) {p : Nat → Bool} (h : lackC n e p (rowB n p) ≠ 0) : 2 ≤ lackC n e p (rowB n p) := by
  have h1 : ∃ a b, a < n ∧ p a = true ∧ b < n ∧ p b = true ∧ b ≠ a ∧ e a b = false := by
    apply Classical.byContradiction
    intro hn
    apply h
    rw [lackC_zero]
    intro a ha hpa b hb hpb hab
    cases he : e a b with
    | true => rfl
    | false => exact (hn ⟨a, b, ha, hpa, hb, hpb, hab, he⟩).elim
  obtain ⟨a, b, ha, hpa, hb, hpb, hab, he⟩ := h1
  have hm : ∀ x y, x < n → p x = true → y < n → p y = true → y ≠ x → e x y = false → (x : Int) ∈ (rowB n p).filter fun y => !decide (lacksM n e p y.toNat = 0) := by
    intro x y hx hpx hy hpy hxy hexy
    rw [List.mem_filter]
    refine ⟨nat_mem_rowB.2 ⟨hx, hpx⟩, ?_⟩
    have : ¬ lacksM n e p x = 0 := fun h0 => by
      have := lacksM_zero.1 h0 y hy hpy hxy
      rw [hexy] at this
      cases this
    simp [this]
  exact two_le (hm a b ha hpa hb hpb hab he) (hm b a hb hpb ha hpa hab.symm (by rw [hA.sym b a hb ha]; exact he)) (by omega)
theorem lack_same {n : Nat} {e : Nat → Nat → Bool} (hA : Adj n e) (p : Nat → Bool) : lackTo e (rowB n p) (rowB n p).length = 0 ↔ lackC n e p (rowB n p) = 0 := by
  have hat : ∀ i, i < (rowB n p).length → ∃ a, a < n ∧ p a = true ∧ (rowB n p)[i]? = some (a : Int) ∧ atL (rowB n p) i = a := by
    intro i hi
    obtain ⟨a, ha, hp, e1⟩ := mem_rowB.1 (List.mem_of_getElem? (List.getElem?_eq_getElem hi))
    refine ⟨a, ha, hp, ?_, ?_⟩
    · rw [List.getElem?_eq_getElem hi, e1]
    · exact atL_eq (by rw [List.getElem?_eq_getElem hi, e1])
  rw [lackTo_zero, lackC_zero]
  constructor
  · intro h a ha hpa b hb hpb hab
    obtain ⟨i, hi, ei⟩ := List.getElem_of_mem (nat_mem_rowB.2 ⟨ha, hpa⟩)
    obtain ⟨k, hk, ek⟩ := List.getElem_of_mem (nat_mem_rowB.2 ⟨hb, hpb⟩)
    have ai : atL (rowB n p) i = a := atL_eq (by rw [List.getElem?_eq_getElem hi, ei])
    have ak : atL (rowB n p) k = b := atL_eq (by rw [List.getElem?_eq_getElem hk, ek])
    rcases Nat.lt_trichotomy i k with h1 | h1 | h1
    · have := h k hk i h1
      rwa [ai, ak] at this
    · subst h1; exact (hab (ak.symm.trans ai)).elim
    · have := h i hi k h1
      rw [ai, ak] at this
      rw [hA.sym a b ha hb]; exact this
  · intro h k hk q hq
    obtain ⟨a, ha, hpa, ea, aa⟩ := hat k hk
    obtain ⟨b, hb, hpb, eb, ab⟩ := hat q (by omega)
    rw [aa, ab]
    have hlt : (b : Int) < a := by
      have := List.pairwise_iff_getElem.1 (rowB_rising n p) q k (by omega) hk hq
      rw [List.getElem?_eq_getElem (by omega)] at eb
      rw [List.getElem?_eq_getElem hk] at ea
      rw [Option.some.inj eb, Option.some.inj ea] at this
      exact this
    exact h b hb hpb a ha hpa (by omega)
/-- What is asked: is the half of a sum 0? -/
theorem half_zero {n : Nat} {e : Nat → Nat → Bool} (hA : Adj n e) (p : Nat → Bool) {s : Nat} (h1 : lackC n e p (rowB n p) ≤ s) (h2 : lackC n e p (rowB n p) = 0 → s = 0) : decide (s / 2 = 0) = decide (lackTo e (rowB n p) (rowB n p).length = 0) := by
  rw [Bool.eq_iff_iff, decide_eq_true_eq, decide_eq_true_eq, lack_same hA p]
  constructor
  · intro h
    apply Classical.byContradiction
    intro h0
    have := lackC_two hA h0
    omega
  · intro h
    have := h2 h
    omega
end Go.Proofs.YtikcooagdaghnaaDoor
