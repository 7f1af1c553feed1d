/-
  Plain facts: a graph laid edge by edge; sets with and without.
-/
import Derived.Test.YtbhobmngnjfgfaaDoorValid
namespace Go.Proofs.YtbhobmngnjfgfaaDoor
open Go.RowKit

/-- The edges of g (asked at the smaller vertex first) whose greater vertex is below k, and those of k to vertices below j. -/
def tri (g : Nat → Nat → Bool) (k j : Nat) : Nat → Nat → Bool := fun a b =>
  (decide (a < b) && (decide (b < k) || (decide (b = k) && decide (a < j))) && g a b) || (decide (b < a) && (decide (a < k) || (decide (a = k) && decide (b < j))) && g b a)

theorem tri_yes (g : Nat → Nat → Bool) {k j : Nat} (hg : g j k = true) (hjk : j < k) : plus (tri g k j) j k = tri g k (j + 1) := by
  funext a b
  unfold plus tri
  by_cases h1 : a = j ∧ b = k
  · obtain ⟨rfl, rfl⟩ := h1
    simp [hg, hjk]
  · by_cases h2 : a = k ∧ b = j
    · obtain ⟨rfl, rfl⟩ := h2
      simp [hg, hjk]
    · have e1 : (decide (a = j) && decide (b = k)) = false := by simp; intro h; exact fun h' => h1 ⟨h, h'⟩
      have e2 : (decide (a = k) && decide (b = j)) = false := by simp; intro h; exact fun h' => h2 ⟨h, h'⟩
      have e3 : (decide (b = k) && decide (a < j + 1)) = (decide (b = k) && decide (a < j)) := by rw [Bool.eq_iff_iff]; simp; intro h; omega
      have e4 : (decide (a = k) && decide (b < j + 1)) = (decide (a = k) && decide (b < j)) := by rw [Bool.eq_iff_iff]; simp; intro h; omega
      rw [e1, e2, e3, e4]
      simp
theorem tri_no (g : Nat → Nat → Bool) {k j : Nat} (hg : g j k = false) : tri g k j = tri g k (j + 1) := by
  funext a b
  unfold tri
  by_cases h1 : a = j ∧ b = k
  · obtain ⟨rfl, rfl⟩ := h1
    by_cases hab : a < b
    · have : ¬ b < a := by omega
      simp [hg, this]
    · by_cases hba : b < a
      · have h1 : ¬ a < b := by omega
        have h2 : ¬ a = b := by omega
        simp [h1, h2]
      · simp [hab, hba]
  · by_cases h2 : a = k ∧ b = j
    · obtain ⟨rfl, rfl⟩ := h2
      by_cases hab : a < b
      · have h1 : ¬ b < a := by omega
        have h2 : ¬ b = a := by omega
        simp [h1, h2]
      · by_cases hba : b < a
        · simp [hg, hab]
        · simp [hab, hba]
    · have e3 : (decide (b = k) && decide (a < j + 1)) = (decide (b = k) && decide (a < j)) := by rw [Bool.eq_iff_iff]; simp; intro h; omega
      have e4 : (decide (a = k) && decide (b < j + 1)) = (decide (a = k) && decide (b < j)) := by rw [Bool.eq_iff_iff]; simp; intro h; omega
      rw [e3, e4]
theorem tri_next (g : Nat → Nat → Bool) (k : Nat) : tri g k k = tri g (k + 1) 0 := by
  funext a b
  unfold tri
  by_cases hab : a < b
  · have h1 : ¬ b < a := by omega
    have e : (decide (b < k) || (decide (b = k) && decide (a < k))) = decide (b < k + 1) := by rw [Bool.eq_iff_iff]; simp; omega
    simp [hab, h1, e]
  · by_cases hba : b < a
    · have e : (decide (a < k) || (decide (a = k) && decide (b < k))) = decide (a < k + 1) := by rw [Bool.eq_iff_iff]; simp; omega
      simp [hab, hba, e]
    · simp [hab, hba]
theorem tri_zero (g : Nat → Nat → Bool) : tri g 0 0 = fun _ _ => false := by
  funext a b
  unfold tri
  simp
/-- All edges laid. -/
def sym (g : Nat → Nat → Bool) : Nat → Nat → Bool := fun a b => (decide (a < b) && g a b) || (decide (b < a) && g b a)
theorem tri_all (g : Nat → Nat → Bool) (n : Nat) : NB n (tri g n 0) = NB n (sym g) := by
  refine NB_ext fun a b ha hb => ?_
  unfold tri sym
  simp [ha, hb]
theorem sym_of (g : Nat → Nat → Bool) (n : Nat) (h : ∀ a b, a < n → b < n → g a b = g b a) : NB n (sym g) = NB n (fun a b => decide (a ≠ b) && g a b) := by
  refine NB_ext fun a b ha hb => ?_
  unfold sym
  rcases Nat.lt_trichotomy a b with h1 | h1 | h1
  · have h2 : ¬ b < a := by omega
    have h3 : ¬ a = b := by omega
    simp [h1, h2, h3]
  · subst h1; simp
  · have h2 : ¬ a < b := by omega
    have h3 : ¬ a = b := by omega
    simp [h1, h2, h3, h b a hb ha]

/-! ### Sets -/
theorem testBit_flip {m : Nat} (h : m < 4294967296) (i : Nat) : (4294967295 - m).testBit i = (decide (i < 32) && !m.testBit i) := by
  have := Nat.testBit_two_pow_sub_succ (x := m) (n := 32) (by rw [two32]; exact h) i
  rwa [show 2 ^ 32 - (m + 1) = 4294967295 - m by rw [two32]; omega] at this
theorem maskB_andNot {n : Nat} (hn : n ≤ 32) (p : Nat → Bool) {m : Nat} (hm : m < 4294967296) :
    bits BinOp.andNot IntKind.u32 ((maskB n p : Nat) : Int) ((m : Nat) : Int) = ((maskB n (fun i => p i && !m.testBit i) : Nat) : Int) := by
  rw [u32_andNot_nat _ _ (maskB_small hn p) hm]
  congr 1
  apply Nat.eq_of_testBit_eq
  intro i
  rw [Nat.testBit_and, testBit_maskB, testBit_flip hm, testBit_maskB]
  by_cases h : i < n
  · have : i < 32 := by omega
    simp [h, this]
  · simp [h]
theorem maskB_and {n : Nat} (hn : n ≤ 32) (p : Nat → Bool) {m : Nat} (hm : m < 4294967296) :
    bits BinOp.and IntKind.u32 ((maskB n p : Nat) : Int) ((m : Nat) : Int) = ((maskB n (fun i => p i && m.testBit i) : Nat) : Int) := by
  rw [u32_and_nat _ _ (maskB_small hn p) hm]
  congr 1
  apply Nat.eq_of_testBit_eq
  intro i
  rw [Nat.testBit_and, testBit_maskB, testBit_maskB, Bool.and_assoc]
theorem maskB_or {n : Nat} (hn : n ≤ 32) (p q : Nat → Bool) :
    bits BinOp.or IntKind.u32 ((maskB n p : Nat) : Int) ((maskB n q : Nat) : Int) = ((maskB n (fun i => p i || q i) : Nat) : Int) := by
  rw [u32_or_nat _ _ (maskB_small hn p) (maskB_small hn q)]
  congr 1
  apply Nat.eq_of_testBit_eq
  intro i
  rw [Nat.testBit_or, testBit_maskB, testBit_maskB, testBit_maskB]
  cases decide (i < n) <;> simp
theorem pow_maskB {n v : Nat} (hv : v < n) : 2 ^ v = maskB n (fun i => decide (i = v)) := by
  apply Nat.eq_of_testBit_eq
  intro i
  rw [testBit_maskB, Nat.testBit_two_pow, Bool.eq_iff_iff]
  simp
  constructor
  · rintro rfl; exact ⟨hv, rfl⟩
  · rintro ⟨_, rfl⟩; rfl
theorem full_maskB (n : Nat) : 2 ^ n - 1 = maskB n (fun _ => true) := by
  apply Nat.eq_of_testBit_eq
  intro i
  rw [testBit_maskB, Nat.testBit_two_pow_sub_one]
  simp
theorem maskB_zero (n : Nat) : maskB n (fun _ => false) = 0 := by
  apply Nat.eq_of_testBit_eq
  intro i
  rw [testBit_maskB]
  simp
theorem maskB_eq_zero {n : Nat} {p : Nat → Bool} : maskB n p = 0 ↔ ∀ i, i < n → p i = false := by
  constructor
  · intro h i hi
    have := testBit_maskB n p i
    rw [h] at this
    simpa [hi] using this.symm
  · intro h
    rw [maskB_ext (q := fun _ => false) h, maskB_zero]
/-- Sets of the first k numbers of a list. -/
theorem inL_take_succ {xs : List Int} {k : Nat} {x : Nat} (h : xs[k]? = some (x : Int)) : inL (xs.take (k + 1)) = fun i => inL (xs.take k) i || decide (i = x) := by
  funext i
  unfold inL
  rw [take_snoc h, Bool.eq_iff_iff]
  simp
  constructor
  · rintro (h | h)
    · exact .inl h
    · exact .inr (by omega)
  · rintro (h | rfl)
    · exact .inl h
    · exact .inr rfl
end Go.Proofs.YtbhobmngnjfgfaaDoor
