/-
  Plain facts about sets of small numbers, kept as the bits of a number. No program in sight.
-/
import Derived.Laws.BitsAllLaws
import Derived.Laws.BitsLemmas
namespace Go.Proofs.YtbhobmngnjfgfaaDoor

/-- The numbers below 32 whose bits are set, rising. -/
def bitsOf (m : Nat) : List Nat := (List.range 32).filter m.testBit

/-- The place of the lowest bit that is set, by search. -/
def lowFrom (m : Nat) : Nat → Nat → Nat
  | 0, i => i
  | f + 1, i => if m.testBit i then i else lowFrom m f (i + 1)
def low (m : Nat) : Nat := lowFrom m 32 0

theorem lowFrom_spec (m : Nat) : ∀ (f i : Nat), (∀ j, j < i → m.testBit j = false) → (∃ j, j < i + f ∧ m.testBit j = true) →
    lowFrom m f i < i + f ∧ m.testBit (lowFrom m f i) = true ∧ ∀ j, j < lowFrom m f i → m.testBit j = false := by
  intro f
  induction f with
  | zero => intro i h1 ⟨j, h2, h3⟩; rw [h1 j (by omega)] at h3; cases h3
  | succ f ih =>
    intro i h1 ⟨j, h2, h3⟩
    unfold lowFrom
    split
    · rename_i hb; exact ⟨by omega, hb, h1⟩
    · rename_i hb
      have := ih (i + 1) (fun j hj => by by_cases e : j = i; (· subst e; simpa using hb); exact h1 j (by omega)) ⟨j, by omega, h3⟩
      exact ⟨by omega, this.2⟩

theorem exists_bit {m : Nat} (h0 : m ≠ 0) (h : m < 2 ^ 32) : ∃ j, j < 32 ∧ m.testBit j = true := by
  obtain ⟨j, hj⟩ := Nat.exists_testBit_of_ne_zero h0
  refine ⟨j, ?_, hj⟩
  by_cases hlt : j < 32
  · exact hlt
  · rw [Nat.testBit_lt_two_pow (Nat.lt_of_lt_of_le h (Nat.pow_le_pow_right (by decide) (by omega)))] at hj; cases hj

theorem low_spec {m : Nat} (h0 : m ≠ 0) (h : m < 2 ^ 32) : low m < 32 ∧ m.testBit (low m) = true ∧ ∀ j, j < low m → m.testBit j = false := by
  have := lowFrom_spec m 32 0 (by simp) (by simpa using exists_bit h0 h)
  simpa [low] using this

/-- A number whose lowest bit is k: 2^(k+1) q + 2^k. -/
theorem low_form {m k : Nat} (hk : m.testBit k = true) (hl : ∀ j, j < k → m.testBit j = false) : m = 2 ^ (k + 1) * (m / 2 ^ (k + 1)) + 2 ^ k := by
  have h1 : m % 2 ^ (k + 1) = 2 ^ k := by
    apply Nat.eq_of_testBit_eq
    intro i
    rw [Nat.testBit_mod_two_pow, Nat.testBit_two_pow]
    by_cases h : i < k
    · simp [hl i h]; omega
    · by_cases e : i = k
      · subst e; simp [hk]
      · have : ¬ i < k + 1 := by omega
        have : ¬ k = i := by omega
        simp [*]
  have := Nat.div_add_mod m (2 ^ (k + 1))
  omega

theorem testBit_low_clear {m : Nat} (h0 : m ≠ 0) (h : m < 2 ^ 32) (i : Nat) : (m &&& (m - 1)).testBit i = (m.testBit i && decide (i ≠ low m)) := by
  obtain ⟨_, h2, h3⟩ := low_spec h0 h
  have hf := low_form h2 h3
  generalize hk : low m = k at *
  generalize hq : m / 2 ^ (k + 1) = q at *
  have hp : 0 < 2 ^ k := Nat.two_pow_pos k
  have hm1 : m - 1 = 2 ^ (k + 1) * q + (2 ^ k - 1) := by omega
  have hlt1 : 2 ^ k < 2 ^ (k + 1) := by rw [Nat.pow_succ]; omega
  rw [Nat.testBit_and, hm1, Nat.testBit_two_pow_mul_add _ (by omega)]
  by_cases hi : i < k
  · simp [h3 i hi]
  · by_cases e : i = k
    · subst e
      simp [Nat.testBit_two_pow_sub_one]
    · have hgt : k + 1 ≤ i := by omega
      rw [if_neg (by omega)]
      have : m.testBit i = q.testBit (i - (k + 1)) := by
        rw [hf, Nat.testBit_two_pow_mul_add _ hlt1, if_neg (by omega)]
      rw [this]
      simp [e]

theorem low_clear_lt {m : Nat} (h0 : m ≠ 0) : m &&& (m - 1) < m := by
  have := @Nat.and_le_right m (m - 1)
  omega

theorem filter_range_low (m : Nat) (n : Nat) (k : Nat) (hk : k < n) (h2 : m.testBit k = true) (h3 : ∀ j, j < k → m.testBit j = false) :
    (List.range n).filter m.testBit = k :: (List.range n).filter fun i => m.testBit i && decide (i ≠ k) := by
  obtain ⟨d, rfl⟩ : ∃ d, n = k + (1 + d) := ⟨n - k - 1, by omega⟩
  rw [List.range_add, List.filter_append, List.filter_append]
  have e1 : (List.range k).filter m.testBit = [] := by
    rw [List.filter_eq_nil_iff]; intro a ha; simp [h3 a (by simpa using ha)]
  have e2 : (List.range k).filter (fun i => m.testBit i && decide (i ≠ k)) = [] := by
    rw [List.filter_eq_nil_iff]; intro a ha; simp [h3 a (by simpa using ha)]
  rw [e1, e2, List.range_add, List.map_append, List.filter_append, List.filter_append]
  simp only [List.nil_append, List.range_one, List.map_cons, List.map_nil, Nat.add_zero, List.filter_cons, h2, if_true, List.filter_nil]
  simp only [ne_eq, not_true, decide_false, Bool.and_false, Bool.false_eq_true, if_false, List.nil_append, List.cons_append]
  congr 1
  simp only [List.map_map, List.filter_map]
  congr 1
  apply List.filter_congr
  intro a _
  simp

theorem bitsOf_step {m : Nat} (h0 : m ≠ 0) (h : m < 2 ^ 32) : bitsOf m = low m :: bitsOf (m &&& (m - 1)) := by
  obtain ⟨h1, h2, h3⟩ := low_spec h0 h
  unfold bitsOf
  rw [filter_range_low m 32 (low m) h1 h2 h3]
  congr 2
  funext i
  rw [testBit_low_clear h0 h]

theorem bitsOf_zero : bitsOf 0 = [] := by
  unfold bitsOf; rw [List.filter_eq_nil_iff]; intro a _; simp

theorem length_bitsOf (m : Nat) : (bitsOf m).length ≤ 32 := by
  unfold bitsOf; exact Nat.le_trans (List.length_filter_le _ _) (by simp)

theorem mem_bitsOf {m i : Nat} : i ∈ bitsOf m ↔ i < 32 ∧ m.testBit i = true := by
  simp [bitsOf]

/-- m and its negative share the lowest bit alone. -/
theorem and_neg_low {m : Nat} (h0 : m ≠ 0) (h : m < 2 ^ 32) : m &&& (2 ^ 32 - m) = 2 ^ low m := by
  obtain ⟨h1, h2, h3⟩ := low_spec h0 h
  have hf := low_form h2 h3
  generalize hk : low m = k at *
  generalize hq : m / 2 ^ (k + 1) = q at *
  have hp : 0 < 2 ^ k := Nat.two_pow_pos k
  have hlt1 : 2 ^ k < 2 ^ (k + 1) := by rw [Nat.pow_succ]; omega
  have e32 : (2 : Nat) ^ 32 = 2 ^ (k + 1) * 2 ^ (31 - k) := by rw [← Nat.pow_add]; congr 1; omega
  have hqlt : q < 2 ^ (31 - k) := by
    have : 2 ^ (k + 1) * q < 2 ^ (k + 1) * 2 ^ (31 - k) := by omega
    exact Nat.lt_of_mul_lt_mul_left this
  have hneg : 2 ^ 32 - m = 2 ^ (k + 1) * (2 ^ (31 - k) - (q + 1)) + 2 ^ k := by
    rw [Nat.mul_sub, Nat.mul_add, Nat.mul_one, ← e32]
    have : 2 ^ (k + 1) * (q + 1) ≤ 2 ^ (k + 1) * 2 ^ (31 - k) := Nat.mul_le_mul_left _ hqlt
    rw [Nat.mul_add, Nat.mul_one, ← e32] at this
    have : 2 ^ (k + 1) = 2 ^ k + 2 ^ k := by rw [Nat.pow_succ]; omega
    omega
  apply Nat.eq_of_testBit_eq
  intro i
  rw [Nat.testBit_and, hneg]
  conv => lhs; arg 1; rw [hf]
  rw [Nat.testBit_two_pow_mul_add _ hlt1, Nat.testBit_two_pow_mul_add _ hlt1, Nat.testBit_two_pow]
  by_cases hi : i < k + 1
  · simp [hi]
  · simp only [hi, if_false]
    rw [Nat.testBit_two_pow_sub_succ hqlt]
    have : ¬ k = i := by omega
    simp only [this, decide_false]
    cases q.testBit (i - (k + 1)) <;> simp

theorem two32 : (2 : Nat) ^ 32 = 4294967296 := by decide
theorem bits_neg_low {m : Nat} (h0 : m ≠ 0) (h : m < 4294967296) : bits BinOp.and IntKind.u32 (m : Int) (-(m : Int) % 4294967296) = ((2 ^ low m : Nat) : Int) := by
  have e : (-(m : Int) % 4294967296) = ((4294967296 - m : Nat) : Int) := by omega
  have := and_neg_low h0 (by rw [two32]; exact h)
  rw [two32] at this
  rw [e, u32_and_nat _ _ (by omega) (by omega), this]

def tab32 : List Int := [0, 1, 28, 2, 29, 14, 24, 3, 30, 22, 20, 15, 25, 17, 4, 8, 31, 27, 13, 23, 21, 19, 16, 7, 26, 12, 18, 6, 11, 5, 10, 9]

theorem tab32_low : ∀ k : Nat, k < 32 → tab32.getD (2 ^ k * 125613361 % 4294967296 / 134217728) 0 = (k : Int) ∧ 2 ^ k * 125613361 % 4294967296 / 134217728 < 32 := by
  decide

end Go.Proofs.YtbhobmngnjfgfaaDoor
