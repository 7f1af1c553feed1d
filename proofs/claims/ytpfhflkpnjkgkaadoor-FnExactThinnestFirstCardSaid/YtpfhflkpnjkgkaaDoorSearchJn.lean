import Derived.Test.YtpfhflkpnjkgkaaDoorGq03
/-
  Sets in the order of a key and then of their numbers, plainly: the search for the least one that fits.
-/

namespace Go.Proofs.YtpfhflkpnjkgkaaDoor
open Go.RowKit

/-- The least number in which two sets differ lies in the first one. -/
def Lex (a b : Nat) : Prop := ∃ i, a.testBit i = true ∧ b.testBit i = false ∧ ∀ j, j < i → a.testBit j = b.testBit j
theorem Lex.irrefl {a : Nat} : ¬ Lex a a := fun ⟨i, h1, h2, _⟩ => by rw [h1] at h2; cases h2
theorem Lex.trans {a b c : Nat} (h : Lex a b) (h' : Lex b c) : Lex a c := by
  obtain ⟨i, h1, h2, h3⟩ := h
  obtain ⟨k, k1, k2, k3⟩ := h'
  rcases Nat.lt_trichotomy i k with hlt | heq | hlt
  · exact ⟨i, h1, by rw [← k3 i hlt]; exact h2, fun j hj => (h3 j hj).trans (k3 j (by omega))⟩
  · subst heq; rw [k1] at h2; cases h2
  · exact ⟨k, by rw [h3 k hlt]; exact k1, k2, fun j hj => (h3 j (by omega)).trans (k3 j hj)⟩
theorem Lex.asymm {a b : Nat} (h : Lex a b) : ¬ Lex b a := fun h' => (h.trans h').irrefl
theorem Lex.total {a b : Nat} (ha : a < 4294967296) (hb : b < 4294967296) (h : a ≠ b) : Lex a b ∨ Lex b a := by
  have h0 : a ^^^ b ≠ 0 := fun h0 => h (by
    apply Nat.eq_of_testBit_eq
    intro i
    have : (a ^^^ b).testBit i = false := by rw [h0]; simp
    rw [Nat.testBit_xor] at this
    revert this
    cases a.testBit i <;> cases b.testBit i <;> simp)
  have hx : a ^^^ b < 2 ^ 32 := Nat.xor_lt_two_pow (by rw [two32]; exact ha) (by rw [two32]; exact hb)
  obtain ⟨_, h1, h2⟩ := low_spec h0 hx
  generalize low (a ^^^ b) = i at h1 h2
  have hj : ∀ j, j < i → a.testBit j = b.testBit j := fun j hj => by
    have := h2 j hj
    rw [Nat.testBit_xor] at this
    revert this
    cases a.testBit j <;> cases b.testBit j <;> simp
  rw [Nat.testBit_xor] at h1
  cases ea : a.testBit i <;> cases eb : b.testBit i <;> rw [ea, eb] at h1 <;> simp at h1
  · exact .inr ⟨i, eb, ea, fun j h => (hj j h).symm⟩
  · exact .inl ⟨i, ea, eb, hj⟩

/-! ### The least one by a key -/
def Ahead (key : Nat → Nat) (a b : Nat) : Prop := key a < key b ∨ key a = key b ∧ Lex a b
theorem Ahead.trans {key : Nat → Nat} {a b c : Nat} (h : Ahead key a b) (h' : Ahead key b c) : Ahead key a c := by
  rcases h with h | ⟨h1, h2⟩
  · rcases h' with h' | ⟨h3, _⟩
    · exact .inl (by omega)
    · exact .inl (by omega)
  · rcases h' with h' | ⟨h3, h4⟩
    · exact .inl (by omega)
    · exact .inr ⟨by omega, h2.trans h4⟩
theorem Ahead.irrefl {key : Nat → Nat} {a : Nat} : ¬ Ahead key a a := fun h => by
  rcases h with h | ⟨_, h⟩
  · omega
  · exact h.irrefl
theorem Ahead.total {key : Nat → Nat} {a b : Nat} (ha : a < 4294967296) (hb : b < 4294967296) (h : a ≠ b) : Ahead key a b ∨ Ahead key b a := by
  rcases Nat.lt_trichotomy (key a) (key b) with hlt | heq | hlt
  · exact .inl (.inl hlt)
  · rcases Lex.total ha hb h with h | h
    · exact .inl (.inr ⟨heq, h⟩)
    · exact .inr (.inr ⟨heq.symm, h⟩)
  · exact .inr (.inl hlt)

/-- r is the least one below N that fits. -/
structure IsBest (key : Nat → Nat) (fit : Nat → Prop) (N r : Nat) : Prop where
  lt : r < N
  fits : fit r
  least : ∀ t, t < N → fit t → ¬ Ahead key t r
theorem IsBest.unique {key : Nat → Nat} {fit : Nat → Prop} {N r s : Nat} (hN : N ≤ 4294967296) (h : IsBest key fit N r) (h' : IsBest key fit N s) : r = s := by
  apply Classical.byContradiction
  intro hne
  have h1 := h.lt
  have h2 := h'.lt
  rcases Ahead.total (key := key) (by omega) (by omega) hne with h3 | h3
  · exact h'.least r h.lt h.fits h3
  · exact h.least s h'.lt h'.fits h3

/-- What a run over all numbers below k holds: the start, or the least one that fits. -/
structure Run (key : Nat → Nat) (fit : Nat → Prop) (init k r : Nat) : Prop where
  from_ : r = init ∨ (r < k ∧ fit r ∧ Ahead key r init)
  least : ∀ t, t < k → fit t → ¬ Ahead key t r
theorem Run.start (key : Nat → Nat) (fit : Nat → Prop) (init : Nat) : Run key fit init 0 init := ⟨.inl rfl, fun t h => by omega⟩
theorem Run.yes {key : Nat → Nat} {fit : Nat → Prop} {init k r : Nat} (h : Run key fit init k r) (hf : fit k) (ha : Ahead key k r) : Run key fit init (k + 1) k := by
  refine ⟨.inr ⟨by omega, hf, ?_⟩, fun t ht hft hlt => ?_⟩
  · rcases h.from_ with rfl | ⟨_, _, h1⟩
    · exact ha
    · exact ha.trans h1
  · by_cases htk : t = k
    · subst htk; exact hlt.irrefl
    · exact h.least t (by omega) hft (hlt.trans ha)
theorem Run.no {key : Nat → Nat} {fit : Nat → Prop} {init k r : Nat} (h : Run key fit init k r) (hf : ¬ (fit k ∧ Ahead key k r)) : Run key fit init (k + 1) r := by
  refine ⟨?_, fun t ht hft hlt => ?_⟩
  · rcases h.from_ with h1 | ⟨h1, h2, h3⟩
    · exact .inl h1
    · exact .inr ⟨by omega, h2, h3⟩
  · by_cases htk : t = k
    · subst htk; exact hf ⟨hft, hlt⟩
    · exact h.least t (by omega) hft hlt
/-- Where the start fits, the run ends at the least one. -/
theorem Run.best {key : Nat → Nat} {fit : Nat → Prop} {init N r : Nat} (h : Run key fit init N r) (h0 : init < N) (hf : fit init) : IsBest key fit N r := by
  refine ⟨?_, ?_, h.least⟩
  · rcases h.from_ with rfl | ⟨h1, _⟩ <;> assumption
  · rcases h.from_ with rfl | ⟨_, h1, _⟩ <;> assumption
theorem exists_run (key : Nat → Nat) (fit : Nat → Prop) (init : Nat) : ∀ k, ∃ r, Run key fit init k r
  | 0 => ⟨init, Run.start _ _ _⟩
  | k + 1 => by
    obtain ⟨r, hr⟩ := exists_run key fit init k
    by_cases h : fit k ∧ Ahead key k r
    · exact ⟨k, hr.yes h.1 h.2⟩
    · exact ⟨r, hr.no h⟩

/-! ### How many numbers a set has, from f on -/
def cnt (m f len : Nat) : Nat := ((List.range' f len).filter m.testBit).length
theorem cnt_zero (m f : Nat) : cnt m f 0 = 0 := rfl
theorem cnt_yes {m f : Nat} (len : Nat) (h : m.testBit f = true) : cnt m f (len + 1) = cnt m (f + 1) len + 1 := by
  unfold cnt
  rw [List.range'_succ, List.filter_cons_of_pos h, List.length_cons]
theorem cnt_no {m f : Nat} (len : Nat) (h : m.testBit f = false) : cnt m f (len + 1) = cnt m (f + 1) len := by
  unfold cnt
  rw [List.range'_succ, List.filter_cons_of_neg (by simp [h])]
theorem cnt_le (m f len : Nat) : cnt m f len ≤ len := by
  unfold cnt
  exact Nat.le_trans (List.length_filter_le _ _) (by simp)
theorem cnt_none {m f len : Nat} (h : ∀ j, f ≤ j → j < f + len → m.testBit j = false) : cnt m f len = 0 := by
  unfold cnt
  rw [List.length_eq_zero_iff, List.filter_eq_nil_iff]
  intro j hj
  rw [List.mem_range'_1] at hj
  rw [h j hj.1 hj.2]
  simp
theorem cnt_zero_iff {m f len : Nat} : cnt m f len = 0 ↔ ∀ j, f ≤ j → j < f + len → m.testBit j = false := by
  refine ⟨fun h j h1 h2 => ?_, cnt_none⟩
  unfold cnt at h
  rw [List.length_eq_zero_iff, List.filter_eq_nil_iff] at h
  have := h j (List.mem_range'_1.2 ⟨h1, h2⟩)
  simpa using this
theorem cnt_skip {m f : Nat} : ∀ (d len : Nat), (∀ j, f ≤ j → j < f + d → m.testBit j = false) → cnt m f (d + len) = cnt m (f + d) len
  | 0, len, _ => by simp
  | d + 1, len, h => by
    have ih := cnt_skip (m := m) (f := f) d (len + 1) fun j h1 h2 => h j h1 (by omega)
    rw [show d + 1 + len = d + (len + 1) by omega, ih, cnt_no _ (h (f + d) (by omega) (by omega))]
    rfl
/-- The number of a set's numbers. -/
def size (m : Nat) : Nat := (bitsOf m).length
theorem size_cnt {m n : Nat} (hn : n ≤ 32) (h : ∀ i, n ≤ i → m.testBit i = false) : size m = cnt m 0 n := by
  unfold size bitsOf cnt
  obtain ⟨d, hd⟩ : ∃ d, 32 = n + d := ⟨32 - n, by omega⟩
  rw [hd, ← List.range_eq_range', ← filter_range_lt n d m.testBit]
  congr 1
  apply List.filter_congr
  intro i _
  by_cases hi : i < n
  · simp [hi]
  · simp [hi, h i (by omega)]
theorem bits_above {m n : Nat} (h : m < 2 ^ n) : ∀ i, n ≤ i → m.testBit i = false := fun i hi => Nat.testBit_lt_two_pow (Nat.lt_of_lt_of_le h (Nat.pow_le_pow_right (by decide) hi))

/-! ### All sets of so many numbers, in their order -/
def combos (n : Nat) : Nat → Nat → Nat → List Nat
  | 0, _, c => [c]
  | k + 1, f, c => (List.range (n - (f + k))).flatMap fun d => combos n k (f + d + 1) (c ||| 2 ^ (f + d))

theorem bit_or_pow (c v i : Nat) : (c ||| 2 ^ v).testBit i = (c.testBit i || decide (v = i)) := by rw [Nat.testBit_or, Nat.testBit_two_pow]

theorem mem_combos {n : Nat} : ∀ {k f c s : Nat}, (∀ j, f ≤ j → c.testBit j = false) → f ≤ n →
    (s ∈ combos n k f c ↔ (∀ j, j < f → s.testBit j = c.testBit j) ∧ (∀ j, n ≤ j → s.testBit j = false) ∧ cnt s f (n - f) = k)
  | 0, f, c, s, hc, hf => by
    unfold combos
    rw [List.mem_singleton]
    constructor
    · rintro rfl
      exact ⟨fun _ _ => rfl, fun j hj => hc j (by omega), cnt_none fun j h1 _ => hc j h1⟩
    · rintro ⟨h1, h2, h3⟩
      apply Nat.eq_of_testBit_eq
      intro j
      by_cases hj : j < f
      · exact h1 j hj
      · rw [hc j (by omega)]
        by_cases hn : j < n
        · exact cnt_zero_iff.1 h3 j (by omega) (by omega)
        · exact h2 j (by omega)
  | k + 1, f, c, s, hc, hf => by
    unfold combos
    rw [List.mem_flatMap]
    have hc' : ∀ d, ∀ j, f + d + 1 ≤ j → (c ||| 2 ^ (f + d)).testBit j = false := fun d j hj => by
      rw [bit_or_pow, hc j (by omega), Bool.false_or, decide_eq_false_iff_not]; omega
    constructor
    · rintro ⟨d, hd, hs⟩
      rw [List.mem_range] at hd
      obtain ⟨h1, h2, h3⟩ := (mem_combos (hc' d) (by omega)).1 hs
      refine ⟨fun j hj => ?_, h2, ?_⟩
      · rw [h1 j (by omega), bit_or_pow, decide_eq_false (by omega : ¬ f + d = j), Bool.or_false]
      · have e : n - f = d + ((n - (f + d + 1)) + 1) := by omega
        rw [e, cnt_skip d _ fun j j1 j2 => by rw [h1 j (by omega), bit_or_pow, hc j j1, decide_eq_false (by omega : ¬ f + d = j)]; rfl]
        rw [cnt_yes _ (by rw [h1 (f + d) (by omega), bit_or_pow]; simp), h3]
    · rintro ⟨h1, h2, h3⟩
      have hex : ∃ d, f + d < n ∧ s.testBit (f + d) = true ∧ ∀ j, f ≤ j → j < f + d → s.testBit j = false := by
        have h0 : ∃ j, f ≤ j ∧ j < n ∧ s.testBit j = true := by
          apply Classical.byContradiction
          intro hn
          have : cnt s f (n - f) = 0 := cnt_none fun j j1 j2 => by
            cases hb : s.testBit j with
            | false => rfl
            | true => exact (hn ⟨j, j1, by omega, hb⟩).elim
          omega
        obtain ⟨j, j1, j2, j3⟩ := h0
        clear h3
        obtain ⟨d, rfl⟩ : ∃ d, j = f + d := ⟨j - f, by omega⟩
        induction d using Nat.strongRecOn with
        | _ d ih =>
          by_cases hl : ∃ d', d' < d ∧ s.testBit (f + d') = true
          · obtain ⟨d', h4, h5⟩ := hl
            exact ih d' h4 (by omega) (by omega) h5
          · refine ⟨d, j2, j3, fun j i1 i2 => ?_⟩
            cases hb : s.testBit j with
            | false => rfl
            | true => exact (hl ⟨j - f, by omega, by rw [show f + (j - f) = j by omega]; exact hb⟩).elim
      obtain ⟨d, hdn, hb, hlow⟩ := hex
      have e : n - f = d + ((n - (f + d + 1)) + 1) := by omega
      rw [e, cnt_skip d _ hlow, cnt_yes _ hb] at h3
      have hk : cnt s (f + d + 1) (n - (f + d + 1)) = k := by omega
      have hle := cnt_le s (f + d + 1) (n - (f + d + 1))
      refine ⟨d, List.mem_range.2 (by omega), (mem_combos (hc' d) (by omega)).2 ⟨fun j hj => ?_, h2, hk⟩⟩
      rw [bit_or_pow]
      by_cases hjf : j < f
      · rw [h1 j hjf, decide_eq_false (by omega : ¬ f + d = j), Bool.or_false]
      · by_cases hjd : j = f + d
        · subst hjd; rw [hb]; simp
        · rw [hlow j (by omega) (by omega), hc j (by omega), decide_eq_false (by omega : ¬ f + d = j)]; rfl

theorem combos_order {n : Nat} : ∀ {k f c : Nat}, (∀ j, f ≤ j → c.testBit j = false) → f ≤ n → (combos n k f c).Pairwise Lex
  | 0, f, c, _, _ => by unfold combos; exact List.pairwise_singleton _ _
  | k + 1, f, c, hc, hf => by
    have hc' : ∀ d, ∀ j, f + d + 1 ≤ j → (c ||| 2 ^ (f + d)).testBit j = false := fun d j hj => by
      rw [bit_or_pow, hc j (by omega), Bool.false_or, decide_eq_false_iff_not]; omega
    unfold combos
    rw [List.pairwise_flatMap]
    refine ⟨fun d hd => combos_order (hc' d) (by have := List.mem_range.1 hd; omega), ?_⟩
    refine (pairwise_range (n - (f + k))).imp_of_mem fun {d1 d2} h1 h2 hlt x hx y hy => ?_
    have h1' := List.mem_range.1 h1
    have h2' := List.mem_range.1 h2
    obtain ⟨x1, _, _⟩ := (mem_combos (hc' d1) (by omega)).1 hx
    obtain ⟨y1, _, _⟩ := (mem_combos (hc' d2) (by omega)).1 hy
    refine ⟨f + d1, ?_, ?_, fun j hj => ?_⟩
    · rw [x1 _ (by omega), bit_or_pow]; simp
    · rw [y1 _ (by omega), bit_or_pow, hc _ (by omega), decide_eq_false (by omega)]; rfl
    · rw [x1 _ (by omega), y1 _ (by omega), bit_or_pow, bit_or_pow, decide_eq_false (by omega), decide_eq_false (by omega)]

/-- The first one that fits is ahead of all others that fit. -/
theorem find_first {l : List Nat} {fit : Nat → Bool} {s : Nat} (ho : l.Pairwise Lex) (h : l.find? fit = some s) : s ∈ l ∧ fit s = true ∧ ∀ t ∈ l, fit t = true → t = s ∨ Lex s t := by
  rw [List.find?_eq_some_iff_append] at h
  obtain ⟨hf, l1, l2, rfl, has⟩ := h
  rw [List.pairwise_append] at ho
  refine ⟨by simp, hf, fun t ht hft => ?_⟩
  rw [List.mem_append, List.mem_cons] at ht
  rcases ht with ht | rfl | ht
  · have := has t ht
    rw [hft] at this
    cases this
  · exact .inl rfl
  · exact .inr ((List.pairwise_cons.1 ho.2.1).1 t ht)
theorem mem_all {n k s : Nat} (hn : n ≤ 32) : s ∈ combos n k 0 0 ↔ s < 2 ^ n ∧ size s = k := by
  rw [mem_combos (fun j _ => by simp) (Nat.zero_le _)]
  constructor
  · rintro ⟨_, h2, h3⟩
    exact ⟨Nat.lt_pow_two_of_testBit s h2, by rw [size_cnt hn h2]; exact h3⟩
  · rintro ⟨h1, h2⟩
    exact ⟨fun j hj => by omega, bits_above h1, by rw [← h2, size_cnt hn (bits_above h1)]; rfl⟩
end Go.Proofs.YtpfhflkpnjkgkaaDoor
