import Derived.Test.YtpfhflkpnjkgkaaDoorGq06
/-
  Sets in the order of a key and then of their numbers, plainly: the search for the least one that fits.
-/

namespace Go.Proofs.YtpfhflkpnjkgkaaDoor
open Go.RowKit

/-- The least number in which two sets differ lies in the first one. -/
def Lex (a b : Nat) : Prop := ∃ i, a.testBit i = true ∧ b.testBit i = false ∧ ∀ j, j < i → a.testBit j = b.testBit j
theorem Lex.irrefl {a : Nat} : ¬ Lex a a := fun ⟨i, h1, h2, _⟩ => by rw [h1] at h2; cases h2
theorem Lex.trans {a b c : Nat} (h : Lex a b) (h' : Lex b c) : Lex a c := by
  obtain ⟨i, h1, h2, h3⟩ := h
  obtain ⟨k, k1, k2, k3⟩ := h'
  rcases Nat.lt_trichotomy i k with hlt | heq | hlt
  · exact ⟨i, h1, by rw [← k3 i hlt]; exact h2, fun j hj => (h3 j hj).trans (k3 j (by omega))⟩
  · subst heq; rw [k1] at h2; cases h2
  · exact ⟨k, by rw [h3 k hlt]; exact k1, k2, fun j hj => (h3 j (by omega)).trans (k3 j hj)⟩
theorem Lex.asymm {a b : Nat} (h : Lex a b) : ¬ Lex b a := fun h' => (h.trans h').irrefl
theorem Lex.total {a b : Nat} (ha : a < 4294967296) (hb : b < 4294967296) (h : a ≠ b) : Lex a b ∨ Lex b a := by
  have h0 : a ^^^ b ≠ 0 := fun h0 => h (by
    apply Nat.eq_of_testBit_eq
    intro i
    have : (a ^^^ b).testBit i = false := by rw [h0]; simp
    rw [Nat.testBit_xor] at this
    revert this
    cases a.testBit i <;> cases b.testBit i <;> simp)
  have hx : a ^^^ b < 2 ^ 32 := Nat.xor_lt_two_pow (by rw [two32]; exact ha) (by rw [two32]; exact hb)
  obtain ⟨_, h1, h2⟩ := low_spec h0 hx
  generalize low (a ^^^ b) = i at h1 h2
  have hj : ∀ j, j < i → a.testBit j = b.testBit j := fun j hj => by
    have := h2 j hj
    rw [Nat.testBit_xor] at this
    revert this
    cases a.testBit j <;> cases b.testBit j <;> simp
  rw [Nat.testBit_xor] at h1
  cases ea : a.testBit i <;> cases eb : b.testBit i <;> rw [ea, eb] at h1 <;> simp at h1
  · exact .inr ⟨i, eb, ea, fun j h => (hj j h).symm⟩
  · exact .inl ⟨i, ea, eb, hj⟩

/-! ### The least one by a key -/
def Ahead (key : Nat → Nat) (a b : Nat) : Prop := key a < key b ∨ key a = key b ∧ Lex a b
theorem Ahead.trans {key : Nat → Nat} {a b c : Nat} (h : Ahead key a b) (h' : Ahead key b c) : Ahead key a c := by
  rcases h with h | ⟨h1, h2⟩
  · rcases h' with h' | ⟨h3, _⟩
    · exact .inl (by omega)
    · exact .inl (by omega)
  · rcases h' with h' | ⟨h3, h4⟩
    · exact .inl (by omega)
    · exact .inr ⟨by omega, h2.trans h4⟩
theorem Ahead.irrefl {key : Nat → Nat} {a : Nat} : ¬ Ahead key a a := fun h => by
  rcases h with h | ⟨_, h⟩
  · omega
  · exact h.irrefl
theorem Ahead.total {key : Nat → Nat} {a b : Nat} (ha : a < 4294967296) (hb : b < 4294967296) (h : a ≠ b) : Ahead key a b ∨ Ahead key b a := by
  rcases Nat.lt_trichotomy (key a) (key b) with hlt | heq | hlt
  · exact .inl (.inl hlt)
  · rcases Lex.total ha hb h with h | h
    · exact .inl (.inr ⟨heq, h⟩)
    · exact .inr (.inr ⟨heq.symm, h⟩)
  · exact .inr (.inl hlt)

/-- r is the least one below N that fits. -/
structure IsBest (key : Nat → Nat) (fit : Nat → Prop) (N r : Nat) : Prop where
  lt : r < N
  fits : fit r
  least : ∀ t, t < N → fit t → ¬ Ahead key t r
theorem IsBest.unique {key : Nat → Nat} {fit : Nat → Prop} {N r s : Nat} (hN : N ≤ 4294967296) (h : IsBest key fit N r) (h' : IsBest key fit N s) : r = s := by
  apply Classical.byContradiction
  intro hne
  have h1 := h.lt
  have h2 := h'.lt
  rcases Ahead.total (key := key) (by omega) (by omega) hne with h3 | h3
  · exact h'.least r h.lt h.fits h3
  · exact h.least s h'.lt h'.fits h3

/-- What a run over all numbers below k holds: the start, or the least one that fits. -/
structure Run (key : Nat → Nat) (fit : Nat → Prop) (init k r : Nat) : Prop where
  from_ : r = init ∨ (r < k ∧ fit r ∧ Ahead key r init)
  least : ∀ t, t < k → fit t → ¬ Ahead key t r
theorem Run.start (key : Nat → Nat) (fit : Nat → Prop) (init : Nat) : Run key fit init 0 init := ⟨.inl rfl, fun t h => by omega⟩
theorem Run.yes {key : Nat → Nat} {fit : Nat → Prop} {init k r : Nat} (h : Run key fit init k r) (hf : fit k) (ha : Ahead key k r) : Run key fit init (k + 1) k := by
  refine ⟨.inr ⟨by omega, hf, ?_⟩, fun t ht hft hlt => ?_⟩
  · rcases h.from_ with rfl | ⟨_, _, h1⟩
    · exact ha
    · exact ha.trans h1
  · by_cases htk : t = k
    · subst htk; exact hlt.irrefl
    · exact h.least t (by omega) hft (hlt.trans ha)
theorem Run.no {key : Nat → Nat} {fit : Nat → Prop} {init k r : Nat} (h : Run key fit init k r) (hf : ¬ (fit k ∧ Ahead key k r)) : Run key fit init (k + 1) r := by
  refine ⟨?_, fun t ht hft hlt => ?_⟩
  · rcases h.from_ with h1 | ⟨h1, h2, h3⟩
    · exact .inl h1
    · exact .inr ⟨by omega, h2, h3⟩
  · by_cases htk : t = k
    · subst htk; exact hf ⟨hft, hlt⟩
    · exact h.least t (by omega) hft hlt
/-- Where the start fits, the run ends at the least one. -/
theorem Run.best {key : Nat → Nat} {fit : Nat → Prop} {init N r : Nat} (h : Run key fit init N r) (h0 : init < N) (hf : fit init) : IsBest key fit N r := by
  refine ⟨?_, ?_, h.least⟩
  · rcases h.from_ with rfl | ⟨h1, _⟩ <;> assumption
  · rcases h.from_ with rfl | ⟨_, h1, _⟩ <;> assumption
theorem exists_run (key : Nat → Nat) (fit : Nat → Prop) (init : Nat) : ∀ k, ∃ r, Run key fit init k r
  | 0 => ⟨init, Run.start _ _ _⟩
  | k + 1 => by
    obtain ⟨r, hr⟩ := exists_run key fit init k
    by_cases h : fit k ∧ Ahead key k r
    · exact ⟨k, hr.yes h.1 h.2⟩
    · exact ⟨r, hr.no h⟩

/-! ### How many numbers a set has, from f on -/
def cnt (m f len : Nat) : Nat := ((List.range' f len).filter m.testBit).length
theorem cnt_zero (m f : Nat) : cnt m f 0 = 0 := rfl
theorem cnt_yes {m f : Nat} (len : Nat) (h : m.testBit f = true) : cnt m f (len + 1) = cnt m (f + 1) len + 1 := by
  unfold cnt
  rw [List.range'_succ, List.filter_cons_of_pos h, List.length_cons]
theorem cnt_no {m f : Nat} (len : Nat) (h : m.testBit f = false) : cnt m f (len + 1) = cnt m (f + 1) len := by
  unfold cnt
  rw [List.range'_succ, List.filter_cons_of_neg (by simp [h])]
theorem cnt_le (m f len : Nat) : cnt m f len ≤ len := by
  unfold cnt
  exact Nat.le_trans (List.length_filter_le _ _) (by simp)
theorem cnt_none {m f len : Nat} (h : ∀ j, f ≤ j → j < f + len → m.testBit j = false) : cnt m f len = 0 := by
  unfold cnt
  rw [List.length_eq_zero_iff, List.filter_eq_nil_iff]
  intro j hj
  rw [List.mem_range'_1] at hj
  rw [h j hj.1 hj.2]
  simp
theorem cnt_zero_iff {m f len : Nat} : cnt m f len = 0 ↔ ∀ j, f ≤ j → j < f + len → m.testBit j = false := by
  refine ⟨fun h j h1 h2 => ?_, cnt_none⟩
  unfold cnt at h
  rw [List.length_eq_zero_iff, List.filter_eq_nil_iff] at h
  have := h j (List.mem_range'_1.2 ⟨h1, h2⟩)
  simpa using this
theorem cnt_skip {m f : Nat} : ∀ (d len : Nat), (∀ j, f ≤ j → j < f + d → m.testBit j = false) → cnt m f (d + len) = cnt m (f + d) len
  | 0, len, _ => by simp
  | d + 1, len, h => by
    have ih := cnt_skip (m := m) (f := f) d (len + 1) fun j h1 h2 => h j h1 (by omega)
    rw [show d + 1 + len = d + (len + 1) by omega, ih, cnt_no _ (h (f + d) (by omega) (by omega))]
    rfl
/-- The number of a set's numbers. -/
def size (m : Nat) : Nat := (bitsOf m).length
theorem size_cnt {m n : Nat} (hn : n ≤ 32) (h : ∀ i, n ≤ i → m.testBit i = false) : size m = cnt m 0 n := by
  unfold size bitsOf cnt
  obtain ⟨d, hd⟩ : ∃ d, 32 = n + d := ⟨32 - n, by omega⟩
  rw [hd, ← List.range_eq_range', ← filter_range_lt n d m.testBit]
  congr 1
  apply List.filter_congr
  intro i _
  by_cases hi : i < n
  · simp [hi]
  · simp [hi, h i (by omega)]
theorem bits_above {m n : Nat} (h : m < 2 ^ n) : ∀ i, n ≤ i → m.testBit i = false := fun i hi => Nat.testBit_lt_two_pow (Nat.lt_of_lt_of_le h (Nat.pow_le_pow_right (by decide) hi))

/-! ### All sets of so many numbers, in their order -/
def combos (n : Nat) : Nat → Nat → Nat → List Nat
  | 0, _, c => [c]
  | k + 1, f, c => (List.range (n - (f + k))).flatMap fun d => combos n k (f + d + 1) (c ||| 2 ^ (f + d))

theorem bit_or_pow (c v i : Nat) : (c ||| 2 ^ v).testBit i = (c.testBit i || decide (v = i)) := by rw [Nat.testBit_or, Nat.testBit_two_pow]

theorem mem_combos {n : Nat} : ∀ {k f c s : Nat}, (∀ j, f ≤ j → c.testBit j = false) → f ≤ n →
    (s ∈ combos n k f c ↔ (∀ j, j < f → s.testBit j = c.testBit j) ∧ (∀ j, n ≤ j → s.testBit j = false) ∧ cnt s f (n - f) = k)
  | 0, f, c, s, hc, hf => by
    unfold combos
    rw [List.mem_singleton]
    constructor
    · rintro rfl
      exact ⟨fun _ _ => rfl, fun j hj => hc j (by omega), cnt_none fun j h1 _ => hc j h1⟩
    · rintro ⟨h1, h2, h3⟩
      apply Nat.eq_of_testBit_eq
      intro j
      by_cases hj : j < f
      · exact h1 j hj
      · rw [hc j (by omega)]
        by_cases hn : j < n
        · exact cnt_zero_iff.1 h3 j (by omega) (by omega)
        · exact h2 j (by omega)
  | k + 1, f, c, s, hc, hf => by
    unfold combos
    rw [List.mem_flatMap]
    have hc' : ∀ d, ∀ j, f + d + 1 ≤ j → (c ||| 2 ^ (f + d)).testBit j = false := fun d j hj => by
      rw [bit_or_pow, hc j (by omega), Bool.false_or, decide_eq_false_iff_not]; omega
    constructor
    · rintro ⟨d, hd, hs⟩
      rw [List.mem_range] at hd
      obtain ⟨h1, h2, h3⟩ := (mem_combos (hc' d) (by omega)).1 hs
      refine ⟨fun j hj => ?_, h2, ?_⟩
      · rw [h1 j (by omega), bit_or_pow, decide_eq_false (by omega : ¬ f + d = j), Bool.or_false]
      · have e : n - f = d + ((n - (f + d + 1)) + 1) := by omega
        rw [e, cnt_skip d _ fun j j1 j2 => by rw [h1 j (by omega), bit_or_pow, hc j j1, decide_eq_false (by omega : ¬ f + d = j)]; rfl]
        rw [cnt_yes _ (by rw [h1 (f + d) (by omega), bit_or_pow]; simp), h3]
    · rintro ⟨h1, h2, h3⟩
      have hex : ∃ d, f + d < n ∧ s.testBit (f + d) = true ∧ ∀ j, f ≤ j → j < f + d → s.testBit j = false := by
        have h0 : ∃ j, f ≤ j ∧ j < n ∧ s.testBit j = true := by
          apply Classical.byContradiction
          intro hn
          have : cnt s f (n - f) = 0 := cnt_none fun j j1 j2 => by
            cases hb : s.testBit j with
            | false => rfl
            | true => exact (hn ⟨j, j1, by omega, hb⟩).elim
          omega
        obtain ⟨j, j1, j2, j3⟩ := h0
        clear h3
        obtain ⟨d, rfl⟩ : ∃ d, j = f + d := ⟨j - f, by omega⟩
        induction d using Nat.strongRecOn with
        | _ d ih =>
          by_cases hl : ∃ d', d' < d ∧ s.testBit (f + d') = true
          · obtain ⟨d', h4, h5⟩ := hl
            exact ih d' h4 (by omega) (by omega) h5
          · refine ⟨d, j2, j3, fun j i1 i2 => ?_⟩
            cases hb : s.testBit j with
            | false => rfl
            | true => exact (hl ⟨j - f, by omega, by rw [show f + (j - f) = j by omega]; exact hb⟩).elim
      obtain ⟨d, hdn, hb, hlow⟩ := hex
      have e : n - f = d + ((n - (f + d + 1)) + 1) := by omega
      rw [e, cnt_skip d _ hlow, cnt_yes _ hb] at h3
      have hk : cnt s (f + d + 1) (n - (f + d + 1)) = k := by omega
      have hle := cnt_le s (f + d + 1) (n - (f + d + 1))
      refine ⟨d, List.mem_range.2 (by omega), (mem_combos (hc' d) (by omega)).2 ⟨fun j hj => ?_, h2, hk⟩⟩
      rw [bit_or_pow]
      by_cases hjf : j < f
      · rw [h1 j hjf, decide_eq_false (by omega : ¬ f + d = j), Bool.or_false]
      · by_cases hjd : j = f + d
        · subst hjd; rw [hb]; simp
        · rw [hlow j (by omega) (by omega), hc j (by omega), decide_eq_false (by omega : ¬ f + d = j)]; rfl

theorem combos_order {n : Nat} : ∀ {k f c : Nat}, (∀ j, f ≤ j → c.testBit j = false) → f ≤ n → (combos n k f c).Pairwise Lex
  | 0, f, c, _, _ => by unfold combos; exact List.pairwise_singleton _ _
  | k + 1, f, c, hc, hf => by
    have hc' : ∀ d, ∀ j, f + d + 1 ≤ j → (c ||| 2 ^ (f + d)).testBit j = false := fun d j hj => by
      rw [bit_or_pow, hc j (by omega), Bool.false_or, decide_eq_false_iff_not]; omega
    unfold combos
    rw [List.pairwise_flatMap]
    refine ⟨fun d hd => combos_order (hc' d) (by have := List.mem_range.1 hd; omega), ?_⟩
    refine (pairwise_range (n - (f + k))).imp_of_mem fun {d1 d2} h1 h2 hlt x hx y hy => ?_
    have h1' := List.mem_range.1 h1
    have h2' := List.mem_range.1 h2
    obtain ⟨x1, _, _⟩ := (mem_combos (hc' d1) (by omega)).1 hx
    obtain ⟨y1, _, _⟩ := (mem_combos (hc' d2) (by omega)).1 hy
    refine ⟨f + d1, ?_, ?_, fun j hj => ?_⟩
    · rw [x1 _ (by omega), bit_or_pow]; simp
    · rw [y1 _ (by omega), bit_or_pow, hc _ (by omega), decide_eq_false (by omega)]; rfl
    · rw [x1 _ (by omega), y1 _ (by omega), bit_or_pow, bit_or_pow, decide_eq_false (by omega), decide_eq_false (by omega)]

/-- The first one that fits is ahead of all others that fit. -/
theorem find_first {l : List Nat} {fit : Nat → Bool} {s : Nat} (ho : l.Pairwise Lex) (h : l.find? fit = some s) : s ∈ l ∧ fit s = true ∧ ∀ t ∈ l, fit t = true → t = s ∨ Lex s t := by
  rw [List.find?_eq_some_iff_append] at h
  obtain ⟨hf, l1, l2, rfl, has⟩ := h
  rw [List.pairwise_append] at ho
  refine ⟨by simp, hf, fun t ht hft => ?_⟩
  rw [List.mem_append, List.mem_cons] at ht
  rcases ht with ht | rfl | ht
  · have := has t ht
    rw [hft] at this
    cases this
  · exact .inl rfl
  · exact .inr ((List.pairwise_cons.1 ho.2.1).1 t ht)
theorem mem_all {n k s : Nat} (hn : n ≤ 32) : s ∈ combos n k 0 0 ↔ s < 2 ^ n ∧ size s = k := by
  rw [mem_combos (fun j _ => by simp) (Nat.zero_le _)]
  constructor
  · rintro ⟨_, h2, h3⟩
    exact ⟨Nat.lt_pow_two_of_testBit s h2, by rw [size_cnt hn h2]; exact h3⟩
  · rintro ⟨h1, h2⟩
    exact ⟨fun j hj => by omega, bits_above h1, by rw [← h2, size_cnt hn (bits_above h1)]; rfl⟩
end Go.Proofs.YtpfhflkpnjkgkaaDoor
/-
  How many bits a union has. No program in sight.
-/

namespace Go.Proofs.YtpfhflkpnjkgkaaDoor

theorem filter_or {α : Type} (p q : α → Bool) (l : List α) : (l.filter fun x => p x || q x).length + (l.filter fun x => p x && q x).length = (l.filter p).length + (l.filter q).length := by
  induction l with
  | nil => rfl
  | cons x l ih =>
    simp only [List.filter_cons]
    cases hp : p x <;> cases hq : q x <;> simp <;> omega
theorem size_filter {m : Nat} (h : m < 2 ^ 16) : size m = ((List.range 16).filter m.testBit).length := by
  rw [size_cnt (n := 16) (by decide) (bits_above h)]
  unfold cnt
  rw [List.range_eq_range']
theorem size_or {a b : Nat} (ha : a < 2 ^ 16) (hb : b < 2 ^ 16) : size (a ||| b) + size (a &&& b) = size a + size b := by
  have h1 : size (a ||| b) = ((List.range 16).filter fun x => a.testBit x || b.testBit x).length := by
    rw [size_filter (Nat.or_lt_two_pow ha hb)]
    congr 1
    exact List.filter_congr fun x _ => by rw [Nat.testBit_or]
  have h2 : size (a &&& b) = ((List.range 16).filter fun x => a.testBit x && b.testBit x).length := by
    rw [size_filter (Nat.and_lt_two_pow a hb)]
    congr 1
    exact List.filter_congr fun x _ => by rw [Nat.testBit_and]
  rw [h1, h2, size_filter ha, size_filter hb]
  exact filter_or _ _ _
theorem size_none {m : Nat} (h : m < 2 ^ 16) : size m = 0 ↔ m = 0 := by
  rw [size_filter h]
  constructor
  · intro h0
    apply Nat.eq_of_testBit_eq
    intro i
    rw [Nat.zero_testBit]
    by_cases hi : i < 16
    · cases hb : m.testBit i with
      | false => rfl
      | true =>
        have : i ∈ (List.range 16).filter m.testBit := List.mem_filter.2 ⟨List.mem_range.2 hi, hb⟩
        rw [List.length_eq_zero_iff.1 h0] at this
        cases this
    · exact bits_above h i (by omega)
  · rintro rfl
    simp
/-- The union of sets. -/
def mor : List Nat → Nat
  | [] => 0
  | a :: l => mor l ||| a
/-- Each is apart from those behind it. -/
def disR : List Nat → Prop
  | [] => True
  | a :: l => disR l ∧ mor l &&& a = 0
theorem mor_lt : ∀ {l : List Nat}, (∀ a ∈ l, a < 2 ^ 16) → mor l < 2 ^ 16 := by
  intro l
  induction l with
  | nil => intro _; decide
  | cons a l ih => exact fun h => Nat.or_lt_two_pow (ih fun b hb => h b (by simp [hb])) (h a (by simp))
def sizes (l : List Nat) : Nat := (l.map size).sum
/-- A union is no larger than its parts, and as large exactly where they are apart. -/
theorem mor_size : ∀ {l : List Nat}, (∀ a ∈ l, a < 2 ^ 16) → size (mor l) ≤ sizes l ∧ (size (mor l) = sizes l ↔ disR l) := by
  intro l
  induction l with
  | nil => intro _; have h0 : size 0 = 0 := (size_none (by decide)).2 rfl; simp [mor, sizes, disR, h0]
  | cons a l ih =>
    intro h
    have hl : ∀ b ∈ l, b < 2 ^ 16 := fun b hb => h b (by simp [hb])
    have ha := h a (by simp)
    have hm := mor_lt hl
    obtain ⟨h1, h2⟩ := ih hl
    have ho := size_or hm ha
    have hz := size_none (Nat.and_lt_two_pow (mor l) ha)
    have hs : sizes (a :: l) = size a + sizes l := by simp [sizes]
    rw [hs]
    unfold mor disR
    refine ⟨by omega, ?_⟩
    rw [← h2, ← hz]
    omega
end Go.Proofs.YtpfhflkpnjkgkaaDoor
/-
  Sets of leaves along the stack, counted. No program in sight.
-/


namespace Go.Proofs.YtpfhflkpnjkgkaaDoor

/-- The set of a part, given the sets of the parts ahead of it. -/
def mask1 (B : List Nat) (p : PartD) : Nat := if leafOk p then 2 ^ p.2.1.toNat else mor (p.2.2.reverse.map fun k => B.getD k.toNat 0)
/-- The sets of the first k parts. -/
def maskL (L : List PartD) : Nat → List Nat
  | 0 => []
  | k + 1 => maskL L k ++ [mask1 (maskL L k) (L.getD k (0, 0, []))]
def msk (L : List PartD) (i : Nat) : Nat := mask1 (maskL L i) (L.getD i (0, 0, []))
theorem maskL_length (L : List PartD) (k : Nat) : (maskL L k).length = k := by
  induction k with
  | zero => rfl
  | succ k ih => simp [maskL, ih]
theorem maskL_getD (L : List PartD) : ∀ k i, i < k → (maskL L k).getD i 0 = msk L i := by
  intro k
  induction k with
  | zero => intro i h; omega
  | succ k ih =>
    intro i h
    have hl := maskL_length L k
    unfold maskL
    by_cases hi : i < k
    · rw [List.getD_eq_getElem?_getD, List.getElem?_append_left (by omega), ← List.getD_eq_getElem?_getD]
      exact ih i hi
    · obtain rfl : i = k := by omega
      rw [List.getD_eq_getElem?_getD, List.getElem?_append_right (by omega), hl, Nat.sub_self]
      rfl
theorem msk_lt (L : List PartD) : ∀ i, msk L i < 2 ^ 16 := by
  intro i
  induction i using Nat.strongRecOn with
  | ind i ih =>
    unfold msk mask1
    split
    · rename_i h
      exact Nat.pow_lt_pow_right (by decide) (by have := h.2.2.2; have := h.2.2.1; omega)
    · refine mor_lt fun a ha => ?_
      obtain ⟨k, -, rfl⟩ := List.mem_map.1 ha
      by_cases hk : k.toNat < i
      · rw [maskL_getD L i _ hk]
        exact ih _ hk
      · have : (maskL L i).getD k.toNat 0 = 0 := by
          rw [List.getD_eq_getElem?_getD, List.getElem?_eq_none (by rw [maskL_length]; omega)]
          rfl
        rw [this]
        decide
/-- How many of the first k parts are leaves. -/
def leafN (L : List PartD) (k : Nat) : Nat := ((L.take k).filter fun p => decide (leafOk p)).length
theorem leafN_succ (L : List PartD) {k : Nat} {p : PartD} (h : L[k]? = some p) : leafN L (k + 1) = leafN L k + if leafOk p then 1 else 0 := by
  unfold leafN
  rw [take_snoc h, List.filter_append, List.length_append]
  by_cases hp : leafOk p <;> simp [hp]
/-- The kids' sets of the parts below k are apart. -/
def disN (L : List PartD) (k : Nat) : Prop := ∀ i p, i < k → L[i]? = some p → ¬ leafOk p → disR (p.2.2.reverse.map fun c => msk L c.toNat)
theorem sizes_append (a b : List Nat) : sizes (a ++ b) = sizes a + sizes b := by simp [sizes]
theorem size_pow {x : Nat} (h : x < 16) : size (2 ^ x) = 1 := by
  rw [size_filter (Nat.pow_lt_pow_right (by decide) h)]
  have : ∀ x, x < 16 → ((List.range 16).filter (2 ^ x).testBit).length = 1 := by decide +kernel
  exact this x h
theorem run_sizes (L : List PartD) : ∀ k O, runO L k = some O → (∀ r ∈ O, r < k) ∧ sizes (O.map (msk L)) ≤ leafN L k ∧ (sizes (O.map (msk L)) = leafN L k ↔ disN L k) := by
  intro k
  induction k with
  | zero =>
    intro O h
    cases h
    refine ⟨by simp, by simp [sizes], ?_⟩
    simp [sizes, leafN]
    intro i p hi
    omega
  | succ k ih =>
    intro O h
    unfold runO at h
    cases hr : runO L k with
    | none => rw [hr] at h; cases h
    | some O' =>
      rw [hr] at h
      cases hp : L[k]? with
      | none => rw [hp] at h; cases h
      | some p =>
        rw [hp] at h
        change stepO O' k p = some O at h
        obtain ⟨h1, h2, h3⟩ := ih O' hr
        have hgd : L.getD k (0, 0, []) = p := by rw [List.getD_eq_getElem?_getD, hp]; rfl
        have hls := leafN_succ L hp
        have hdis : disN L (k + 1) ↔ disN L k ∧ (¬ leafOk p → disR (p.2.2.reverse.map fun c => msk L c.toNat)) := by
          constructor
          · exact fun hd => ⟨fun i q hi => hd i q (by omega), hd k p (by omega) hp⟩
          · rintro ⟨ha, hb⟩ i q hi hq hl
            by_cases hik : i = k
            · subst hik
              rw [hp] at hq
              cases hq
              exact hb hl
            · exact ha i q (by omega) hq hl
        unfold stepO at h
        split at h
        · rename_i hl
          cases h
          have hm : msk L k = 2 ^ p.2.1.toNat := by unfold msk mask1; rw [hgd, if_pos hl]
          have hs : size (msk L k) = 1 := by rw [hm]; exact size_pow (by have := hl.2.2.2; have := hl.2.2.1; omega)
          rw [if_pos hl] at hls
          have e : sizes ((k :: O').map (msk L)) = 1 + sizes (O'.map (msk L)) := by simp [sizes, hs]
          refine ⟨fun r hr => by rcases List.mem_cons.1 hr with rfl | hr; omega; have := h1 r hr; omega, by omega, ?_⟩
          rw [hdis, ← h3]
          constructor
          · exact fun he => ⟨by omega, fun hn => (hn hl).elim⟩
          · rintro ⟨he, -⟩; omega
        · rename_i hl
          split at h
          · rename_i hn
            cases h
            rw [if_neg hl] at hls
            have hkm : (p.2.2.reverse.map fun c => msk L c.toNat) = (O'.take p.2.2.length).map (msk L) := by
              rw [hn.2.2, List.map_map]
              refine List.map_congr_left fun r _ => ?_
              simp
            have hm : msk L k = mor ((O'.take p.2.2.length).map (msk L)) := by
              rw [← hkm]
              conv => lhs; unfold msk mask1
              rw [hgd, if_neg hl]
              congr 1
              refine List.map_congr_left fun c hc => ?_
              rw [hn.2.2] at hc
              obtain ⟨r, hr', rfl⟩ := List.mem_map.1 hc
              exact maskL_getD L k _ (by have := h1 r (List.mem_of_mem_take hr'); simpa using this)
            have hlt : ∀ a ∈ (O'.take p.2.2.length).map (msk L), a < 2 ^ 16 := fun a ha => by
              obtain ⟨r, -, rfl⟩ := List.mem_map.1 ha
              exact msk_lt L r
            obtain ⟨g1, g2⟩ := mor_size hlt
            have e0 : sizes (O'.map (msk L)) = sizes ((O'.take p.2.2.length).map (msk L)) + sizes ((O'.drop p.2.2.length).map (msk L)) := by
              rw [← sizes_append, ← List.map_append, List.take_append_drop]
            have e : sizes ((k :: O'.drop p.2.2.length).map (msk L)) = size (msk L k) + sizes ((O'.drop p.2.2.length).map (msk L)) := by simp [sizes]
            rw [← hm] at g1 g2
            refine ⟨fun r hr => by rcases List.mem_cons.1 hr with rfl | hr; omega; have := h1 r (List.mem_of_mem_drop hr); omega, by omega, ?_⟩
            rw [hdis, ← h3, hkm, ← g2]
            constructor
            · exact fun he => ⟨by omega, fun _ => by omega⟩
            · rintro ⟨he, hg⟩
              have := hg hl
              omega
          · cases h
end Go.Proofs.YtpfhflkpnjkgkaaDoor
/-
  Sets of leaves: the first numbers, counted. No program in sight.
-/

namespace Go.Proofs.YtpfhflkpnjkgkaaDoor

/-- Not more than 31 parts. -/
theorem run_count (L : List PartD) : ∀ k O, runO L k = some O → k + O.length ≤ 2 * leafN L k := by
  intro k
  induction k with
  | zero => intro O h; cases h; simp
  | succ k ih =>
    intro O h
    unfold runO at h
    cases hr : runO L k with
    | none => rw [hr] at h; cases h
    | some O' =>
      rw [hr] at h
      cases hp : L[k]? with
      | none => rw [hp] at h; cases h
      | some p =>
        rw [hp] at h
        change stepO O' k p = some O at h
        have h1 := ih O' hr
        have hls := leafN_succ L hp
        unfold stepO at h
        split at h
        · rename_i hl
          cases h
          rw [if_pos hl] at hls
          simp
          omega
        · rename_i hl
          split at h
          · rename_i hn
            cases h
            rw [if_neg hl] at hls
            have h2 := hn.1.2.2.2
            have h3 := hn.2.1
            simp
            omega
          · cases h
/-- The bits of a set, rising. -/
def bitL (m : Nat) : List Nat := (List.range 16).filter m.testBit
theorem bitL_length {m : Nat} (h : m < 2 ^ 16) : (bitL m).length = size m := (size_filter h).symm
theorem mem_bitL {m i : Nat} : i ∈ bitL m ↔ i < 16 ∧ m.testBit i = true := by
  unfold bitL
  rw [List.mem_filter, List.mem_range]
theorem bitL_sorted (m : Nat) : (bitL m).Pairwise (· < ·) := List.Pairwise.filter _ List.pairwise_lt_range
/-- The last bit tells whether the set is that of the first numbers. -/
theorem full_iff {m c : Nat} (hm : m < 2 ^ 16) (hc : size m = c) (h0 : 0 < c) : (bitL m)[c - 1]? = some (c - 1) ↔ m = 2 ^ c - 1 := by
  have hl := bitL_length hm
  rw [hc] at hl
  have hc16 : c ≤ 16 := by
    rw [← hl]
    have := List.length_filter_le m.testBit (List.range 16)
    simpa [bitL] using this
  constructor
  · intro h
    have hlast : ∀ i ∈ bitL m, i < c := by
      intro i hi
      obtain ⟨j, hj, rfl⟩ := List.mem_iff_getElem.1 hi
      obtain ⟨hc1, hce⟩ := List.getElem?_eq_some_iff.1 h
      by_cases hjc : j = c - 1
      · subst hjc; rw [hce]; omega
      · have := List.pairwise_iff_getElem.1 (bitL_sorted m) j (c - 1) hj hc1 (by omega)
        rw [hce] at this
        omega
    have hsub : bitL m = (List.range c).filter m.testBit := by
      unfold bitL
      rw [show (List.range 16) = List.range (c + (16 - c)) by rw [show c + (16 - c) = 16 by omega], List.range_add, List.filter_append]
      have : ((List.range (16 - c)).map fun x => c + x).filter m.testBit = [] := by
        rw [List.filter_eq_nil_iff]
        intro a ha hb
        obtain ⟨x, hx, rfl⟩ := List.mem_map.1 ha
        have := hlast (c + x) (mem_bitL.2 ⟨by have := List.mem_range.1 hx; omega, hb⟩)
        omega
      rw [this, List.append_nil]
    have hall : ∀ i, i < c → m.testBit i = true := by
      intro i hi
      have hlen : ((List.range c).filter m.testBit).length = (List.range c).length := by rw [← hsub, hl]; simp
      exact List.length_filter_eq_length_iff.1 hlen i (List.mem_range.2 hi)
    apply Nat.eq_of_testBit_eq
    intro i
    rw [Nat.testBit_two_pow_sub_one]
    by_cases hi : i < c
    · rw [hall i hi]; simp [hi]
    · have : m.testBit i = false := by
        cases hb : m.testBit i with
        | false => rfl
        | true =>
          by_cases h16 : i < 16
          · have := hlast i (mem_bitL.2 ⟨h16, hb⟩)
            omega
          · rw [bits_above hm i (by omega)] at hb; cases hb
      rw [this]; simp [hi]
  · intro h
    have hb : bitL m = List.range c := by
      unfold bitL
      rw [show (List.range 16) = List.range (c + (16 - c)) by rw [show c + (16 - c) = 16 by omega], List.range_add, List.filter_append]
      have h1 : (List.range c).filter m.testBit = List.range c := by
        rw [List.filter_eq_self]
        intro a ha
        rw [h, Nat.testBit_two_pow_sub_one]
        simpa using ha
      have h2 : ((List.range (16 - c)).map fun x => c + x).filter m.testBit = [] := by
        rw [List.filter_eq_nil_iff]
        intro a ha hb
        obtain ⟨x, hx, rfl⟩ := List.mem_map.1 ha
        rw [h, Nat.testBit_two_pow_sub_one] at hb
        have hb' : c + x < c := by simpa using hb
        omega
      rw [h1, h2, List.append_nil]
    rw [hb, List.getElem?_range (by omega)]
/-- The sets in the tree are not empty. -/
theorem mor_ne {l : List Nat} (h0 : l ≠ []) (h : ∀ a ∈ l, a ≠ 0) : mor l ≠ 0 := by
  cases l with
  | nil => exact absurd rfl h0
  | cons a l =>
    intro he
    unfold mor at he
    exact h a (by simp) (Nat.or_eq_zero_iff.1 he).2
/-- The two judge the whole alike: n parts, one root, its set m. -/
theorem whole_iff (L : List PartD) (n : Nat) (hn : 0 < n) (h : runO L n = some [n - 1]) :
    (size (msk L (n - 1)) = leafN L n ∧ (bitL (msk L (n - 1)))[leafN L n - 1]? = some (leafN L n - 1)) ↔ (disN L n ∧ msk L (n - 1) = 2 ^ size (msk L (n - 1)) - 1) := by
  obtain ⟨-, h2, h3⟩ := run_sizes L n _ h
  have hc := run_count L n _ h
  have e : sizes ([n - 1].map (msk L)) = size (msk L (n - 1)) := by simp [sizes]
  rw [e] at h2 h3
  have h0 : 0 < leafN L n := by simp at hc; omega
  have hlt := msk_lt L (n - 1)
  constructor
  · rintro ⟨h4, h5⟩
    have := (full_iff hlt h4 h0).1 h5
    exact ⟨h3.1 h4, by rw [h4]; exact this⟩
  · rintro ⟨h4, h5⟩
    have h6 := h3.2 h4
    exact ⟨h6, (full_iff hlt h6 h0).2 (by rw [← h6]; exact h5)⟩
theorem parts_31 (L : List PartD) (n : Nat) (h : runO L n = some [n - 1]) (hd : disN L n) : n ≤ 31 := by
  obtain ⟨-, -, h3⟩ := run_sizes L n _ h
  have hc := run_count L n _ h
  have e : sizes ([n - 1].map (msk L)) = size (msk L (n - 1)) := by simp [sizes]
  rw [e] at h3
  have h6 := h3.2 hd
  have h16 : size (msk L (n - 1)) ≤ 16 := by
    rw [← bitL_length (msk_lt L _)]
    have := List.length_filter_le (msk L (n - 1)).testBit (List.range 16)
    simpa [bitL] using this
  simp at hc
  omega
end Go.Proofs.YtpfhflkpnjkgkaaDoor
