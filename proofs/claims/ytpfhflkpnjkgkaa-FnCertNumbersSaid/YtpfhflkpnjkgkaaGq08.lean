import Derived.Laws.BitsAllLaws
import Derived.Test.YtpfhflkpnjkgkaaGq04
import Derived.Test.YtpfhflkpnjkgkaaGq05
import Derived.Test.YtpfhflkpnjkgkaaGq06
import Derived.Test.YtpfhflkpnjkgkaaGq07
/-
  'Contracted' of the reference.
-/

namespace Go.Proofs.Ytpfhflkpnjkgkaa
open Go.RowKit

/-- One vertex is joined to these. -/
def linked (e : Nat → Nat → Bool) (p : Nat) (ys : List Int) : Nat → Nat → Bool := ys.foldl (fun f x => plus f p x.toNat) e
theorem linked_snoc (e : Nat → Nat → Bool) (p : Nat) (ys : List Int) (q : Nat) : linked e p (ys ++ [(q : Int)]) = plus (linked e p ys) p q := by
  unfold linked
  rw [List.foldl_append]
  simp
/-- The neighbours of p and the vertex q are put together: p's new neighbours. -/
def nearL (n : Nat) (e : Nat → Nat → Bool) (p q : Nat) : List Int := rowB n fun b => e q b && !decide (b = p)
theorem nearL_without (n : Nat) (e : Nat → Nat → Bool) (p q : Nat) : without (rowB n (e q)) (p : Int) = nearL n e p q := without_rowB n (e q) p
theorem adj_plus {n : Nat} {f : Nat → Nat → Bool} (h : Adj n f) {p q : Nat} (hpq : p ≠ q) : Adj n (plus f p q) := by
  refine ⟨h.pos, h.le, fun x hx => ?_, fun x y hx hy => ?_⟩
  · unfold plus
    rw [h.irr x hx]
    by_cases h1 : x = p
    · have h2 : ¬ x = q := fun h2 => hpq (h1.symm.trans h2)
      simp [h2]
    · simp [h1]
  · unfold plus
    rw [h.sym x y hx hy, Bool.or_assoc, Bool.or_assoc]
    congr 1
    rw [Bool.or_comm]
    congr 1
    · exact Bool.and_comm _ _
    · exact Bool.and_comm _ _
theorem adj_linked {n p : Nat} : ∀ (ys : List Int) (e : Nat → Nat → Bool), Adj n e → (∀ x ∈ ys, x.toNat ≠ p) → Adj n (linked e p ys)
  | [], _, h, _ => h
  | y :: ys, e, h, hy => adj_linked ys (plus e p y.toNat) (adj_plus h (hy y (by simp)).symm) fun x hx => hy x (by simp [hx])
theorem adj_near {n : Nat} {e : Nat → Nat → Bool} (h : Adj n e) (p q : Nat) : Adj n (linked e p (nearL n e p q)) :=
  adj_linked _ e h fun x hx => by
    obtain ⟨i, -, hi, rfl⟩ := mem_rowB.1 hx
    intro h
    rw [Int.toNat_natCast] at h
    simp [h] at hi
theorem min_nat (k l lo : Nat) (h : min k l = lo) (w : World) : Calls Try.prog 55 #[.int .i64 (k : Int), .int .i64 (l : Int)] w fun e w' => e = .returned (.int .i64 (lo : Int)) ∧ w = w' := by
  have e : (if (k : Int) < l then (k : Int) else l) = (lo : Int) := by split <;> omega
  rw [← e]
  exact min_any k l w
/-- What 'Contracted' gives. -/
def conE (n : Nat) (e : Nat → Nat → Bool) (lo hi : Nat) : Nat → Nat → Bool := ofList (linked e lo (nearL n e lo hi)) (cutL n hi)
def ConP (xss : List (List Int)) (u v : Int) (rows : List (List Int)) (ok : Bool) : Prop :=
  (edgeB xss u v = false ∧ rows = [] ∧ ok = false) ∨ ∃ e k l, Two xss u v xss.length e k l ∧ k ≠ l ∧ edgeB xss u v = true ∧ rows = rowsB (cutL xss.length (max k l)).length (conE xss.length e (min k l) (max k l)) ∧ ok = true

end Go.Proofs.Ytpfhflkpnjkgkaa
/-
  Sets in the order of a key and then of their numbers, plainly: the search for the least one that fits.
-/

namespace Go.Proofs.Ytpfhflkpnjkgkaa
open Go.RowKit

/-- The least number in which two sets differ lies in the first one. -/
def Lex (a b : Nat) : Prop := ∃ i, a.testBit i = true ∧ b.testBit i = false ∧ ∀ j, j < i → a.testBit j = b.testBit j
theorem Lex.irrefl {a : Nat} : ¬ Lex a a := fun ⟨i, h1, h2, _⟩ => by rw [h1] at h2; cases h2
theorem Lex.trans {a b c : Nat} (h : Lex a b) (h' : Lex b c) : Lex a c := by
  obtain ⟨i, h1, h2, h3⟩ := h
  obtain ⟨k, k1, k2, k3⟩ := h'
  rcases Nat.lt_trichotomy i k with hlt | heq | hlt
  · exact ⟨i, h1, by rw [← k3 i hlt]; exact h2, fun j hj => (h3 j hj).trans (k3 j (by omega))⟩
  · subst heq; rw [k1] at h2; cases h2
  · exact ⟨k, by rw [h3 k hlt]; exact k1, k2, fun j hj => (h3 j (by omega)).trans (k3 j hj)⟩
theorem Lex.asymm {a b : Nat} (h : Lex a b) : ¬ Lex b a := fun h' => (h.trans h').irrefl
theorem Lex.total {a b : Nat} (ha : a < 4294967296) (hb : b < 4294967296) (h : a ≠ b) : Lex a b ∨ Lex b a := by
  have h0 : a ^^^ b ≠ 0 := fun h0 => h (by
    apply Nat.eq_of_testBit_eq
    intro i
    have : (a ^^^ b).testBit i = false := by rw [h0]; simp
    rw [Nat.testBit_xor] at this
    revert this
    cases a.testBit i <;> cases b.testBit i <;> simp)
  have hx : a ^^^ b < 2 ^ 32 := Nat.xor_lt_two_pow (by rw [two32]; exact ha) (by rw [two32]; exact hb)
  obtain ⟨_, h1, h2⟩ := low_spec h0 hx
  generalize low (a ^^^ b) = i at h1 h2
  have hj : ∀ j, j < i → a.testBit j = b.testBit j := fun j hj => by
    have := h2 j hj
    rw [Nat.testBit_xor] at this
    revert this
    cases a.testBit j <;> cases b.testBit j <;> simp
  rw [Nat.testBit_xor] at h1
  cases ea : a.testBit i <;> cases eb : b.testBit i <;> rw [ea, eb] at h1 <;> simp at h1
  · exact .inr ⟨i, eb, ea, fun j h => (hj j h).symm⟩
  · exact .inl ⟨i, ea, eb, hj⟩

/-! ### The least one by a key -/
def Ahead (key : Nat → Nat) (a b : Nat) : Prop := key a < key b ∨ key a = key b ∧ Lex a b
theorem Ahead.trans {key : Nat → Nat} {a b c : Nat} (h : Ahead key a b) (h' : Ahead key b c) : Ahead key a c := by
  rcases h with h | ⟨h1, h2⟩
  · rcases h' with h' | ⟨h3, _⟩
    · exact .inl (by omega)
    · exact .inl (by omega)
  · rcases h' with h' | ⟨h3, h4⟩
    · exact .inl (by omega)
    · exact .inr ⟨by omega, h2.trans h4⟩
theorem Ahead.irrefl {key : Nat → Nat} {a : Nat} : ¬ Ahead key a a := fun h => by
  rcases h with h | ⟨_, h⟩
  · omega
  · exact h.irrefl
theorem Ahead.total {key : Nat → Nat} {a b : Nat} (ha : a < 4294967296) (hb : b < 4294967296) (h : a ≠ b) : Ahead key a b ∨ Ahead key b a := by
  rcases Nat.lt_trichotomy (key a) (key b) with hlt | heq | hlt
  · exact .inl (.inl hlt)
  · rcases Lex.total ha hb h with h | h
    · exact .inl (.inr ⟨heq, h⟩)
    · exact .inr (.inr ⟨heq.symm, h⟩)
  · exact .inr (.inl hlt)

/-- r is the least one below N that fits. -/
structure IsBest (key : Nat → Nat) (fit : Nat → Prop) (N r : Nat) : Prop where
  lt : r < N
  fits : fit r
  least : ∀ t, t < N → fit t → ¬ Ahead key t r
theorem IsBest.unique {key : Nat → Nat} {fit : Nat → Prop} {N r s : Nat} (hN : N ≤ 4294967296) (h : IsBest key fit N r) (h' : IsBest key fit N s) : r = s := by
  apply Classical.byContradiction
  intro hne
  have h1 := h.lt
  have h2 := h'.lt
  rcases Ahead.total (key := key) (by omega) (by omega) hne with h3 | h3
  · exact h'.least r h.lt h.fits h3
  · exact h.least s h'.lt h'.fits h3

/-- What a run over all numbers below k holds: the start, or the least one that fits. -/
structure Run (key : Nat → Nat) (fit : Nat → Prop) (init k r : Nat) : Prop where
  from_ : r = init ∨ (r < k ∧ fit r ∧ Ahead key r init)
  least : ∀ t, t < k → fit t → ¬ Ahead key t r
theorem Run.start (key : Nat → Nat) (fit : Nat → Prop) (init : Nat) : Run key fit init 0 init := ⟨.inl rfl, fun t h => by omega⟩
theorem Run.yes {key : Nat → Nat} {fit : Nat → Prop} {init k r : Nat} (h : Run key fit init k r) (hf : fit k) (ha : Ahead key k r) : Run key fit init (k + 1) k := by
  refine ⟨.inr ⟨by omega, hf, ?_⟩, fun t ht hft hlt => ?_⟩
  · rcases h.from_ with rfl | ⟨_, _, h1⟩
    · exact ha
    · exact ha.trans h1
  · by_cases htk : t = k
    · subst htk; exact hlt.irrefl
    · exact h.least t (by omega) hft (hlt.trans ha)
theorem Run.no {key : Nat → Nat} {fit : Nat → Prop} {init k r : Nat} (h : Run key fit init k r) (hf : ¬ (fit k ∧ Ahead key k r)) : Run key fit init (k + 1) r := by
  refine ⟨?_, fun t ht hft hlt => ?_⟩
  · rcases h.from_ with h1 | ⟨h1, h2, h3⟩
    · exact .inl h1
    · exact .inr ⟨by omega, h2, h3⟩
  · by_cases htk : t = k
    · subst htk; exact hf ⟨hft, hlt⟩
    · exact h.least t (by omega) hft hlt
/-- Where the start fits, the run ends at the least one. -/
theorem Run.best {key : Nat → Nat} {fit : Nat → Prop} {init N r : Nat} (h : Run key fit init N r) (h0 : init < N) (hf : fit init) : IsBest key fit N r := by
  refine ⟨?_, ?_, h.least⟩
  · rcases h.from_ with rfl | ⟨h1, _⟩ <;> assumption
  · rcases h.from_ with rfl | ⟨_, h1, _⟩ <;> assumption
theorem exists_run (key : Nat → Nat) (fit : Nat → Prop) (init : Nat) : ∀ k, ∃ r, Run key fit init k r
  | 0 => ⟨init, Run.start _ _ _⟩
  | k + 1 => by
    obtain ⟨r, hr⟩ := exists_run key fit init k
    by_cases h : fit k ∧ Ahead key k r
    · exact ⟨k, hr.yes h.1 h.2⟩
    · exact ⟨r, hr.no h⟩

/-! ### How many numbers a set has, from f on -/
def cnt (m f len : Nat) : Nat := ((List.range' f len).filter m.testBit).length
theorem cnt_zero (m f : Nat) : cnt m f 0 = 0 := rfl
theorem cnt_yes {m f : Nat} (len : Nat) (h : m.testBit f = true) : cnt m f (len + 1) = cnt m (f + 1) len + 1 := by
  unfold cnt
  rw [List.range'_succ, List.filter_cons_of_pos h, List.length_cons]
theorem cnt_no {m f : Nat} (len : Nat) (h : m.testBit f = false) : cnt m f (len + 1) = cnt m (f + 1) len := by
  unfold cnt
  rw [List.range'_succ, List.filter_cons_of_neg (by simp [h])]
theorem cnt_le (m f len : Nat) : cnt m f len ≤ len := by
  unfold cnt
  exact Nat.le_trans (List.length_filter_le _ _) (by simp)
theorem cnt_none {m f len : Nat} (h : ∀ j, f ≤ j → j < f + len → m.testBit j = false) : cnt m f len = 0 := by
  unfold cnt
  rw [List.length_eq_zero_iff, List.filter_eq_nil_iff]
  intro j hj
  rw [List.mem_range'_1] at hj
  rw [h j hj.1 hj.2]
  simp
theorem cnt_zero_iff {m f len : Nat} : cnt m f len = 0 ↔ ∀ j, f ≤ j → j < f + len → m.testBit j = false := by
  refine ⟨fun h j h1 h2 => ?_, cnt_none⟩
  unfold cnt at h
  rw [List.length_eq_zero_iff, List.filter_eq_nil_iff] at h
  have := h j (List.mem_range'_1.2 ⟨h1, h2⟩)
  simpa using this
theorem cnt_skip {m f : Nat} : ∀ (d len : Nat), (∀ j, f ≤ j → j < f + d → m.testBit j = false) → cnt m f (d + len) = cnt m (f + d) len
  | 0, len, _ => by simp
  | d + 1, len, h => by
    have ih := cnt_skip (m := m) (f := f) d (len + 1) fun j h1 h2 => h j h1 (by omega)
    rw [show d + 1 + len = d + (len + 1) by omega, ih, cnt_no _ (h (f + d) (by omega) (by omega))]
    rfl
/-- The number of a set's numbers. -/
def size (m : Nat) : Nat := (bitsOf m).length
theorem size_cnt {m n : Nat} (hn : n ≤ 32) (h : ∀ i, n ≤ i → m.testBit i = false) : size m = cnt m 0 n := by
  unfold size bitsOf cnt
  obtain ⟨d, hd⟩ : ∃ d, 32 = n + d := ⟨32 - n, by omega⟩
  rw [hd, ← List.range_eq_range', ← filter_range_lt n d m.testBit]
  congr 1
  apply List.filter_congr
  intro i _
  by_cases hi : i < n
  · simp [hi]
  · simp [hi, h i (by omega)]
theorem bits_above {m n : Nat} (h : m < 2 ^ n) : ∀ i, n ≤ i → m.testBit i = false := fun i hi => Nat.testBit_lt_two_pow (Nat.lt_of_lt_of_le h (Nat.pow_le_pow_right (by decide) hi))

/-! ### All sets of so many numbers, in their order -/
def combos (n : Nat) : Nat → Nat → Nat → List Nat
  | 0, _, c => [c]
  | k + 1, f, c => (List.range (n - (f + k))).flatMap fun d => combos n k (f + d + 1) (c ||| 2 ^ (f + d))

theorem bit_or_pow (c v i : Nat) : (c ||| 2 ^ v).testBit i = (c.testBit i || decide (v = i)) := by rw [Nat.testBit_or, Nat.testBit_two_pow]

theorem mem_combos {n : Nat} : ∀ {k f c s : Nat}, (∀ j, f ≤ j → c.testBit j = false) → f ≤ n →
    (s ∈ combos n k f c ↔ (∀ j, j < f → s.testBit j = c.testBit j) ∧ (∀ j, n ≤ j → s.testBit j = false) ∧ cnt s f (n - f) = k)
  | 0, f, c, s, hc, hf => by
    unfold combos
    rw [List.mem_singleton]
    constructor
    · rintro rfl
      exact ⟨fun _ _ => rfl, fun j hj => hc j (by omega), cnt_none fun j h1 _ => hc j h1⟩
    · rintro ⟨h1, h2, h3⟩
      apply Nat.eq_of_testBit_eq
      intro j
      by_cases hj : j < f
      · exact h1 j hj
      · rw [hc j (by omega)]
        by_cases hn : j < n
        · exact cnt_zero_iff.1 h3 j (by omega) (by omega)
        · exact h2 j (by omega)
  | k + 1, f, c, s, hc, hf => by
    unfold combos
    rw [List.mem_flatMap]
    have hc' : ∀ d, ∀ j, f + d + 1 ≤ j → (c ||| 2 ^ (f + d)).testBit j = false := fun d j hj => by
      rw [bit_or_pow, hc j (by omega), Bool.false_or, decide_eq_false_iff_not]; omega
    constructor
    · rintro ⟨d, hd, hs⟩
      rw [List.mem_range] at hd
      obtain ⟨h1, h2, h3⟩ := (mem_combos (hc' d) (by omega)).1 hs
      refine ⟨fun j hj => ?_, h2, ?_⟩
      · rw [h1 j (by omega), bit_or_pow, decide_eq_false (by omega : ¬ f + d = j), Bool.or_false]
      · have e : n - f = d + ((n - (f + d + 1)) + 1) := by omega
        rw [e, cnt_skip d _ fun j j1 j2 => by rw [h1 j (by omega), bit_or_pow, hc j j1, decide_eq_false (by omega : ¬ f + d = j)]; rfl]
        rw [cnt_yes _ (by rw [h1 (f + d) (by omega), bit_or_pow]; simp), h3]
    · rintro ⟨h1, h2, h3⟩
      have hex : ∃ d, f + d < n ∧ s.testBit (f + d) = true ∧ ∀ j, f ≤ j → j < f + d → s.testBit j = false := by
        have h0 : ∃ j, f ≤ j ∧ j < n ∧ s.testBit j = true := by
          apply Classical.byContradiction
          intro hn
          have : cnt s f (n - f) = 0 := cnt_none fun j j1 j2 => by
            cases hb : s.testBit j with
            | false => rfl
            | true => exact (hn ⟨j, j1, by omega, hb⟩).elim
          omega
        obtain ⟨j, j1, j2, j3⟩ := h0
        clear h3
        obtain ⟨d, rfl⟩ : ∃ d, j = f + d := ⟨j - f, by omega⟩
        induction d using Nat.strongRecOn with
        | _ d ih =>
          by_cases hl : ∃ d', d' < d ∧ s.testBit (f + d') = true
          · obtain ⟨d', h4, h5⟩ := hl
            exact ih d' h4 (by omega) (by omega) h5
          · refine ⟨d, j2, j3, fun j i1 i2 => ?_⟩
            cases hb : s.testBit j with
            | false => rfl
            | true => exact (hl ⟨j - f, by omega, by rw [show f + (j - f) = j by omega]; exact hb⟩).elim
      obtain ⟨d, hdn, hb, hlow⟩ := hex
      have e : n - f = d + ((n - (f + d + 1)) + 1) := by omega
      rw [e, cnt_skip d _ hlow, cnt_yes _ hb] at h3
      have hk : cnt s (f + d + 1) (n - (f + d + 1)) = k := by omega
      have hle := cnt_le s (f + d + 1) (n - (f + d + 1))
      refine ⟨d, List.mem_range.2 (by omega), (mem_combos (hc' d) (by omega)).2 ⟨fun j hj => ?_, h2, hk⟩⟩
      rw [bit_or_pow]
      by_cases hjf : j < f
      · rw [h1 j hjf, decide_eq_false (by omega : ¬ f + d = j), Bool.or_false]
      · by_cases hjd : j = f + d
        · subst hjd; rw [hb]; simp
        · rw [hlow j (by omega) (by omega), hc j (by omega), decide_eq_false (by omega : ¬ f + d = j)]; rfl

theorem combos_order {n : Nat} : ∀ {k f c : Nat}, (∀ j, f ≤ j → c.testBit j = false) → f ≤ n → (combos n k f c).Pairwise Lex
  | 0, f, c, _, _ => by unfold combos; exact List.pairwise_singleton _ _
  | k + 1, f, c, hc, hf => by
    have hc' : ∀ d, ∀ j, f + d + 1 ≤ j → (c ||| 2 ^ (f + d)).testBit j = false := fun d j hj => by
      rw [bit_or_pow, hc j (by omega), Bool.false_or, decide_eq_false_iff_not]; omega
    unfold combos
    rw [List.pairwise_flatMap]
    refine ⟨fun d hd => combos_order (hc' d) (by have := List.mem_range.1 hd; omega), ?_⟩
    refine (pairwise_range (n - (f + k))).imp_of_mem fun {d1 d2} h1 h2 hlt x hx y hy => ?_
    have h1' := List.mem_range.1 h1
    have h2' := List.mem_range.1 h2
    obtain ⟨x1, _, _⟩ := (mem_combos (hc' d1) (by omega)).1 hx
    obtain ⟨y1, _, _⟩ := (mem_combos (hc' d2) (by omega)).1 hy
    refine ⟨f + d1, ?_, ?_, fun j hj => ?_⟩
    · rw [x1 _ (by omega), bit_or_pow]; simp
    · rw [y1 _ (by omega), bit_or_pow, hc _ (by omega), decide_eq_false (by omega)]; rfl
    · rw [x1 _ (by omega), y1 _ (by omega), bit_or_pow, bit_or_pow, decide_eq_false (by omega), decide_eq_false (by omega)]

/-- The first one that fits is ahead of all others that fit. -/
theorem find_first {l : List Nat} {fit : Nat → Bool} {s : Nat} (ho : l.Pairwise Lex) (h : l.find? fit = some s) : s ∈ l ∧ fit s = true ∧ ∀ t ∈ l, fit t = true → t = s ∨ Lex s t := by
  rw [List.find?_eq_some_iff_append] at h
  obtain ⟨hf, l1, l2, rfl, has⟩ := h
  rw [List.pairwise_append] at ho
  refine ⟨by simp, hf, fun t ht hft => ?_⟩
  rw [List.mem_append, List.mem_cons] at ht
  rcases ht with ht | rfl | ht
  · have := has t ht
    rw [hft] at this
    cases this
  · exact .inl rfl
  · exact .inr ((List.pairwise_cons.1 ho.2.1).1 t ht)
theorem mem_all {n k s : Nat} (hn : n ≤ 32) : s ∈ combos n k 0 0 ↔ s < 2 ^ n ∧ size s = k := by
  rw [mem_combos (fun j _ => by simp) (Nat.zero_le _)]
  constructor
  · rintro ⟨_, h2, h3⟩
    exact ⟨Nat.lt_pow_two_of_testBit s h2, by rw [size_cnt hn h2]; exact h3⟩
  · rintro ⟨h1, h2⟩
    exact ⟨fun j hj => by omega, bits_above h1, by rw [← h2, size_cnt hn (bits_above h1)]; rfl⟩
end Go.Proofs.Ytpfhflkpnjkgkaa
/-
  Ways in a graph, plainly: what is reached from a vertex among some vertices, and the parts of a set.
-/

namespace Go.Proofs.Ytpfhflkpnjkgkaa
open Go.RowKit

/-- What is reached from v among those that p lets by; v itself always is. -/
inductive Way (n : Nat) (e : Nat → Nat → Bool) (p : Nat → Bool) (v : Nat) : Nat → Prop
  | here : Way n e p v v
  | step {a b : Nat} (h : Way n e p v a) (hb : b < n) (he : e a b = true) (hp : p b = true) : Way n e p v b

section
variable {n : Nat} {e : Nat → Nat → Bool} {p q : Nat → Bool} {u v b : Nat}
theorem Way.lt (h : Way n e p v b) (hv : v < n) : b < n := by
  cases h with
  | here => exact hv
  | step _ hb _ _ => exact hb
theorem Way.within (h : Way n e p v b) (hv : p v = true) : p b = true := by
  cases h with
  | here => exact hv
  | step _ _ _ hp => exact hp
theorem Way.trans (h1 : Way n e p u v) (h2 : Way n e p v b) : Way n e p u b := by
  induction h2 with
  | here => exact h1
  | step _ hb he hp ih => exact .step ih hb he hp
theorem Way.mono (h : Way n e p v b) (hpq : ∀ b, b < n → p b = true → b = v ∨ q b = true) : Way n e q v b := by
  induction h with
  | here => exact .here
  | step _ hb he hp ih =>
    rcases hpq _ hb hp with rfl | h
    · exact .here
    · exact .step ih hb he h
theorem Way.symm (hA : Adj n e) (h : Way n e p v b) (hv : v < n) (hpv : p v = true) : Way n e p b v := by
  induction h with
  | here => exact .here
  | @step a b h hb he hp ih =>
    have ha := h.lt hv
    exact (Way.step .here ha (by rw [hA.sym b a hb ha]; exact he) (h.within hpv)).trans ih
end

noncomputable def wayB (n : Nat) (e : Nat → Nat → Bool) (p : Nat → Bool) (v : Nat) : Nat → Bool := fun b => @decide (Way n e p v b) (Classical.propDecidable _)
theorem wayB_iff {n : Nat} {e : Nat → Nat → Bool} {p : Nat → Bool} {v b : Nat} : wayB n e p v b = true ↔ Way n e p v b := by
  exact @decide_eq_true_iff (Way n e p v b) (Classical.propDecidable _)
theorem wayB_eq {n : Nat} {e : Nat → Nat → Bool} {p q : Nat → Bool} {v : Nat} (h1 : ∀ b, b < n → p b = true → b = v ∨ q b = true) (h2 : ∀ b, b < n → q b = true → b = v ∨ p b = true) : wayB n e p v = wayB n e q v := by
  funext b
  rw [Bool.eq_iff_iff, wayB_iff, wayB_iff]
  exact ⟨fun h => h.mono h1, fun h => h.mono h2⟩

/-- A set that is reached, holds v, and is closed, is all that is reached. -/
theorem way_mask {n : Nat} {e : Nat → Nat → Bool} {p : Nat → Bool} {v m : Nat} (h0 : m.testBit v = true) (h1 : ∀ b, m.testBit b = true → b < n ∧ Way n e p v b)
    (h2 : ∀ a b, m.testBit a = true → b < n → e a b = true → p b = true → m.testBit b = true) : m = maskB n (wayB n e p v) := by
  apply Nat.eq_of_testBit_eq
  intro b
  rw [testBit_maskB, Bool.eq_iff_iff, Bool.and_eq_true, decide_eq_true_eq, wayB_iff]
  refine ⟨h1 b, fun h => ?_⟩
  replace h := h.2
  induction h with
  | here => exact h0
  | step h hb he hp ih => exact h2 _ _ ih hb he hp
theorem way_row {n : Nat} {e : Nat → Nat → Bool} {p : Nat → Bool} {v : Nat} {o : Nat → Bool} (h0 : o v = true) (h1 : ∀ b, o b = true → b < n ∧ Way n e p v b)
    (h2 : ∀ a b, o a = true → b < n → e a b = true → p b = true → o b = true) : rowB n o = rowB n (wayB n e p v) := by
  refine rowB_ext fun b hb => ?_
  rw [Bool.eq_iff_iff, wayB_iff]
  refine ⟨fun h => (h1 b h).2, fun h => ?_⟩
  clear hb
  induction h with
  | here => exact h0
  | step h hb he hp ih => exact h2 _ _ ih hb he hp

/-! ### How many -/
theorem rowB_succ_length (n : Nat) (p : Nat → Bool) : (rowB (n + 1) p).length = (rowB n p).length + if p n = true then 1 else 0 := by
  unfold rowB
  rw [List.range_succ, List.filter_append, List.map_append, List.length_append]
  by_cases h : p n = true <;> simp [h]
theorem rowB_put_length {p : Nat → Bool} {b : Nat} (h0 : p b = false) : ∀ {n : Nat}, b < n → (rowB n fun x => p x || decide (x = b)).length = (rowB n p).length + 1
  | 0, h => by omega
  | n + 1, h => by
    rw [rowB_succ_length, rowB_succ_length]
    by_cases hb : b = n
    · subst hb
      have e1 : rowB b (fun x => p x || decide (x = b)) = rowB b p := rowB_ext fun x hx => by
        have : decide (x = b) = false := by simp; omega
        rw [this, Bool.or_false]
      rw [e1]
      simp [h0]
    · have ih := rowB_put_length h0 (n := n) (by omega)
      have : decide (n = b) = false := by simp; omega
      rw [ih, this, Bool.or_false]
      omega

/-! ### The parts of a set -/
/-- Is b reached from one below j? -/
noncomputable def doneB (n : Nat) (e : Nat → Nat → Bool) (p : Nat → Bool) (j b : Nat) : Bool := (List.range j).any fun u => p u && wayB n e p u b
noncomputable def leftB (n : Nat) (e : Nat → Nat → Bool) (p : Nat → Bool) (j b : Nat) : Bool := p b && !doneB n e p j b
/-- The parts whose least vertices are below j. -/
noncomputable def partsTo (n : Nat) (e : Nat → Nat → Bool) (p : Nat → Bool) (j : Nat) : List (Nat → Bool) := ((List.range j).filter fun v => leftB n e p v v).map fun v => wayB n e p v

section
variable {n : Nat} {e : Nat → Nat → Bool} {p : Nat → Bool}
theorem doneB_iff {j b : Nat} : doneB n e p j b = true ↔ ∃ u, u < j ∧ p u = true ∧ Way n e p u b := by
  unfold doneB
  simp [wayB_iff]
theorem leftB_zero : leftB n e p 0 = p := by
  funext b
  simp [leftB, doneB]
theorem leftB_ge {j b : Nat} (h : leftB n e p j b = true) : j ≤ b ∧ p b = true := by
  unfold leftB at h
  rw [Bool.and_eq_true, Bool.not_eq_true'] at h
  refine ⟨?_, h.1⟩
  apply Classical.byContradiction
  intro hlt
  have : doneB n e p j b = true := doneB_iff.2 ⟨b, by omega, h.1, .here⟩
  rw [this] at h
  cases h.2
theorem doneB_succ (j b : Nat) : doneB n e p (j + 1) b = (doneB n e p j b || (p j && wayB n e p j b)) := by
  unfold doneB
  rw [List.range_succ, List.any_append]
  simp
theorem partsTo_zero : partsTo n e p 0 = [] := rfl
theorem partsTo_yes {j : Nat} (h : leftB n e p j j = true) : partsTo n e p (j + 1) = partsTo n e p j ++ [wayB n e p j] := by
  unfold partsTo
  rw [List.range_succ, List.filter_append, List.map_append]
  simp [h]
theorem partsTo_no {j : Nat} (h : leftB n e p j j = false) : partsTo n e p (j + 1) = partsTo n e p j := by
  unfold partsTo
  rw [List.range_succ, List.filter_append, List.map_append]
  simp [h]
theorem doneB_no {j : Nat} (h : leftB n e p j j = false) (b : Nat) : doneB n e p (j + 1) b = doneB n e p j b := by
  rw [doneB_succ]
  cases hp : p j with
  | false => simp
  | true =>
    have hd : doneB n e p j j = true := by
      unfold leftB at h
      rw [hp, Bool.true_and] at h
      simpa using h
    obtain ⟨u, hu, hpu, hw⟩ := doneB_iff.1 hd
    rw [Bool.eq_iff_iff, Bool.or_eq_true, Bool.true_and, wayB_iff]
    refine ⟨fun h => ?_, .inl⟩
    rcases h with h | h
    · exact h
    · exact doneB_iff.2 ⟨u, hu, hpu, hw.trans h⟩
/-- Over vertices that are not in the set, or have been reached, nothing new comes. -/
theorem jump {j : Nat} : ∀ (d : Nat), (∀ i, j ≤ i → i < j + d → leftB n e p i i = false) → partsTo n e p (j + d) = partsTo n e p j ∧ ∀ b, doneB n e p (j + d) b = doneB n e p j b
  | 0, _ => ⟨rfl, fun _ => rfl⟩
  | d + 1, h => by
    obtain ⟨h1, h2⟩ := jump d fun i h3 h4 => h i h3 (by omega)
    have h3 := h (j + d) (by omega) (by omega)
    exact ⟨(partsTo_no h3).trans h1, fun b => (doneB_no h3 b).trans (h2 b)⟩
/-- The same from what is left at the start. -/
theorem jumpLeft {j l : Nat} (hjl : j ≤ l) (h : ∀ i, j ≤ i → i < l → leftB n e p j i = false) : partsTo n e p l = partsTo n e p j ∧ ∀ b, doneB n e p l b = doneB n e p j b := by
  obtain ⟨d, rfl⟩ : ∃ d, l = j + d := ⟨l - j, by omega⟩
  clear hjl
  induction d with
  | zero => exact ⟨rfl, fun _ => rfl⟩
  | succ d ih =>
    obtain ⟨h1, h2⟩ := ih fun i h3 h4 => h i h3 (by omega)
    have h3 : leftB n e p (j + d) (j + d) = false := by
      have := h (j + d) (by omega) (by omega)
      unfold leftB at this ⊢
      rw [h2]; exact this
    exact ⟨(partsTo_no h3).trans h1, fun b => (doneB_no h3 b).trans (h2 b)⟩
theorem leftB_of_done {j l : Nat} (h : ∀ b, doneB n e p l b = doneB n e p j b) : leftB n e p l = leftB n e p j := by
  funext b
  unfold leftB
  rw [h]
theorem leftB_yes {j : Nat} (h : leftB n e p j j = true) (b : Nat) : leftB n e p (j + 1) b = (leftB n e p j b && !wayB n e p j b) := by
  have hp := (leftB_ge h).2
  unfold leftB
  rw [doneB_succ, hp, Bool.true_and, Bool.not_or, Bool.and_assoc]
/-- Among what is left the same is reached. -/
theorem wayB_left (hA : Adj n e) (hpn : ∀ b, p b = true → b < n) {j : Nat} (h : leftB n e p j j = true) : wayB n e (leftB n e p j) j = wayB n e p j := by
  have hp := (leftB_ge h).2
  have hn := hpn j hp
  funext b
  rw [Bool.eq_iff_iff, wayB_iff, wayB_iff]
  refine ⟨fun h => h.mono fun b _ h => .inr (leftB_ge h).2, fun hw => ?_⟩
  induction hw with
  | here => exact .here
  | @step a b hw hb he hpb ih =>
    refine .step ih hb he ?_
    unfold leftB
    rw [hpb, Bool.true_and, Bool.not_eq_true', ← Bool.not_eq_true]
    intro hd
    obtain ⟨u, hu, hpu, huw⟩ := doneB_iff.1 hd
    have hjb : Way n e p j b := .step hw hb he hpb
    have : doneB n e p j j = true := doneB_iff.2 ⟨u, hu, hpu, huw.trans (hjb.symm hA hn hp)⟩
    unfold leftB at h
    rw [this] at h
    simp at h
theorem partsTo_length (j : Nat) : (partsTo n e p j).length ≤ j := by
  unfold partsTo
  rw [List.length_map]
  exact Nat.le_trans (List.length_filter_le _ _) (by simp)
end

/-! ### Through a row that rises -/
theorem rising_at {xs : List Int} (h : xs.Pairwise (· < ·)) {i j : Nat} {x y : Int} (hi : xs[i]? = some x) (hj : xs[j]? = some y) (hij : i < j) : x < y := by
  obtain ⟨h1, rfl⟩ := List.getElem?_eq_some_iff.1 hi
  obtain ⟨h2, rfl⟩ := List.getElem?_eq_some_iff.1 hj
  exact List.pairwise_iff_getElem.1 h i j h1 h2 hij
theorem mem_take_iff {xs : List Int} {k : Nat} {x : Int} : x ∈ xs.take k ↔ ∃ i, i < k ∧ xs[i]? = some x := by
  rw [List.mem_iff_getElem?]
  constructor
  · rintro ⟨i, hi⟩
    rw [List.getElem?_take] at hi
    split at hi
    · exact ⟨i, by assumption, hi⟩
    · cases hi
  · rintro ⟨i, hi, h⟩
    exact ⟨i, by rw [List.getElem?_take, if_pos hi]; exact h⟩
/-- J stands just behind the first k numbers of the row. -/
def Past (n : Nat) (p : Nat → Bool) (k J : Nat) : Prop := ∀ b, b < n → p b = true → (b < J ↔ (b : Int) ∈ (rowB n p).take k)
theorem Past.start (n : Nat) (p : Nat → Bool) : Past n p 0 0 := fun b _ _ => by simp
theorem Past.next {n : Nat} {p : Nat → Bool} {k J y : Nat} (hJ : Past n p k J) (h : (rowB n p)[k]? = some (y : Int)) : J ≤ y ∧ (∀ b, J ≤ b → b < y → p b = false) ∧ Past n p (k + 1) (y + 1) := by
  obtain ⟨y', hy, hpy, e⟩ := mem_rowB.1 (List.mem_of_getElem? h)
  obtain rfl : y = y' := by omega
  have hr := rowB_rising n p
  have h1 : J ≤ y := by
    apply Classical.byContradiction
    intro hlt
    obtain ⟨i, hi, hx⟩ := mem_take_iff.1 ((hJ y hy hpy).1 (by omega))
    have := rising_at hr hx h hi
    omega
  have h2 : ∀ b, J ≤ b → b < y → p b = false := by
    intro b hb hby
    cases hp : p b with
    | false => rfl
    | true =>
      exfalso
      obtain ⟨i, hi⟩ := List.mem_iff_getElem?.1 (nat_mem_rowB.2 ⟨(by omega : b < n), hp⟩)
      have hik : ¬ i < k := fun h => by
        have := (hJ b (by omega) hp).2 (mem_take_iff.2 ⟨i, h, hi⟩)
        omega
      by_cases he : i = k
      · subst he
        rw [h] at hi
        have := Option.some.inj hi
        omega
      · have := rising_at hr h hi (by omega)
        omega
  refine ⟨h1, h2, fun b hb hp => ?_⟩
  constructor
  · intro hlt
    by_cases hby : b = y
    · subst hby; exact mem_take_iff.2 ⟨k, by omega, h⟩
    · have hbJ : b < J := by
        apply Classical.byContradiction
        intro hn
        have := h2 b (by omega) (by omega)
        rw [hp] at this
        cases this
      obtain ⟨i, hi, hx⟩ := mem_take_iff.1 ((hJ b hb hp).1 hbJ)
      exact mem_take_iff.2 ⟨i, by omega, hx⟩
  · intro hm
    obtain ⟨i, hi, hx⟩ := mem_take_iff.1 hm
    by_cases hik : i = k
    · subst hik
      rw [h] at hx
      have := Option.some.inj hx
      omega
    · have := (hJ b hb hp).2 (mem_take_iff.2 ⟨i, by omega, hx⟩)
      omega
theorem Past.done {n : Nat} {p : Nat → Bool} {J : Nat} (hJ : Past n p (rowB n p).length J) : ∀ b, J ≤ b → b < n → p b = false := by
  intro b h1 h2
  cases hp : p b with
  | false => rfl
  | true =>
    have := (hJ b h2 hp).2 (by rw [List.take_length]; exact nat_mem_rowB.2 ⟨h2, hp⟩)
    omega
end Go.Proofs.Ytpfhflkpnjkgkaa
/-
  Sets as masks and as rising rows: 'list' and 'numbers' of a mask, 'l1Into' of a row, in their normal forms.
-/



namespace Go.Proofs.Ytpfhflkpnjkgkaa
open Go.RowKit

theorem into_rowB {n : Nat} (hn : n ≤ 32) (o : Nat → Bool) {q : Nat} (hq : q < n) : into (rowB n o) (q : Int) = rowB n fun b => o b || decide (b = q) := by
  rw [← nums_maskB hn o, into_nums _ q (by omega), pow_maskB hq]
  have h : maskB n o ||| maskB n (fun i => decide (i = q)) = maskB n fun b => o b || decide (b = q) := by
    apply Nat.eq_of_testBit_eq
    intro i
    rw [Nat.testBit_or, testBit_maskB, testBit_maskB, testBit_maskB]
    cases decide (i < n) <;> simp
  rw [h, nums_maskB hn]
theorem inL_rowB {n : Nat} {p : Nat → Bool} {b : Nat} (hb : b < n) : inL (rowB n p) b = p b := by
  unfold inL
  rw [Bool.eq_iff_iff, decide_eq_true_eq, nat_mem_rowB]
  exact ⟨fun h => h.2, fun h => ⟨hb, h⟩⟩
theorem inL_nil (b : Nat) : inL [] b = false := by simp [inL]

/-- An element of a rising row, as a number. -/
theorem row_at {n : Nat} {p : Nat → Bool} {j : Nat} {x : Int} (h : (rowB n p)[j]? = some x) : ∃ q : Nat, q < n ∧ p q = true ∧ x = q := by
  obtain ⟨q, h1, h2, h3⟩ := mem_rowB.1 (List.mem_of_getElem? h)
  exact ⟨q, h1, h2, h3⟩
/-- Bits of two masks, as they are computed. -/
theorem mask_and {n : Nat} (hn : n ≤ 32) (p q : Nat → Bool) : bits BinOp.and IntKind.u32 ((maskB n p : Nat) : Int) ((maskB n q : Nat) : Int) = ((maskB n (fun i => p i && q i) : Nat) : Int) := by
  rw [maskB_and hn p (maskB_small hn q)]
  congr 1
  exact maskB_ext fun i hi => by rw [testBit_maskB]; simp [hi]
theorem mask_andNot {n : Nat} (hn : n ≤ 32) (p q : Nat → Bool) : bits BinOp.andNot IntKind.u32 ((maskB n p : Nat) : Int) ((maskB n q : Nat) : Int) = ((maskB n (fun i => p i && !q i) : Nat) : Int) := by
  rw [maskB_andNot hn p (maskB_small hn q)]
  congr 1
  exact maskB_ext fun i hi => by rw [testBit_maskB]; simp [hi]
theorem mask_eq_iff {n : Nat} {p q : Nat → Bool} : maskB n p = maskB n q ↔ ∀ i, i < n → p i = q i := by
  refine ⟨fun h i hi => ?_, maskB_ext⟩
  have := testBit_maskB n p i
  rw [h, testBit_maskB] at this
  simpa [hi] using this.symm
end Go.Proofs.Ytpfhflkpnjkgkaa
/-
  The reference's sets as bits of int64: 'l25Many', 'l25Less', 'l25All', 'l25Set'.
-/



namespace Go.Proofs.Ytpfhflkpnjkgkaa
open Go.RowKit

theorem i64_and_nat (a b : Nat) (ha : a < 4294967296) (hb : b < 4294967296) : bits .and .i64 (a : Int) (b : Int) = ((a &&& b : Nat) : Int) := by
  have hx : a &&& b < 2 ^ 32 := Nat.and_lt_two_pow _ (by omega)
  show IntKind.i64.wrap ((BitVec.ofInt 64 (a : Int) &&& BitVec.ofInt 64 (b : Int)).toNat : Int) = _
  rw [BitVec.toNat_and, ofInt_u64 a (by omega), ofInt_u64 b (by omega), IntKind.wrap_i64]
  omega
theorem i64_or_nat (a b : Nat) (ha : a < 4294967296) (hb : b < 4294967296) : bits .or .i64 (a : Int) (b : Int) = ((a ||| b : Nat) : Int) := by
  have hx : a ||| b < 2 ^ 32 := Nat.or_lt_two_pow (by omega) (by omega)
  show IntKind.i64.wrap ((BitVec.ofInt 64 (a : Int) ||| BitVec.ofInt 64 (b : Int)).toNat : Int) = _
  rw [BitVec.toNat_or, ofInt_u64 a (by omega), ofInt_u64 b (by omega), IntKind.wrap_i64]
  omega
theorem i64_xor_nat (a b : Nat) (ha : a < 4294967296) (hb : b < 4294967296) : bits .xor .i64 (a : Int) (b : Int) = ((a ^^^ b : Nat) : Int) := by
  have hx : a ^^^ b < 2 ^ 32 := Nat.xor_lt_two_pow (by omega) (by omega)
  show IntKind.i64.wrap ((BitVec.ofInt 64 (a : Int) ^^^ BitVec.ofInt 64 (b : Int)).toNat : Int) = _
  rw [BitVec.toNat_xor, ofInt_u64 a (by omega), ofInt_u64 b (by omega), IntKind.wrap_i64]
  omega
theorem i64_andNot_nat (a b : Nat) (ha : a < 4294967296) (hb : b < 4294967296) : bits .andNot .i64 (a : Int) (b : Int) = ((a &&& (4294967295 - b) : Nat) : Int) := by
  have e1 : a &&& (18446744073709551615 - b) = a &&& (4294967295 - b) := by
    apply Nat.eq_of_testBit_eq
    intro i
    have h1 := Nat.testBit_two_pow_sub_succ (x := b) (n := 64) (by omega) i
    have h2 := Nat.testBit_two_pow_sub_succ (x := b) (n := 32) (by omega) i
    rw [show 2 ^ 64 - (b + 1) = 18446744073709551615 - b by omega] at h1
    rw [show 2 ^ 32 - (b + 1) = 4294967295 - b by omega] at h2
    rw [Nat.testBit_and, Nat.testBit_and, h1, h2]
    by_cases hi : i < 32
    · simp [hi, show i < 64 by omega]
    · have : a.testBit i = false := Nat.testBit_lt_two_pow (Nat.lt_of_lt_of_le (show a < 2 ^ 32 by omega) (Nat.pow_le_pow_right (by decide) (by omega)))
      simp [this]
  have hx : a &&& (4294967295 - b) < 2 ^ 32 := Nat.and_lt_two_pow _ (by omega)
  show IntKind.i64.wrap ((BitVec.ofInt 64 (a : Int) &&& ~~~BitVec.ofInt 64 (b : Int)).toNat : Int) = _
  rw [BitVec.toNat_and, BitVec.toNat_not, ofInt_u64 a (by omega), ofInt_u64 b (by omega), IntKind.wrap_i64]
  have e : 2 ^ 64 - 1 - b = 18446744073709551615 - b := by omega
  rw [e, e1]
  omega
theorem and_neg_low64 {m : Nat} (h0 : m ≠ 0) (h : m < 4294967296) : m &&& (18446744073709551616 - m) = 2 ^ low m := by
  rw [← and_neg_low h0 (by rw [two32]; exact h)]
  apply Nat.eq_of_testBit_eq
  intro i
  rw [Nat.testBit_and, Nat.testBit_and]
  by_cases hi : i < 32
  · congr 1
    have e : (2 ^ 32 - m) = (18446744073709551616 - m) % 2 ^ 32 := by omega
    rw [e, Nat.testBit_mod_two_pow]
    simp [hi]
  · have : m.testBit i = false := Nat.testBit_lt_two_pow (Nat.lt_of_lt_of_le (show m < 2 ^ 32 by omega) (Nat.pow_le_pow_right (by decide) (by omega)))
    simp [this]
theorem i64_and_neg {m : Nat} (h0 : m ≠ 0) (h : m < 4294967296) : bits .and .i64 (m : Int) (-(m : Int)) = ((2 ^ low m : Nat) : Int) := by
  show IntKind.i64.wrap ((BitVec.ofInt 64 (m : Int) &&& BitVec.ofInt 64 (-(m : Int))).toNat : Int) = _
  have e : (BitVec.ofInt 64 (-(m : Int))).toNat = 18446744073709551616 - m := by
    rw [BitVec.toNat_ofInt]
    omega
  rw [BitVec.toNat_and, ofInt_u64 m (by omega), e, and_neg_low64 h0 h, IntKind.wrap_i64]
  have := (low_spec h0 (by rw [two32]; exact h)).1
  have h2 : 2 ^ low m < 2 ^ 32 := Nat.pow_lt_pow_right (by decide) this
  generalize 2 ^ low m = q at *
  omega

theorem bit_and_pow (a i : Nat) : a &&& 2 ^ i = if a.testBit i = true then 2 ^ i else 0 := by
  apply Nat.eq_of_testBit_eq
  intro j
  rw [Nat.testBit_and, Nat.testBit_two_pow]
  by_cases h : i = j
  · subst h
    cases ha : a.testBit i <;> simp
  · cases ha : a.testBit i <;> simp [h]
/-- Is one set ahead of the other, as it is computed? -/
def lexB (a b : Nat) : Bool := decide (a ≠ b) && a.testBit (low (a ^^^ b))
theorem lexB_iff {a b : Nat} (ha : a < 4294967296) (hb : b < 4294967296) : lexB a b = true ↔ Lex a b := by
  unfold lexB
  rw [Bool.and_eq_true, decide_eq_true_eq]
  have hx : a ^^^ b < 2 ^ 32 := Nat.xor_lt_two_pow (by omega) (by omega)
  have hxb : ∀ i, (a ^^^ b).testBit i = (a.testBit i != b.testBit i) := fun i => Nat.testBit_xor ..
  constructor
  · rintro ⟨hne, hl⟩
    have h0 : a ^^^ b ≠ 0 := fun h => hne (by
      apply Nat.eq_of_testBit_eq
      intro i
      have := hxb i
      rw [h, Nat.zero_testBit] at this
      simpa using this.symm)
    obtain ⟨_, h1, h2⟩ := low_spec h0 hx
    rw [hxb] at h1
    exact ⟨_, hl, by rw [hl] at h1; simpa using h1, fun j hj => by have := h2 j hj; rw [hxb] at this; simpa using this⟩
  · rintro ⟨i, h1, h2, h3⟩
    have h0 : a ^^^ b ≠ 0 := fun h => by
      have := hxb i
      rw [h, Nat.zero_testBit, h1, h2] at this
      cases this
    refine ⟨fun h => (by rw [h, h2] at h1; cases h1), ?_⟩
    obtain ⟨_, g1, g2⟩ := low_spec h0 hx
    have : low (a ^^^ b) = i := by
      rcases Nat.lt_trichotomy (low (a ^^^ b)) i with hlt | heq | hlt
      · rw [hxb, h3 _ hlt] at g1; simp at g1
      · exact heq
      · have := g2 i hlt
        rw [hxb, h1, h2] at this
        cases this
    rw [this]; exact h1

/-- The reference's bits of a graph. -/
def natL (ms : List Nat) : List Int := ms.map fun (m : Nat) => (m : Int)
theorem natL_length (ms : List Nat) : (natL ms).length = ms.length := by simp [natL]
theorem shr_bit {m v : Nat} (hm : m < 4294967296) : (bits BinOp.and IntKind.i64 ((m : Int) / 2 ^ v) 1 == 1) = m.testBit v := by
  have hz : m / 2 ^ v ≤ m := Nat.div_le_self _ _
  have h1 : ((m : Int) / 2 ^ v) = ((m / 2 ^ v : Nat) : Int) := by simp
  rw [h1, show (1 : Int) = ((1 : Nat) : Int) from rfl, i64_and_nat (m / 2 ^ v) 1 (by omega) (by decide), Nat.and_one_is_mod, Nat.testBit_eq_decide_div_mod_eq, Bool.eq_iff_iff]
  simp
  omega

end Go.Proofs.Ytpfhflkpnjkgkaa
