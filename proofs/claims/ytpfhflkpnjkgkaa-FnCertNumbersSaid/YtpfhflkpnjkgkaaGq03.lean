import Derived.Deep.QuietTactic
import Derived.BigQuiet
import Derived.IntWalk
import Derived.Test.YtpfhflkpnjkgkaaGq02
/-
  The plain law of 'l1Link' and 'join': rows kept as lists and as sets stay alike.
-/

namespace Go.Proofs.Ytpfhflkpnjkgkaa
open Go.RowKit

theorem into_above (xs : List Nat) (v : Nat) (h : ∀ x ∈ xs, v < x) : into (xs.map fun (i : Nat) => (i : Int)) v = ((v :: xs).map fun (i : Nat) => (i : Int)) := by
  cases xs with
  | nil => simp [into]
  | cons x r =>
    have := h x (by simp)
    simp only [List.map_cons, into]
    rw [if_neg (by omega), if_neg (by omega)]

theorem into_filter (p : Nat → Bool) (v : Nat) : ∀ (n a : Nat), a ≤ v → v < a + n →
    into (((List.range' a n).filter p).map fun (i : Nat) => (i : Int)) v = ((List.range' a n).filter fun i => p i || decide (i = v)).map fun (i : Nat) => (i : Int)
  | 0, a, h1, h2 => by omega
  | n + 1, a, h1, h2 => by
    rw [List.range'_succ]
    by_cases hv : a = v
    · subst hv
      have hrest : (List.range' (a + 1) n).filter (fun i => p i || decide (i = a)) = (List.range' (a + 1) n).filter p := by
        apply List.filter_congr
        intro i hi
        have := (List.mem_range'_1.1 hi).1
        have : ¬ i = a := by omega
        simp [this]
      by_cases hp : p a = true
      · rw [List.filter_cons_of_pos hp, List.filter_cons_of_pos (by simp), hrest]
        simp [into]
      · rw [List.filter_cons_of_neg hp, List.filter_cons_of_pos (by simp), hrest]
        refine into_above _ _ fun x hx => ?_
        have := (List.mem_range'_1.1 (List.mem_filter.1 hx).1).1
        omega
    · have ih := into_filter p v n (a + 1) (by omega) (by omega)
      have hd : (p a || decide (a = v)) = p a := by simp [hv]
      by_cases hp : p a = true
      · rw [List.filter_cons_of_pos hp, List.filter_cons_of_pos (by rw [hd]; exact hp), List.map_cons, List.map_cons, into, if_pos (by omega), ih]
      · rw [List.filter_cons_of_neg hp, List.filter_cons_of_neg (by rw [hd]; exact hp), ih]

theorem into_nums (m v : Nat) (hv : v < 32) : into (nums m) v = nums (m ||| 2 ^ v) := by
  unfold nums bitsOf
  rw [List.range_eq_range', into_filter m.testBit v 32 0 (by omega) (by omega)]
  congr 2
  funext i
  rw [Nat.testBit_or, Nat.testBit_two_pow]
  congr 1
  exact decide_eq_decide.2 eq_comm

theorem getD_rowsOf (ms : List Nat) (u : Nat) (hu : u < ms.length) : (rowsOf ms).getD u [] = nums (ms.getD u 0) := by
  simp [rowsOf, List.getD, hu]
theorem rowsOf_set (ms : List Nat) (u x : Nat) : (rowsOf ms).set u (nums x) = rowsOf (ms.set u x) := by simp [rowsOf, List.map_set]
@[simp] theorem rowsOf_length (ms : List Nat) : (rowsOf ms).length = ms.length := by simp [rowsOf]

theorem link_rowsOf (ms : List Nat) (u v : Nat) (hu : u < ms.length) (hv : v < ms.length) (hu2 : u < 32) (hv2 : v < 32) : link (rowsOf ms) u v = rowsOf (joinS ms u v) := by
  unfold link joinS
  simp only
  rw [getD_rowsOf _ _ hu, into_nums _ _ hv2, rowsOf_set, getD_rowsOf _ _ (by simpa using hv), into_nums _ _ hu2, rowsOf_set]

theorem rowsOf_short (ms : List Nat) : ∀ xs ∈ rowsOf ms, xs.length < 1000 := by
  intro xs hx
  obtain ⟨m, _, rfl⟩ := List.mem_map.1 hx
  have := nums_length m
  omega

theorem rowsOf_zeros (n : Nat) : rowsOf (List.replicate n 0) = List.replicate n [] := by
  simp [rowsOf, nums, bitsOf_zero]

/-- 'l1Link' over rows that are sets. -/
theorem link_sets (base : Nat) (v : Value) (vs0 : List Value) (ms : List Nat) (i j : Nat) (I J : Int) (hI : I = i) (hJ : J = j) (w : World) (hi : i < ms.length) (hj : j < ms.length) (hi2 : i < 32) (hj2 : j < 32) (hm : ms.length ≤ 1000)
    (hbase : base ≤ w.heap.size) (h : OwnG w base 26 2 v vs0 ((rowsOf ms).map ints)) :
    Calls Try.prog 60 #[.agg #[v], .int .i64 I, .int .i64 J] w fun e w' => ∃ vs', e = .returned (.agg #[v]) ∧
      OwnG w' base 26 2 v vs' ((rowsOf (joinS ms i j)).map ints) ∧ Wrote w w' (fun b => v.ownBlock = some b) := by
  subst hI; subst hJ
  rw [← link_rowsOf ms i j hi hj hi2 hj2]
  exact link_any base v vs0 (rowsOf ms) i j w (by simpa using hi) (by simpa using hj) (rowsOf_short ms) (by simp; omega) hbase h

/-- Rows that are sets hold few numbers. -/
theorem total_rowsOf (ms : List Nat) : ((rowsOf ms).map List.length).sum ≤ 32 * ms.length := by
  induction ms with
  | nil => simp [rowsOf]
  | cons m ms ih =>
    have := nums_length m
    simp only [rowsOf, List.map_cons, List.sum_cons, List.length_cons] at ih ⊢
    omega

/-- The nets of a star. -/
def starM (n k : Nat) : List Nat := (List.range k).foldl (fun ms v => joinS ms 0 (v + 1)) (List.replicate (n + 1) 0)
theorem starM_succ (n k : Nat) : starM n (k + 1) = joinS (starM n k) 0 (k + 1) := by simp [starM, List.range_succ]
@[simp] theorem starM_length (n k : Nat) : (starM n k).length = n + 1 := by
  induction k with
  | zero => simp [starM]
  | succ k ih => rw [starM_succ, joinS_length, ih]
theorem starM_small (n k : Nat) (hk : k < 32) : Small (starM n k) := by
  induction k with
  | zero => exact small_zeros _
  | succ k ih => rw [starM_succ]; exact (ih (by omega)).join (by omega) hk
end Go.Proofs.Ytpfhflkpnjkgkaa
/-
  Valid graphs, plainly: rows that are given by a yes-no function of two vertices.
-/

namespace Go.Proofs.Ytpfhflkpnjkgkaa
open Go.RowKit

/-- The numbers below n that p lets by. -/
def rowB (n : Nat) (p : Nat → Bool) : List Int := ((List.range n).filter p).map fun (i : Nat) => (i : Int)
def rowsB (n : Nat) (f : Nat → Nat → Bool) : List (List Int) := (List.range n).map fun u => rowB n (f u)
/-- The same as a set. -/
def maskB (n : Nat) (p : Nat → Bool) : Nat := ((List.range n).filter p).foldl (fun m i => m ||| 2 ^ i) 0
def NB (n : Nat) (f : Nat → Nat → Bool) : List Nat := (List.range n).map fun u => maskB n (f u)

theorem testBit_fold (l : List Nat) (m i : Nat) : (l.foldl (fun m i => m ||| 2 ^ i) m).testBit i = (m.testBit i || decide (i ∈ l)) := by
  induction l generalizing m with
  | nil => simp
  | cons a l ih =>
    rw [List.foldl_cons, ih, Nat.testBit_or, Nat.testBit_two_pow, Bool.or_assoc]
    congr 1
    rw [Bool.eq_iff_iff, Bool.or_eq_true, decide_eq_true_eq, decide_eq_true_eq, decide_eq_true_eq, List.mem_cons]
    constructor
    · rintro (h | h)
      · exact .inl h.symm
      · exact .inr h
    · rintro (h | h)
      · exact .inl h.symm
      · exact .inr h

theorem testBit_maskB (n : Nat) (p : Nat → Bool) (i : Nat) : (maskB n p).testBit i = (decide (i < n) && p i) := by
  unfold maskB
  rw [testBit_fold, Bool.eq_iff_iff]
  simp

theorem lt_of_bits {m n : Nat} (h : ∀ i, n ≤ i → m.testBit i = false) : m < 2 ^ n := Nat.lt_pow_two_of_testBit m fun i hi => h i hi
theorem lt32_of_bits {m n : Nat} (hn : n ≤ 32) (h : ∀ i, n ≤ i → m.testBit i = false) : m < 4294967296 := by
  have := lt_of_bits (n := 32) (m := m) fun i hi => h i (by omega)
  rwa [two32] at this
theorem maskB_small {n : Nat} (hn : n ≤ 32) (p : Nat → Bool) : maskB n p < 4294967296 :=
  lt32_of_bits hn fun i hi => by rw [testBit_maskB]; simp; omega

theorem filter_range_lt (n d : Nat) (p : Nat → Bool) : (List.range (n + d)).filter (fun i => decide (i < n) && p i) = (List.range n).filter p := by
  rw [List.range_add, List.filter_append]
  have h2 : (List.map (fun x => n + x) (List.range d)).filter (fun i => decide (i < n) && p i) = [] := by
    rw [List.filter_eq_nil_iff]
    intro a ha
    obtain ⟨b, _, rfl⟩ := List.mem_map.1 ha
    have : ¬ n + b < n := by omega
    simp [this]
  rw [h2, List.append_nil]
  apply List.filter_congr
  intro i hi
  simp [List.mem_range.1 hi]

theorem bitsOf_maskB {n : Nat} (hn : n ≤ 32) (p : Nat → Bool) : bitsOf (maskB n p) = (List.range n).filter p := by
  unfold bitsOf
  obtain ⟨d, hd⟩ : ∃ d, 32 = n + d := ⟨32 - n, by omega⟩
  rw [hd, ← filter_range_lt n d p]
  apply List.filter_congr
  intro i _
  exact testBit_maskB n p i
theorem nums_maskB {n : Nat} (hn : n ≤ 32) (p : Nat → Bool) : nums (maskB n p) = rowB n p := by
  unfold nums rowB
  rw [bitsOf_maskB hn]
theorem rowsOf_NB {n : Nat} (hn : n ≤ 32) (f : Nat → Nat → Bool) : rowsOf (NB n f) = rowsB n f := by
  unfold rowsOf NB rowsB
  rw [List.map_map]
  apply List.map_congr_left
  intro u _
  exact nums_maskB hn _

@[simp] theorem NB_length (n : Nat) (f : Nat → Nat → Bool) : (NB n f).length = n := by simp [NB]
@[simp] theorem rowsB_length (n : Nat) (f : Nat → Nat → Bool) : (rowsB n f).length = n := by simp [rowsB]
theorem NB_getD {n u : Nat} (f : Nat → Nat → Bool) (hu : u < n) : (NB n f).getD u 0 = maskB n (f u) := by simp [NB, List.getD, hu]
theorem rowsB_getD {n u : Nat} (f : Nat → Nat → Bool) (hu : u < n) : (rowsB n f).getD u [] = rowB n (f u) := by simp [rowsB, List.getD, hu]
theorem rowsB_at {n u : Nat} (f : Nat → Nat → Bool) (hu : u < n) : (rowsB n f)[u]? = some (rowB n (f u)) := by simp [rowsB, hu]
theorem NB_at {n u : Nat} (f : Nat → Nat → Bool) (hu : u < n) : (NB n f)[u]? = some (maskB n (f u)) := by simp [NB, hu]
theorem NB_small {n : Nat} (hn : n ≤ 32) (f : Nat → Nat → Bool) : Small (NB n f) := by
  intro m hm
  obtain ⟨u, _, rfl⟩ := List.mem_map.1 hm
  exact maskB_small hn _

theorem rowB_ext {n : Nat} {p q : Nat → Bool} (h : ∀ i, i < n → p i = q i) : rowB n p = rowB n q := by
  unfold rowB
  rw [List.filter_congr fun i hi => h i (List.mem_range.1 hi)]
theorem maskB_ext {n : Nat} {p q : Nat → Bool} (h : ∀ i, i < n → p i = q i) : maskB n p = maskB n q := by
  unfold maskB
  rw [List.filter_congr fun i hi => h i (List.mem_range.1 hi)]
theorem rowsB_ext {n : Nat} {f g : Nat → Nat → Bool} (h : ∀ u v, u < n → v < n → f u v = g u v) : rowsB n f = rowsB n g := by
  unfold rowsB
  apply List.map_congr_left
  intro u hu
  exact rowB_ext fun v hv => h u v (List.mem_range.1 hu) hv
theorem NB_ext {n : Nat} {f g : Nat → Nat → Bool} (h : ∀ u v, u < n → v < n → f u v = g u v) : NB n f = NB n g := by
  unfold NB
  apply List.map_congr_left
  intro u hu
  exact maskB_ext fun v hv => h u v (List.mem_range.1 hu) hv

/-- Sets that say what f says. -/
theorem eq_NB {ms : List Nat} {n : Nat} {f : Nat → Nat → Bool} (hl : ms.length = n) (h : ∀ u v, u < n → (ms.getD u 0).testBit v = (decide (v < n) && f u v)) : ms = NB n f := by
  apply List.ext_getElem (by simpa using hl)
  intro u h1 h2
  apply Nat.eq_of_testBit_eq
  intro v
  have hu : u < n := by omega
  have e1 : ms[u] = ms.getD u 0 := by simp [List.getD, h1]
  have e2 : (NB n f)[u] = maskB n (f u) := by simp [NB]
  rw [e1, e2, h u v hu, testBit_maskB]

theorem getD_set (ms : List Nat) (u a x : Nat) (hu : u < ms.length) : (ms.set u x).getD a 0 = if a = u then x else ms.getD a 0 := by
  simp only [List.getD, List.getElem?_set]
  by_cases h : a = u
  · subst h; simp [hu]
  · rw [if_neg (fun e => h e.symm), if_neg h]

theorem testBit_joinS (ms : List Nat) (u v a b : Nat) (hu : u < ms.length) (hv : v < ms.length) :
    ((joinS ms u v).getD a 0).testBit b = ((ms.getD a 0).testBit b || (decide (a = u) && decide (b = v)) || (decide (a = v) && decide (b = u))) := by
  unfold joinS
  simp only
  rw [getD_set _ _ _ _ (by simpa using hv), getD_set _ _ _ _ hu, getD_set _ _ _ _ hu]
  by_cases h1 : a = v
  · subst h1
    by_cases h2 : a = u
    · subst h2
      simp [Nat.testBit_or, Nat.testBit_two_pow, eq_comm]
    · simp [Nat.testBit_or, Nat.testBit_two_pow, h2, eq_comm]
  · by_cases h2 : a = u
    · subst h2
      simp [Nat.testBit_or, Nat.testBit_two_pow, h1, eq_comm]
    · simp [h1, h2]

/-- One more edge. -/
def plus (f : Nat → Nat → Bool) (u v : Nat) : Nat → Nat → Bool := fun a b => f a b || (decide (a = u) && decide (b = v)) || (decide (a = v) && decide (b = u))
theorem joinS_NB {n : Nat} (f : Nat → Nat → Bool) {u v : Nat} (hu : u < n) (hv : v < n) : joinS (NB n f) u v = NB n (plus f u v) := by
  refine eq_NB (by simp) fun a b ha => ?_
  rw [testBit_joinS _ _ _ _ _ (by simpa using hu) (by simpa using hv), NB_getD f ha, testBit_maskB]
  unfold plus
  by_cases hb : b < n
  · simp [hb]
  · have h1 : ¬ b = v := by omega
    have h2 : ¬ b = u := by omega
    simp [hb, h1, h2]
theorem NB_zeros (n : Nat) : NB n (fun _ _ => false) = List.replicate n 0 := by
  apply List.ext_getElem (by simp)
  intro u h1 h2
  have e : (List.range n).filter (fun _ => false) = [] := List.filter_eq_nil_iff.2 (by simp)
  simp [NB, maskB, e]
theorem rowsB_zeros (n : Nat) : rowsB n (fun _ _ => false) = List.replicate n [] := by
  apply List.ext_getElem (by simp)
  intro u h1 h2
  have e : (List.range n).filter (fun _ => false) = [] := List.filter_eq_nil_iff.2 (by simp)
  simp [rowsB, rowB, e]

/-! ### Valid rows -/
theorem mem_rowB {n : Nat} {p : Nat → Bool} {x : Int} : x ∈ rowB n p ↔ ∃ i, i < n ∧ p i = true ∧ x = (i : Int) := by
  simp only [rowB, List.mem_map, List.mem_filter, List.mem_range]
  constructor
  · rintro ⟨i, ⟨h1, h2⟩, rfl⟩; exact ⟨i, h1, h2, rfl⟩
  · rintro ⟨i, h1, h2, rfl⟩; exact ⟨i, ⟨h1, h2⟩, rfl⟩
theorem nat_mem_rowB {n : Nat} {p : Nat → Bool} {i : Nat} : (i : Int) ∈ rowB n p ↔ i < n ∧ p i = true := by
  rw [mem_rowB]
  constructor
  · rintro ⟨j, h1, h2, h3⟩
    obtain rfl : i = j := by omega
    exact ⟨h1, h2⟩
  · rintro ⟨h1, h2⟩; exact ⟨i, h1, h2, rfl⟩
theorem contains_rowB {n : Nat} {p : Nat → Bool} {i : Nat} : (rowB n p).contains (i : Int) = (decide (i < n) && p i) := by
  rw [Bool.eq_iff_iff, List.contains_iff_mem, nat_mem_rowB]
  simp
theorem rowB_length (n : Nat) (p : Nat → Bool) : (rowB n p).length ≤ n := by
  unfold rowB
  rw [List.length_map]
  exact Nat.le_trans (List.length_filter_le _ _) (by simp)

theorem pairwise_range (n : Nat) : (List.range n).Pairwise (· < ·) := List.pairwise_lt_range
theorem rowB_rising (n : Nat) (p : Nat → Bool) : (rowB n p).Pairwise (· < ·) := by
  unfold rowB
  rw [List.pairwise_map]
  refine ((pairwise_range n).filter p).imp ?_
  intro a b h
  omega

theorem rising_ext : ∀ {xs ys : List Int}, xs.Pairwise (· < ·) → ys.Pairwise (· < ·) → (∀ x, x ∈ xs ↔ x ∈ ys) → xs = ys
  | [], [], _, _, _ => rfl
  | [], y :: ys, _, _, h => by have := (h y).2 (by simp); cases this
  | x :: xs, [], _, _, h => by have := (h x).1 (by simp); cases this
  | x :: xs, y :: ys, h1, h2, h => by
    rw [List.pairwise_cons] at h1 h2
    have hxy : x = y := by
      have hx := (h x).1 (by simp)
      have hy := (h y).2 (by simp)
      rcases List.mem_cons.1 hx with e | hx
      · exact e
      · rcases List.mem_cons.1 hy with e | hy
        · exact e.symm
        · have := h1.1 y hy; have := h2.1 x hx; omega
    subst hxy
    congr 1
    refine rising_ext h1.2 h2.2 fun z => ?_
    constructor
    · intro hz
      rcases List.mem_cons.1 ((h z).1 (List.mem_cons_of_mem _ hz)) with e | hz'
      · have := h1.1 z hz; omega
      · exact hz'
    · intro hz
      rcases List.mem_cons.1 ((h z).2 (List.mem_cons_of_mem _ hz)) with e | hz'
      · have := h2.1 z hz; omega
      · exact hz'

/-- A set of vertices below n: in range, rising. -/
def SetP (n : Nat) (xs : List Int) : Prop := (∀ x ∈ xs, 0 ≤ x ∧ x < (n : Int)) ∧ xs.Pairwise (· < ·)
instance (n : Nat) (xs : List Int) : Decidable (SetP n xs) := by unfold SetP; infer_instance
theorem setP_rowB (n : Nat) (p : Nat → Bool) : SetP n (rowB n p) := by
  refine ⟨fun x hx => ?_, rowB_rising n p⟩
  obtain ⟨i, h1, _, rfl⟩ := mem_rowB.1 hx
  omega
/-- What a list says. -/
def inL (xs : List Int) (i : Nat) : Bool := decide ((i : Int) ∈ xs)
theorem SetP.eq {n : Nat} {xs : List Int} (h : SetP n xs) : xs = rowB n (inL xs) := by
  refine rising_ext h.2 (rowB_rising n _) fun x => ?_
  rw [mem_rowB]
  constructor
  · intro hx
    have := h.1 x hx
    exact ⟨x.toNat, by omega, by simp only [inL, decide_eq_true_eq]; rwa [Int.toNat_of_nonneg this.1], by omega⟩
  · rintro ⟨i, _, h2, rfl⟩
    simpa [inL] using h2
theorem SetP.length {n : Nat} {xs : List Int} (h : SetP n xs) : xs.length ≤ n := by
  rw [h.eq]; exact rowB_length _ _
theorem setP_nil (n : Nat) : SetP n [] := ⟨by simp, List.Pairwise.nil⟩
theorem setP_snoc {n : Nat} {xs : List Int} {k : Nat} {x : Int} (hx : xs[k]? = some x) (h : SetP n (xs.take k)) :
    SetP n (xs.take (k + 1)) ↔ (0 ≤ x ∧ x < (n : Int)) ∧ ∀ y, 0 < k → xs[k - 1]? = some y → y < x := by
  rw [take_snoc hx]
  have hk : k < xs.length := (List.getElem?_eq_some_iff.1 hx).1
  unfold SetP
  rw [List.pairwise_append]
  constructor
  · rintro ⟨h1, _, _, h4⟩
    refine ⟨h1 x (by simp), fun y hk0 hy => h4 y ?_ x (by simp)⟩
    refine List.mem_of_getElem? (i := k - 1) ?_
    rw [List.getElem?_take, if_pos (by omega)]
    exact hy
  · rintro ⟨h1, h2⟩
    refine ⟨fun z hz => ?_, h.2, List.pairwise_singleton _ _, fun a ha b hb => ?_⟩
    · rcases List.mem_append.1 hz with hz | hz
      · exact h.1 z hz
      · rw [List.mem_singleton.1 hz]; exact h1
    · rw [List.mem_singleton.1 hb]
      obtain ⟨i, hi⟩ := List.mem_iff_getElem?.1 ha
      have hil : i < k := by
        have := (List.getElem?_eq_some_iff.1 hi).1
        simp at this
        omega
      have hlast := h2 (xs[k - 1]'(by omega)) (by omega) (List.getElem?_eq_getElem _)
      by_cases e : i = k - 1
      · subst e
        rw [List.getElem?_take, if_pos (by omega), List.getElem?_eq_getElem (by omega)] at hi
        rw [← Option.some.inj hi]; exact hlast
      · have hp := List.pairwise_iff_getElem.1 h.2 i (k - 1) (by simp; omega) (by simp; omega) (by omega)
        rw [List.getElem_take, List.getElem_take] at hp
        rw [List.getElem?_take, if_pos (by omega), List.getElem?_eq_getElem (by omega)] at hi
        rw [← Option.some.inj hi]
        omega

/-- The reference's and the program's 'GraphOk', plainly. -/
def OkP (xss : List (List Int)) : Prop :=
  (1 ≤ xss.length ∧ xss.length ≤ 16) ∧ (∀ v, v < xss.length → SetP xss.length (xss.getD v []) ∧ ¬ (v : Int) ∈ xss.getD v []) ∧
    ∀ v, v < xss.length → ∀ u ∈ xss.getD v [], (v : Int) ∈ xss.getD u.toNat []
instance (xss : List (List Int)) : Decidable (OkP xss) := by unfold OkP; infer_instance
def okB (xss : List (List Int)) : Bool := decide (OkP xss)

/-- A valid graph on n vertices, as a yes-no function. -/
structure Adj (n : Nat) (e : Nat → Nat → Bool) : Prop where
  pos : 1 ≤ n
  le : n ≤ 16
  irr : ∀ u, u < n → e u u = false
  sym : ∀ u v, u < n → v < n → e u v = e v u

theorem ok_of_adj {n : Nat} {e : Nat → Nat → Bool} (h : Adj n e) : OkP (rowsB n e) := by
  refine ⟨by simp [h.pos, h.le], fun v hv => ?_, fun v hv u hu => ?_⟩
  · rw [rowsB_length] at hv
    rw [rowsB_length, rowsB_getD e hv]
    refine ⟨setP_rowB _ _, fun hm => ?_⟩
    rw [nat_mem_rowB, h.irr v hv] at hm
    cases hm.2
  · rw [rowsB_length] at hv
    rw [rowsB_getD e hv] at hu
    obtain ⟨i, h1, h2, rfl⟩ := mem_rowB.1 hu
    rw [Int.toNat_natCast, rowsB_getD e h1, nat_mem_rowB]
    exact ⟨hv, by rw [h.sym i v h1 hv]; exact h2⟩
theorem adj_of_ok {xss : List (List Int)} (h : OkP xss) : ∃ e, Adj xss.length e ∧ xss = rowsB xss.length e := by
  obtain ⟨⟨h1, h2⟩, h3, h4⟩ := h
  refine ⟨fun u => inL (xss.getD u []), ⟨h1, h2, fun u hu => ?_, fun u v hu hv => ?_⟩, ?_⟩
  · simpa [inL] using (h3 u hu).2
  · rw [Bool.eq_iff_iff]
    simp only [inL, decide_eq_true_eq]
    constructor
    · intro hm; simpa using h4 u hu _ hm
    · intro hm; simpa using h4 v hv _ hm
  · apply List.ext_getElem (by simp)
    intro u hu1 hu2
    have e1 : xss[u] = xss.getD u [] := by simp [List.getD, hu1]
    have e2 : (rowsB xss.length fun u => inL (xss.getD u []))[u] = rowB xss.length (inL (xss.getD u [])) := by simp [rowsB]
    rw [e1, e2]
    exact (h3 u hu1).1.eq
theorem okB_iff (xss : List (List Int)) : okB xss = true ↔ ∃ e, Adj xss.length e ∧ xss = rowsB xss.length e := by
  unfold okB
  rw [decide_eq_true_eq]
  constructor
  · exact adj_of_ok
  · rintro ⟨e, h1, h2⟩
    rw [h2]; exact ok_of_adj h1
theorem okB_adj {n : Nat} {e : Nat → Nat → Bool} (h : Adj n e) : okB (rowsB n e) = true := by
  unfold okB; rw [decide_eq_true_eq]; exact ok_of_adj h
end Go.Proofs.Ytpfhflkpnjkgkaa
/-
  'l1Has' and others of the reference that read a slice of numbers.
-/

namespace Go.Proofs.Ytpfhflkpnjkgkaa
open Go.RowKit

theorem contains_snoc (xs : List Int) (k : Nat) (x y : Int) (hy : xs[k]? = some y) (h : (xs.take k).contains x = false) : (xs.take (k + 1)).contains x = (y == x) := by
  rw [take_snoc hy, List.contains_append, h]
  simp only [List.contains_cons, List.contains_nil, Bool.or_false, Bool.false_or]
  rw [Bool.eq_iff_iff, beq_iff_eq, beq_iff_eq]; exact eq_comm

theorem has_any (v : Value) (xs : List Int) (x : Int) (w : World) (hr : Row w 1 v xs.length (ints xs)) :
    Calls Try.prog 50 #[v, .int .i64 x] w fun e w' => e = .returned (.bool (xs.contains x)) ∧ w = w' := by
  have hl := hr.len
  unfold maxLen at hl
  obtain ⟨a, c, rfl, -, -, -⟩ := id hr
  go_enter Try.func50, Try.ntmps50
  go_wp2_with fail
  go_loopw [5] (fun i wr => ∃ k : Nat, k ≤ xs.length ∧ i = .int .i64 k ∧ (xs.take k).contains x = false ∧ w = wr) (fun i _ => xs.length - (intOf i).toNat)
  case atStart => exact ⟨0, Nat.zero_le _, rfl, by simp, rfl⟩
  case round =>
    obtain ⟨k, hk, rfl, hno, rfl⟩ := hrel
    have HNO := Lib.hid hno
    clear hno
    by_cases hlt : k < xs.length
    · obtain ⟨b, o, y, rfl, hc, HY⟩ := hr.intAt hlt
      by_cases hyx : y = x
      · have HYX := Lib.hid hyx
        clear hyx
        have hd : (y == x) = true := by simpa using HYX.out
        go_wp2_with fail
        go_ret
        have hin : xs.contains x = true := by
          have h1 := List.mem_of_getElem? HY.out
          rw [HYX.out] at h1
          simpa using h1
        exact ⟨ret_bool hin.symm, rfl⟩
      · have hd : (y == x) = false := by simpa using hyx
        go_wp2_with fail
        go_roundw
        case rel => exact ⟨k + 1, by omega, by go_num, by rw [contains_snoc xs k x y HY.out HNO.out, hd], by trivial⟩
        case measure => simp [intOf]; omega
    · go_wp2_with fail
      go_ret
      have hin : xs.contains x = false := by
        have h1 := HNO.out
        rwa [show k = xs.length by omega, List.take_length] at h1
      exact ⟨ret_bool hin.symm, rfl⟩

theorem size_any (a : Option Addr) (n c : Nat) (w : World) :
    Calls Try.prog 48 #[.agg #[.slice a n c]] w fun e w' => e = .returned (.int .i64 n) ∧ Below w.heap.size w w' := by
  go_enter Try.func48, Try.ntmps48
  go_wp2_with fail
  go_ret
  exact ⟨rfl, (Below.refl _ _).alloc (Nat.le_refl _) _⟩
end Go.Proofs.Ytpfhflkpnjkgkaa
/-
  'l1Set', 'GraphOk' of the reference; 'increasing', slices.Contains over int64, 'GraphOk' of the program: each says whether a graph is valid.
-/






namespace Go.Proofs.Ytpfhflkpnjkgkaa
open Go.RowKit

theorem quiet_eq {P : Program} {f : FuncId} {args : Array Value} {w : World} {n : Nat} {v : Value}
    (h : Calls P f args (w.drewN n) fun e w' => e = .returned v ∧ w.drewN n = w') : Calls P f args (w.drewN n) fun e w'' => e = .returned v ∧ ∃ m, w'' = w.drewN m :=
  h.mono fun _ _ ⟨he, hm⟩ => ⟨he, n, hm.symm⟩
theorem l1In_is (n lo hi : Int) (b : Bool) (h : decide (lo ≤ n ∧ n ≤ hi) = b) (w : World) :
    Calls Try.prog 30 #[.int .i64 n, .int .i64 lo, .int .i64 hi] w fun e w' => e = .returned (.bool b) ∧ w = w' := by
  subst h; exact l1In_any n lo hi w
theorem inRange_is (n lo hi : Int) (b : Bool) (h : decide (lo ≤ n ∧ n ≤ hi) = b) (w : World) :
    Calls Try.prog 27 #[.int .i64 n, .int .i64 lo, .int .i64 hi] w fun e w' => e = .returned (.bool b) ∧ w = w' := by
  subst h; exact inRange_any n lo hi w

theorem below_drewN' (w : World) (q : Nat) : Below w.heap.size w (w.drewN q) := ⟨rfl, rfl, rfl, Nat.le_refl _, fun _ _ => rfl⟩

theorem not_set_at {n : Nat} {xs : List Int} {k : Nat} {x : Int} (hx : xs[k]? = some x) (h : ¬ (0 ≤ x ∧ x < (n : Int)) ∨ ∃ y, 0 < k ∧ xs[k - 1]? = some y ∧ ¬ y < x) : ¬ SetP n xs := by
  rintro ⟨h1, h2⟩
  rcases h with h | ⟨y, hk, hy, hn⟩
  · exact h (h1 x (List.mem_of_getElem? hx))
  · obtain ⟨hk1, rfl⟩ := List.getElem?_eq_some_iff.1 hx
    obtain ⟨hk2, rfl⟩ := List.getElem?_eq_some_iff.1 hy
    exact hn (List.pairwise_iff_getElem.1 h2 (k - 1) k hk2 hk1 (by omega))

set_option maxHeartbeats 1000000 in
theorem set_any (v : Value) (xs : List Int) (n : Nat) (hn : n ≤ 1000000) (w : World) (hr : Row w 1 v xs.length (ints xs)) :
    Calls Try.prog 49 #[v, .int .i64 n] w fun e w' => e = .returned (.bool (decide (SetP n xs))) ∧ Below w.heap.size w w' := by
  have hl := hr.len
  unfold maxLen at hl
  obtain ⟨a, c, rfl, -, -, -⟩ := id hr
  by_cases hlen : n < xs.length
  · have hd : decide (SetP n xs) = false := by simp; intro h; have := h.length; omega
    rw [hd]
    clear hd
    go_enter Try.func49, Try.ntmps49
    go_wp2_with fail
    go_ret
    exact ⟨rfl, Below.refl _ _⟩
  · go_enter Try.func49, Try.ntmps49
    go_wp2_with fail
    go_loopw [5] (fun i wr => ∃ k : Nat, k ≤ xs.length ∧ i = .int .i64 k ∧ Hid (SetP n (xs.take k)) ∧ Below w.heap.size w wr) (fun i _ => xs.length - (intOf i).toNat)
    case atStart => exact ⟨0, Nat.zero_le _, rfl, Lib.hid (setP_nil n), Below.refl _ _⟩
    case round =>
      obtain ⟨k, hk, rfl, HS, hb⟩ := hrel
      by_cases hlt : k < xs.length
      · obtain ⟨b, o, x, rfl, hc, HX⟩ := (hr.below hb).intAt hlt
        have hs1 : IntKind.i64.wrap ((n : Int) - 1) = (n : Int) - 1 := IntWalk.i64_in _ (by omega)
        by_cases hin : 0 ≤ x ∧ x < (n : Int)
        · have hin1 := hin
          have hin2 := Lib.hid (l1In_is x 0 ((n : Int) - 1) true (by simp; omega))
          clear hin
          by_cases hk0 : k = 0
          · subst hk0
            simp only [Nat.add_zero] at hc
            have HS1 : Hid (SetP n (xs.take 1)) := Lib.hid ((setP_snoc HX.out HS.out).2 ⟨hin1, fun y h => absurd h (by omega)⟩)
            go_wp2_with fail
            refine wp_region_quiet_lit (by kernel_rfl) (by kernel_rfl) ?_
            repeat (first | go_big_quiet_step ((go_at_call 30; with_reducible exact quiet_eq (hin2.out _))) | quiet_step ((go_at_call 30; with_reducible exact quiet_eq (hin2.out _))))
            refine wpQuiet_nil ?_
            intro _ hw'
            obtain ⟨nq, hw''⟩ := hw'
            subst hw''
            go_wp2_with fail
            go_roundw
            case rel => exact ⟨1, by omega, by go_num, HS1, hb.trans ((below_drewN' _ _).mono hb.size)⟩
            case measure => simp [intOf]; omega
          · obtain ⟨b', o', y, e', hc', HY⟩ := (hr.below hb).intAt (j := k - 1) (by omega)
            obtain ⟨rfl, rfl⟩ : b = b' ∧ o = o' := by simpa using e'
            have hk1 : IntKind.i64.wrap ((k : Int) - 1) = (k : Int) - 1 := IntWalk.i64_in _ (by omega)
            have hk2 : ((k : Int) - 1).toNat = k - 1 := by omega
            have hk3 : 0 < k := by omega
            have hk4 : (0 : Int) ≤ (k : Int) - 1 := by omega
            by_cases hxy : y < x
            · have HS1 : Hid (SetP n (xs.take (k + 1))) := Lib.hid ((setP_snoc HX.out HS.out).2 ⟨hin1, fun z h hz => by rw [HY.out] at hz; have := Option.some.inj hz; omega⟩)
              have hd : decide (x ≤ y) = false := by simp; omega
              go_wp2_with fail
              refine wp_region_quiet_lit (by kernel_rfl) (by kernel_rfl) ?_
              repeat (first | go_big_quiet_step ((go_at_call 30; with_reducible exact quiet_eq (hin2.out _))) | quiet_step ((go_at_call 30; with_reducible exact quiet_eq (hin2.out _))))
              refine wpQuiet_nil ?_
              intro _ hw'
              obtain ⟨nq, hw''⟩ := hw'
              subst hw''
              go_wp2_with fail
              clear hk1 hk2 hs1
              go_roundw
              case rel => exact ⟨k + 1, by omega, by go_num, HS1, hb.trans ((below_drewN' _ _).mono hb.size)⟩
              case measure => simp [intOf]; omega
            · have hd : decide (x ≤ y) = true := by simp; omega
              have HF : Hid (decide (SetP n xs) = false) := Lib.hid (by simp only [decide_eq_false_iff_not]; exact not_set_at HX.out (.inr ⟨y, hk3, HY.out, hxy⟩))
              go_wp2_with fail
              refine wp_region_quiet_lit (by kernel_rfl) (by kernel_rfl) ?_
              repeat (first | go_big_quiet_step ((go_at_call 30; with_reducible exact quiet_eq (hin2.out _))) | quiet_step ((go_at_call 30; with_reducible exact quiet_eq (hin2.out _))))
              refine wpQuiet_nil ?_
              intro _ hw'
              obtain ⟨nq, hw''⟩ := hw'
              subst hw''
              go_wp2_with fail
              go_ret
              exact ⟨ret_bool HF.out.symm, hb.trans ((below_drewN' _ _).mono hb.size)⟩
        · have hin2 := Lib.hid (l1In_is x 0 ((n : Int) - 1) false (by simp; omega))
          have HF : Hid (decide (SetP n xs) = false) := Lib.hid (by simp only [decide_eq_false_iff_not]; exact not_set_at HX.out (.inl hin))
          clear hin
          go_wp2_with fail
          refine wp_region_quiet_lit (by kernel_rfl) (by kernel_rfl) ?_
          repeat (first | go_big_quiet_step ((go_at_call 30; with_reducible exact quiet_eq (hin2.out _))) | quiet_step ((go_at_call 30; with_reducible exact quiet_eq (hin2.out _))))
          refine wpQuiet_nil ?_
          intro _ hw'
          obtain ⟨nq, hw''⟩ := hw'
          subst hw''
          go_wp2_with fail
          go_ret
          exact ⟨ret_bool HF.out.symm, hb.trans ((below_drewN' _ _).mono hb.size)⟩
      · obtain rfl : k = xs.length := by omega
        have HT : Hid (decide (SetP n xs) = true) := Lib.hid (by have := HS.out; rw [List.take_length] at this; simpa using this)
        go_wp2_with fail
        go_ret
        exact ⟨ret_bool HT.out.symm, hb⟩

end Go.Proofs.Ytpfhflkpnjkgkaa
