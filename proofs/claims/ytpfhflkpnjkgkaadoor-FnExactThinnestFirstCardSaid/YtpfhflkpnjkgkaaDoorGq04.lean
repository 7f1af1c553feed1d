import Derived.Test.YtpfhflkpnjkgkaaDoorGq02
import Derived.Test.YtpfhflkpnjkgkaaDoorGq03
/-
  Ways in a graph, plainly: what is reached from a vertex among some vertices, and the parts of a set.
-/

namespace Go.Proofs.YtpfhflkpnjkgkaaDoor
open Go.RowKit

/-- What is reached from v among those that p lets by; v itself always is. -/
inductive Way (n : Nat) (e : Nat → Nat → Bool) (p : Nat → Bool) (v : Nat) : Nat → Prop
  | here : Way n e p v v
  | step {a b : Nat} (h : Way n e p v a) (hb : b < n) (he : e a b = true) (hp : p b = true) : Way n e p v b

section
variable {n : Nat} {e : Nat → Nat → Bool} {p q : Nat → Bool} {u v b : Nat}
theorem Way.lt (h : Way n e p v b) (hv : v < n) : b < n := by
  cases h with
  | here => exact hv
  | step _ hb _ _ => exact hb
theorem Way.within (h : Way n e p v b) (hv : p v = true) : p b = true := by
  cases h with
  | here => exact hv
  | step _ _ _ hp => exact hp
theorem Way.trans (h1 : Way n e p u v) (h2 : Way n e p v b) : Way n e p u b := by
  induction h2 with
  | here => exact h1
  | step _ hb he hp ih => exact .step ih hb he hp
theorem Way.mono (h : Way n e p v b) (hpq : ∀ b, b < n → p b = true → b = v ∨ q b = true) : Way n e q v b := by
  induction h with
  | here => exact .here
  | step _ hb he hp ih =>
    rcases hpq _ hb hp with rfl | h
    · exact .here
    · exact .step ih hb he h
theorem Way.symm (hA : Adj n e) (h : Way n e p v b) (hv : v < n) (hpv : p v = true) : Way n e p b v := by
  induction h with
  | here => exact .here
  | @step a b h hb he hp ih =>
    have ha := h.lt hv
    exact (Way.step .here ha (by rw [hA.sym b a hb ha]; exact he) (h.within hpv)).trans ih
end

noncomputable def wayB (n : Nat) (e : Nat → Nat → Bool) (p : Nat → Bool) (v : Nat) : Nat → Bool := fun b => @decide (Way n e p v b) (Classical.propDecidable _)
theorem wayB_iff {n : Nat} {e : Nat → Nat → Bool} {p : Nat → Bool} {v b : Nat} : wayB n e p v b = true ↔ Way n e p v b := by
  exact @decide_eq_true_iff (Way n e p v b) (Classical.propDecidable _)
theorem wayB_eq {n : Nat} {e : Nat → Nat → Bool} {p q : Nat → Bool} {v : Nat} (h1 : ∀ b, b < n → p b = true → b = v ∨ q b = true) (h2 : ∀ b, b < n → q b = true → b = v ∨ p b = true) : wayB n e p v = wayB n e q v := by
  funext b
  rw [Bool.eq_iff_iff, wayB_iff, wayB_iff]
  exact ⟨fun h => h.mono h1, fun h => h.mono h2⟩

/-- A set that is reached, holds v, and is closed, is all that is reached. -/
theorem way_mask {n : Nat} {e : Nat → Nat → Bool} {p : Nat → Bool} {v m : Nat} (h0 : m.testBit v = true) (h1 : ∀ b, m.testBit b = true → b < n ∧ Way n e p v b)
    (h2 : ∀ a b, m.testBit a = true → b < n → e a b = true → p b = true → m.testBit b = true) : m = maskB n (wayB n e p v) := by
  apply Nat.eq_of_testBit_eq
  intro b
  rw [testBit_maskB, Bool.eq_iff_iff, Bool.and_eq_true, decide_eq_true_eq, wayB_iff]
  refine ⟨h1 b, fun h => ?_⟩
  replace h := h.2
  induction h with
  | here => exact h0
  | step h hb he hp ih => exact h2 _ _ ih hb he hp
theorem way_row {n : Nat} {e : Nat → Nat → Bool} {p : Nat → Bool} {v : Nat} {o : Nat → Bool} (h0 : o v = true) (h1 : ∀ b, o b = true → b < n ∧ Way n e p v b)
    (h2 : ∀ a b, o a = true → b < n → e a b = true → p b = true → o b = true) : rowB n o = rowB n (wayB n e p v) := by
  refine rowB_ext fun b hb => ?_
  rw [Bool.eq_iff_iff, wayB_iff]
  refine ⟨fun h => (h1 b h).2, fun h => ?_⟩
  clear hb
  induction h with
  | here => exact h0
  | step h hb he hp ih => exact h2 _ _ ih hb he hp

/-! ### How many -/
theorem rowB_succ_length (n : Nat) (p : Nat → Bool) : (rowB (n + 1) p).length = (rowB n p).length + if p n = true then 1 else 0 := by
  unfold rowB
  rw [List.range_succ, List.filter_append, List.map_append, List.length_append]
  by_cases h : p n = true <;> simp [h]
theorem rowB_put_length {p : Nat → Bool} {b : Nat} (h0 : p b = false) : ∀ {n : Nat}, b < n → (rowB n fun x => p x || decide (x = b)).length = (rowB n p).length + 1
  | 0, h => by omega
  | n + 1, h => by
    rw [rowB_succ_length, rowB_succ_length]
    by_cases hb : b = n
    · subst hb
      have e1 : rowB b (fun x => p x || decide (x = b)) = rowB b p := rowB_ext fun x hx => by
        have : decide (x = b) = false := by simp; omega
        rw [this, Bool.or_false]
      rw [e1]
      simp [h0]
    · have ih := rowB_put_length h0 (n := n) (by omega)
      have : decide (n = b) = false := by simp; omega
      rw [ih, this, Bool.or_false]
      omega

/-! ### The parts of a set -/
/-- Is b reached from one below j? -/
noncomputable def doneB (n : Nat) (e : Nat → Nat → Bool) (p : Nat → Bool) (j b : Nat) : Bool := (List.range j).any fun u => p u && wayB n e p u b
noncomputable def leftB (n : Nat) (e : Nat → Nat → Bool) (p : Nat → Bool) (j b : Nat) : Bool := p b && !doneB n e p j b
/-- The parts whose least vertices are below j. -/
noncomputable def partsTo (n : Nat) (e : Nat → Nat → Bool) (p : Nat → Bool) (j : Nat) : List (Nat → Bool) := ((List.range j).filter fun v => leftB n e p v v).map fun v => wayB n e p v

section
variable {n : Nat} {e : Nat → Nat → Bool} {p : Nat → Bool}
theorem doneB_iff {j b : Nat} : doneB n e p j b = true ↔ ∃ u, u < j ∧ p u = true ∧ Way n e p u b := by
  unfold doneB
  simp [wayB_iff]
theorem leftB_zero : leftB n e p 0 = p := by
  funext b
  simp [leftB, doneB]
theorem leftB_ge {j b : Nat} (h : leftB n e p j b = true) : j ≤ b ∧ p b = true := by
  unfold leftB at h
  rw [Bool.and_eq_true, Bool.not_eq_true'] at h
  refine ⟨?_, h.1⟩
  apply Classical.byContradiction
  intro hlt
  have : doneB n e p j b = true := doneB_iff.2 ⟨b, by omega, h.1, .here⟩
  rw [this] at h
  cases h.2
theorem doneB_succ (j b : Nat) : doneB n e p (j + 1) b = (doneB n e p j b || (p j && wayB n e p j b)) := by
  unfold doneB
  rw [List.range_succ, List.any_append]
  simp
theorem partsTo_zero : partsTo n e p 0 = [] := rfl
theorem partsTo_yes {j : Nat} (h : leftB n e p j j = true) : partsTo n e p (j + 1) = partsTo n e p j ++ [wayB n e p j] := by
  unfold partsTo
  rw [List.range_succ, List.filter_append, List.map_append]
  simp [h]
theorem partsTo_no {j : Nat} (h : leftB n e p j j = false) : partsTo n e p (j + 1) = partsTo n e p j := by
  unfold partsTo
  rw [List.range_succ, List.filter_append, List.map_append]
  simp [h]
theorem doneB_no {j : Nat} (h : leftB n e p j j = false) (b : Nat) : doneB n e p (j + 1) b = doneB n e p j b := by
  rw [doneB_succ]
  cases hp : p j with
  | false => simp
  | true =>
    have hd : doneB n e p j j = true := by
      unfold leftB at h
      rw [hp, Bool.true_and] at h
      simpa using h
    obtain ⟨u, hu, hpu, hw⟩ := doneB_iff.1 hd
    rw [Bool.eq_iff_iff, Bool.or_eq_true, Bool.true_and, wayB_iff]
    refine ⟨fun h => ?_, .inl⟩
    rcases h with h | h
    · exact h
    · exact doneB_iff.2 ⟨u, hu, hpu, hw.trans h⟩
/-- Over vertices that are not in the set, or have been reached, nothing new comes. -/
theorem jump {j : Nat} : ∀ (d : Nat), (∀ i, j ≤ i → i < j + d → leftB n e p i i = false) → partsTo n e p (j + d) = partsTo n e p j ∧ ∀ b, doneB n e p (j + d) b = doneB n e p j b
  | 0, _ => ⟨rfl, fun _ => rfl⟩
  | d + 1, h => by
    obtain ⟨h1, h2⟩ := jump d fun i h3 h4 => h i h3 (by omega)
    have h3 := h (j + d) (by omega) (by omega)
    exact ⟨(partsTo_no h3).trans h1, fun b => (doneB_no h3 b).trans (h2 b)⟩
/-- The same from what is left at the start. -/
theorem jumpLeft {j l : Nat} (hjl : j ≤ l) (h : ∀ i, j ≤ i → i < l → leftB n e p j i = false) : partsTo n e p l = partsTo n e p j ∧ ∀ b, doneB n e p l b = doneB n e p j b := by
  obtain ⟨d, rfl⟩ : ∃ d, l = j + d := ⟨l - j, by omega⟩
  clear hjl
  induction d with
  | zero => exact ⟨rfl, fun _ => rfl⟩
  | succ d ih =>
    obtain ⟨h1, h2⟩ := ih fun i h3 h4 => h i h3 (by omega)
    have h3 : leftB n e p (j + d) (j + d) = false := by
      have := h (j + d) (by omega) (by omega)
      unfold leftB at this ⊢
      rw [h2]; exact this
    exact ⟨(partsTo_no h3).trans h1, fun b => (doneB_no h3 b).trans (h2 b)⟩
theorem leftB_of_done {j l : Nat} (h : ∀ b, doneB n e p l b = doneB n e p j b) : leftB n e p l = leftB n e p j := by
  funext b
  unfold leftB
  rw [h]
theorem leftB_yes {j : Nat} (h : leftB n e p j j = true) (b : Nat) : leftB n e p (j + 1) b = (leftB n e p j b && !wayB n e p j b) := by
  have hp := (leftB_ge h).2
  unfold leftB
  rw [doneB_succ, hp, Bool.true_and, Bool.not_or, Bool.and_assoc]
/-- Among what is left the same is reached. -/
theorem wayB_left (hA : Adj n e) (hpn : ∀ b, p b = true → b < n) {j : Nat} (h : leftB n e p j j = true) : wayB n e (leftB n e p j) j = wayB n e p j := by
  have hp := (leftB_ge h).2
  have hn := hpn j hp
  funext b
  rw [Bool.eq_iff_iff, wayB_iff, wayB_iff]
  refine ⟨fun h => h.mono fun b _ h => .inr (leftB_ge h).2, fun hw => ?_⟩
  induction hw with
  | here => exact .here
  | @step a b hw hb he hpb ih =>
    refine .step ih hb he ?_
    unfold leftB
    rw [hpb, Bool.true_and, Bool.not_eq_true', ← Bool.not_eq_true]
    intro hd
    obtain ⟨u, hu, hpu, huw⟩ := doneB_iff.1 hd
    have hjb : Way n e p j b := .step hw hb he hpb
    have : doneB n e p j j = true := doneB_iff.2 ⟨u, hu, hpu, huw.trans (hjb.symm hA hn hp)⟩
    unfold leftB at h
    rw [this] at h
    simp at h
theorem partsTo_length (j : Nat) : (partsTo n e p j).length ≤ j := by
  unfold partsTo
  rw [List.length_map]
  exact Nat.le_trans (List.length_filter_le _ _) (by simp)
end

/-! ### Through a row that rises -/
theorem rising_at {xs : List Int} (h : xs.Pairwise (· < ·)) {i j : Nat} {x y : Int} (hi : xs[i]? = some x) (hj : xs[j]? = some y) (hij : i < j) : x < y := by
  obtain ⟨h1, rfl⟩ := List.getElem?_eq_some_iff.1 hi
  obtain ⟨h2, rfl⟩ := List.getElem?_eq_some_iff.1 hj
  exact List.pairwise_iff_getElem.1 h i j h1 h2 hij
theorem mem_take_iff {xs : List Int} {k : Nat} {x : Int} : x ∈ xs.take k ↔ ∃ i, i < k ∧ xs[i]? = some x := by
  rw [List.mem_iff_getElem?]
  constructor
  · rintro ⟨i, hi⟩
    rw [List.getElem?_take] at hi
    split at hi
    · exact ⟨i, by assumption, hi⟩
    · cases hi
  · rintro ⟨i, hi, h⟩
    exact ⟨i, by rw [List.getElem?_take, if_pos hi]; exact h⟩
/-- J stands just behind the first k numbers of the row. -/
def Past (n : Nat) (p : Nat → Bool) (k J : Nat) : Prop := ∀ b, b < n → p b = true → (b < J ↔ (b : Int) ∈ (rowB n p).take k)
theorem Past.start (n : Nat) (p : Nat → Bool) : Past n p 0 0 := fun b _ _ => by simp
theorem Past.next {n : Nat} {p : Nat → Bool} {k J y : Nat} (hJ : Past n p k J) (h : (rowB n p)[k]? = some (y : Int)) : J ≤ y ∧ (∀ b, J ≤ b → b < y → p b = false) ∧ Past n p (k + 1) (y + 1) := by
  obtain ⟨y', hy, hpy, e⟩ := mem_rowB.1 (List.mem_of_getElem? h)
  obtain rfl : y = y' := by omega
  have hr := rowB_rising n p
  have h1 : J ≤ y := by
    apply Classical.byContradiction
    intro hlt
    obtain ⟨i, hi, hx⟩ := mem_take_iff.1 ((hJ y hy hpy).1 (by omega))
    have := rising_at hr hx h hi
    omega
  have h2 : ∀ b, J ≤ b → b < y → p b = false := by
    intro b hb hby
    cases hp : p b with
    | false => rfl
    | true =>
      exfalso
      obtain ⟨i, hi⟩ := List.mem_iff_getElem?.1 (nat_mem_rowB.2 ⟨(by omega : b < n), hp⟩)
      have hik : ¬ i < k := fun h => by
        have := (hJ b (by omega) hp).2 (mem_take_iff.2 ⟨i, h, hi⟩)
        omega
      by_cases he : i = k
      · subst he
        rw [h] at hi
        have := Option.some.inj hi
        omega
      · have := rising_at hr h hi (by omega)
        omega
  refine ⟨h1, h2, fun b hb hp => ?_⟩
  constructor
  · intro hlt
    by_cases hby : b = y
    · subst hby; exact mem_take_iff.2 ⟨k, by omega, h⟩
    · have hbJ : b < J := by
        apply Classical.byContradiction
        intro hn
        have := h2 b (by omega) (by omega)
        rw [hp] at this
        cases this
      obtain ⟨i, hi, hx⟩ := mem_take_iff.1 ((hJ b hb hp).1 hbJ)
      exact mem_take_iff.2 ⟨i, by omega, hx⟩
  · intro hm
    obtain ⟨i, hi, hx⟩ := mem_take_iff.1 hm
    by_cases hik : i = k
    · subst hik
      rw [h] at hx
      have := Option.some.inj hx
      omega
    · have := (hJ b hb hp).2 (mem_take_iff.2 ⟨i, by omega, hx⟩)
      omega
theorem Past.done {n : Nat} {p : Nat → Bool} {J : Nat} (hJ : Past n p (rowB n p).length J) : ∀ b, J ≤ b → b < n → p b = false := by
  intro b h1 h2
  cases hp : p b with
  | false => rfl
  | true =>
    have := (hJ b h2 hp).2 (by rw [List.take_length]; exact nat_mem_rowB.2 ⟨h2, hp⟩)
    omega
end Go.Proofs.YtpfhflkpnjkgkaaDoor
/-
  'l1Has' and others of the reference that read a slice of numbers.
-/

namespace Go.Proofs.YtpfhflkpnjkgkaaDoor
open Go.RowKit

theorem contains_snoc (xs : List Int) (k : Nat) (x y : Int) (hy : xs[k]? = some y) (h : (xs.take k).contains x = false) : (xs.take (k + 1)).contains x = (y == x) := by
  rw [take_snoc hy, List.contains_append, h]
  simp only [List.contains_cons, List.contains_nil, Bool.or_false, Bool.false_or]
  rw [Bool.eq_iff_iff, beq_iff_eq, beq_iff_eq]; exact eq_comm

theorem has_any (v : Value) (xs : List Int) (x : Int) (w : World) (hr : Row w 1 v xs.length (ints xs)) :
    Calls Tryd.prog 64 #[v, .int .i64 x] w fun e w' => e = .returned (.bool (xs.contains x)) ∧ w = w' := by
  have hl := hr.len
  unfold maxLen at hl
  obtain ⟨a, c, rfl, -, -, -⟩ := id hr
  go_enter Tryd.func64, Tryd.ntmps64
  go_wp2_with fail
  go_loopw [5] (fun i wr => ∃ k : Nat, k ≤ xs.length ∧ i = .int .i64 k ∧ (xs.take k).contains x = false ∧ w = wr) (fun i _ => xs.length - (intOf i).toNat)
  case atStart => exact ⟨0, Nat.zero_le _, rfl, by simp, rfl⟩
  case round =>
    obtain ⟨k, hk, rfl, hno, rfl⟩ := hrel
    have HNO := Lib.hid hno
    clear hno
    by_cases hlt : k < xs.length
    · obtain ⟨b, o, y, rfl, hc, HY⟩ := hr.intAt hlt
      by_cases hyx : y = x
      · have HYX := Lib.hid hyx
        clear hyx
        have hd : (y == x) = true := by simpa using HYX.out
        go_wp2_with fail
        go_ret
        have hin : xs.contains x = true := by
          have h1 := List.mem_of_getElem? HY.out
          rw [HYX.out] at h1
          simpa using h1
        exact ⟨ret_bool hin.symm, rfl⟩
      · have hd : (y == x) = false := by simpa using hyx
        go_wp2_with fail
        go_roundw
        case rel => exact ⟨k + 1, by omega, by go_num, by rw [contains_snoc xs k x y HY.out HNO.out, hd], by trivial⟩
        case measure => simp [intOf]; omega
    · go_wp2_with fail
      go_ret
      have hin : xs.contains x = false := by
        have h1 := HNO.out
        rwa [show k = xs.length by omega, List.take_length] at h1
      exact ⟨ret_bool hin.symm, rfl⟩

theorem size_any (a : Option Addr) (n c : Nat) (w : World) :
    Calls Tryd.prog 32 #[.agg #[.slice a n c]] w fun e w' => e = .returned (.int .i64 n) ∧ Below w.heap.size w w' := by
  go_enter Tryd.func32, Tryd.ntmps32
  go_wp2_with fail
  go_ret
  exact ⟨rfl, (Below.refl _ _).alloc (Nat.le_refl _) _⟩
end Go.Proofs.YtpfhflkpnjkgkaaDoor
/-
  The laws' helpers for slices of numbers: 'eqInt64S', 'markInt64S', 'heldInt64S', and those for slices of these.
-/

namespace Go.Proofs.YtpfhflkpnjkgkaaDoor
open Go.RowKit

set_option maxHeartbeats 400000 in
theorem eqS_any (v1 v2 : Value) (xs ys : List Int) (w : World) (h1 : Row w 1 v1 xs.length (ints xs)) (h2 : Row w 1 v2 ys.length (ints ys)) :
    Calls Tryd.prog 9 #[v1, v2] w fun e w' => e = .returned (.bool (decide (xs = ys))) ∧ Below w.heap.size w w' := by
  have hl := h1.len
  have hl2 := h2.len
  unfold maxLen at hl hl2
  obtain ⟨a1, c1, rfl, -, -, -⟩ := id h1
  obtain ⟨a2, c2, rfl, -, -, -⟩ := id h2
  by_cases hlen : xs.length = ys.length
  · have hb : ((xs.length : Int) != ys.length) = false := by simp [hlen]
    have HL := Lib.hid hlen
    clear hlen
    go_enter Tryd.func9, Tryd.ntmps9
    go_wp2_with fail
    go_loopw [5] (fun i wr => ∃ k : Nat, k ≤ xs.length ∧ i = .int .i64 k ∧ xs.take k = ys.take k ∧ Below w.heap.size w wr) (fun i _ => xs.length - (intOf i).toNat)
    case atStart => exact ⟨0, Nat.zero_le _, rfl, rfl, Below.refl _ _⟩
    case round =>
      obtain ⟨k, hk, rfl, heq, hbel⟩ := hrel
      have HE := Lib.hid heq
      clear heq
      by_cases hlt : k < xs.length
      · have hlt2 : k < ys.length := by have := HL.out; omega
        obtain ⟨b, o, x, rfl, hc, HX⟩ := (h1.below hbel).intAt hlt
        obtain ⟨b', o', y, rfl, hc', HY⟩ := (h2.below hbel).intAt hlt2
        by_cases hxy : x = y
        · have hn : (x != y) = false := by simp [hxy]
          have HXY := Lib.hid hxy
          clear hxy
          go_wp2_with fail
          refine wp_region_ord [0, 1, 2, 4, 5, 6] [3, 7, 8] [] [] (by kernel_rfl) (by kernel_rfl) (fun _ _ d _ _ h => by cases d <;> exact h) ?_
          simp only [pickOps, List.filterMap_cons, List.filterMap_nil, List.getElem?_cons_succ, List.getElem?_cons_zero]
          repeat quiet_step (fail)
          simp only [wpQuiet_nil_eq, wpSegs_nil_eq]
          go_wp2_with fail
          go_roundw
          case rel => exact ⟨k + 1, by omega, by go_num, by rw [take_snoc HX.out, take_snoc HY.out, HE.out, HXY.out], hbel.drew⟩
          case measure => simp [intOf]; omega
        · have hn : (x != y) = true := by simpa using hxy
          go_wp2_with fail
          refine wp_region_ord [0, 1, 2, 4, 5, 6] [3, 7, 8] [] [] (by kernel_rfl) (by kernel_rfl) (fun _ _ d _ _ h => by cases d <;> exact h) ?_
          simp only [pickOps, List.filterMap_cons, List.filterMap_nil, List.getElem?_cons_succ, List.getElem?_cons_zero]
          repeat quiet_step (fail)
          simp only [wpQuiet_nil_eq, wpSegs_nil_eq]
          go_wp2_with fail
          go_ret
          refine ⟨ret_bool (by rw [Bool.eq_iff_iff]; simp; intro e; subst e; have h1 := HX.out; rw [HY.out] at h1; exact hxy (Option.some.inj h1).symm), hbel.drew⟩
      · go_wp2_with fail
        go_ret
        refine ⟨ret_bool (by rw [Bool.eq_iff_iff]; simp; have := HE.out; rwa [List.take_of_length_le (by omega), List.take_of_length_le (by have := HL.out; omega)] at this), hbel⟩
  · have hb : ((xs.length : Int) != ys.length) = true := by simp; omega
    go_enter Tryd.func9, Tryd.ntmps9
    go_wp2_with fail
    go_ret
    exact ⟨ret_bool (by rw [Bool.eq_iff_iff]; simp; intro e; subst e; exact hlen rfl), Below.refl _ _⟩

/-- n numbers from k on. -/
def from_ (k n : Nat) : List Int := (List.range n).map fun (i : Nat) => ((k + i : Nat) : Int)
@[simp] theorem from_length (k n : Nat) : (from_ k n).length = n := by simp [from_]
theorem from_at {k n i : Nat} (h : i < n) : (from_ k n)[i]? = some ((k + i : Nat) : Int) := by simp [from_, h]

set_option maxHeartbeats 400000 in
theorem markS_any (v : Value) (n : Nat) (cs : List Value) (base : Nat) (k : Nat) (hk : k + n ≤ 1000000000) (w : World) (ho : w.ownsRow base 2 1 v n cs) :
    Calls Tryd.prog 12 #[v, .int .i64 k] w fun e w' => e = .returned (.int .i64 ((k + n : Nat) : Int)) ∧ w'.ownsRow base 2 1 v n (ints (from_ k n)) ∧ w.grownBy w' v.ownBlock := by
  obtain ⟨a, cap, rfl⟩ := owns_shape ho
  have hcl := owns_len ho
  have HCL := Lib.hid hcl
  clear hcl
  go_enter Tryd.func12, Tryd.ntmps12
  go_wp2_with fail
  go_loopw [1, 5] (fun q i wr => ∃ j : Nat, j ≤ n ∧ i = .int .i64 j ∧ q = .int .i64 ((k : Int) + j) ∧ wr.ownsRow base 2 1 (.slice a n cap) n (ints (from_ k j) ++ cs.drop j) ∧ w.grownBy wr (Value.slice a n cap).ownBlock) (fun _ i _ => n - (intOf i).toNat)
  case atStart => exact ⟨0, Nat.zero_le _, rfl, by simp, by simpa [from_, ints] using ho, ⟨rfl, rfl, rfl, Nat.le_refl _, fun _ _ _ => rfl⟩⟩
  case round =>
    obtain ⟨j, hj, rfl, rfl, hown, hg⟩ := hrel
    by_cases hlt : j < n
    · obtain ⟨g, c2, he⟩ := owns_head hown (by omega)
      obtain ⟨rfl, rfl⟩ : a = some ⟨g, 0, none⟩ ∧ cap = c2 := by simpa using he
      have hf : wr.frozen? ⟨g, j, none⟩ = false := hown.frozenAt j
      have hc : wr.cell? ⟨g, j, none⟩ = some (cs[j]'(by have := HCL.out; omega)) := by
        rw [hown.cellAt j (by omega), List.getElem?_append_right (by simp)]
        have := HCL.out
        simp
      have hst := hown.stored j (.int .i64 ((k : Int) + j))
      have e : (ints (from_ k j) ++ cs.drop j).set j (.int .i64 ((k : Int) + j)) = ints (from_ k (j + 1)) ++ cs.drop (j + 1) := by
        have hd : cs.drop j = cs[j]'(by have := HCL.out; omega) :: cs.drop (j + 1) := List.drop_eq_getElem_cons _
        rw [hd, List.set_append, if_neg (by simp), show j - (ints (from_ k j)).length = 0 by simp, List.set_cons_zero]
        simp [from_, ints, List.range_succ]
      rw [e] at hst
      clear e he
      obtain ⟨c, hcc⟩ : ∃ c, wr.cell? ⟨g, j, none⟩ = some c := ⟨_, hc⟩
      clear hc
      go_wp2_with fail
      go_roundw
      case rel => exact ⟨j + 1, by omega, by go_num, by go_num, hst.1, grown_trans hg hst.2⟩
      case measure => simp [intOf]; omega
    · go_wp2_with fail
      go_ret
      obtain rfl : j = n := by omega
      refine ⟨ret_int (by omega), ?_, hg⟩
      rw [List.drop_of_length_le (by have := HCL.out; omega), List.append_nil] at hown
      exact hown

set_option maxHeartbeats 400000 in
theorem heldS_any (v : Value) (n : Nat) (k : Nat) (hk : k + n ≤ 1000000000) (w : World) (hr : Row w 1 v n (ints (from_ k n))) :
    Calls Tryd.prog 13 #[v, .int .i64 k] w fun e w' => e = .returned (.int .i64 ((k + n : Nat) : Int)) ∧ w = w' := by
  obtain ⟨a, cap, rfl, -, -, -⟩ := id hr
  go_enter Tryd.func13, Tryd.ntmps13
  go_wp2_with fail
  go_loop [1, 5] (fun q i => ∃ j : Nat, j ≤ n ∧ i = .int .i64 j ∧ q = .int .i64 ((k : Int) + j)) (fun _ i => n - (intOf i).toNat)
  case atStart => exact ⟨0, Nat.zero_le _, rfl, by simp⟩
  case round =>
    obtain ⟨j, hj, rfl, rfl⟩ := hrel
    by_cases hlt : j < n
    · obtain ⟨b, o, x, rfl, hc, HX⟩ := hr.intAt (xs := from_ k n) (j := j) (by simpa using hlt)
      have hx : x = (k : Int) + j := by have := HX.out; rw [from_at hlt] at this; have := Option.some.inj this; omega
      subst hx
      have hne : ((k : Int) + j != (k : Int) + j) = false := by simp
      go_wp2_with fail
      go_round
      case rel => exact ⟨j + 1, by omega, by go_num, by go_num⟩
      case measure => simp [intOf]; omega
    · go_wp2_with fail
      go_ret
      exact ⟨ret_int (by omega), rfl⟩
end Go.Proofs.YtpfhflkpnjkgkaaDoor
/-
  The laws' helpers for slices of slices of numbers and for graphs: 'eqInt64SS', 'markInt64SS', 'heldInt64SS', 'eqGraph', 'markGraph', 'heldGraph'.
-/

namespace Go.Proofs.YtpfhflkpnjkgkaaDoor
open Go.RowKit

set_option maxHeartbeats 400000 in
theorem eqSS_any (v1 v2 : Value) (vs1 vs2 : List Value) (xss yss : List (List Int)) (w : World) (h1 : RdG w v1 vs1 (xss.map ints)) (h2 : RdG w v2 vs2 (yss.map ints)) :
    Calls Tryd.prog 41 #[v1, v2] w fun e w' => e = .returned (.bool (decide (xss = yss))) ∧ Below w.heap.size w w' := by
  have hl := h1.outer.len
  have hl2 := h2.outer.len
  unfold maxLen at hl hl2
  have e1 : vs1.length = xss.length := by simpa using h1.len
  have e2 : vs2.length = yss.length := by simpa using h2.len
  obtain ⟨a1, c1, rfl, -, -, -⟩ := id h1.outer
  obtain ⟨a2, c2, rfl, -, -, -⟩ := id h2.outer
  rw [e1] at h1 hl ⊢
  rw [e2] at h2 hl2 ⊢
  clear e1 e2
  by_cases hlen : xss.length = yss.length
  · have hb : ((xss.length : Int) != yss.length) = false := by simp [hlen]
    have HL := Lib.hid hlen
    clear hlen
    go_enter Tryd.func41, Tryd.ntmps41
    go_wp2_with fail
    go_loopw [5] (fun i wr => ∃ k : Nat, k ≤ xss.length ∧ i = .int .i64 k ∧ xss.take k = yss.take k ∧ Below w.heap.size w wr) (fun i _ => xss.length - (intOf i).toNat)
    case atStart => exact ⟨0, Nat.zero_le _, rfl, rfl, Below.refl _ _⟩
    case round =>
      obtain ⟨k, hk, rfl, heq, hbel⟩ := hrel
      have HE := Lib.hid heq
      clear heq
      by_cases hlt : k < xss.length
      · have hlt2 : k < yss.length := by have := HL.out; omega
        obtain ⟨b, o, u, xs, rfl, hc, hu, -, HX⟩ := (h1.below hbel).intsAt hlt
        obtain ⟨b', o', u', ys, rfl, hc', hu', -, HY⟩ := (h2.below hbel).intsAt hlt2
        by_cases hxy : xs = ys
        · have hd : decide (xs = ys) = true := by simp [hxy]
          have HXY := Lib.hid hxy
          clear hxy
          go_wp2_with fail
          refine wp_region_ord [0, 1, 2, 4, 5, 6] [3, 7] [] [8, 9] (by kernel_rfl) (by kernel_rfl) (fun _ _ d _ _ h => by cases d <;> exact h) ?_
          simp only [pickOps, List.filterMap_cons, List.filterMap_nil, List.getElem?_cons_succ, List.getElem?_cons_zero]
          repeat quiet_step (fail)
          simp only [wpQuiet_nil_eq, wpSegs_nil_eq]
          go_wp2_with fail
          refine (eqS_any u u' xs ys wr.drew hu hu').mono ?_
          rintro e w1 ⟨rfl, hb1⟩
          rw [hd]
          go_wp2_with fail
          go_roundw
          case rel => exact ⟨k + 1, by omega, by go_num, by rw [take_snoc HX.out, take_snoc HY.out, HE.out, HXY.out], hbel.trans ((below_drew hb1).mono hbel.size)⟩
          case measure => simp [intOf]; omega
        · have hd : decide (xs = ys) = false := by simp [hxy]
          go_wp2_with fail
          refine wp_region_ord [0, 1, 2, 4, 5, 6] [3, 7] [] [8, 9] (by kernel_rfl) (by kernel_rfl) (fun _ _ d _ _ h => by cases d <;> exact h) ?_
          simp only [pickOps, List.filterMap_cons, List.filterMap_nil, List.getElem?_cons_succ, List.getElem?_cons_zero]
          repeat quiet_step (fail)
          simp only [wpQuiet_nil_eq, wpSegs_nil_eq]
          go_wp2_with fail
          refine (eqS_any u u' xs ys wr.drew hu hu').mono ?_
          rintro e w1 ⟨rfl, hb1⟩
          rw [hd]
          go_wp2_with fail
          go_ret
          refine ⟨ret_bool (by rw [Bool.eq_iff_iff]; simp; intro e; subst e; have h1 := HX.out; rw [HY.out] at h1; exact hxy (Option.some.inj h1).symm), hbel.trans ((below_drew hb1).mono hbel.size)⟩
      · go_wp2_with fail
        go_ret
        refine ⟨ret_bool (by rw [Bool.eq_iff_iff]; simp; have := HE.out; rwa [List.take_of_length_le (by omega), List.take_of_length_le (by have := HL.out; omega)] at this), hbel⟩
  · have hb : ((xss.length : Int) != yss.length) = true := by simp; omega
    go_enter Tryd.func41, Tryd.ntmps41
    go_wp2_with fail
    go_ret
    exact ⟨ret_bool (by rw [Bool.eq_iff_iff]; simp; intro e; subst e; exact hlen rfl), Below.refl _ _⟩

/-- Rows of these lengths, numbered on from k. -/
def number (k : Nat) : List Nat → List (List Int)
  | [] => []
  | n :: ns => from_ k n :: number (k + n) ns
theorem number_snoc (k : Nat) (ns : List Nat) (n : Nat) : number k (ns ++ [n]) = number k ns ++ [from_ (k + ns.sum) n] := by
  induction ns generalizing k with
  | nil => simp [number]
  | cons m ms ih => simp [number, ih, Nat.add_assoc]
@[simp] theorem number_length (k : Nat) (ns : List Nat) : (number k ns).length = ns.length := by
  induction ns generalizing k with
  | nil => rfl
  | cons m ms ih => simp [number, ih]
theorem number_at (k : Nat) (ns : List Nat) (j : Nat) (h : j < ns.length) : (number k ns)[j]? = some (from_ (k + (ns.take j).sum) (ns[j])) := by
  induction ns generalizing k j with
  | nil => simp at h
  | cons m ms ih =>
    cases j with
    | zero => simp [number]
    | succ j => simp [number, ih (k + m) j (by simpa using h), Nat.add_assoc]
theorem sum_take_succ (ns : List Nat) (j : Nat) (h : j < ns.length) : (ns.take (j + 1)).sum = (ns.take j).sum + ns[j] := by
  rw [List.take_succ_eq_append_getElem h, List.sum_append]; simp
theorem sum_take_le (ns : List Nat) (j : Nat) : (ns.take j).sum ≤ ns.sum := by
  have := List.sum_append (l₁ := ns.take j) (l₂ := ns.drop j)
  rw [List.take_append_drop] at this
  omega

set_option maxHeartbeats 400000 in
theorem markSS_any (v : Value) (vs : List Value) (css : List (List Value)) (base : Nat) (k : Nat) (w : World) (hk : k + (css.map List.length).sum ≤ 1000000000) (hn : css.length ≤ 1000000000) (h : OwnG w base 24 2 v vs css) :
    Calls Tryd.prog 42 #[v, .int .i64 k] w fun e w' => e = .returned (.int .i64 ((k + (css.map List.length).sum : Nat) : Int)) ∧
      OwnG w' base 24 2 v vs ((number k (css.map List.length)).map ints) ∧ Wrote w w' (fun b => ∃ u ∈ vs, u.ownBlock = some b) := by
  have hl := h.len
  obtain ⟨a, cap, rfl⟩ := owns_shape h.outer
  obtain ⟨ns, hns⟩ : ∃ ns, css.map List.length = ns := ⟨_, rfl⟩
  have hnl : ns.length = css.length := by rw [← hns]; simp
  rw [hns] at hk ⊢
  have HNS := Lib.hid hns
  clear hns
  rw [← hnl] at hn hl
  rw [hl] at h ⊢
  have HNL := Lib.hid hnl
  clear hnl
  have HVL := Lib.hid hl
  clear hl
  go_enter Tryd.func42, Tryd.ntmps42
  go_wp2_with fail
  go_loopw [1, 5] (fun q i wr => ∃ j : Nat, j ≤ ns.length ∧ i = .int .i64 j ∧ q = .int .i64 ((k + (ns.take j).sum : Nat) : Int) ∧
      OwnG wr base 24 2 (.slice a ns.length cap) vs ((number k (ns.take j)).map ints ++ css.drop j) ∧ Wrote w wr (fun b => ∃ u ∈ vs, u.ownBlock = some b)) (fun _ i _ => ns.length - (intOf i).toNat)
  case atStart => exact ⟨0, Nat.zero_le _, rfl, rfl, by simpa [number] using h, Wrote.refl _ _⟩
  case round =>
    obtain ⟨j, hj, rfl, rfl, hown, hw⟩ := hrel
    have hsl := sum_take_le ns j
    by_cases hlt : j < ns.length
    · obtain ⟨b, o, u, cs, rfl, hc, -, HU, HC⟩ := hown.rd.rowAt (k := j) (by have := HNL.out; simp; omega)
      have hcs : css[j]? = some cs := by
        have := HC.out
        have hlj : ((number k (ns.take j)).map ints).length = j := by simp; omega
        rw [List.getElem?_append_right (by omega), hlj] at this
        simpa using this
      have hnj : cs.length = ns[j] := by
        have h1 := HNS.out
        have : (css.map List.length)[j]? = some cs.length := by simp [hcs]
        rw [h1] at this
        simpa [hlt] using this.symm
      have hss := sum_take_succ ns j hlt
      have hsl2 := sum_take_le ns (j + 1)
      have hb2 : (k + (ns.take j).sum) + cs.length ≤ 1000000000 := by omega
      have HSS : Hid ((ns.take (j + 1)).sum = (ns.take j).sum + cs.length) := by rw [hnj]; exact hss
      have HNJ := Lib.hid hnj
      have HCS := Lib.hid hcs
      clear hss hsl2 hnj hcs hsl
      have hou := hown.rows j u cs HU.out HC.out
      go_wp2_with fail
      refine (markS_any u cs.length cs base (k + (ns.take j).sum) hb2 wr hou).mono ?_
      rintro e w1 ⟨rfl, ho1, hg1⟩
      go_wp2_with fail
      go_roundw
      case rel =>
        refine ⟨j + 1, by omega, by go_num, by rw [HSS.out]; go_num, ?_, hw.trans (Wrote.of_grown hg1) (fun b _ hb => ⟨u, List.mem_of_getElem? HU.out, hb⟩)⟩
        have := hown.write HU.out (cs := ints (from_ (k + (ns.take j).sum) cs.length)) (by simpa using ho1) hg1
        have e : (((number k (ns.take j)).map ints ++ css.drop j).set j (ints (from_ (k + (ns.take j).sum) cs.length))) = (number k (ns.take (j + 1))).map ints ++ css.drop (j + 1) := by
          have hlj : ((number k (ns.take j)).map ints).length = j := by simp; omega
          have hjc : j < css.length := by have := HNL.out; omega
          rw [List.set_append, if_neg (by omega), hlj, Nat.sub_self, List.drop_eq_getElem_cons hjc, List.set_cons_zero, List.take_succ_eq_append_getElem hlt, number_snoc, HNJ.out]
          simp
        rw [e] at this
        exact this
      case measure => simp [intOf]; omega
    · go_wp2_with fail
      go_ret
      have hje : j = ns.length := by omega
      subst hje
      rw [List.take_length] at hown ⊢
      rw [List.drop_of_length_le (by have := HNL.out; omega), List.append_nil] at hown
      exact ⟨rfl, hown, hw⟩

set_option maxHeartbeats 400000 in
theorem eqGraph_any (v1 v2 : Value) (vs1 vs2 : List Value) (xss yss : List (List Int)) (w : World) (h1 : RdG w v1 vs1 (xss.map ints)) (h2 : RdG w v2 vs2 (yss.map ints)) :
    Calls Tryd.prog 18 #[.agg #[v1], .agg #[v2]] w fun e w' => e = .returned (.bool (decide (xss = yss))) ∧ Below w.heap.size w w' := by
  obtain ⟨a1, c1, rfl, -, -, -⟩ := id h1.outer
  obtain ⟨a2, c2, rfl, -, -, -⟩ := id h2.outer
  have hbel : ∀ o1 o2, Below w.heap.size w ((w.alloc o1).alloc o2) := fun o1 o2 => ((Below.refl _ _).alloc (Nat.le_refl _) _).alloc (by simp) _
  go_enter Tryd.func18, Tryd.ntmps18
  go_wp2_with fail
  refine (eqSS_any _ _ vs1 vs2 xss yss _ (h1.below (hbel _ _)) (h2.below (hbel _ _))).mono ?_
  rintro e w1 ⟨rfl, hb1⟩
  have hb2 := (hbel _ _).trans (hb1.mono (hbel _ _).size)
  clear hb1
  by_cases hd : xss = yss
  · have hd' : decide (xss = yss) = true := by simp [hd]
    rw [hd']
    have HD := Lib.hid hd'
    clear hd hd'
    go_wp2_with fail
    go_ret
    exact ⟨by rw [HD.out]; rfl, hb2⟩
  · have hd' : decide (xss = yss) = false := by simp [hd]
    rw [hd']
    have HD := Lib.hid hd'
    clear hd hd'
    go_wp2_with fail
    go_ret
    exact ⟨by rw [HD.out]; rfl, hb2⟩

theorem markGraph_any (v : Value) (vs : List Value) (css : List (List Value)) (base : Nat) (k : Nat) (w : World) (hk : k + (css.map List.length).sum ≤ 1000000000) (hn : css.length ≤ 1000000000) (h : OwnG w base 24 2 v vs css) :
    Calls Tryd.prog 19 #[.agg #[v], .int .i64 k] w fun e w' => e = .returned (.int .i64 ((k + (css.map List.length).sum : Nat) : Int)) ∧
      OwnG w' base 24 2 v vs ((number k (css.map List.length)).map ints) ∧ Wrote w w' (fun b => ∃ u ∈ vs, u.ownBlock = some b) := by
  obtain ⟨a, cap, rfl⟩ := owns_shape h.outer
  go_enter Tryd.func19, Tryd.ntmps19
  go_wp2_with fail
  refine (markSS_any _ vs css base k _ hk hn (h.below ((Below.refl _ _).alloc (Nat.le_refl _) _))).mono ?_
  rintro e w1 ⟨rfl, h1, h2⟩
  go_wp2_with fail
  go_ret
  exact ⟨rfl, h1, ((Wrote.of_below ((Below.refl w.heap.size w).alloc (Nat.le_refl _) _)).mono (fun k hk hk' => (by omega : False).elim)).trans h2 (fun _ _ h => h)⟩

/-- How many numbers there are in rows. -/
def total (rows : List (List Int)) : Nat := (rows.map List.length).sum
theorem total_ints (rows : List (List Int)) : ((rows.map ints).map List.length).sum = total rows := by
  unfold total; rw [List.map_map]; congr 2; funext x; simp

/-- What 'mark' leaves in rows, from 1 on. -/
def marked (rows : List (List Int)) : List (List Int) := number 1 ((rows.map ints).map List.length)

theorem markGraph_1 (v : Value) (vs : List Value) (rows : List (List Int)) (base : Nat) (w : World) (hk : 1 + total rows ≤ 1000000000) (hn : rows.length ≤ 1000000000) (h : OwnG w base 24 2 v vs (rows.map ints)) :
    Calls Tryd.prog 19 #[.agg #[v], .int .i64 1] w fun e w' => e = .returned (.int .i64 (1 + (total rows : Int))) ∧
      OwnG w' base 24 2 v vs ((marked rows).map ints) ∧ Wrote w w' (fun b => ∃ u ∈ vs, u.ownBlock = some b) := by
  refine (markGraph_any v vs (rows.map ints) base 1 w (by rw [total_ints]; exact hk) (by simpa using hn) h).mono ?_
  rintro e w' ⟨rfl, h1, h2⟩
  exact ⟨by rw [total_ints]; exact ret_int (by simp), h1, h2⟩

theorem eqGraph_same (v1 v2 : Value) (vs1 vs2 : List Value) (rows : List (List Int)) (w : World) (h1 : RdG w v1 vs1 (rows.map ints)) (h2 : RdG w v2 vs2 (rows.map ints)) :
    Calls Tryd.prog 18 #[.agg #[v1], .agg #[v2]] w fun e w' => e = .returned (.bool true) ∧ Below w.heap.size w w' :=
  (eqGraph_any v1 v2 vs1 vs2 rows rows w h1 h2).mono fun _ _ ⟨he, hb⟩ => ⟨by rw [he]; exact ret_bool (by simp), hb⟩
end Go.Proofs.YtpfhflkpnjkgkaaDoor
