import Derived.Laws.BitsAllLaws
import Derived.Test.YtbhobmngnjfgfaaDoorGq07
import Derived.Test.YtbhobmngnjfgfaaDoorGq08
import Derived.Test.YtbhobmngnjfgfaaDoorGq09
import Derived.Test.YtbhobmngnjfgfaaDoorGq11
/-
  Ways in a graph, plainly: what is reached from a vertex among some vertices, and the parts of a set.
-/

namespace Go.Proofs.YtbhobmngnjfgfaaDoor
open Go.RowKit

/-- What is reached from v among those that p lets by; v itself always is. -/
inductive Way (n : Nat) (e : Nat → Nat → Bool) (p : Nat → Bool) (v : Nat) : Nat → Prop
  | here : Way n e p v v
  | step {a b : Nat} (h : Way n e p v a) (hb : b < n) (he : e a b = true) (hp : p b = true) : Way n e p v b

section
variable {n : Nat} {e : Nat → Nat → Bool} {p q : Nat → Bool} {u v b : Nat}
theorem Way.lt (h : Way n e p v b) (hv : v < n) : b < n := by
  cases h with
  | here => exact hv
  | step _ hb _ _ => exact hb
theorem Way.within (h : Way n e p v b) (hv : p v = true) : p b = true := by
  cases h with
  | here => exact hv
  | step _ _ _ hp => exact hp
theorem Way.trans (h1 : Way n e p u v) (h2 : Way n e p v b) : Way n e p u b := by
  induction h2 with
  | here => exact h1
  | step _ hb he hp ih => exact .step ih hb he hp
theorem Way.mono (h : Way n e p v b) (hpq : ∀ b, b < n → p b = true → b = v ∨ q b = true) : Way n e q v b := by
  induction h with
  | here => exact .here
  | step _ hb he hp ih =>
    rcases hpq _ hb hp with rfl | h
    · exact .here
    · exact .step ih hb he h
theorem Way.symm (hA : Adj n e) (h : Way n e p v b) (hv : v < n) (hpv : p v = true) : Way n e p b v := by
  induction h with
  | here => exact .here
  | @step a b h hb he hp ih =>
    have ha := h.lt hv
    exact (Way.step .here ha (by rw [hA.sym b a hb ha]; exact he) (h.within hpv)).trans ih
end

noncomputable def wayB (n : Nat) (e : Nat → Nat → Bool) (p : Nat → Bool) (v : Nat) : Nat → Bool := fun b => @decide (Way n e p v b) (Classical.propDecidable _)
theorem wayB_iff {n : Nat} {e : Nat → Nat → Bool} {p : Nat → Bool} {v b : Nat} : wayB n e p v b = true ↔ Way n e p v b := by
  exact @decide_eq_true_iff (Way n e p v b) (Classical.propDecidable _)
theorem wayB_eq {n : Nat} {e : Nat → Nat → Bool} {p q : Nat → Bool} {v : Nat} (h1 : ∀ b, b < n → p b = true → b = v ∨ q b = true) (h2 : ∀ b, b < n → q b = true → b = v ∨ p b = true) : wayB n e p v = wayB n e q v := by
  funext b
  rw [Bool.eq_iff_iff, wayB_iff, wayB_iff]
  exact ⟨fun h => h.mono h1, fun h => h.mono h2⟩

/-- A set that is reached, holds v, and is closed, is all that is reached. -/
theorem way_mask {n : Nat} {e : Nat → Nat → Bool} {p : Nat → Bool} {v m : Nat} (h0 : m.testBit v = true) (h1 : ∀ b, m.testBit b = true → b < n ∧ Way n e p v b)
    (h2 : ∀ a b, m.testBit a = true → b < n → e a b = true → p b = true → m.testBit b = true) : m = maskB n (wayB n e p v) := by
  apply Nat.eq_of_testBit_eq
  intro b
  rw [testBit_maskB, Bool.eq_iff_iff, Bool.and_eq_true, decide_eq_true_eq, wayB_iff]
  refine ⟨h1 b, fun h => ?_⟩
  replace h := h.2
  induction h with
  | here => exact h0
  | step h hb he hp ih => exact h2 _ _ ih hb he hp
theorem way_row {n : Nat} {e : Nat → Nat → Bool} {p : Nat → Bool} {v : Nat} {o : Nat → Bool} (h0 : o v = true) (h1 : ∀ b, o b = true → b < n ∧ Way n e p v b)
    (h2 : ∀ a b, o a = true → b < n → e a b = true → p b = true → o b = true) : rowB n o = rowB n (wayB n e p v) := by
  refine rowB_ext fun b hb => ?_
  rw [Bool.eq_iff_iff, wayB_iff]
  refine ⟨fun h => (h1 b h).2, fun h => ?_⟩
  clear hb
  induction h with
  | here => exact h0
  | step h hb he hp ih => exact h2 _ _ ih hb he hp

/-! ### How many -/
theorem rowB_succ_length (n : Nat) (p : Nat → Bool) : (rowB (n + 1) p).length = (rowB n p).length + if p n = true then 1 else 0 := by
  unfold rowB
  rw [List.range_succ, List.filter_append, List.map_append, List.length_append]
  by_cases h : p n = true <;> simp [h]
theorem rowB_put_length {p : Nat → Bool} {b : Nat} (h0 : p b = false) : ∀ {n : Nat}, b < n → (rowB n fun x => p x || decide (x = b)).length = (rowB n p).length + 1
  | 0, h => by omega
  | n + 1, h => by
    rw [rowB_succ_length, rowB_succ_length]
    by_cases hb : b = n
    · subst hb
      have e1 : rowB b (fun x => p x || decide (x = b)) = rowB b p := rowB_ext fun x hx => by
        have : decide (x = b) = false := by simp; omega
        rw [this, Bool.or_false]
      rw [e1]
      simp [h0]
    · have ih := rowB_put_length h0 (n := n) (by omega)
      have : decide (n = b) = false := by simp; omega
      rw [ih, this, Bool.or_false]
      omega

/-! ### The parts of a set -/
/-- Is b reached from one below j? -/
noncomputable def doneB (n : Nat) (e : Nat → Nat → Bool) (p : Nat → Bool) (j b : Nat) : Bool := (List.range j).any fun u => p u && wayB n e p u b
noncomputable def leftB (n : Nat) (e : Nat → Nat → Bool) (p : Nat → Bool) (j b : Nat) : Bool := p b && !doneB n e p j b
/-- The parts whose least vertices are below j. -/
noncomputable def partsTo (n : Nat) (e : Nat → Nat → Bool) (p : Nat → Bool) (j : Nat) : List (Nat → Bool) := ((List.range j).filter fun v => leftB n e p v v).map fun v => wayB n e p v

section
variable {n : Nat} {e : Nat → Nat → Bool} {p : Nat → Bool}
theorem doneB_iff {j b : Nat} : doneB n e p j b = true ↔ ∃ u, u < j ∧ p u = true ∧ Way n e p u b := by
  unfold doneB
  simp [wayB_iff]
theorem leftB_zero : leftB n e p 0 = p := by
  funext b
  simp [leftB, doneB]
theorem leftB_ge {j b : Nat} (h : leftB n e p j b = true) : j ≤ b ∧ p b = true := by
  unfold leftB at h
  rw [Bool.and_eq_true, Bool.not_eq_true'] at h
  refine ⟨?_, h.1⟩
  apply Classical.byContradiction
  intro hlt
  have : doneB n e p j b = true := doneB_iff.2 ⟨b, by omega, h.1, .here⟩
  rw [this] at h
  cases h.2
theorem doneB_succ (j b : Nat) : doneB n e p (j + 1) b = (doneB n e p j b || (p j && wayB n e p j b)) := by
  unfold doneB
  rw [List.range_succ, List.any_append]
  simp
theorem partsTo_zero : partsTo n e p 0 = [] := rfl
theorem partsTo_yes {j : Nat} (h : leftB n e p j j = true) : partsTo n e p (j + 1) = partsTo n e p j ++ [wayB n e p j] := by
  unfold partsTo
  rw [List.range_succ, List.filter_append, List.map_append]
  simp [h]
theorem partsTo_no {j : Nat} (h : leftB n e p j j = false) : partsTo n e p (j + 1) = partsTo n e p j := by
  unfold partsTo
  rw [List.range_succ, List.filter_append, List.map_append]
  simp [h]
theorem doneB_no {j : Nat} (h : leftB n e p j j = false) (b : Nat) : doneB n e p (j + 1) b = doneB n e p j b := by
  rw [doneB_succ]
  cases hp : p j with
  | false => simp
  | true =>
    have hd : doneB n e p j j = true := by
      unfold leftB at h
      rw [hp, Bool.true_and] at h
      simpa using h
    obtain ⟨u, hu, hpu, hw⟩ := doneB_iff.1 hd
    rw [Bool.eq_iff_iff, Bool.or_eq_true, Bool.true_and, wayB_iff]
    refine ⟨fun h => ?_, .inl⟩
    rcases h with h | h
    · exact h
    · exact doneB_iff.2 ⟨u, hu, hpu, hw.trans h⟩
/-- Over vertices that are not in the set, or have been reached, nothing new comes. -/
theorem jump {j : Nat} : ∀ (d : Nat), (∀ i, j ≤ i → i < j + d → leftB n e p i i = false) → partsTo n e p (j + d) = partsTo n e p j ∧ ∀ b, doneB n e p (j + d) b = doneB n e p j b
  | 0, _ => ⟨rfl, fun _ => rfl⟩
  | d + 1, h => by
    obtain ⟨h1, h2⟩ := jump d fun i h3 h4 => h i h3 (by omega)
    have h3 := h (j + d) (by omega) (by omega)
    exact ⟨(partsTo_no h3).trans h1, fun b => (doneB_no h3 b).trans (h2 b)⟩
/-- The same from what is left at the start. -/
theorem jumpLeft {j l : Nat} (hjl : j ≤ l) (h : ∀ i, j ≤ i → i < l → leftB n e p j i = false) : partsTo n e p l = partsTo n e p j ∧ ∀ b, doneB n e p l b = doneB n e p j b := by
  obtain ⟨d, rfl⟩ : ∃ d, l = j + d := ⟨l - j, by omega⟩
  clear hjl
  induction d with
  | zero => exact ⟨rfl, fun _ => rfl⟩
  | succ d ih =>
    obtain ⟨h1, h2⟩ := ih fun i h3 h4 => h i h3 (by omega)
    have h3 : leftB n e p (j + d) (j + d) = false := by
      have := h (j + d) (by omega) (by omega)
      unfold leftB at this ⊢
      rw [h2]; exact this
    exact ⟨(partsTo_no h3).trans h1, fun b => (doneB_no h3 b).trans (h2 b)⟩
theorem leftB_of_done {j l : Nat} (h : ∀ b, doneB n e p l b = doneB n e p j b) : leftB n e p l = leftB n e p j := by
  funext b
  unfold leftB
  rw [h]
theorem leftB_yes {j : Nat} (h : leftB n e p j j = true) (b : Nat) : leftB n e p (j + 1) b = (leftB n e p j b && !wayB n e p j b) := by
  have hp := (leftB_ge h).2
  unfold leftB
  rw [doneB_succ, hp, Bool.true_and, Bool.not_or, Bool.and_assoc]
/-- Among what is left the same is reached. -/
theorem wayB_left (hA : Adj n e) (hpn : ∀ b, p b = true → b < n) {j : Nat} (h : leftB n e p j j = true) : wayB n e (leftB n e p j) j = wayB n e p j := by
  have hp := (leftB_ge h).2
  have hn := hpn j hp
  funext b
  rw [Bool.eq_iff_iff, wayB_iff, wayB_iff]
  refine ⟨fun h => h.mono fun b _ h => .inr (leftB_ge h).2, fun hw => ?_⟩
  induction hw with
  | here => exact .here
  | @step a b hw hb he hpb ih =>
    refine .step ih hb he ?_
    unfold leftB
    rw [hpb, Bool.true_and, Bool.not_eq_true', ← Bool.not_eq_true]
    intro hd
    obtain ⟨u, hu, hpu, huw⟩ := doneB_iff.1 hd
    have hjb : Way n e p j b := .step hw hb he hpb
    have : doneB n e p j j = true := doneB_iff.2 ⟨u, hu, hpu, huw.trans (hjb.symm hA hn hp)⟩
    unfold leftB at h
    rw [this] at h
    simp at h
theorem partsTo_length (j : Nat) : (partsTo n e p j).length ≤ j := by
  unfold partsTo
  rw [List.length_map]
  exact Nat.le_trans (List.length_filter_le _ _) (by simp)
end

/-! ### Through a row that rises -/
theorem rising_at {xs : List Int} (h : xs.Pairwise (· < ·)) {i j : Nat} {x y : Int} (hi : xs[i]? = some x) (hj : xs[j]? = some y) (hij : i < j) : x < y := by
  obtain ⟨h1, rfl⟩ := List.getElem?_eq_some_iff.1 hi
  obtain ⟨h2, rfl⟩ := List.getElem?_eq_some_iff.1 hj
  exact List.pairwise_iff_getElem.1 h i j h1 h2 hij
theorem mem_take_iff {xs : List Int} {k : Nat} {x : Int} : x ∈ xs.take k ↔ ∃ i, i < k ∧ xs[i]? = some x := by
  rw [List.mem_iff_getElem?]
  constructor
  · rintro ⟨i, hi⟩
    rw [List.getElem?_take] at hi
    split at hi
    · exact ⟨i, by assumption, hi⟩
    · cases hi
  · rintro ⟨i, hi, h⟩
    exact ⟨i, by rw [List.getElem?_take, if_pos hi]; exact h⟩
/-- J stands just behind the first k numbers of the row. -/
def Past (n : Nat) (p : Nat → Bool) (k J : Nat) : Prop := ∀ b, b < n → p b = true → (b < J ↔ (b : Int) ∈ (rowB n p).take k)
theorem Past.start (n : Nat) (p : Nat → Bool) : Past n p 0 0 := fun b _ _ => by simp
theorem Past.next {n : Nat} {p : Nat → Bool} {k J y : Nat} (hJ : Past n p k J) (h : (rowB n p)[k]? = some (y : Int)) : J ≤ y ∧ (∀ b, J ≤ b → b < y → p b = false) ∧ Past n p (k + 1) (y + 1) := by
  obtain ⟨y', hy, hpy, e⟩ := mem_rowB.1 (List.mem_of_getElem? h)
  obtain rfl : y = y' := by omega
  have hr := rowB_rising n p
  have h1 : J ≤ y := by
    apply Classical.byContradiction
    intro hlt
    obtain ⟨i, hi, hx⟩ := mem_take_iff.1 ((hJ y hy hpy).1 (by omega))
    have := rising_at hr hx h hi
    omega
  have h2 : ∀ b, J ≤ b → b < y → p b = false := by
    intro b hb hby
    cases hp : p b with
    | false => rfl
    | true =>
      exfalso
      obtain ⟨i, hi⟩ := List.mem_iff_getElem?.1 (nat_mem_rowB.2 ⟨(by omega : b < n), hp⟩)
      have hik : ¬ i < k := fun h => by
        have := (hJ b (by omega) hp).2 (mem_take_iff.2 ⟨i, h, hi⟩)
        omega
      by_cases he : i = k
      · subst he
        rw [h] at hi
        have := Option.some.inj hi
        omega
      · have := rising_at hr h hi (by omega)
        omega
  refine ⟨h1, h2, fun b hb hp => ?_⟩
  constructor
  · intro hlt
    by_cases hby : b = y
    · subst hby; exact mem_take_iff.2 ⟨k, by omega, h⟩
    · have hbJ : b < J := by
        apply Classical.byContradiction
        intro hn
        have := h2 b (by omega) (by omega)
        rw [hp] at this
        cases this
      obtain ⟨i, hi, hx⟩ := mem_take_iff.1 ((hJ b hb hp).1 hbJ)
      exact mem_take_iff.2 ⟨i, by omega, hx⟩
  · intro hm
    obtain ⟨i, hi, hx⟩ := mem_take_iff.1 hm
    by_cases hik : i = k
    · subst hik
      rw [h] at hx
      have := Option.some.inj hx
      omega
    · have := (hJ b hb hp).2 (mem_take_iff.2 ⟨i, by omega, hx⟩)
      omega
theorem Past.done {n : Nat} {p : Nat → Bool} {J : Nat} (hJ : Past n p (rowB n p).length J) : ∀ b, J ≤ b → b < n → p b = false := by
  intro b h1 h2
  cases hp : p b with
  | false => rfl
  | true =>
    have := (hJ b h2 hp).2 (by rw [List.take_length]; exact nat_mem_rowB.2 ⟨h2, hp⟩)
    omega
end Go.Proofs.YtbhobmngnjfgfaaDoor
/-
  Sets as masks and as rising rows: 'list' and 'numbers' of a mask, 'l1Into' of a row, in their normal forms.
-/



namespace Go.Proofs.YtbhobmngnjfgfaaDoor
open Go.RowKit

theorem into_rowB {n : Nat} (hn : n ≤ 32) (o : Nat → Bool) {q : Nat} (hq : q < n) : into (rowB n o) (q : Int) = rowB n fun b => o b || decide (b = q) := by
  rw [← nums_maskB hn o, into_nums _ q (by omega), pow_maskB hq]
  have h : maskB n o ||| maskB n (fun i => decide (i = q)) = maskB n fun b => o b || decide (b = q) := by
    apply Nat.eq_of_testBit_eq
    intro i
    rw [Nat.testBit_or, testBit_maskB, testBit_maskB, testBit_maskB]
    cases decide (i < n) <;> simp
  rw [h, nums_maskB hn]
theorem inL_rowB {n : Nat} {p : Nat → Bool} {b : Nat} (hb : b < n) : inL (rowB n p) b = p b := by
  unfold inL
  rw [Bool.eq_iff_iff, decide_eq_true_eq, nat_mem_rowB]
  exact ⟨fun h => h.2, fun h => ⟨hb, h⟩⟩
theorem inL_nil (b : Nat) : inL [] b = false := by simp [inL]

/-- 'list' of a set. -/
theorem listB_any {n : Nat} (hn : n ≤ 32) (p : Nat → Bool) (z : Int) (hz : z = (maskB n p : Nat)) (w : World) (ht : Tab w) :
    Calls Tryd.prog 123 #[.int .u32 z] w fun e w' => ∃ v, e = .returned v ∧ w'.ownsRow w.heap.size 3 1 v (rowB n p).length (ints (rowB n p)) ∧ Below w.heap.size w w' := by
  subst hz
  have h := list_any (maskB n p) (maskB_small hn p) w ht
  rwa [show (bitsOf (maskB n p)).length = (rowB n p).length by rw [← nums_maskB hn p]; simp [nums], ← ints_nums, nums_maskB hn] at h
/-- 'numbers' of a set. -/
theorem numbersB_any {n : Nat} (hn : n ≤ 32) (p : Nat → Bool) (z : Int) (hz : z = (maskB n p : Nat)) (w : World) (ht : Tab w) :
    Calls Tryd.prog 78 #[.int .u32 z] w (SRes w (rowB n p)) := by
  subst hz
  have h := numbers_any (maskB n p) (maskB_small hn p) w ht
  rwa [nums_maskB hn] at h
/-- An element of a rising row, as a number. -/
theorem row_at {n : Nat} {p : Nat → Bool} {j : Nat} {x : Int} (h : (rowB n p)[j]? = some x) : ∃ q : Nat, q < n ∧ p q = true ∧ x = q := by
  obtain ⟨q, h1, h2, h3⟩ := mem_rowB.1 (List.mem_of_getElem? h)
  exact ⟨q, h1, h2, h3⟩
/-- Bits of two masks, as they are computed. -/
theorem mask_and {n : Nat} (hn : n ≤ 32) (p q : Nat → Bool) : bits BinOp.and IntKind.u32 ((maskB n p : Nat) : Int) ((maskB n q : Nat) : Int) = ((maskB n (fun i => p i && q i) : Nat) : Int) := by
  rw [maskB_and hn p (maskB_small hn q)]
  congr 1
  exact maskB_ext fun i hi => by rw [testBit_maskB]; simp [hi]
theorem mask_andNot {n : Nat} (hn : n ≤ 32) (p q : Nat → Bool) : bits BinOp.andNot IntKind.u32 ((maskB n p : Nat) : Int) ((maskB n q : Nat) : Int) = ((maskB n (fun i => p i && !q i) : Nat) : Int) := by
  rw [maskB_andNot hn p (maskB_small hn q)]
  congr 1
  exact maskB_ext fun i hi => by rw [testBit_maskB]; simp [hi]
theorem mask_eq_iff {n : Nat} {p q : Nat → Bool} : maskB n p = maskB n q ↔ ∀ i, i < n → p i = q i := by
  refine ⟨fun h i hi => ?_, maskB_ext⟩
  have := testBit_maskB n p i
  rw [h, testBit_maskB] at this
  simpa [hi] using this.symm
end Go.Proofs.YtbhobmngnjfgfaaDoor
/-
  The reference's sets as bits of int64: 'l25Many', 'l25Less', 'l25All', 'l25Set'.
-/



namespace Go.Proofs.YtbhobmngnjfgfaaDoor
open Go.RowKit

theorem i64_and_nat (a b : Nat) (ha : a < 4294967296) (hb : b < 4294967296) : bits .and .i64 (a : Int) (b : Int) = ((a &&& b : Nat) : Int) := by
  have hx : a &&& b < 2 ^ 32 := Nat.and_lt_two_pow _ (by omega)
  show IntKind.i64.wrap ((BitVec.ofInt 64 (a : Int) &&& BitVec.ofInt 64 (b : Int)).toNat : Int) = _
  rw [BitVec.toNat_and, ofInt_u64 a (by omega), ofInt_u64 b (by omega), IntKind.wrap_i64]
  omega
theorem i64_or_nat (a b : Nat) (ha : a < 4294967296) (hb : b < 4294967296) : bits .or .i64 (a : Int) (b : Int) = ((a ||| b : Nat) : Int) := by
  have hx : a ||| b < 2 ^ 32 := Nat.or_lt_two_pow (by omega) (by omega)
  show IntKind.i64.wrap ((BitVec.ofInt 64 (a : Int) ||| BitVec.ofInt 64 (b : Int)).toNat : Int) = _
  rw [BitVec.toNat_or, ofInt_u64 a (by omega), ofInt_u64 b (by omega), IntKind.wrap_i64]
  omega
theorem i64_xor_nat (a b : Nat) (ha : a < 4294967296) (hb : b < 4294967296) : bits .xor .i64 (a : Int) (b : Int) = ((a ^^^ b : Nat) : Int) := by
  have hx : a ^^^ b < 2 ^ 32 := Nat.xor_lt_two_pow (by omega) (by omega)
  show IntKind.i64.wrap ((BitVec.ofInt 64 (a : Int) ^^^ BitVec.ofInt 64 (b : Int)).toNat : Int) = _
  rw [BitVec.toNat_xor, ofInt_u64 a (by omega), ofInt_u64 b (by omega), IntKind.wrap_i64]
  omega
theorem i64_andNot_nat (a b : Nat) (ha : a < 4294967296) (hb : b < 4294967296) : bits .andNot .i64 (a : Int) (b : Int) = ((a &&& (4294967295 - b) : Nat) : Int) := by
  have e1 : a &&& (18446744073709551615 - b) = a &&& (4294967295 - b) := by
    apply Nat.eq_of_testBit_eq
    intro i
    have h1 := Nat.testBit_two_pow_sub_succ (x := b) (n := 64) (by omega) i
    have h2 := Nat.testBit_two_pow_sub_succ (x := b) (n := 32) (by omega) i
    rw [show 2 ^ 64 - (b + 1) = 18446744073709551615 - b by omega] at h1
    rw [show 2 ^ 32 - (b + 1) = 4294967295 - b by omega] at h2
    rw [Nat.testBit_and, Nat.testBit_and, h1, h2]
    by_cases hi : i < 32
    · simp [hi, show i < 64 by omega]
    · have : a.testBit i = false := Nat.testBit_lt_two_pow (Nat.lt_of_lt_of_le (show a < 2 ^ 32 by omega) (Nat.pow_le_pow_right (by decide) (by omega)))
      simp [this]
  have hx : a &&& (4294967295 - b) < 2 ^ 32 := Nat.and_lt_two_pow _ (by omega)
  show IntKind.i64.wrap ((BitVec.ofInt 64 (a : Int) &&& ~~~BitVec.ofInt 64 (b : Int)).toNat : Int) = _
  rw [BitVec.toNat_and, BitVec.toNat_not, ofInt_u64 a (by omega), ofInt_u64 b (by omega), IntKind.wrap_i64]
  have e : 2 ^ 64 - 1 - b = 18446744073709551615 - b := by omega
  rw [e, e1]
  omega
theorem and_neg_low64 {m : Nat} (h0 : m ≠ 0) (h : m < 4294967296) : m &&& (18446744073709551616 - m) = 2 ^ low m := by
  rw [← and_neg_low h0 (by rw [two32]; exact h)]
  apply Nat.eq_of_testBit_eq
  intro i
  rw [Nat.testBit_and, Nat.testBit_and]
  by_cases hi : i < 32
  · congr 1
    have e : (2 ^ 32 - m) = (18446744073709551616 - m) % 2 ^ 32 := by omega
    rw [e, Nat.testBit_mod_two_pow]
    simp [hi]
  · have : m.testBit i = false := Nat.testBit_lt_two_pow (Nat.lt_of_lt_of_le (show m < 2 ^ 32 by omega) (Nat.pow_le_pow_right (by decide) (by omega)))
    simp [this]
theorem i64_and_neg {m : Nat} (h0 : m ≠ 0) (h : m < 4294967296) : bits .and .i64 (m : Int) (-(m : Int)) = ((2 ^ low m : Nat) : Int) := by
  show IntKind.i64.wrap ((BitVec.ofInt 64 (m : Int) &&& BitVec.ofInt 64 (-(m : Int))).toNat : Int) = _
  have e : (BitVec.ofInt 64 (-(m : Int))).toNat = 18446744073709551616 - m := by
    rw [BitVec.toNat_ofInt]
    omega
  rw [BitVec.toNat_and, ofInt_u64 m (by omega), e, and_neg_low64 h0 h, IntKind.wrap_i64]
  have := (low_spec h0 (by rw [two32]; exact h)).1
  have h2 : 2 ^ low m < 2 ^ 32 := Nat.pow_lt_pow_right (by decide) this
  generalize 2 ^ low m = q at *
  omega

theorem bit_and_pow (a i : Nat) : a &&& 2 ^ i = if a.testBit i = true then 2 ^ i else 0 := by
  apply Nat.eq_of_testBit_eq
  intro j
  rw [Nat.testBit_and, Nat.testBit_two_pow]
  by_cases h : i = j
  · subst h
    cases ha : a.testBit i <;> simp
  · cases ha : a.testBit i <;> simp [h]
/-- Is one set ahead of the other, as it is computed? -/
def lexB (a b : Nat) : Bool := decide (a ≠ b) && a.testBit (low (a ^^^ b))
theorem lexB_iff {a b : Nat} (ha : a < 4294967296) (hb : b < 4294967296) : lexB a b = true ↔ Lex a b := by
  unfold lexB
  rw [Bool.and_eq_true, decide_eq_true_eq]
  have hx : a ^^^ b < 2 ^ 32 := Nat.xor_lt_two_pow (by omega) (by omega)
  have hxb : ∀ i, (a ^^^ b).testBit i = (a.testBit i != b.testBit i) := fun i => Nat.testBit_xor ..
  constructor
  · rintro ⟨hne, hl⟩
    have h0 : a ^^^ b ≠ 0 := fun h => hne (by
      apply Nat.eq_of_testBit_eq
      intro i
      have := hxb i
      rw [h, Nat.zero_testBit] at this
      simpa using this.symm)
    obtain ⟨_, h1, h2⟩ := low_spec h0 hx
    rw [hxb] at h1
    exact ⟨_, hl, by rw [hl] at h1; simpa using h1, fun j hj => by have := h2 j hj; rw [hxb] at this; simpa using this⟩
  · rintro ⟨i, h1, h2, h3⟩
    have h0 : a ^^^ b ≠ 0 := fun h => by
      have := hxb i
      rw [h, Nat.zero_testBit, h1, h2] at this
      cases this
    refine ⟨fun h => (by rw [h, h2] at h1; cases h1), ?_⟩
    obtain ⟨_, g1, g2⟩ := low_spec h0 hx
    have : low (a ^^^ b) = i := by
      rcases Nat.lt_trichotomy (low (a ^^^ b)) i with hlt | heq | hlt
      · rw [hxb, h3 _ hlt] at g1; simp at g1
      · exact heq
      · have := g2 i hlt
        rw [hxb, h1, h2] at this
        cases this
    rw [this]; exact h1

set_option maxHeartbeats 1000000 in
theorem many_any (m : Nat) (hm : m < 4294967296) (M : Int) (hM : M = m) (w : World) :
    Calls Tryd.prog 181 #[.int .i64 M] w fun e w' => e = .returned (.int .i64 (size m : Nat)) ∧ w = w' := by
  subst hM
  go_enter Tryd.func181, Tryd.ntmps181
  go_wp2_with fail
  have hsz : size m ≤ 32 := length_bitsOf m
  go_loopw [0, 3] (fun s d wr => ∃ (k j : Nat), k < 4294967296 ∧ s = .int .i64 k ∧ d = .int .i64 j ∧ j ≤ 32 ∧ Hid (j + size k = size m) ∧ wr = w) (fun s _ _ => (intOf s).toNat)
  case atStart => exact ⟨m, 0, hm, rfl, rfl, by omega, Lib.hid (by omega), rfl⟩
  case round =>
    obtain ⟨k, j, hk, rfl, rfl, hj, HJ, rfl⟩ := hrel
    by_cases h0 : k = 0
    · have hd : ¬ (0 : Int) < k := by omega
      have HF : Hid (size m = j) := Lib.hid (by have := HJ.out; rw [h0, show size 0 = 0 by simp [size, bitsOf_zero]] at this; omega)
      clear h0
      go_wp2_with fail
      go_ret
      exact ⟨ret_int (by rw [HF.out]), rfl⟩
    · have hd : (0 : Int) < k := by omega
      have hst := bitsOf_step h0 (by rw [two32]; exact hk)
      have hs1 : size k = 1 + size (k &&& (k - 1)) := by unfold size; rw [hst]; simp; omega
      obtain ⟨k2, HK2⟩ : ∃ k2, Hid (k &&& (k - 1) = k2) := ⟨_, Lib.hid rfl⟩
      have hkk := low_clear_lt h0
      rw [HK2.out] at hs1 hkk
      have HS1 := Lib.hid hs1
      have hj2 : j + 1 ≤ 32 := by have := HJ.out; omega
      have hb : bits BinOp.and IntKind.i64 (k : Int) ((k : Int) - 1) = (k2 : Int) := by
        rw [show (k : Int) - 1 = ((k - 1 : Nat) : Int) by omega, i64_and_nat k (k - 1) hk (by omega), HK2.out]
      clear hst hs1 h0
      go_wp2_with fail
      go_roundw
      case rel => exact ⟨k2, j + 1, by omega, by go_num, by go_num, hj2, Lib.hid (by have := HJ.out; have := HS1.out; omega), by first | rfl | trivial⟩
      case measure => simp [intOf]; omega

theorem less_core (a b x : Int) (l y : Int) (q : Bool) (w : World) (h1 : bits BinOp.xor IntKind.i64 a b = x) (hx : 0 ≤ x ∧ x < 4294967296) (h2 : bits BinOp.and IntKind.i64 x (-x) = l) (h3 : bits BinOp.and IntKind.i64 a l = y) (h4 : (y != 0) = q) :
    Calls Tryd.prog 182 #[.int .i64 a, .int .i64 b] w fun e w' => e = .returned (.bool q) ∧ w = w' := by
  go_enter Tryd.func182, Tryd.ntmps182
  go_wp2_with fail
  go_ret
  exact ⟨rfl, rfl⟩
theorem less_any (a b : Nat) (ha : a < 4294967296) (hb : b < 4294967296) (A X : Int) (hA : A = a) (hX : X = b) (w : World) :
    Calls Tryd.prog 182 #[.int .i64 A, .int .i64 X] w fun e w' => e = .returned (.bool (lexB a b)) ∧ w = w' := by
  subst hA; subst hX
  have hx : a ^^^ b < 2 ^ 32 := Nat.xor_lt_two_pow (by omega) (by omega)
  rw [two32] at hx
  by_cases h0 : a ^^^ b = 0
  · refine less_core a b ((a ^^^ b : Nat) : Int) 0 0 _ w (i64_xor_nat a b ha hb) (by omega) (by rw [h0]; rfl) ?_ ?_
    · have := i64_and_nat a 0 ha (by decide)
      simpa using this
    · have : a = b := by
        apply Nat.eq_of_testBit_eq
        intro i
        have : (a ^^^ b).testBit i = false := by rw [h0]; simp
        rw [Nat.testBit_xor] at this
        revert this
        cases a.testBit i <;> cases b.testBit i <;> simp
      unfold lexB
      simp [this]
  · have hlow := (low_spec h0 (by rw [two32]; exact hx)).1
    have hp : 2 ^ low (a ^^^ b) < 4294967296 := pow_small hlow
    refine less_core a b ((a ^^^ b : Nat) : Int) _ _ _ w (i64_xor_nat a b ha hb) (by omega) (i64_and_neg h0 hx) (i64_and_nat a _ ha hp) ?_
    have hne : a ≠ b := fun h => h0 (by rw [h]; simp)
    unfold lexB
    rw [decide_eq_true hne, Bool.true_and]
    rw [bit_and_pow]
    cases a.testBit (low (a ^^^ b)) with
    | false => simp
    | true =>
      have hp0 : 0 < 2 ^ low (a ^^^ b) := Nat.pow_pos (by decide)
      rw [if_pos rfl]
      generalize 2 ^ low (a ^^^ b) = q at *
      rw [bne_iff_ne]
      omega

theorem all25_any (a : Option Addr) (n c : Nat) (hn : n ≤ 16) (w : World) :
    Calls Tryd.prog 118 #[.agg #[.slice a n c]] w fun e w' => e = .returned (.int .i64 ((2 ^ n - 1 : Nat) : Int)) ∧ Below w.heap.size w w' := by
  have hb0 := below_alloc' w (.cells #[.slice a n c] 56)
  obtain ⟨q, hq⟩ : ∃ q : Nat, 2 ^ n = q := ⟨_, rfl⟩
  have hq1 : 1 ≤ q ∧ q ≤ 65536 := by rw [← hq]; exact ⟨Nat.one_le_two_pow, Nat.pow_le_pow_right (by decide) hn⟩
  have hqi : (2 : Int) ^ n = (q : Int) := by rw [← hq]; simp
  rw [hq]
  go_enter Tryd.func118, Tryd.ntmps118
  go_wp2_with fail
  go_ret
  exact ⟨ret_int (by go_num), hb0⟩

/-- The reference's bits of a graph. -/
def natL (ms : List Nat) : List Int := ms.map fun (m : Nat) => (m : Int)
theorem natL_length (ms : List Nat) : (natL ms).length = ms.length := by simp [natL]
theorem shr_bit {m v : Nat} (hm : m < 4294967296) : (bits BinOp.and IntKind.i64 ((m : Int) / 2 ^ v) 1 == 1) = m.testBit v := by
  have hz : m / 2 ^ v ≤ m := Nat.div_le_self _ _
  have h1 : ((m : Int) / 2 ^ v) = ((m / 2 ^ v : Nat) : Int) := by simp
  rw [h1, show (1 : Int) = ((1 : Nat) : Int) from rfl, i64_and_nat (m / 2 ^ v) 1 (by omega) (by decide), Nat.and_one_is_mod, Nat.testBit_eq_decide_div_mod_eq, Bool.eq_iff_iff]
  simp
  omega

set_option maxHeartbeats 1000000 in
theorem set25_any (n : Nat) (hn : n ≤ 32) (p : Nat → Bool) (M : Int) (hM : M = (maskB n p : Nat)) (w : World) :
    Calls Tryd.prog 82 #[.int .i64 M] w (SRes w (rowB n p)) := by
  subst hM
  have hm := maskB_small hn p
  have hbit : ∀ i, (maskB n p).testBit i = (decide (i < n) && p i) := testBit_maskB n p
  generalize maskB n p = m at *
  obtain ⟨B, hB⟩ : ∃ B, w.heap.size = B := ⟨_, rfl⟩
  have ho0 : (w.alloc (.cells #[] 2)).ownsRow B 2 1 (.slice (some ⟨B, 0, none⟩) 0 0) 0 [] := by subst hB; exact World.ownsRow_lit w #[] 0 (Nat.le_refl _) (by simp [maxLen]) rfl
  have hb0 : Below B w (w.alloc (.cells #[] 2)) := by subst hB; exact (Below.refl _ _).alloc (Nat.le_refl _) _
  go_enter Tryd.func82, Tryd.ntmps82
  go_wp2_with fail
  go_loopw [3, 4] (fun u i wr => ∃ (j k : Nat), j ≤ 32 ∧ k ≤ j ∧ i = .int .i64 j ∧ Hid ((((List.range j).filter m.testBit).map fun (i : Nat) => (i : Int)).length = k) ∧ wr.ownsRow B 2 1 u k (ints (((List.range j).filter m.testBit).map fun (i : Nat) => (i : Int))) ∧ Below B w wr) (fun _ i _ => 32 - (intOf i).toNat)
  case atStart => exact ⟨0, 0, Nat.zero_le _, Nat.le_refl _, rfl, Lib.hid rfl, by simpa [ints] using ho0, hb0⟩
  case round =>
    clear ho0 hb0
    obtain ⟨j, k, hj, hk, rfl, HK, ho, hb⟩ := hrel
    have hsz := hb.size
    obtain ⟨d, hd0⟩ : ∃ d : Nat, m / 2 ^ j = d := ⟨_, rfl⟩
    have hdi : (m : Int) / 2 ^ j = (d : Int) := by rw [← hd0]; simp
    have hdm : d ≤ m := by rw [← hd0]; exact Nat.div_le_self _ _
    have hbit1 := shr_bit (v := j) hm
    rw [hdi] at hbit1
    by_cases h0 : d = 0
    · have hd1 : ¬ (0 : Int) < d := by omega
      have hlt : m < 2 ^ j := by
        rw [hd0.symm] at h0
        exact (Nat.div_eq_zero_iff_lt (Nat.pow_pos (by decide))).1 h0
      have HF : Hid (((List.range j).filter m.testBit).map (fun (i : Nat) => (i : Int)) = rowB n p) := Lib.hid (by
        refine rising_ext (by
          rw [List.pairwise_map]
          exact ((pairwise_range j).imp fun h => by omega).filter _) (rowB_rising n p) fun x => ?_
        rw [List.mem_map, mem_rowB]
        constructor
        · rintro ⟨i, hi, rfl⟩
          rw [List.mem_filter, hbit] at hi
          simp at hi
          exact ⟨i, hi.2.1, hi.2.2, rfl⟩
        · rintro ⟨i, hi, hpi, rfl⟩
          have hbi : m.testBit i = true := by rw [hbit]; simp [hi, hpi]
          refine ⟨i, List.mem_filter.2 ⟨List.mem_range.2 ?_, hbi⟩, rfl⟩
          apply Classical.byContradiction
          intro hn
          have := bits_above hlt i (by omega)
          rw [hbi] at this
          cases this)
      have HFK : Hid ((rowB n p).length = k) := Lib.hid (by rw [← HF.out]; exact HK.out)
      clear h0 hbit1 hd0
      go_wp2_with fail
      go_ret
      exact ⟨_, rfl, by rw [hB, HFK.out, ← HF.out]; exact ho, by rw [hB]; exact hb⟩
    · have hd1 : (0 : Int) < d := by omega
      have hj32 : j < 32 := by
        apply Classical.byContradiction
        intro hn
        refine h0 ?_
        rw [← hd0]
        exact Nat.div_eq_of_lt (Nat.lt_of_lt_of_le hm (by rw [show (4294967296 : Nat) = 2 ^ 32 from by decide]; exact Nat.pow_le_pow_right (by decide) (by omega)))
      obtain ⟨b, HBB⟩ : ∃ b, Hid (m.testBit j = b) := ⟨_, Lib.hid rfl⟩
      rw [HBB.out] at hbit1
      clear h0 hd0
      cases b with
      | true =>
        have HS : Hid (((List.range (j + 1)).filter m.testBit).map (fun (i : Nat) => (i : Int)) = ((List.range j).filter m.testBit).map (fun (i : Nat) => (i : Int)) ++ [(j : Int)]) := Lib.hid (by simp [List.range_succ, List.filter_append, HBB.out])
        go_wp2_with (at_builtin; refine wpList_push _ rfl _ _ 30 rfl B 2 _ _ 8 Tryd.underlying30 infoI rfl _ _ _ rfl ho _ rfl rfl (by unfold maxLen; omega) (by omega) (by omega) ?_; intro g' c' w2 ho2 hg)
        go_roundw
        case rel => exact ⟨j + 1, k + 1, by omega, by omega, by go_num, Lib.hid (by rw [HS.out, List.length_append, HK.out]; rfl), by rw [HS.out]; simpa [ints] using ho2, hb.grown hg (by omega) fun b hb' => (owns_lt ho hb').1⟩
        case measure => simp [intOf]; omega
      | false =>
        have HS : Hid (((List.range (j + 1)).filter m.testBit).map (fun (i : Nat) => (i : Int)) = ((List.range j).filter m.testBit).map (fun (i : Nat) => (i : Int))) := Lib.hid (by simp [List.range_succ, List.filter_append, HBB.out])
        go_wp2_with fail
        go_roundw
        case rel => exact ⟨j + 1, k, by omega, by omega, by go_num, Lib.hid (by rw [HS.out]; exact HK.out), by rw [HS.out]; exact ho, hb⟩
        case measure => simp [intOf]; omega

set_option maxHeartbeats 2000000 in
theorem bits25_any (g : Value) (n : Nat) (e : Nat → Nat → Bool) (hn : n ≤ 16) (w : World) (hr : RdSS g (rowsB n e) w) :
    Calls Tryd.prog 116 #[.agg #[g]] w (SRes w (natL (NB n e))) := by
  obtain ⟨a, c, rfl⟩ := hr.shape
  rw [rowsB_length] at hr ⊢
  obtain ⟨B, hB⟩ : ∃ B, w.heap.size = B := ⟨_, rfl⟩
  have u1 : Below B w (w.alloc (.cells #[.slice a n c] 56)) := by subst hB; exact below_alloc' _ _
  have VG0 : VC 56 B #[.slice a n c] (w.alloc (.cells #[.slice a n c] 56)) := VC.new hB
  have hz0 : (w.alloc (.cells #[.slice a n c] 56)).heap.size = B + 1 := by simp [hB]
  have ho0 := World.ownsRow_lit (base := B + 1) (e := 2) (size := 1) (w.alloc (.cells #[.slice a n c] 56)) #[] 0 (by omega) (by simp [maxLen]) rfl
  rw [hz0] at ho0
  have u2 : Below B w ((w.alloc (.cells #[.slice a n c] 56)).alloc (.cells #[] 2)) := u1.alloc (by omega) _
  have VG1 := VG0.upd (Upd.alloc _ (.cells #[] 2)) (by omega)
  have hz1 : ((w.alloc (.cells #[.slice a n c] 56)).alloc (.cells #[] 2)).heap.size = B + 2 := by simp [hB]
  go_enter Tryd.func116, Tryd.ntmps116
  go_wp2_with fail
  generalize (w.alloc (.cells #[.slice a n c] 56)).alloc (.cells #[] 2) = W at *
  have hbW : Below (B + 1) W W := Below.refl _ _
  go_loopw [3, 4] (fun u i wr => ∃ (j : Nat), j ≤ n ∧ i = .int .i64 j ∧ wr.ownsRow (B + 1) 2 1 u j (ints (natL ((NB n e).take j))) ∧ Below (B + 1) W wr) (fun _ i _ => n - (intOf i).toNat)
  case atStart => exact ⟨0, Nat.zero_le _, rfl, by simpa [ints, natL] using ho0, hbW⟩
  case round =>
    clear ho0 hbW
    obtain ⟨j, hj, rfl, ho, hb⟩ := hrel
    have hsz := hb.size
    have hbw := u2.trans (hb.mono (by omega))
    have hcg := (VG1.belowAt hb (by omega)).cell
    by_cases hlt : j < n
    · obtain ⟨vsr, hGx⟩ := (hr.below hbw hB).ex
      obtain ⟨rb, ro, r, xs, rfl, hc, hxr, -, HXX⟩ := hGx.intsAt (k := j) (by simpa using hlt)
      obtain rfl : rowB n (e j) = xs := by have h := HXX.out; rw [rowsB_at e hlt] at h; exact Option.some.inj h
      obtain ⟨na, nc, rfl, -, -, -⟩ := id hxr
      have hrl := rowB_length n (e j)
      have hm0 : Hid (0 = maskB n (fun b => inL ((rowB n (e j)).take 0) b)) := Lib.hid (by rw [List.take_zero]; exact (maskB_eq_zero.2 fun i _ => by rw [inL_nil]).symm)
      clear hGx HXX
      go_wp2_with fail
      go_loopw [5, 6] (fun s t wr' => ∃ (k m : Nat), k ≤ (rowB n (e j)).length ∧ t = .int .i64 k ∧ s = .int .i64 m ∧ Hid (m = maskB n (fun b => inL ((rowB n (e j)).take k) b)) ∧ wr' = wr) (fun _ t _ => (rowB n (e j)).length - (intOf t).toNat)
      case atStart => exact ⟨0, 0, Nat.zero_le _, rfl, rfl, hm0, rfl⟩
      case round =>
        obtain ⟨k, m, hk, rfl, rfl, HM, rfl⟩ := hrel
        by_cases hlk : k < (rowB n (e j)).length
        · obtain ⟨xb, xo, x, rfl, hcx, HX⟩ := hxr.intAt hlk
          obtain ⟨q, hq, heq, rfl⟩ := row_at HX.out
          have HT := Lib.hid (inL_take_succ HX.out)
          obtain ⟨z1, HZ1⟩ : ∃ z : Int, Hid ((m : Int) = z) := ⟨_, Lib.hid rfl⟩
          obtain ⟨m2, HM2⟩ : ∃ k2 : Nat, Hid (k2 = maskB n (fun b => inL ((rowB n (e j)).take (k + 1)) b)) := ⟨_, Lib.hid rfl⟩
          obtain ⟨pq, hpq⟩ : ∃ q2 : Nat, 2 ^ q = q2 := ⟨_, rfl⟩
          have hpi : (2 : Int) ^ q = (pq : Int) := by rw [← hpq]; simp
          have hps : pq ≤ 65536 := by rw [← hpq]; exact Nat.pow_le_pow_right (n := 2) (j := 16) (by decide) (by omega)
          have hbo : bits BinOp.or IntKind.i64 z1 (pq : Int) = (m2 : Int) := by
            rw [← HZ1.out, ← hpq, i64_or_nat _ _ (by rw [HM.out]; exact maskB_small (by omega) _) (pow_small (by omega)), HM.out, HM2.out, pow_maskB hq, HT.out]
            congr 1
            apply Nat.eq_of_testBit_eq
            intro i
            rw [Nat.testBit_or, testBit_maskB, testBit_maskB, testBit_maskB]
            cases decide (i < n) <;> simp
          have HPQ := Lib.hid hpq
          rw [HZ1.out]
          clear hpq
          go_wp2_with fail
          go_roundw
          case rel => exact ⟨k + 1, m2, by omega, by go_num, rfl, HM2, by first | rfl | trivial⟩
          case measure => simp [intOf]; omega
        · obtain rfl : k = (rowB n (e j)).length := by omega
          have HTS : Hid ((NB n e).take (j + 1) = (NB n e).take j ++ [m]) := Lib.hid (by
            have h1 : (NB n e)[j]? = some m := by rw [NB_at e hlt, HM.out, List.take_length]; congr 1; exact maskB_ext fun i hi => (inL_rowB hi).symm
            obtain ⟨h2, h3⟩ := List.getElem?_eq_some_iff.1 h1
            rw [← h3]
            exact List.take_succ_eq_append_getElem h2)
          go_wp2_with (at_builtin; refine wpList_push _ rfl _ _ 30 rfl (B + 1) 2 _ _ 8 Tryd.underlying30 infoI rfl _ _ _ rfl ho _ rfl rfl (by unfold maxLen; omega) (by omega) (by omega) ?_; intro g' c' w2 ho2 hg)
          go_roundw
          case rel => exact ⟨j + 1, by omega, by go_num, by rw [HTS.out]; simpa [ints, natL] using ho2, hb.grown hg (by omega) fun b hb' => (owns_lt ho hb').1⟩
          case measure => simp [intOf]; omega
    · obtain rfl : j = n := by omega
      rw [List.take_of_length_le (by simp)] at ho
      have HEL : Hid ((natL (NB j e)).length = j) := Lib.hid (by rw [natL_length]; simp)
      go_wp2_with fail
      go_ret
      exact ⟨_, rfl, by rw [hB, HEL.out]; exact owns_base ho (by omega), by rw [hB]; exact hbw⟩
end Go.Proofs.YtbhobmngnjfgfaaDoor
/-
  'slices.IndexFunc' and 'ContainsFunc' over the closure of 'isStable'.
-/

namespace Go.Proofs.YtbhobmngnjfgfaaDoor
open Go.RowKit

set_option maxHeartbeats 1000000 in
theorem idxF_any_st (a0 a1 : Nat) (p : Int → Bool) (v : Value) (xs : List Int) (w : World) (hr : Row w 1 v xs.length (ints xs))
    (hcall : ∀ x ∈ xs, ∀ W, Below w.heap.size w W → Calls Tryd.prog 178 #[.int .i64 x, .pointer (some ⟨a0, 0, none⟩), .pointer (some ⟨a1, 0, none⟩)] W fun e W' => e = .returned (.bool (p x)) ∧ Below W.heap.size W W') :
    Calls Tryd.prog 204 #[v, .func (.func 178) #[] #[.pointer (some ⟨a0, 0, none⟩), .pointer (some ⟨a1, 0, none⟩)]] w fun e w' => ∃ r : Int, e = .returned (.int .i64 r) ∧ Hid (decide (0 ≤ r) = xs.any p) ∧ Below w.heap.size w w' := by
  obtain ⟨a, c, rfl, -, -, -⟩ := id hr
  have hlen := hr.len
  unfold maxLen at hlen
  obtain ⟨B, hB⟩ : ∃ B, w.heap.size = B := ⟨_, rfl⟩
  rw [hB] at hcall
  have hcl : Below B w w := Below.refl _ _
  go_enter Tryd.func204, Tryd.ntmps204
  go_wp2_with fail
  go_loopw [8] (fun i wr => ∃ k : Nat, k ≤ xs.length ∧ i = .int .i64 k ∧ Hid ((xs.take k).any p = false) ∧ Below B w wr) (fun i _ => xs.length - (intOf i).toNat)
  case atStart => exact ⟨0, Nat.zero_le _, rfl, Lib.hid (by simp), hcl⟩
  case round =>
    clear hcl
    obtain ⟨k, hk, rfl, HK, hb⟩ := hrel
    have hsz := hb.size
    by_cases hlt : k < xs.length
    · obtain ⟨yb, yo, x, rfl, hc, HX⟩ := (Row.below hr (hB.symm ▸ hb)).intAt hlt
      have HC := Lib.hid (hcall x (List.mem_of_getElem? HX.out) wr hb)
      obtain ⟨b, HBB⟩ : ∃ b, Hid (p x = b) := ⟨_, Lib.hid rfl⟩
      rw [HBB.out] at HC
      have HS : Hid ((xs.take (k + 1)).any p = b) := Lib.hid (by rw [take_snoc HX.out, List.any_append, HK.out]; simp [HBB.out])
      go_wp2_with fail
      refine HC.out.mono ?_
      rintro e1 w1 ⟨rfl, hb1⟩
      have hb2 := hb.trans (hb1.mono (by omega))
      clear hb1 HC hc hb
      cases b with
      | true =>
        have HF : Hid (xs.any p = true) := Lib.hid (List.any_eq_true.2 ⟨x, List.mem_of_getElem? HX.out, HBB.out⟩)
        go_wp2_with fail
        go_ret
        exact ⟨_, rfl, Lib.hid (by rw [HF.out]; simp), by rw [hB]; exact hb2⟩
      | false =>
        go_wp2_with fail
        go_roundw
        case rel => exact ⟨k + 1, by omega, by go_num, HS, hb2⟩
        case measure => simp [intOf]; omega
    · obtain rfl : k = xs.length := by omega
      go_wp2_with fail
      go_ret
      exact ⟨_, rfl, Lib.hid (by have := HK.out; rw [List.take_length] at this; rw [this]; rfl), by rw [hB]; exact hb⟩
theorem contF_any_st (a0 a1 : Nat) (p : Int → Bool) (v : Value) (xs : List Int) (w : World) (hr : Row w 1 v xs.length (ints xs))
    (hcall : ∀ x ∈ xs, ∀ W, Below w.heap.size w W → Calls Tryd.prog 178 #[.int .i64 x, .pointer (some ⟨a0, 0, none⟩), .pointer (some ⟨a1, 0, none⟩)] W fun e W' => e = .returned (.bool (p x)) ∧ Below W.heap.size W W') :
    Calls Tryd.prog 177 #[v, .func (.func 178) #[] #[.pointer (some ⟨a0, 0, none⟩), .pointer (some ⟨a1, 0, none⟩)]] w fun e w' => e = .returned (.bool (xs.any p)) ∧ Below w.heap.size w w' := by
  obtain ⟨a, c, rfl, -, -, -⟩ := id hr
  have HI := Lib.hid (idxF_any_st a0 a1 p _ xs w hr hcall)
  clear hcall
  go_enter Tryd.func177, Tryd.ntmps177
  go_wp2_with fail
  refine HI.out.mono ?_
  rintro e1 w1 ⟨r, rfl, HR, hb⟩
  go_wp2_with fail
  go_ret
  exact ⟨ret_bool HR.out, hb⟩
end Go.Proofs.YtbhobmngnjfgfaaDoor
