import Derived.Test.YtpfhflkpnjkgkaaCardCertNumbersJn06
import Derived.Test.YtpfhflkpnjkgkaaGq08
/-
  How many bits a union has. No program in sight.
-/

namespace Go.Proofs.Ytpfhflkpnjkgkaa

theorem filter_or {α : Type} (p q : α → Bool) (l : List α) : (l.filter fun x => p x || q x).length + (l.filter fun x => p x && q x).length = (l.filter p).length + (l.filter q).length := by
  induction l with
  | nil => rfl
  | cons x l ih =>
    simp only [List.filter_cons]
    cases hp : p x <;> cases hq : q x <;> simp <;> omega
theorem size_filter {m : Nat} (h : m < 2 ^ 16) : size m = ((List.range 16).filter m.testBit).length := by
  rw [size_cnt (n := 16) (by decide) (bits_above h)]
  unfold cnt
  rw [List.range_eq_range']
theorem size_or {a b : Nat} (ha : a < 2 ^ 16) (hb : b < 2 ^ 16) : size (a ||| b) + size (a &&& b) = size a + size b := by
  have h1 : size (a ||| b) = ((List.range 16).filter fun x => a.testBit x || b.testBit x).length := by
    rw [size_filter (Nat.or_lt_two_pow ha hb)]
    congr 1
    exact List.filter_congr fun x _ => by rw [Nat.testBit_or]
  have h2 : size (a &&& b) = ((List.range 16).filter fun x => a.testBit x && b.testBit x).length := by
    rw [size_filter (Nat.and_lt_two_pow a hb)]
    congr 1
    exact List.filter_congr fun x _ => by rw [Nat.testBit_and]
  rw [h1, h2, size_filter ha, size_filter hb]
  exact filter_or _ _ _
theorem size_none {m : Nat} (h : m < 2 ^ 16) : size m = 0 ↔ m = 0 := by
  rw [size_filter h]
  constructor
  · intro h0
    apply Nat.eq_of_testBit_eq
    intro i
    rw [Nat.zero_testBit]
    by_cases hi : i < 16
    · cases hb : m.testBit i with
      | false => rfl
      | true =>
        have : i ∈ (List.range 16).filter m.testBit := List.mem_filter.2 ⟨List.mem_range.2 hi, hb⟩
        rw [List.length_eq_zero_iff.1 h0] at this
        cases this
    · exact bits_above h i (by omega)
  · rintro rfl
    simp
/-- The union of sets. -/
def mor : List Nat → Nat
  | [] => 0
  | a :: l => mor l ||| a
/-- Each is apart from those behind it. -/
def disR : List Nat → Prop
  | [] => True
  | a :: l => disR l ∧ mor l &&& a = 0
theorem mor_lt : ∀ {l : List Nat}, (∀ a ∈ l, a < 2 ^ 16) → mor l < 2 ^ 16 := by
  intro l
  induction l with
  | nil => intro _; decide
  | cons a l ih => exact fun h => Nat.or_lt_two_pow (ih fun b hb => h b (by simp [hb])) (h a (by simp))
def sizes (l : List Nat) : Nat := (l.map size).sum
/-- A union is no larger than its parts, and as large exactly where they are apart. -/
theorem mor_size : ∀ {l : List Nat}, (∀ a ∈ l, a < 2 ^ 16) → size (mor l) ≤ sizes l ∧ (size (mor l) = sizes l ↔ disR l) := by
  intro l
  induction l with
  | nil => intro _; have h0 : size 0 = 0 := (size_none (by decide)).2 rfl; simp [mor, sizes, disR, h0]
  | cons a l ih =>
    intro h
    have hl : ∀ b ∈ l, b < 2 ^ 16 := fun b hb => h b (by simp [hb])
    have ha := h a (by simp)
    have hm := mor_lt hl
    obtain ⟨h1, h2⟩ := ih hl
    have ho := size_or hm ha
    have hz := size_none (Nat.and_lt_two_pow (mor l) ha)
    have hs : sizes (a :: l) = size a + sizes l := by simp [sizes]
    rw [hs]
    unfold mor disR
    refine ⟨by omega, ?_⟩
    rw [← h2, ← hz]
    omega
end Go.Proofs.Ytpfhflkpnjkgkaa
/-
  The parts of a set are no more than the set.
-/


namespace Go.Proofs.Ytpfhflkpnjkgkaa
open Go.RowKit

theorem row_len (n : Nat) (p : Nat → Bool) : (rowB n p).length = ((List.range n).filter p).length := by simp [rowB]
/-- A union of sets that are apart. -/
theorem row_or {n : Nat} {p q : Nat → Bool} (h : ∀ b, b < n → p b = true → q b = false) : (rowB n fun b => p b || q b).length = (rowB n p).length + (rowB n q).length := by
  rw [row_len, row_len, row_len]
  have h1 := filter_or p q (List.range n)
  have h2 : ((List.range n).filter fun x => p x && q x) = [] := by
    rw [List.filter_eq_nil_iff]
    intro b hb
    cases hp : p b with
    | false => simp
    | true => rw [h b (List.mem_range.1 hb) hp]; simp
  rw [h2] at h1
  simp at h1
  omega
theorem row_mono {n : Nat} {p q : Nat → Bool} (h : ∀ b, b < n → p b = true → q b = true) : (rowB n p).length ≤ (rowB n q).length := by
  rw [row_len, row_len]
  induction n with
  | zero => simp
  | succ n ih =>
    rw [List.range_succ, List.filter_append, List.filter_append, List.length_append, List.length_append]
    have h1 := ih fun b hb => h b (by omega)
    have h2 := h n (by omega)
    cases hp : p n with
    | false => simp [hp]; omega
    | true =>
      have h3 := h2 hp
      simp [hp, h3]
      omega
section
variable {n : Nat} {e : Nat → Nat → Bool} {p : Nat → Bool}
theorem done_left (hA : Adj n e) (hp : ∀ b, p b = true → b < n) {j : Nat} (h : leftB n e p j j = true) (b : Nat) (hd : doneB n e p j b = true) : wayB n e p j b = false := by
  obtain ⟨u, hu, hpu, hw⟩ := doneB_iff.1 hd
  cases hb : wayB n e p j b with
  | false => rfl
  | true =>
    have hpj := (leftB_ge h).2
    have hjn := hp j hpj
    have hway := wayB_iff.1 hb
    have hback := Way.symm hA hway hjn hpj
    have hdj : doneB n e p j j = true := doneB_iff.2 ⟨u, hu, hpu, hw.trans hback⟩
    unfold leftB at h
    rw [hdj] at h
    simp at h
/-- The parts up to j: their lengths make that of what is done. -/
theorem parts_done (hA : Adj n e) (hp : ∀ b, p b = true → b < n) : ∀ j, ((partsTo n e p j).map fun q => (rowB n q).length).sum = (rowB n (doneB n e p j)).length := by
  intro j
  induction j with
  | zero =>
    have h0 : ((List.range n).filter fun _ => false) = [] := List.filter_eq_nil_iff.2 (by simp)
    rw [partsTo_zero, rowB_ext (p := doneB n e p 0) (q := fun _ => false) fun i _ => by simp [doneB], row_len, h0]
    rfl
  | succ j ih =>
    cases hl : leftB n e p j j with
    | false =>
      rw [partsTo_no hl, ih]
      congr 1
      exact rowB_ext fun b _ => (doneB_no hl b).symm
    | true =>
      have hpj := (leftB_ge hl).2
      rw [partsTo_yes hl, List.map_append, List.sum_append, ih, rowB_ext (p := doneB n e p (j + 1)) (q := fun b => doneB n e p j b || wayB n e p j b) fun b _ => by rw [doneB_succ, hpj, Bool.true_and],
        row_or fun b _ hd => done_left hA hp hl b hd]
      simp
theorem part_way : ∀ j, ∀ q ∈ partsTo n e p j, ∃ v, v < j ∧ p v = true ∧ q = wayB n e p v := by
  intro j
  induction j with
  | zero => intro q hq; rw [partsTo_zero] at hq; cases hq
  | succ j ih =>
    intro q hq
    cases hl : leftB n e p j j with
    | false => rw [partsTo_no hl] at hq; obtain ⟨v, h1, h2⟩ := ih q hq; exact ⟨v, by omega, h2⟩
    | true =>
      rw [partsTo_yes hl] at hq
      rcases List.mem_append.1 hq with hq | hq
      · obtain ⟨v, h1, h2⟩ := ih q hq; exact ⟨v, by omega, h2⟩
      · exact ⟨j, by omega, (leftB_ge hl).2, List.mem_singleton.1 hq⟩
theorem parts_sum (hA : Adj n e) (hp : ∀ b, p b = true → b < n) : ((partsTo n e p n).map fun q => (rowB n q).length).sum ≤ (rowB n p).length := by
  rw [parts_done hA hp n]
  refine row_mono fun b _ hd => ?_
  obtain ⟨u, _, hpu, hw⟩ := doneB_iff.1 hd
  exact hw.within hpu
theorem part_pos {q : Nat → Bool} (hq : q ∈ partsTo n e p n) : 1 ≤ (rowB n q).length ∧ ∀ b, q b = true → b < n := by
  obtain ⟨v, hv, hpv, rfl⟩ := part_way n q hq
  refine ⟨?_, fun b hb => (wayB_iff.1 hb).lt hv⟩
  have hm : (v : Int) ∈ rowB n (wayB n e p v) := nat_mem_rowB.2 ⟨hv, wayB_iff.2 .here⟩
  exact List.length_pos_iff.2 fun h => by rw [h] at hm; cases hm
end
theorem sum_le_two {l : List Nat} (h : ∀ x ∈ l, 1 ≤ x) (h2 : 2 ≤ l.length) : ∀ x ∈ l, x + 1 ≤ l.sum := by
  intro x hx
  match l, h2 with
  | a :: b :: l, _ =>
    have ha := h a (by simp)
    have hb := h b (by simp)
    have key : ∀ (l : List Nat), ∀ y ∈ l, y ≤ l.sum := by
      intro l
      induction l with
      | nil => intro y hy; cases hy
      | cons c l ih => intro y hy; rcases List.mem_cons.1 hy with rfl | hy; simp; have := ih y hy; simp; omega
    rcases List.mem_cons.1 hx with rfl | hx
    · simp; omega
    · have := key (b :: l) x hx
      simp at this ⊢
      omega
end Go.Proofs.Ytpfhflkpnjkgkaa
