/-
  The distances of the program, plainly: layer by layer.
-/
import Derived.Test.YtehejjmmbjekgaaDoorReach
namespace Go.Proofs.YtehejjmmbjekgaaDoor
open Go.RowKit

/-- Is b a neighbour of one of the list? -/
def nextB (e : Nat → Nat → Bool) (L : List Int) (b : Nat) : Bool := L.any fun a => e a.toNat b
theorem nextB_nil (e : Nat → Nat → Bool) : nextB e [] = fun _ => false := rfl
theorem nextB_snoc (e : Nat → Nat → Bool) (L : List Int) (q : Nat) : nextB e (L ++ [(q : Int)]) = fun b => nextB e L b || e q b := by
  funext b
  simp [nextB]
theorem nextB_iff {e : Nat → Nat → Bool} {n : Nat} {l : Nat → Bool} {b : Nat} : nextB e (rowB n l) b = true ↔ ∃ a, a < n ∧ l a = true ∧ e a b = true := by
  unfold nextB
  rw [List.any_eq_true]
  constructor
  · rintro ⟨x, hx, hxb⟩
    obtain ⟨i, hi, hpi, rfl⟩ := mem_rowB.1 hx
    exact ⟨i, hi, hpi, by simpa using hxb⟩
  · rintro ⟨a, ha, hla, hab⟩
    exact ⟨(a : Int), nat_mem_rowB.2 ⟨ha, hla⟩, by simpa using hab⟩
/-- The marks of a list of places are set to d. -/
def setAll (ds : List Int) (L : List Int) (d : Int) : List Int := L.foldl (fun ds u => ds.set u.toNat d) ds
theorem setAll_snoc (ds L : List Int) (d : Int) (q : Nat) : setAll ds (L ++ [(q : Int)]) d = (setAll ds L d).set q d := by
  unfold setAll
  rw [List.foldl_append]
  simp
@[simp] theorem setAll_length (ds L : List Int) (d : Int) : (setAll ds L d).length = ds.length := by
  unfold setAll
  induction L generalizing ds with
  | nil => rfl
  | cons x L ih => rw [List.foldl_cons, ih]; simp
theorem getD_setI {ds : List Int} {q u : Nat} {d : Int} (hq : q < ds.length) : (ds.set q d).getD u (-1) = if u = q then d else ds.getD u (-1) := by
  simp only [List.getD, List.getElem?_set]
  by_cases h : q = u
  · subst h; simp [hq]
  · have : ¬ u = q := fun h' => h h'.symm
    simp [h, this]
theorem setAll_getD {n : Nat} {l : Nat → Bool} {d : Int} {b : Nat} : ∀ {L ds : List Int}, (∀ x ∈ L, ∃ i : Nat, i < n ∧ x = i) → ds.length = n → (setAll ds L d).getD b (-1) = if (b : Int) ∈ L then d else ds.getD b (-1)
  | [], ds, _, _ => by simp [setAll]
  | x :: L, ds, h, hl => by
    obtain ⟨i, hi, rfl⟩ := h x (by simp)
    have e1 : setAll ds ((i : Int) :: L) d = setAll (ds.set i d) L d := by simp [setAll]
    rw [e1, setAll_getD (l := l) (fun y hy => h y (by simp [hy])) (by simpa using hl), getD_setI (by omega)]
    by_cases hb : (b : Int) ∈ L
    · simp [hb]
    · by_cases hbi : b = i
      · subst hbi; simp
      · have : ¬ (b : Int) = (i : Int) := by omega
        simp [hb, hbi, this]

/-- The run of the distances from v: the marks ds, what has been seen, the last layer, at distance d. -/
structure Lay (n : Nat) (e : Nat → Nat → Bool) (p : Nat → Bool) (v d : Nat) (l s : Nat → Bool) (ds : List Int) : Prop where
  len : ds.length = n
  seen : ∀ b, b < n → (s b = true ↔ 0 ≤ ds.getD b (-1))
  lay : ∀ b, b < n → (l b = true ↔ ds.getD b (-1) = (d : Int))
  le : ∀ b, b < n → ds.getD b (-1) ≤ (d : Int)
  start : ds.getD v (-1) = 0
  zero : ∀ b, b < n → ds.getD b (-1) = 0 → b = v
  back : ∀ b k, b < n → ds.getD b (-1) = (k : Int) + 1 → 0 ≤ k → p b = true ∧ ∃ x, x < n ∧ e x b = true ∧ ds.getD x (-1) = k
  ways : ∀ b, b < n → s b = true → Way n e p v b
  closed : ∀ a b, a < n → b < n → s a = true → l a = false → e a b = true → p b = true → s b = true
  dist : ∀ b k : Int, k = ds.getD b.toNat (-1) → -1 ≤ k
def layN (n : Nat) (e : Nat → Nat → Bool) (p l s : Nat → Bool) (b : Nat) : Bool := nextB e (rowB n l) b && p b && !s b
section
variable {n : Nat} {e : Nat → Nat → Bool} {p : Nat → Bool} {v d : Nat} {l s : Nat → Bool} {ds : List Int}
theorem Lay.first (hv : v < n) : Lay n e p v 0 (fun b => decide (b = v)) (fun b => decide (b = v)) ((List.replicate n (-1)).set v 0) := by
  have hg : ∀ u, ((List.replicate n (-1 : Int)).set v 0).getD u (-1) = if u = v then 0 else -1 := fun u => by
    rw [getD_setI (by simpa using hv)]
    congr 1
    simp only [List.getD, List.getElem?_replicate]
    split <;> rfl
  refine ⟨by simp, fun b _ => ?_, fun b _ => ?_, fun b _ => ?_, by rw [hg]; simp, fun b _ => ?_, fun b k _ => ?_, fun b _ hb => ?_, fun a b _ _ ha hla => ?_, fun b k hk => ?_⟩
  · rw [hg]; by_cases h : b = v <;> simp [h]
  · rw [hg]; by_cases h : b = v <;> simp [h]
  · rw [hg]; by_cases h : b = v <;> simp [h]
  · rw [hg]; by_cases h : b = v <;> simp [h]
  · rw [hg]; by_cases h : b = v <;> simp [h] <;> omega
  · simp at hb; subst hb; exact .here
  · simp at ha hla; exact (hla ha).elim
  · rw [hg] at hk; split at hk <;> omega
theorem Lay.next (h : Lay n e p v d l s ds) : Lay n e p v (d + 1) (layN n e p l s) (fun b => s b || layN n e p l s b) (setAll ds (rowB n (layN n e p l s)) ((d : Int) + 1)) := by
  have hg : ∀ b, b < n → (setAll ds (rowB n (layN n e p l s)) ((d : Int) + 1)).getD b (-1) = if layN n e p l s b = true then (d : Int) + 1 else ds.getD b (-1) := fun b hb => by
    rw [setAll_getD (n := n) (l := l) (fun x hx => by obtain ⟨i, hi, _, rfl⟩ := mem_rowB.1 hx; exact ⟨i, hi, rfl⟩) h.len]
    simp [nat_mem_rowB, hb]
  have hN : ∀ b, layN n e p l s b = true ↔ ((∃ a, a < n ∧ l a = true ∧ e a b = true) ∧ p b = true) ∧ s b = false := fun b => by
    unfold layN
    rw [Bool.and_eq_true, Bool.and_eq_true, nextB_iff, Bool.not_eq_true']
  have hsn : ∀ b, b < n → s b = false → ds.getD b (-1) = -1 := fun b hb hs => by
    have h1 := h.seen b hb
    rw [hs] at h1
    have h2 := h.dist (b : Int) _ rfl
    have h3 : ((b : Int)).toNat = b := by omega
    rw [h3] at h2
    by_cases h0 : 0 ≤ ds.getD b (-1)
    · exact absurd (h1.2 h0) (by simp)
    · omega
  refine ⟨by simpa using h.len, fun b hb => ?_, fun b hb => ?_, fun b hb => ?_, ?_, fun b hb => ?_, fun b k hb => ?_, fun b hb hs => ?_, fun a b ha hb hs hl he hp => ?_, fun b k hk => ?_⟩
  · rw [hg b hb]
    have h1 := h.seen b hb
    by_cases hl : layN n e p l s b = true
    · rw [if_pos hl, hl, Bool.or_true]
      exact ⟨fun _ => by omega, fun _ => rfl⟩
    · rw [if_neg hl]
      have h2 : layN n e p l s b = false := by simpa using hl
      rw [h2, Bool.or_false]
      exact h1
  · rw [hg b hb]
    have h1 := h.le b hb
    by_cases hl : layN n e p l s b = true
    · rw [if_pos hl]
      exact ⟨fun _ => by omega, fun _ => hl⟩
    · rw [if_neg hl]
      exact ⟨fun h => (hl h).elim, fun h => by omega⟩
  · rw [hg b hb]
    have h1 := h.le b hb
    by_cases hl : layN n e p l s b = true
    · rw [if_pos hl]; omega
    · rw [if_neg hl]; omega
  · by_cases hv : v < n
    · have h1 : layN n e p l s v = false := by
        cases hc : layN n e p l s v with
        | false => rfl
        | true =>
          have h2 := ((hN v).1 hc).2
          have h3 := (h.seen v hv).2 (by rw [h.start]; omega)
          rw [h2] at h3; cases h3
      rw [hg v hv, h1]
      simpa using h.start
    · have := h.start
      rw [List.getD_eq_getElem?_getD, List.getElem?_eq_none (by rw [h.len]; omega)] at this
      simp at this
  · rw [hg b hb]
    by_cases hl : layN n e p l s b = true
    · rw [if_pos hl]; omega
    · rw [if_neg hl]; exact h.zero b hb
  · rw [hg b hb]
    by_cases hl : layN n e p l s b = true
    · rw [if_pos hl]
      intro hk _
      obtain ⟨⟨⟨a, ha, hla, he⟩, hp⟩, hs⟩ := (hN b).1 hl
      refine ⟨hp, a, ha, he, ?_⟩
      have h1 : layN n e p l s a = false := by
        cases hc : layN n e p l s a with
        | false => rfl
        | true =>
          have h2 := ((hN a).1 hc).2
          have h4 := (h.lay a ha).1 hla
          have h3 := (h.seen a ha).2 (by rw [h4]; omega)
          rw [h2] at h3; cases h3
      rw [hg a ha, h1]
      have h4 := (h.lay a ha).1 hla
      simp only [Bool.false_eq_true, if_false]
      omega
    · rw [if_neg hl]
      intro hk h0
      obtain ⟨hp, x, hx, he, hd⟩ := h.back b k hb hk h0
      refine ⟨hp, x, hx, he, ?_⟩
      have h1 : layN n e p l s x = false := by
        cases hc : layN n e p l s x with
        | false => rfl
        | true =>
          have h2 := ((hN x).1 hc).2
          have h3 := (h.seen x hx).2 (by rw [hd]; exact h0)
          rw [h2] at h3; cases h3
      rw [hg x hx, h1]
      simpa using hd
  · rw [Bool.or_eq_true] at hs
    rcases hs with hs | hs
    · exact h.ways b hb hs
    · obtain ⟨⟨⟨a, ha, hla, he⟩, hp⟩, _⟩ := (hN b).1 hs
      have h4 := (h.lay a ha).1 hla
      exact .step (h.ways a ha ((h.seen a ha).2 (by rw [h4]; omega))) hb he hp
  · rw [hl, Bool.or_false] at hs
    rw [Bool.or_eq_true]
    cases hsb : s b with
    | true => exact .inl rfl
    | false =>
      cases hla : l a with
      | false =>
        have := h.closed a b ha hb hs hla he hp
        rw [hsb] at this; cases this
      | true => exact .inr ((hN b).2 ⟨⟨⟨a, ha, hla, he⟩, hp⟩, hsb⟩)
  · by_cases hb : b.toNat < n
    · rw [hg _ hb] at hk
      split at hk
      · omega
      · exact h.dist b k hk
    · rw [List.getD_eq_getElem?_getD, List.getElem?_eq_none (by simp [h.len]; omega)] at hk
      simp at hk
      omega
/-- The end: the last layer is empty. -/
theorem Lay.done (h : Lay n e p v d l s ds) (hv : v < n) (hl : maskB n l = 0) (b : Nat) (hb : b < n) : decide (0 ≤ ds.getD b (-1)) = wayB n e p v b := by
  have h0 := maskB_eq_zero.1 hl
  have h1 : (fun b => decide (b < n) && s b) = wayB n e p v := by
    refine way_pt ?_ (fun b hb => ?_) fun a b ha hb he hp => ?_
    · simp [hv, (h.seen v hv).2 (by rw [h.start]; omega)]
    · simp at hb; exact ⟨hb.1, h.ways b hb.1 hb.2⟩
    · simp at ha ⊢
      exact ⟨hb, h.closed a b ha.1 hb ha.2 (h0 a ha.1) he hp⟩
  rw [← h1, Bool.eq_iff_iff]
  simp [hb, h.seen b hb]
theorem Lay.grow (h : Lay n e p v d l s ds) (hl : maskB n (layN n e p l s) ≠ 0) : maskB n s < maskB n (fun b => s b || layN n e p l s b) := by
  have hx : ∃ b, b < n ∧ layN n e p l s b = true := by
    apply Classical.byContradiction
    intro hn
    refine hl (maskB_eq_zero.2 fun i hi => ?_)
    cases hc : layN n e p l s i with
    | false => rfl
    | true => exact (hn ⟨i, hi, hc⟩).elim
  obtain ⟨b, hb, hlb⟩ := hx
  have hsb : s b = false := by
    unfold layN at hlb
    simp at hlb
    exact hlb.2
  rcases Nat.lt_or_ge (maskB n s) (maskB n fun b => s b || layN n e p l s b) with h1 | h1
  · exact h1
  · have h2 : maskB n s ≤ maskB n fun b => s b || layN n e p l s b := mask_le fun b hb => by rw [hb]; rfl
    have h3 := (mask_eq_iff.1 (Nat.le_antisymm h2 h1)) b hb
    rw [hsb, hlb] at h3
    cases h3
end
end Go.Proofs.YtehejjmmbjekgaaDoor
