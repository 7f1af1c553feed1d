/-
  When may a vertex go (plain): the program's test over masks is the reference's over rows; what is left at last.
-/
import Derived.Test.YtbhobmngnjfgfaaDoorSetK
namespace Go.Proofs.YtbhobmngnjfgfaaDoor

def aloneB (n : Nat) (e : Nat → Nat → Bool) (S : Nat → Bool) (v : Nat) : Bool := (List.range n).all fun u => !(e v u && S u)
def penB (n : Nat) (e : Nat → Nat → Bool) (S : Nat → Bool) (v b : Nat) : Bool := (List.range n).all fun u => !(e v u && S u && decide (u ≠ b))
def twinB (n : Nat) (e : Nat → Nat → Bool) (S : Nat → Bool) (v b : Nat) : Bool := (List.range n).all fun u => (e v u && S u && decide (u ≠ b)) == (e b u && S u && decide (u ≠ v))
/-- May v go with b, so (k: 2 pendant, 3 false twin, 4 true twin)? -/
def goB (n : Nat) (e : Nat → Nat → Bool) (S : Nat → Bool) (v b k : Nat) : Bool :=
  decide (b ≠ v) && S b && (if k = 2 then e v b && penB n e S v b else if k = 3 then !e v b && twinB n e S v b else e v b && twinB n e S v b)
def goesB (n : Nat) (e : Nat → Nat → Bool) (S : Nat → Bool) (v : Nat) : Bool :=
  aloneB n e S v || (List.range n).any fun b => goB n e S v b 2 || goB n e S v b 3 || goB n e S v b 4

section
variable {n : Nat} {e : Nat → Nat → Bool} {S : Nat → Bool} {v b : Nat}
theorem aloneB_iff : aloneB n e S v = true ↔ ∀ u, u < n → (e v u && S u) = false := by
  unfold aloneB
  simp only [List.all_eq_true, List.mem_range]
  constructor
  · intro h u hu
    have := h u hu
    revert this
    cases (e v u && S u) <;> simp
  · intro h u hu
    rw [h u hu]
    rfl
theorem penB_iff : penB n e S v b = true ↔ ∀ u, u < n → (e v u && S u && decide (u ≠ b)) = false := by
  unfold penB
  simp only [List.all_eq_true, List.mem_range]
  constructor
  · intro h u hu
    have := h u hu
    revert this
    cases (e v u && S u && decide (u ≠ b)) <;> simp
  · intro h u hu
    rw [h u hu]
    rfl
theorem twinB_iff : twinB n e S v b = true ↔ ∀ u, u < n → (e v u && S u && decide (u ≠ b)) = (e b u && S u && decide (u ≠ v)) := by
  unfold twinB
  simp only [List.all_eq_true, List.mem_range, beq_iff_eq]
theorem rowB_nil_iff {p : Nat → Bool} : (rowB n p).length = 0 ↔ ∀ u, u < n → p u = false := by
  constructor
  · intro h u hu
    cases hp : p u with
    | false => rfl
    | true =>
      have := (nat_mem_rowB (n := n) (p := p) (i := u)).2 ⟨hu, hp⟩
      rw [List.length_eq_zero_iff.1 h] at this
      simp at this
  · intro h
    rw [List.length_eq_zero_iff]
    refine List.eq_nil_iff_forall_not_mem.2 fun x hx => ?_
    obtain ⟨i, hi, hp, -⟩ := mem_rowB.1 hx
    rw [h i hi] at hp
    cases hp
theorem rowB_eq_iff {p q : Nat → Bool} : rowB n p = rowB n q ↔ ∀ u, u < n → p u = q u := by
  constructor
  · intro h u hu
    have h1 := nat_mem_rowB (n := n) (p := p) (i := u)
    have h2 := nat_mem_rowB (n := n) (p := q) (i := u)
    rw [h] at h1
    cases hp : p u <;> cases hq : q u <;> simp_all
  · exact rowB_ext
/-- The reference's tests. -/
theorem near_alone : decide ((rowB n fun u => e v u && S u).length = 0) = aloneB n e S v := by
  rw [Bool.eq_iff_iff, decide_eq_true_eq, rowB_nil_iff, aloneB_iff]
theorem near_pen : decide ((rowB n fun u => e v u && S u && decide (u ≠ b)).length = 0) = penB n e S v b := by
  rw [Bool.eq_iff_iff, decide_eq_true_eq, rowB_nil_iff, penB_iff]
theorem near_twin : decide ((rowB n fun u => e v u && S u && decide (u ≠ b)) = (rowB n fun u => e b u && S u && decide (u ≠ v))) = twinB n e S v b := by
  rw [Bool.eq_iff_iff, decide_eq_true_eq, rowB_eq_iff, twinB_iff]
/-- The program's tests. -/
theorem mask_alone : decide (maskB n (fun u => e v u && S u) = 0) = aloneB n e S v := by
  have h0 : (0 : Nat) = maskB n (fun _ => false) := by
    refine Nat.eq_of_testBit_eq fun i => ?_
    rw [testBit_maskB]
    simp
  rw [h0, Bool.eq_iff_iff, decide_eq_true_eq, mask_eq_iff, aloneB_iff]
theorem one_mask {q : Nat} (hq : q < n) : 2 ^ q = maskB n (fun i => decide (i = q)) := by
  refine Nat.eq_of_testBit_eq fun i => ?_
  rw [testBit_maskB, Nat.testBit_two_pow]
  by_cases h : q = i
  · subst h; simp [hq]
  · simp [h, Ne.symm h]
theorem mask_pen (hb : b < n) (hSb : S b = true) : decide (maskB n (fun u => e v u && S u) = 2 ^ b) = (e v b && penB n e S v b) := by
  rw [one_mask hb, Bool.eq_iff_iff, decide_eq_true_eq, mask_eq_iff, Bool.and_eq_true, penB_iff]
  constructor
  · intro h
    have h1 := h b hb
    rw [hSb] at h1
    refine ⟨by simpa using h1, fun u hu => ?_⟩
    rw [h u hu]
    by_cases hub : u = b <;> simp [hub]
  · rintro ⟨h1, h2⟩ u hu
    have h3 := h2 u hu
    by_cases hub : u = b
    · subst hub; simp [h1, hSb]
    · simpa [hub] using h3
theorem mask_false (hA : Adj n e) (hv : v < n) (hb : b < n) (hSb : S b = true) (hSv : S v = true) : decide (maskB n (fun u => e v u && S u) = maskB n (fun u => e b u && S u)) = (!e v b && twinB n e S v b) := by
  rw [Bool.eq_iff_iff, decide_eq_true_eq, mask_eq_iff, Bool.and_eq_true, twinB_iff]
  have hs : e v b = e b v := hA.sym v b hv hb
  have hbb : e b b = false := hA.irr b hb
  have hvv : e v v = false := hA.irr v hv
  constructor
  · intro h
    have h1 := h b hb
    rw [hSb, hbb] at h1
    have h1' : e v b = false := by simpa using h1
    refine ⟨by simp [h1'], fun u hu => ?_⟩
    rw [h u hu]
    by_cases hub : u = b
    · subst hub; simp [hbb]
    · by_cases huv : u = v
      · subst huv; simp [← hs, h1']
      · simp [hub, huv]
  · rintro ⟨h1, h2⟩ u hu
    have h1' : e v b = false := by simpa using h1
    have h3 := h2 u hu
    by_cases hub : u = b
    · subst hub; simp [h1', hbb]
    · by_cases huv : u = v
      · subst huv; simp [hvv, ← hs, h1']
      · simpa [hub, huv] using h3
theorem mask_true : decide (maskB n (fun u => (e v u && S u) && !decide (u = b)) = maskB n (fun u => (e b u && S u) && !decide (u = v))) = twinB n e S v b := by
  rw [Bool.eq_iff_iff, decide_eq_true_eq, mask_eq_iff, twinB_iff]
  simp
theorem goesB_none (h1 : aloneB n e S v = false) (h2 : ∀ k b, 2 ≤ k → k ≤ 4 → b < n → goB n e S v b k = false) : goesB n e S v = false := by
  unfold goesB
  rw [h1, Bool.false_or, List.any_eq_false]
  intro x hx
  have hx' := List.mem_range.1 hx
  rw [h2 2 x (by omega) (by omega) hx', h2 3 x (by omega) (by omega) hx', h2 4 x (by omega) (by omega) hx']
  simp
theorem goesB_alone (h1 : aloneB n e S v = true) : goesB n e S v = true := by
  unfold goesB
  rw [h1]
  rfl
theorem goesB_some {k : Nat} (hb : b < n) (h2 : 2 ≤ k) (h4 : k ≤ 4) (h : goB n e S v b k = true) : goesB n e S v = true := by
  unfold goesB
  rw [Bool.or_eq_true]
  refine .inr (List.any_eq_true.2 ⟨b, List.mem_range.2 hb, ?_⟩)
  obtain rfl | rfl | rfl : k = 2 ∨ k = 3 ∨ k = 4 := by omega
  · simp [h]
  · simp [h]
  · simp [h]
end

/-- The set without v. -/
def lessB (S : Nat → Bool) (v : Nat) : Nat → Bool := fun i => S i && !decide (i = v)
/-- What is left when the least vertex that may go goes, again and again. -/
inductive Fin' (n : Nat) (e : Nat → Nat → Bool) : (Nat → Bool) → Bool → Prop where
  | stop {S : Nat → Bool} (h : ∀ v, v < n → S v = true → goesB n e S v = false) : Fin' n e S (decide ((rowB n S).length = 0))
  | step {S : Nat → Bool} {v : Nat} {r : Bool} (hv : v < n) (hS : S v = true) (hg : goesB n e S v = true) (hl : ∀ u, u < v → S u = true → goesB n e S u = false) (h : Fin' n e (lessB S v) r) : Fin' n e S r
theorem Fin'.det {n : Nat} {e : Nat → Nat → Bool} {S : Nat → Bool} {r q : Bool} (h : Fin' n e S r) : Fin' n e S q → r = q := by
  induction h with
  | stop h =>
    intro h'
    cases h' with
    | stop _ => rfl
    | step hv hS hg _ _ => rw [h _ hv hS] at hg; cases hg
  | @step S v r hv hS hg hl h ih =>
    intro h'
    cases h' with
    | stop h0 => rw [h0 v hv hS] at hg; cases hg
    | @step _ v' _ hv' hS' hg' hl' h' =>
      have : v = v' := by
        rcases Nat.lt_trichotomy v v' with hlt | rfl | hlt
        · rw [hl' v hlt hS] at hg; cases hg
        · rfl
        · rw [hl v' hlt hS'] at hg'; cases hg'
      subst this
      exact ih h'
theorem rowB_lessB {n : Nat} {S : Nat → Bool} {v : Nat} (hv : v < n) (hS : S v = true) : (rowB n (lessB S v)).length + 1 = (rowB n S).length := by
  have hperm : ((List.range n).filter S).Perm (v :: (List.range n).filter (lessB S v)) := by
    refine (List.perm_ext_iff_of_nodup (List.nodup_range.filter _) ?_).2 fun a => ?_
    · refine List.nodup_cons.2 ⟨by simp [lessB], List.nodup_range.filter _⟩
    · simp only [List.mem_filter, List.mem_range, List.mem_cons, lessB, Bool.and_eq_true, Bool.not_eq_true', decide_eq_false_iff_not]
      by_cases ha : a = v
      · subst ha; simp [hv, hS]
      · simp [ha]
  have := hperm.length_eq
  simp only [rowB, List.length_map, List.length_cons] at this ⊢
  omega
theorem fin_has (n : Nat) (e : Nat → Nat → Bool) : ∀ (m : Nat) (S : Nat → Bool), (rowB n S).length ≤ m → ∃ r, Fin' n e S r := by
  intro m
  induction m with
  | zero =>
    intro S hS
    refine ⟨_, .stop fun v hv hSv => ?_⟩
    have := (rowB_nil_iff (n := n) (p := S)).1 (by omega) v hv
    rw [this] at hSv
    cases hSv
  | succ m ih =>
    intro S hS
    by_cases h : ∃ v, v < n ∧ S v = true ∧ goesB n e S v = true
    · have hex : ∃ v, (v < n ∧ S v = true ∧ goesB n e S v = true) ∧ ∀ u, u < v → S u = true → goesB n e S u = false := by
        obtain ⟨v, hv⟩ := h
        induction v using Nat.strongRecOn with
        | _ v ihv =>
          by_cases hu : ∃ u, u < v ∧ S u = true ∧ goesB n e S u = true
          · obtain ⟨u, huv, hSu, hgu⟩ := hu
            exact ihv u huv ⟨by omega, hSu, hgu⟩
          · refine ⟨v, hv, fun u huv hSu => ?_⟩
            cases hg : goesB n e S u with
            | false => rfl
            | true => exact (hu ⟨u, huv, hSu, hg⟩).elim
      obtain ⟨v, ⟨hv, hSv, hg⟩, hl⟩ := hex
      obtain ⟨r, hr⟩ := ih (lessB S v) (by have := rowB_lessB hv hSv; omega)
      exact ⟨r, .step hv hSv hg hl hr⟩
    · refine ⟨_, .stop fun v hv hSv => ?_⟩
      cases hg : goesB n e S v with
      | false => rfl
      | true => exact (h ⟨v, hv, hSv, hg⟩).elim
end Go.Proofs.YtbhobmngnjfgfaaDoor
