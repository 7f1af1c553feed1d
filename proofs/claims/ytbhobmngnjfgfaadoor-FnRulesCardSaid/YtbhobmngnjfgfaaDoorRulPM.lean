import Derived.Test.YtbhobmngnjfgfaaDoorSearchImplM
/-
  The sets that rule a graph are odd in number (plain).
-/

namespace Go.Proofs.YtbhobmngnjfgfaaDoor
open Go.RowKit

theorem filter_split (l : List Nat) (p q : Nat → Bool) : (l.filter p).length = (l.filter fun x => p x && q x).length + (l.filter fun x => p x && !q x).length := by
  induction l with
  | nil => rfl
  | cons x l ih => simp only [List.filter_cons]; cases p x <;> cases q x <;> simp [ih] <;> omega
theorem xor_back (x v : Nat) : (x ^^^ 2 ^ v) ^^^ 2 ^ v = x := by rw [Nat.xor_assoc, Nat.xor_self, Nat.xor_zero]
theorem xor_bit (x v : Nat) : (x ^^^ 2 ^ v).testBit v = !x.testBit v := by rw [Nat.testBit_xor, Nat.testBit_two_pow_self]; cases x.testBit v <;> rfl
theorem toggle_even {n v : Nat} (hv : v < n) {p : Nat → Bool} (hp : ∀ b, p (b ^^^ 2 ^ v) = p b) : ((List.range (2 ^ n)).filter p).length % 2 = 0 := by
  rw [filter_split _ p (fun b => b.testBit v)]
  have hlt : ∀ x, x < 2 ^ n → x ^^^ 2 ^ v < 2 ^ n := fun x hx => Nat.xor_lt_two_pow hx (Nat.pow_lt_pow_right (by decide) hv)
  have hperm : (((List.range (2 ^ n)).filter fun x => p x && x.testBit v).map (· ^^^ 2 ^ v)).Perm ((List.range (2 ^ n)).filter fun x => p x && !x.testBit v) := by
    refine (List.perm_ext_iff_of_nodup ?_ (List.nodup_range.filter _)).2 fun a => ?_
    · unfold List.Nodup
      rw [List.pairwise_map]
      refine (List.nodup_range.filter _).imp fun {a b} h e => h ?_
      have := congrArg (· ^^^ 2 ^ v) e
      simpa only [xor_back] using this
    · simp only [List.mem_map, List.mem_filter, List.mem_range, Bool.and_eq_true, Bool.not_eq_true']
      constructor
      · rintro ⟨x, ⟨hx, hpx, hbx⟩, rfl⟩
        exact ⟨hlt x hx, by rw [hp]; exact hpx, by rw [xor_bit, hbx]; rfl⟩
      · rintro ⟨ha, hpa, hba⟩
        exact ⟨a ^^^ 2 ^ v, ⟨hlt a ha, by rw [hp]; exact hpa, by rw [xor_bit, hba]; rfl⟩, xor_back a v⟩
  have := hperm.length_eq
  rw [List.length_map] at this
  omega
theorem sum_ite (q : Nat → Bool) (l : List Nat) : (l.map fun a => if q a = true then 1 else 0).sum = (l.filter q).length := by
  induction l with
  | nil => rfl
  | cons x l ih => rw [List.map_cons, List.sum_cons, ih, List.filter_cons]; cases q x <;> simp <;> omega
theorem sum_add (f g : Nat → Nat) (l : List Nat) : (l.map fun a => f a + g a).sum = (l.map f).sum + (l.map g).sum := by
  induction l with
  | nil => rfl
  | cons x l ih => simp only [List.map_cons, List.sum_cons, ih]; omega
theorem sum_mod (f : Nat → Nat) (q : Nat → Bool) (l : List Nat) (h : ∀ a ∈ l, f a % 2 = if q a = true then 1 else 0) : (l.map f).sum % 2 = (l.filter q).length % 2 := by
  induction l with
  | nil => rfl
  | cons x l ih =>
    have h1 := h x (List.mem_cons_self ..)
    have h2 := ih fun a ha => h a (List.mem_cons_of_mem _ ha)
    rw [List.map_cons, List.sum_cons, List.filter_cons]
    by_cases hq : q x = true
    · rw [if_pos hq] at h1 ⊢
      rw [List.length_cons]
      omega
    · rw [if_neg hq] at h1 ⊢
      omega
theorem sum_sym (R : Nat → Nat → Bool) (hR : ∀ a b, R a b = R b a) (N : Nat) :
    ((List.range N).map fun a => ((List.range N).filter (R a)).length).sum % 2 = ((List.range N).filter fun a => R a a).length % 2 := by
  induction N with
  | zero => rfl
  | succ N ih =>
    have hf : ∀ q : Nat → Bool, ((List.range (N + 1)).filter q).length = ((List.range N).filter q).length + if q N = true then 1 else 0 := fun q => by
      rw [List.range_succ, List.filter_append, List.length_append, List.filter_cons, List.filter_nil]
      cases q N <;> simp
    have h1 : ((List.range (N + 1)).map fun a => ((List.range (N + 1)).filter (R a)).length).sum = ((List.range N).map fun a => ((List.range N).filter (R a)).length).sum + ((List.range N).filter fun a => R a N).length + (((List.range N).filter (R N)).length + if R N N = true then 1 else 0) := by
      rw [List.range_succ, List.map_append, List.sum_append, ← List.range_succ, List.map_cons, List.map_nil, List.sum_cons, List.sum_nil, hf (R N), Nat.add_zero]
      congr 1
      have e : (fun a => ((List.range (N + 1)).filter (R a)).length) = fun a => ((List.range N).filter (R a)).length + if R a N = true then 1 else 0 := funext fun a => hf (R a)
      rw [e, sum_add, sum_ite (fun a => R a N)]
    have h2 : (fun a => R a N) = R N := funext fun a => hR a N
    rw [h1, hf (fun a => R a a), h2]
    omega
theorem only_zero {N : Nat} (hN : 0 < N) {p : Nat → Bool} (h : ∀ b, b < N → (p b = true ↔ b = 0)) : ((List.range N).filter p).length = 1 := by
  have hperm : ((List.range N).filter p).Perm [0] := by
    refine (List.perm_ext_iff_of_nodup (List.nodup_range.filter _) (by simp)).2 fun a => ?_
    simp only [List.mem_filter, List.mem_range, List.mem_cons, List.not_mem_nil, or_false]
    constructor
    · rintro ⟨h1, h2⟩
      exact (h a h1).1 h2
    · rintro rfl
      exact ⟨hN, (h 0 hN).2 rfl⟩
  simpa using hperm.length_eq

/-- No vertex of b is ruled by a. -/
def farB (n : Nat) (e : Nat → Nat → Bool) (a b : Nat) : Bool := (List.range n).all fun v => !(b.testBit v && domB n e a.testBit v)
theorem domB_iff {n : Nat} {e : Nat → Nat → Bool} {p : Nat → Bool} {b : Nat} : domB n e p b = true ↔ p b = true ∨ ∃ v, v < n ∧ p v = true ∧ e v b = true := by
  unfold domB
  simp [List.any_eq_true]
theorem farB_iff {n : Nat} {e : Nat → Nat → Bool} {a b : Nat} : farB n e a b = true ↔ ∀ v, v < n → b.testBit v = true → domB n e a.testBit v = false := by
  unfold farB
  simp only [List.all_eq_true, List.mem_range]
  constructor
  · intro h v hv hb
    have := h v hv
    rw [hb] at this
    simpa using this
  · intro h v hv
    cases hb : b.testBit v with
    | false => rfl
    | true => rw [h v hv hb]; rfl
theorem farB_sym {n : Nat} {e : Nat → Nat → Bool} (hs : ∀ u v, u < n → v < n → e u v = e v u) (a b : Nat) : farB n e a b = farB n e b a := by
  have key : ∀ a b, farB n e a b = true → farB n e b a = true := fun a b h => by
    rw [farB_iff] at h ⊢
    intro v hv ha
    cases hd : domB n e b.testBit v with
    | false => rfl
    | true =>
      rcases domB_iff.1 hd with hb | ⟨u, hu, hbu, he⟩
      · have := h v hv hb
        have h2 : domB n e a.testBit v = true := domB_iff.2 (.inl ha)
        rw [this] at h2
        cases h2
      · have := h u hu hbu
        have h2 : domB n e a.testBit u = true := domB_iff.2 (.inr ⟨v, hv, ha, by rw [hs v u hv hu]; exact he⟩)
        rw [this] at h2
        cases h2
  rw [Bool.eq_iff_iff]
  exact ⟨key a b, key b a⟩
theorem zero_of_bits {n a : Nat} (ha : a < 2 ^ n) (h : ∀ v, v < n → a.testBit v = false) : a = 0 := by
  refine Nat.eq_of_testBit_eq fun i => ?_
  rw [Nat.zero_testBit]
  by_cases hi : i < n
  · exact h i hi
  · exact bits_above ha i (by omega)
theorem ruleF_iff {n : Nat} {e : Nat → Nat → Bool} {m : Nat} : ruleF n e m = true ↔ ∀ v, v < n → domB n e m.testBit v = true := by
  unfold ruleF ruleB
  rw [decide_eq_true_eq, mask_eq_iff]
  constructor
  · intro h v hv
    rw [h v hv]
    simp [allB, hv]
  · intro h v hv
    rw [h v hv]
    simp [allB, hv]
theorem far_count {n : Nat} {e : Nat → Nat → Bool} {a : Nat} : ((List.range (2 ^ n)).filter (farB n e a)).length % 2 = if ruleF n e a = true then 1 else 0 := by
  by_cases hr : ruleF n e a = true
  · rw [if_pos hr, only_zero (Nat.two_pow_pos n) fun b hb => ?_]
    rw [farB_iff]
    constructor
    · intro h
      refine zero_of_bits hb fun v hv => ?_
      cases hbv : b.testBit v with
      | false => rfl
      | true =>
        have := h v hv hbv
        rw [ruleF_iff.1 hr v hv] at this
        cases this
    · rintro rfl v hv hbv
      rw [Nat.zero_testBit] at hbv
      cases hbv
  · rw [if_neg hr]
    have : ∃ v, v < n ∧ domB n e a.testBit v = false := by
      refine Classical.byContradiction fun hn => hr (ruleF_iff.2 fun v hv => ?_)
      cases hd : domB n e a.testBit v with
      | true => rfl
      | false => exact (hn ⟨v, hv, hd⟩).elim
    obtain ⟨v, hv, hd⟩ := this
    refine toggle_even hv fun b => ?_
    have key : ∀ b, farB n e a b = true → farB n e a (b ^^^ 2 ^ v) = true := fun b h => by
      rw [farB_iff] at h ⊢
      intro u hu hb
      by_cases huv : v = u
      · rw [← huv]; exact hd
      · rw [Nat.testBit_xor, Nat.testBit_two_pow] at hb
        refine h u hu ?_
        simpa [huv] using hb
    rw [Bool.eq_iff_iff]
    exact ⟨fun h => by have := key _ h; rwa [xor_back] at this, key b⟩
/-- The sets that rule are odd in number. -/
theorem rules_odd {n : Nat} {e : Nat → Nat → Bool} (hs : ∀ u v, u < n → v < n → e u v = e v u) : ((List.range (2 ^ n)).filter (ruleF n e)).length % 2 = 1 := by
  have h := sum_sym (farB n e) (farB_sym hs) (2 ^ n)
  rw [sum_mod _ (ruleF n e) _ fun a _ => far_count] at h
  rw [h, only_zero (Nat.two_pow_pos n) fun a ha => ?_]
  rw [farB_iff]
  constructor
  · intro h
    refine zero_of_bits ha fun v hv => ?_
    cases hav : a.testBit v with
    | false => rfl
    | true =>
      have h1 := h v hv hav
      rw [domB_iff.2 (.inl hav)] at h1
      cases h1
  · rintro rfl v hv hbv
    rw [Nat.zero_testBit] at hbv
    cases hbv
end Go.Proofs.YtbhobmngnjfgfaaDoor
