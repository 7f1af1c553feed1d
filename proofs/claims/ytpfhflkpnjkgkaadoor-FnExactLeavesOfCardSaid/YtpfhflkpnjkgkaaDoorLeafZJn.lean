import Derived.Test.YtpfhflkpnjkgkaaDoorLeafYJn
/-
  What the program's stack does at a part: plain facts.
-/

namespace Go.Proofs.YtpfhflkpnjkgkaaDoor

/-- The open roots as the program holds them. -/
def OI (O : List Nat) : List Int := O.reverse.map fun (x : Nat) => (x : Int)
@[simp] theorem OI_length (O : List Nat) : (OI O).length = O.length := by simp [OI]
theorem OI_cons (k : Nat) (O : List Nat) : OI (k :: O) = OI O ++ [(k : Int)] := by simp [OI]
theorem OI_drop (O : List Nat) (c : Nat) : OI (O.drop c) = (OI O).take (O.length - c) := by
  unfold OI
  rw [List.reverse_drop, List.map_take]
theorem run_none {L : List PartD} {k n : Nat} (h : runO L k = none) (hkn : k ≤ n) (O : List Nat) : runO L n ≠ some O := by
  intro hn
  obtain ⟨O', h'⟩ := run_pre L n O hn k hkn
  rw [h] at h'
  cases h'
theorem run_head {L : List PartD} {k : Nat} {O : List Nat} (h : runO L (k + 1) = some O) : ∃ O', O = k :: O' := by
  unfold runO at h
  cases hr : runO L k with
  | none => rw [hr] at h; cases h
  | some O' =>
    rw [hr] at h
    cases hp : L[k]? with
    | none => rw [hp] at h; cases h
    | some p =>
      rw [hp] at h
      change stepO O' k p = some O at h
      unfold stepO at h
      split at h
      · cases h; exact ⟨_, rfl⟩
      · split at h
        · cases h; exact ⟨_, rfl⟩
        · cases h
theorem run_len (L : List PartD) : ∀ k O, runO L k = some O → O.length ≤ k := by
  intro k
  induction k with
  | zero => intro O h; cases h; simp
  | succ k ih =>
    intro O h
    unfold runO at h
    cases hr : runO L k with
    | none => rw [hr] at h; cases h
    | some O' =>
      rw [hr] at h
      have := ih O' hr
      cases hp : L[k]? with
      | none => rw [hp] at h; cases h
      | some p =>
        rw [hp] at h
        change stepO O' k p = some O at h
        unfold stepO at h
        split at h
        · cases h; simp; omega
        · split at h
          · cases h; simp; omega
          · cases h
theorem run_step {L : List PartD} {k : Nat} {O : List Nat} {p : PartD} (h : runO L k = some O) (hp : L[k]? = some p) : runO L (k + 1) = stepO O k p := by
  conv => lhs; unfold runO
  rw [h, hp]
  rfl
theorem low_lst {m : Nat} (h0 : m ≠ 0) (h : m < 65536) : low m = lst m := by
  unfold lst
  rw [bitsOf_step h0 (Nat.lt_trans h (by decide))]
  rfl
theorem mask_at {L : List PartD} {k r : Nat} (hr : r < k) : (maskL L k)[r]? = some (msk L r) := by
  have h := maskL_getD L k r hr
  have hl : r < (maskL L k).length := by rw [maskL_length]; exact hr
  rw [List.getD_eq_getElem?_getD, List.getElem?_eq_getElem hl] at h
  rw [List.getElem?_eq_getElem hl]
  simpa using h
theorem mask_mem {L : List PartD} {k : Nat} {O : List Nat} (h : runO L k = some O) : ∀ m ∈ maskL L k, m ≠ 0 ∧ m < 65536 := by
  intro m hm
  obtain ⟨r, hr, rfl⟩ := List.mem_iff_getElem.1 hm
  rw [maskL_length] at hr
  have := mask_at (L := L) hr
  rw [List.getElem?_eq_getElem (by rw [maskL_length]; exact hr)] at this
  rw [Option.some.inj this]
  exact ⟨msk_ne L h r hr, msk_lt L r⟩
theorem OI_mem {L : List PartD} {k : Nat} {O : List Nat} (h : runO L k = some O) : ∀ x ∈ OI O, ∃ r : Nat, x = (r : Int) ∧ r < (maskL L k).length := by
  intro x hx
  unfold OI at hx
  obtain ⟨r, hr, rfl⟩ := List.mem_map.1 hx
  exact ⟨r, rfl, by rw [maskL_length]; exact (run_sizes L k O h).1 r (by simpa using hr)⟩
theorem rev_iff {O : List Nat} {xs : List Int} (hl : xs.length ≤ O.length) : xs = (OI O).drop ((OI O).length - xs.length) ↔ xs.reverse = (O.take xs.length).map fun (x : Nat) => (x : Int) := by
  have e : (OI O).drop ((OI O).length - xs.length) = ((O.take xs.length).map fun (x : Nat) => (x : Int)).reverse := by
    rw [← List.map_reverse, List.reverse_take, List.map_drop, OI_length]
    rfl
  rw [e]
  constructor
  · intro h
    rw [h, List.reverse_reverse]
    congr 2
    simp
    omega
  · intro h
    rw [← h, List.reverse_reverse]
theorem goodK_iff {L : List PartD} {k : Nat} {O : List Nat} (h : runO L k = some O) {p : PartD} :
    GoodK p.2.2 (OI O) (maskL L k) ↔ 2 ≤ p.2.2.length ∧ p.2.2.length ≤ O.length ∧ p.2.2.reverse = ((O.take p.2.2.length).map fun (x : Nat) => (x : Int)) ∧ ∀ q, q + 1 < p.2.2.length → lsA L p q ≤ lsA L p (q + 1) := by
  have key : p.2.2.length ≤ O.length → p.2.2.reverse = ((O.take p.2.2.length).map fun (x : Nat) => (x : Int)) → ∀ q, q < p.2.2.length → lwk (maskL L k) p.2.2 q = lsA L p q := by
    intro h1 h2 q hq
    have hm : p.2.2[q] ∈ p.2.2.reverse := by simp
    rw [h2] at hm
    obtain ⟨r, hr, he⟩ := List.mem_map.1 hm
    have hrk := (run_sizes L k O h).1 r (List.mem_of_mem_take hr)
    have hq1 : p.2.2[q]? = some (r : Int) := by rw [List.getElem?_eq_getElem hq, he]
    have e1 : p.2.2.getD q 0 = (r : Int) := by rw [List.getD_eq_getElem?_getD, hq1]; rfl
    rw [lwk_at hq1 (mask_at hrk)]
    unfold lsA
    rw [e1, Int.toNat_natCast]
    exact low_lst (msk_ne L h r hrk) (msk_lt L r)
  unfold GoodK
  rw [OI_length]
  constructor
  · rintro ⟨h1, h2, h3, h4⟩
    rw [← OI_length] at h3
    have h5 := (rev_iff h2).1 h3
    exact ⟨h1, h2, h5, fun q hq => by rw [← key h2 h5 q (by omega), ← key h2 h5 (q + 1) hq]; exact h4 q hq⟩
  · rintro ⟨h1, h2, h5, h4⟩
    have h3 := (rev_iff h2).2 h5
    rw [OI_length] at h3
    exact ⟨h1, h2, h3, fun q hq => by rw [key h2 h5 q (by omega), key h2 h5 (q + 1) hq]; exact h4 q hq⟩

section
variable {L : List PartD} {k : Nat} {O : List Nat} {p : PartD}
theorem bad_shape (hk : k < L.length) (hp : L[k]? = some p) (h1 : ¬ leafOk p) (h2 : ¬ nodeOk p) : ¬ progOk L := by
  intro h
  obtain ⟨q, hq, g | ⟨-, g, -⟩⟩ := run_part L h.1 hk
  · rw [hp] at hq; cases hq; exact h1 g
  · rw [hp] at hq; cases hq; exact h2 g
theorem bad_good (hr : runO L k = some O) (hk : k < L.length) (hp : L[k]? = some p) (h1 : ¬ leafOk p) (h2 : ¬ GoodK p.2.2 (OI O) (maskL L k)) : ¬ progOk L := by
  intro h
  obtain ⟨O', hO'⟩ := run_pre L L.length _ h.1 (k + 1) (by omega)
  rw [run_step hr hp] at hO'
  unfold stepO at hO'
  rw [if_neg h1] at hO'
  split at hO'
  · rename_i hn
    exact h2 ((goodK_iff hr).2 ⟨hn.1.2.2.2, hn.2.1, hn.2.2, h.2.2.2.1 k p hk hp h1⟩)
  · cases hO'
theorem bad_dis (hk : k < L.length) (hp : L[k]? = some p) (h1 : ¬ leafOk p) (h2 : ¬ disR (p.2.2.reverse.map fun c => msk L c.toNat)) : ¬ progOk L := fun h => h2 (h.2.2.1 k p hk hp h1)
theorem leaf_step (hr : runO L k = some O) (hp : L[k]? = some p) (h1 : leafOk p) (hd : disN L k) (hf : fallN L k) : runO L (k + 1) = some (k :: O) ∧ disN L (k + 1) ∧ fallN L (k + 1) ∧ msk L k = 2 ^ p.2.1.toNat := by
  refine ⟨?_, ?_, ?_, msk_leaf hp h1⟩
  · rw [run_step hr hp]
    unfold stepO
    rw [if_pos h1]
  · intro i q hi hq hl
    by_cases hik : i = k
    · subst hik; rw [hp] at hq; cases hq; exact (hl h1).elim
    · exact hd i q (by omega) hq hl
  · intro i q hi hq hl
    by_cases hik : i = k
    · subst hik; rw [hp] at hq; cases hq; exact (hl h1).elim
    · exact hf i q (by omega) hq hl
theorem kid_lt (hr : runO L k = some O) (hg : GoodK p.2.2 (OI O) (maskL L k)) : ∀ c ∈ p.2.2, ∃ r : Nat, c = (r : Int) ∧ r < k := by
  intro c hc
  have h3 := ((goodK_iff hr).1 hg).2.2.1
  have : c ∈ p.2.2.reverse := by simpa using hc
  rw [h3] at this
  obtain ⟨r, h1, rfl⟩ := List.mem_map.1 this
  exact ⟨r, rfl, (run_sizes L k O hr).1 r (List.mem_of_mem_take h1)⟩
theorem node_step (hr : runO L k = some O) (hp : L[k]? = some p) (h1 : ¬ leafOk p) (h2 : 2 ≤ p.1 ∧ p.1 ≤ 4 ∧ p.2.1 = 0) (hg : GoodK p.2.2 (OI O) (maskL L k)) (hx : disR (p.2.2.reverse.map fun c => msk L c.toNat)) (hd : disN L k) (hf : fallN L k) :
    runO L (k + 1) = some (k :: O.drop p.2.2.length) ∧ disN L (k + 1) ∧ fallN L (k + 1) ∧ msk L k = mor (p.2.2.reverse.map fun c => msk L c.toNat) := by
  obtain ⟨g1, g2, g3, g4⟩ := (goodK_iff hr).1 hg
  refine ⟨?_, ?_, ?_, msk_node hp h1 (kid_lt hr hg)⟩
  · rw [run_step hr hp]
    unfold stepO
    rw [if_neg h1, if_pos ⟨⟨h2.1, h2.2.1, h2.2.2, g1⟩, g2, g3⟩]
  · intro i q hi hq hl
    by_cases hik : i = k
    · subst hik; rw [hp] at hq; cases hq; exact hx
    · exact hd i q (by omega) hq hl
  · intro i q hi hq hl
    by_cases hik : i = k
    · subst hik; rw [hp] at hq; cases hq; exact g4
    · exact hf i q (by omega) hq hl
end
theorem disR_suffix : ∀ {l r : List Nat}, disR (l ++ r) → disR r := by
  intro l
  induction l with
  | nil => intro r h; exact h
  | cons a l ih => intro r h; exact ih h.1
/-- The kids' sets, the first j. -/
def kidM (L : List PartD) (p : PartD) (j : Nat) : List Nat := (p.2.2.take j).reverse.map fun c => msk L c.toNat
theorem kidM_succ {L : List PartD} {p : PartD} {j r : Nat} (h : p.2.2[j]? = some (r : Int)) : kidM L p (j + 1) = msk L r :: kidM L p j := by
  unfold kidM
  rw [take_snoc h, List.reverse_append]
  simp
theorem kidM_all (L : List PartD) (p : PartD) : kidM L p p.2.2.length = p.2.2.reverse.map fun c => msk L c.toNat := by
  unfold kidM
  rw [List.take_length]
theorem kidM_dis {L : List PartD} {p : PartD} (j : Nat) (h : disR (p.2.2.reverse.map fun c => msk L c.toNat)) : disR (kidM L p j) := by
  have e : p.2.2.reverse = (p.2.2.drop j).reverse ++ (p.2.2.take j).reverse := by rw [← List.reverse_append, List.take_append_drop]
  rw [e, List.map_append] at h
  exact disR_suffix h
theorem kidM_lt (L : List PartD) (p : PartD) (j : Nat) : mor (kidM L p j) < 2 ^ 16 := mor_lt fun a ha => by
  obtain ⟨c, -, rfl⟩ := List.mem_map.1 ha
  exact msk_lt L _
theorem maskL_succ {L : List PartD} {k : Nat} : maskL L (k + 1) = maskL L k ++ [msk L k] := rfl
/-- The end. -/
theorem end_iff {L : List PartD} {O : List Nat} (hr : runO L L.length = some O) (hd : disN L L.length) (hf : fallN L L.length) (h1 : O.length = 1) : 0 < L.length ∧ (progOk L ↔ msk L (L.length - 1) = 2 ^ size (msk L (L.length - 1)) - 1) := by
  have hn : 0 < L.length := by have := run_len L _ O hr; omega
  obtain ⟨n, hn'⟩ : ∃ n, L.length = n + 1 := ⟨L.length - 1, by omega⟩
  refine ⟨hn, fun h => h.2.2.2.2, fun h => ⟨?_, hn, hd, hf, h⟩⟩
  rw [hr]
  rw [hn'] at hr
  obtain ⟨O', rfl⟩ := run_head hr
  have : O' = [] := List.length_eq_zero_iff.1 (by simpa using h1)
  subst this
  simp [hn']
theorem end_no {L : List PartD} {O : List Nat} (hr : runO L L.length = some O) (h1 : O.length ≠ 1) : ¬ progOk L := fun h => by
  have h2 := h.1
  rw [hr] at h2
  have := Option.some.inj h2
  rw [this] at h1
  exact h1 rfl
end Go.Proofs.YtpfhflkpnjkgkaaDoor
