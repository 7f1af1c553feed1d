import Derived.Test.YtpfhflkpnjkgkaaDoorGq00
/-
  Plain facts about slices of slices: read, and owned by the call. No program in sight.
-/

namespace Go.Proofs.YtpfhflkpnjkgkaaDoor
open Go.RowKit

/-- v is a slice of the slices vs, which read css. -/
structure RdG (w : World) (v : Value) (vs : List Value) (css : List (List Value)) : Prop where
  len : vs.length = css.length
  outer : Row w 1 v vs.length vs
  rows : ∀ (i : Nat) u cs, vs[i]? = some u → css[i]? = some cs → Row w 1 u cs.length cs

/-- v is a slice that the call owns, of the slices vs, which it owns as well, each in a block of its own; they read css. -/
structure OwnG (w : World) (base : Nat) (e1 e2 : TypeId) (v : Value) (vs : List Value) (css : List (List Value)) : Prop where
  len : vs.length = css.length
  outer : w.ownsRow base e1 1 v vs.length vs
  rows : ∀ (i : Nat) u cs, vs[i]? = some u → css[i]? = some cs → w.ownsRow base e2 1 u cs.length cs
  apart : vs.Pairwise fun a b => ∀ k, a.ownBlock = some k → b.ownBlock ≠ some k
  unlike : e1 ≠ e2

section
variable {w w' : World} {base : Nat} {e1 e2 : TypeId} {v : Value} {vs : List Value} {css : List (List Value)}

theorem RdG.below (h : RdG w v vs css) (hb : Below w.heap.size w w') : RdG w' v vs css :=
  ⟨h.len, h.outer.below hb, fun i u cs h1 h2 => (h.rows i u cs h1 h2).below hb⟩

theorem OwnG.rd (h : OwnG w base e1 e2 v vs css) : RdG w v vs css :=
  ⟨h.len, Row.of_owns h.outer, fun i u cs h1 h2 => Row.of_owns (h.rows i u cs h1 h2)⟩

theorem OwnG.below (h : OwnG w base e1 e2 v vs css) (hb : Below w.heap.size w w') : OwnG w' base e1 e2 v vs css :=
  ⟨h.len, owns_below h.outer hb, fun i u cs h1 h2 => owns_below (h.rows i u cs h1 h2) hb, h.apart, h.unlike⟩

theorem OwnG.rebase (h : OwnG w base e1 e2 v vs css) {base' : Nat} (hb : base' ≤ base) : OwnG w base' e1 e2 v vs css :=
  ⟨h.len, owns_base h.outer hb, fun i u cs h1 h2 => owns_base (h.rows i u cs h1 h2) hb, h.apart, h.unlike⟩

theorem owns_block {w : World} {base : Nat} {e : TypeId} {size : Nat} {v : Value} {n : Nat} {cs : List Value} (h : w.ownsRow base e size v n cs) {b : Nat} (hb : v.ownBlock = some b) :
    ∃ cur, w.heap[b]? = some (.cells cur e (0, 0)) := by
  obtain ⟨_, ⟨rfl, _⟩ | ⟨g, cap, cur, rfl, _, hg, _⟩⟩ := h
  · simp [Value.ownBlock] at hb
  · simp [Value.ownBlock] at hb; subst hb; exact ⟨cur, hg⟩

theorem owns_unlike {w : World} {base base' : Nat} {e e' : TypeId} {size size' : Nat} {v v' : Value} {n n' : Nat} {cs cs' : List Value} (h : w.ownsRow base e size v n cs) (h' : w.ownsRow base' e' size' v' n' cs') (he : e ≠ e')
    {b : Nat} (hb : v.ownBlock = some b) : v'.ownBlock ≠ some b := by
  intro hb'
  obtain ⟨c, hc⟩ := owns_block h hb
  obtain ⟨c', hc'⟩ := owns_block h' hb'
  rw [hc] at hc'
  simp at hc'
  exact he hc'.2

theorem OwnG.nil (w : World) (base : Nat) (he : e1 ≠ e2) (h : w.ownsRow base e1 1 v 0 []) : OwnG w base e1 e2 v [] [] :=
  ⟨rfl, h, by simp, List.Pairwise.nil, he⟩

/-- A write to the outer row alone leaves the inner rows. -/
theorem OwnG.rows_outer (h : OwnG w base e1 e2 v vs css) (hg : w.grownBy w' v.ownBlock) : ∀ (i : Nat) u cs, vs[i]? = some u → css[i]? = some cs → w'.ownsRow base e2 1 u cs.length cs := by
  intro i u cs h1 h2
  refine owns_keep (h.rows i u cs h1 h2) fun b hb hlt => hg.block b hlt fun e => ?_
  exact owns_unlike (h.rows i u cs h1 h2) h.outer (Ne.symm h.unlike) hb e.symm

theorem pairwise_snoc {α : Type} {R : α → α → Prop} {l : List α} {x : α} (h : l.Pairwise R) (hx : ∀ y ∈ l, R y x) : (l ++ [x]).Pairwise R := by
  rw [List.pairwise_append]
  refine ⟨h, List.pairwise_singleton R x, ?_⟩
  intro a ha b hb
  rw [List.mem_singleton] at hb
  subst hb
  exact hx a ha

/-- One more row: 'u', in memory that is newer than the rows before, is appended. -/
theorem OwnG.push {w1 w2 : World} {u v' : Value} {cs : List Value} {B : Nat} (h : OwnG w base e1 e2 v vs css) (hb : Below w.heap.size w w1) (hu : w1.ownsRow B e2 1 u cs.length cs) (hB : w.heap.size ≤ B) (hbase : base ≤ w.heap.size)
    (ho : w2.ownsRow base e1 1 v' (vs.length + 1) (vs ++ [u])) (hg : w1.grownBy w2 v.ownBlock) : OwnG w2 base e1 e2 v' (vs ++ [u]) (css ++ [cs]) := by
  have h1 := h.below hb
  refine ⟨by simp [h.len], by simpa using ho, fun i u' cs' hu' hcs' => ?_, ?_, h.unlike⟩
  · by_cases hi : i < vs.length
    · rw [List.getElem?_append_left hi] at hu'
      rw [List.getElem?_append_left (by rw [← h.len]; exact hi)] at hcs'
      exact h1.rows_outer hg i u' cs' hu' hcs'
    · have hi2 : i < (vs ++ [u]).length := (List.getElem?_eq_some_iff.1 hu').1
      have : i = vs.length := by simp at hi2; omega
      subst this
      rw [List.getElem?_append_right (Nat.le_refl _)] at hu'
      rw [h.len, List.getElem?_append_right (Nat.le_refl _)] at hcs'
      simp at hu' hcs'
      subst hu'; subst hcs'
      refine owns_keep (owns_base hu (Nat.le_trans hbase hB)) fun b hb' hlt => hg.block b hlt fun e => ?_
      exact owns_unlike hu h1.outer (Ne.symm h.unlike) hb' e.symm
  · refine pairwise_snoc h.apart fun y hy k hk hk' => ?_
    obtain ⟨i, hi⟩ := List.mem_iff_getElem?.1 hy
    have hi2 : i < vs.length := (List.getElem?_eq_some_iff.1 hi).1
    have := (owns_lt (h.rows i y (css[i]'(by rw [← h.len]; exact hi2)) hi (by simp)) hk).2
    have := (owns_lt hu hk').1
    omega

/-- Row i is replaced by u, which is the old one or lies in newer memory. -/
theorem OwnG.set {w1 w2 : World} {u : Value} {cs : List Value} (i : Nat) (h : OwnG w base e1 e2 v vs css) (hb : Below w.heap.size w w1) (hu : w1.ownsRow base e2 1 u cs.length cs) (hnew : vs[i]? = some u ∨ ∀ k, u.ownBlock = some k → w.heap.size ≤ k)
    (ho : w2.ownsRow base e1 1 v vs.length (vs.set i u)) (hg : w1.grownBy w2 v.ownBlock) : OwnG w2 base e1 e2 v (vs.set i u) (css.set i cs) := by
  have h1 := h.below hb
  refine ⟨by simp [h.len], by simpa using ho, fun j u' cs' hu' hcs' => ?_, ?_, h.unlike⟩
  · by_cases hi : i = j
    · subst hi
      have h3 : i < vs.length := by simpa using (List.getElem?_eq_some_iff.1 hu').1
      rw [List.getElem?_set_self h3] at hu'
      rw [List.getElem?_set_self (by rw [← h.len]; exact h3)] at hcs'
      simp at hu' hcs'
      subst hu'; subst hcs'
      refine owns_keep hu fun b hb' hlt => hg.block b hlt fun e => ?_
      exact owns_unlike hu h1.outer (Ne.symm h.unlike) hb' e.symm
    · rw [List.getElem?_set_ne hi] at hu' hcs'
      exact h1.rows_outer hg j u' cs' hu' hcs'
  · rcases hnew with hold | hnew
    · rw [show vs.set i u = vs from ?_]
      · exact h.apart
      · apply List.ext_getElem?
        intro j
        by_cases e : i = j
        · subst e
          have h3 : i < vs.length := (List.getElem?_eq_some_iff.1 hold).1
          rw [List.getElem?_set_self h3, hold]
        · rw [List.getElem?_set_ne e]
    · have hold : ∀ (j : Nat) y, vs[j]? = some y → ∀ k, y.ownBlock = some k → k < w.heap.size := by
        intro j y hy k hk
        have hi2 : j < vs.length := (List.getElem?_eq_some_iff.1 hy).1
        exact (owns_lt (h.rows j y (css[j]'(by rw [← h.len]; exact hi2)) hy (by simp)) hk).2
      rw [List.pairwise_iff_getElem]
      intro p q hp hq hpq k hk hk'
      have hp' : p < vs.length := by simpa using hp
      have hq' : q < vs.length := by simpa using hq
      rw [List.getElem_set] at hk hk'
      split at hk <;> split at hk'
      · omega
      · have := hnew k hk; have := hold q _ (by simp [hq']) k hk'; omega
      · have := hnew k hk'; have := hold p _ (by simp [hp']) k hk; omega
      · exact (List.pairwise_iff_getElem.1 h.apart) p q hp' hq' hpq k hk hk'

/-- A write below 'base' leaves what is owned. -/
theorem OwnG.other (h : OwnG w base e1 e2 v vs css) {p : Addr} (hp : p.block < base) (x : Value) : OwnG (w.setCell p x) base e1 e2 v vs css :=
  ⟨h.len, owns_keep h.outer fun b hb _ => Below.heap_setCell _ _ _ _ (by have := (owns_lt h.outer hb).1; omega),
    fun i u cs h1 h2 => owns_keep (h.rows i u cs h1 h2) fun b hb _ => Below.heap_setCell _ _ _ _ (by have := (owns_lt (h.rows i u cs h1 h2) hb).1; omega), h.apart, h.unlike⟩

/-- Row i is written in place. -/
theorem OwnG.write {w1 : World} {i : Nat} {u : Value} {cs : List Value} (h : OwnG w base e1 e2 v vs css) (hi : vs[i]? = some u) (hu : w1.ownsRow base e2 1 u cs.length cs) (hg : w.grownBy w1 u.ownBlock) :
    OwnG w1 base e1 e2 v vs (css.set i cs) := by
  have hiv : i < vs.length := (List.getElem?_eq_some_iff.1 hi).1
  have hold := h.rows i u (css[i]'(by rw [← h.len]; exact hiv)) hi (by simp)
  refine ⟨by simp [h.len], owns_keep h.outer fun b hb hlt => hg.block b hlt fun e => ?_, fun j u' cs' hu' hcs' => ?_, h.apart, h.unlike⟩
  · exact owns_unlike h.outer hold h.unlike hb e.symm
  · by_cases hij : i = j
    · subst hij
      rw [hi] at hu'
      rw [List.getElem?_set_self (by rw [← h.len]; exact hiv)] at hcs'
      simp at hu' hcs'
      subst hu'; subst hcs'
      exact hu
    · rw [List.getElem?_set_ne hij] at hcs'
      refine owns_keep (h.rows j u' cs' hu' hcs') fun b hb hlt => hg.block b hlt fun e => ?_
      have hjv : j < vs.length := (List.getElem?_eq_some_iff.1 hu').1
      have hp := List.pairwise_iff_getElem.1 h.apart
      have e1 : vs[i] = u := by simpa [hiv] using hi
      have e2 : vs[j] = u' := by simpa [hjv] using hu'
      rcases Nat.lt_or_gt_of_ne hij with hlt' | hlt'
      · exact hp i j hiv hjv hlt' b (by rw [e1]; exact e.symm) (by rw [e2]; exact hb)
      · exact hp j i hjv hiv hlt' b (by rw [e2]; exact hb) (by rw [e1]; exact e.symm)

/-- A row of what is read. -/
theorem RdG.rowAt {a : Option Addr} {len cap : Nat} (h : RdG w (.slice a len cap) vs css) {k : Nat} (hk : k < css.length) :
    ∃ b o u cs, a = some ⟨b, o, none⟩ ∧ w.cell? ⟨b, o + k, none⟩ = some u ∧ Row w 1 u cs.length cs ∧ Hid (vs[k]? = some u) ∧ Hid (css[k]? = some cs) := by
  obtain ⟨a', cap', e, h1, h2, h3, h4, h5⟩ := h.outer
  obtain ⟨rfl, -, rfl⟩ : a' = a ∧ vs.length = len ∧ cap' = cap := by simpa [eq_comm] using e
  have hv : k < vs.length := by rw [h.len]; exact hk
  obtain ⟨b, o, rfl, hc⟩ := h5 k vs[k] (by simp [hv])
  exact ⟨b, o, vs[k], css[k], rfl, hc, h.rows k _ _ (by simp [hv]) (by simp [hk]), Lib.hid (by simp [hv]), Lib.hid (by simp [hk])⟩

theorem RdG.wrote {S : Nat → Prop} (h : RdG w v vs css) (hw : Wrote w w' S) (hS : ∀ k, v.ownBlock = some k ∨ (∃ u ∈ vs, u.ownBlock = some k) → ¬ S k) : RdG w' v vs css :=
  ⟨h.len, h.outer.wrote hw fun k hk => hS k (.inl hk), fun i u cs h1 h2 => (h.rows i u cs h1 h2).wrote hw fun k hk => hS k (.inr ⟨u, List.mem_of_getElem? h1, hk⟩)⟩

theorem OwnG.wrote {S : Nat → Prop} (h : OwnG w base e1 e2 v vs css) (hw : Wrote w w' S) (hS : ∀ k, base ≤ k → ¬ S k) : OwnG w' base e1 e2 v vs css :=
  ⟨h.len, owns_wrote h.outer hw fun k hk => hS k (owns_lt h.outer hk).1, fun i u cs h1 h2 => owns_wrote (h.rows i u cs h1 h2) hw fun k hk => hS k (owns_lt (h.rows i u cs h1 h2) hk).1, h.apart, h.unlike⟩

/-- The blocks of what is owned. -/
theorem OwnG.lt (h : OwnG w base e1 e2 v vs css) {k : Nat} (hk : v.ownBlock = some k ∨ (∃ u ∈ vs, u.ownBlock = some k)) : base ≤ k ∧ k < w.heap.size := by
  rcases hk with hk | ⟨u, hu, hk⟩
  · exact owns_lt h.outer hk
  · obtain ⟨i, hi⟩ := List.mem_iff_getElem?.1 hu
    have hi2 : i < vs.length := (List.getElem?_eq_some_iff.1 hi).1
    exact owns_lt (h.rows i u (css[i]'(by rw [← h.len]; exact hi2)) hi (by simp)) hk

/-- A write into a block of another kind leaves what is owned. -/
theorem OwnG.unlike_setCell (h : OwnG w base e1 e2 v vs css) {p : Addr} {c : Array Value} {t : TypeId} {fr : Nat × Nat} (hp : w.heap[p.block]? = some (.cells c t fr)) (h1 : t ≠ e1) (h2 : t ≠ e2) (x : Value) : OwnG (w.setCell p x) base e1 e2 v vs css := by
  have key : ∀ {e : TypeId} {u : Value} {n : Nat} {cs : List Value}, w.ownsRow base e 1 u n cs → t ≠ e → (w.setCell p x).ownsRow base e 1 u n cs := fun ho hne =>
    owns_keep ho fun b hb _ => Below.heap_setCell _ _ _ _ fun e => by
      obtain ⟨c', hc'⟩ := owns_block ho hb
      rw [e, hp] at hc'
      simp at hc'
      exact hne hc'.2.1
  exact ⟨h.len, key h.outer h1, fun i u cs h3 h4 => key (h.rows i u cs h3 h4) h2, h.apart, h.unlike⟩
theorem Wrote.setCell {w w' : World} {S : Nat → Prop} (h : Wrote w w' S) {p : Addr} (hp : w.heap.size ≤ p.block ∨ S p.block) (x : Value) : Wrote w (w'.setCell p x) S :=
  ⟨h.os, h.tape, h.output, by simpa [World.setCell] using h.size, fun k hk hn => (Below.heap_setCell _ _ _ _ (fun e => by rcases hp with hp | hp; (· omega); exact hn (e ▸ hp))).trans (h.block k hk hn)⟩
theorem Wrote.alloc {w w' : World} {S : Nat → Prop} (h : Wrote w w' S) (o : Obj) : Wrote w (w'.alloc o) S :=
  ⟨h.os, h.tape, h.output, by have := h.size; simp; omega, fun k hk hn => (Below.heap_alloc _ _ _ (Nat.lt_of_lt_of_le hk h.size)).trans (h.block k hk hn)⟩

end
end Go.Proofs.YtpfhflkpnjkgkaaDoor
