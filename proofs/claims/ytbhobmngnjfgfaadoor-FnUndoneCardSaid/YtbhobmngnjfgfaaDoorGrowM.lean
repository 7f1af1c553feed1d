import Derived.Test.YtbhobmngnjfgfaaDoorAppendM
import Derived.Test.YtbhobmngnjfgfaaDoorGq01
/-
  A row of a [][]T of the call's own is appended to, and stored back. No program in sight.
-/


namespace Go.Proofs.YtbhobmngnjfgfaaDoor
open Go.RowKit

section
variable {w w1 w2 : World} {base : Nat} {e1 e2 : TypeId} {v : Value} {vs : List Value} {css : List (List Value)}
theorem OwnG.regrow {u u' : Value} {cs cs' : List Value} (i : Nat) (h : OwnG w base e1 e2 v vs css) (hi : vs[i]? = some u) (hci : css[i]? = some cs) (hu : w1.ownsRow base e2 1 u' cs'.length cs') (hg1 : w.grownBy w1 u.ownBlock)
    (hnew : ∀ k, u'.ownBlock = some k → u.ownBlock = some k ∨ w.heap.size ≤ k) (ho : w2.ownsRow base e1 1 v vs.length (vs.set i u')) (hg : w1.grownBy w2 v.ownBlock) : OwnG w2 base e1 e2 v (vs.set i u') (css.set i cs') := by
  have hiv : i < vs.length := (List.getElem?_eq_some_iff.1 hi).1
  have hou := h.rows i u cs hi hci
  have hout1 : w1.ownsRow base e1 1 v vs.length vs := owns_keep h.outer fun b hb hlt => hg1.block b hlt fun e => owns_unlike h.outer hou h.unlike hb e.symm
  refine ⟨by simp [h.len], by simpa using ho, fun j x cs2 hx hc2 => ?_, ?_, h.unlike⟩
  · by_cases hij : i = j
    · subst hij
      rw [List.getElem?_set_self hiv] at hx
      rw [List.getElem?_set_self (by rw [← h.len]; exact hiv)] at hc2
      obtain rfl := Option.some.inj hx
      obtain rfl := Option.some.inj hc2
      exact owns_keep hu fun b hb hlt => hg.block b hlt fun e => owns_unlike hu hout1 (Ne.symm h.unlike) hb e.symm
    · rw [List.getElem?_set_ne hij] at hx hc2
      have hox := h.rows j x cs2 hx hc2
      have hne : ∀ b, x.ownBlock = some b → u.ownBlock ≠ some b := fun b hb hub => by
        have hjv : j < vs.length := (List.getElem?_eq_some_iff.1 hx).1
        obtain ⟨_, ei⟩ := List.getElem?_eq_some_iff.1 hi
        obtain ⟨_, ej⟩ := List.getElem?_eq_some_iff.1 hx
        rcases Nat.lt_or_gt_of_ne hij with hlt | hlt
        · have := List.pairwise_iff_getElem.1 h.apart i j hiv hjv hlt b (by rw [ei]; exact hub)
          rw [ej] at this
          exact this hb
        · have := List.pairwise_iff_getElem.1 h.apart j i hjv hiv hlt b (by rw [ej]; exact hb)
          rw [ei] at this
          exact this hub
      have h1 : w1.ownsRow base e2 1 x cs2.length cs2 := owns_keep hox fun b hb hlt => hg1.block b hlt fun e => hne b hb e.symm
      exact owns_keep h1 fun b hb hlt => hg.block b hlt fun e => owns_unlike h1 hout1 (Ne.symm h.unlike) hb e.symm
  · rw [List.pairwise_iff_getElem]
    intro p q hp hq hpq k hk
    have hp' : p < vs.length := by simpa using hp
    have hq' : q < vs.length := by simpa using hq
    rw [List.getElem_set] at hk ⊢
    have hlt2 : ∀ (x : Nat) (hx : x < vs.length) (k : Nat), vs[x].ownBlock = some k → k < w.heap.size := fun x hx k hk => (owns_lt (h.rows x vs[x] (css[x]'(by rw [← h.len]; exact hx)) (List.getElem?_eq_getElem hx) (List.getElem?_eq_getElem (by rw [← h.len]; exact hx))) hk).2
    obtain ⟨_, ei⟩ := List.getElem?_eq_some_iff.1 hi
    have ap := List.pairwise_iff_getElem.1 h.apart
    by_cases hip : i = p
    · subst hip
      rw [if_pos rfl] at hk
      rw [if_neg (by omega)]
      intro hk2
      rcases hnew k hk with h3 | h3
      · exact ap i q hiv hq' hpq k (by rw [ei]; exact h3) hk2
      · have := hlt2 q hq' k hk2; omega
    · rw [if_neg hip] at hk
      by_cases hiq : i = q
      · subst hiq
        rw [if_pos rfl]
        intro hk2
        rcases hnew k hk2 with h3 | h3
        · exact ap p i hp' hiv hpq k hk (by rw [ei]; exact h3)
        · have := hlt2 p hp' k hk; omega
      · rw [if_neg hiq]
        exact ap p q hp' hq' hpq k hk
end
end Go.Proofs.YtbhobmngnjfgfaaDoor
