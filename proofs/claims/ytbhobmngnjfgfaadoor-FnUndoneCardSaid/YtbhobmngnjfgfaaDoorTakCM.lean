import Derived.Test.YtbhobmngnjfgfaaDoorGq09
/-
  A region whose order is open, behind reads that hold in every memory of a kind.
-/

namespace Go.Proofs.YtbhobmngnjfgfaaDoor
open Go.RowKit
section
variable {P : Program} {ops : Array Oper} {Q : Exit → Act → World → Prop} {md : Region.Mode}
theorem wp_region_takeC {C : World → Prop} {id : Nat} {a : Act} {w : World} {l : List Oper} (R0 R1 : List Nat) (m g : Nat) (l1 : Array Bool) (hm : P.follows .mixedOrders = true) (hsel : Region.noSelect l.toArray = true)
    (hB : Region.taken l.toArray R0 R1 m = some l1) (hlen : R0.length + (R1.length + g) = l.toArray.size)
    (h0 : C w.drew) (hQ : ∀ c (a : Act) d v w, Q (.panic c) (a.put d v) w → Q (.panic c) a w)
    (h : wpQuiet P l.toArray (fun _ => True) (wpQuiet P l.toArray C (fun a' => wpAnyG P .any l.toArray Q (Gate C m) g l1 a' w.drew) (pickOps l R1)) (pickOps l R0) a) :
    (Code.region id l.toArray true).wp P Q a w := by
  unfold Region.taken at hB
  split at hB
  · cases hB
  rename_i l0 hl0
  refine wp_region_any hm (wpAny_of_G (S := Gate C m) _ _ _ _ ?_)
  have hgate : ∀ L, Gate C m L w.drew := fun _ _ => h0
  suffices H : wpAnyG P .any l.toArray Q (Gate C m) (R0.length + (R1.length + g)) (Array.replicate l.toArray.size false) a w.drew by
    rw [hlen] at H; exact H
  refine wpAnyG_takes (C' := fun _ => True) (gate := none) hsel hQ (fun _ _ _ _ _ _ _ => trivial) (K := wpQuiet P l.toArray C (fun a' => wpAnyG P .any l.toArray Q (Gate C m) g l1 a' w.drew) (pickOps l R1)) (listed' := l0) ?_ R0 _ a (closed_start _) (hgate _) hl0 h
  intro a1 h1 inv1
  refine wpAnyG_takes (C' := C) (gate := some l.toArray.size) hsel hQ ?_ (K := fun a' => wpAnyG P .any l.toArray Q (Gate C m) g l1 a' w.drew) (listed' := l1) ?_ R1 _ a1 inv1 (hgate _) hB h1
  · intro i hi L W hL hun hG
    refine hG ?_
    simp only [Region.behindGate, Bool.or_eq_true, decide_eq_true_eq] at hi
    rcases hi with hi | hi
    · have : L.size ≤ m := by rw [hL.size]; exact hi
      simp [this]
    · cases hx : L.getD m false with
      | false => rfl
      | true =>
        have := behind_listed hL _ _ hi hx
        rw [getD_both hun] at this
        cases this
  · intro a2 h3 _
    exact h3

end
end Go.Proofs.YtbhobmngnjfgfaaDoor
