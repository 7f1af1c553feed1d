import Derived.Test.YtbhobmngnjfgfaaDoorGq09
/-
  Regions that draw their order: reads of memory in the midst. No program in sight.
-/

namespace Go.Proofs.YtbhobmngnjfgfaaDoor
open Go.RowKit

section
variable {P : Program} {md : Region.Mode} {ops : Array Oper} {Q : Exit → Act → World → Prop}
/-- Reads of memory in the midst: they all stand ahead of the gate. -/
theorem wpAnyG_midC {C : World → Prop} {m : Nat} {listed : Array Bool} {a : Act} {w : World} (R : List Nat) (g : Nat) (l2 : Array Bool) {fuel : Nat} (hf : R.length + g = fuel) (hsel : Region.noSelect ops = true)
    (hcl : Region.closedB md ops listed = true) (ht : Region.takes md ops (some ops.size) m R listed = some l2) (hQ : ∀ c (a : Act) d v w, Q (.panic c) (a.put d v) w → Q (.panic c) a w) (hG : Gate C m listed w)
    (h : wpQuiet P ops C (fun a' => wpAnyG P md ops Q (Gate C m) g l2 a' w) (pickOps ops.toList R) a) : wpAnyG P md ops Q (Gate C m) fuel listed a w := by
  subst hf
  refine wpAnyG_takes (C' := C) (gate := some ops.size) hsel hQ ?_ (fun a h _ => h) R listed a (closed_of_B hcl) hG ht h
  intro i hi L W hL hun hG
  refine hG ?_
  simp only [Region.behindGate, Bool.or_eq_true, decide_eq_true_eq] at hi
  rcases hi with hi | hi
  · have : L.size ≤ m := by rw [hL.size]; exact hi
    simp [this]
  · cases hx : L.getD m false with
    | false => rfl
    | true =>
      have := behind_listed hL _ _ hi hx
      rw [getD_both hun] at this
      cases this
end
end Go.Proofs.YtbhobmngnjfgfaaDoor
