import Derived.Test.YtpfhflkpnjkgkaaDoorGq08
/-
  'ApexOf' of the reference and of the program.
-/

namespace Go.Proofs.YtpfhflkpnjkgkaaDoor
open Go.RowKit

/-- The numbers below n. -/
def allN (n : Nat) : List Int := (List.range n).map fun (i : Nat) => (i : Int)
@[simp] theorem allN_length (n : Nat) : (allN n).length = n := by simp [allN]
theorem setP_allN (n : Nat) : SetP n (allN n) := by
  have := setP_rowB n (fun _ => true)
  rwa [rowB_all] at this

theorem ok_size' {xss : List (List Int)} (h : okB xss = true) : 1 ≤ xss.length ∧ xss.length ≤ 16 := by
  have : OkP xss := by unfold okB at h; simpa using h
  exact this.1

/-- What 'ApexOf' gives. -/
def ApexP (xss : List (List Int)) (rows : List (List Int)) (ok : Bool) : Prop :=
  ((okB xss = false ∨ xss.length = 16) ∧ rows = [] ∧ ok = false) ∨ (okB xss = true ∧ xss.length ≠ 16 ∧ ∃ e, Adj xss.length e ∧ xss = rowsB xss.length e ∧ rows = rowsB (xss.length + 1) (hung xss.length e (allN xss.length)) ∧ ok = true)
theorem ApexP.vertex {xss rows : List (List Int)} {ok : Bool} (h : ApexP xss rows ok) :
    (¬ OkV xss (allN xss.length) ∧ rows = [] ∧ ok = false) ∨ ∃ e, Adj xss.length e ∧ xss = rowsB xss.length e ∧ OkV xss (allN xss.length) ∧ rows = rowsB (xss.length + 1) (hung xss.length e (allN xss.length)) ∧ ok = true := by
  rcases h with ⟨h1, h2, h3⟩ | ⟨h1, h2, e, hA, hx, hr, hk⟩
  · refine .inl ⟨fun h => ?_, h2, h3⟩
    rcases h1 with h1 | h1
    · rw [h.1] at h1; cases h1
    · exact h.2.2 h1
  · exact .inr ⟨e, hA, hx, ⟨h1, setP_allN _, h2⟩, hr, hk⟩

end Go.Proofs.YtpfhflkpnjkgkaaDoor
