/-
  The program's 'partsOf' and 'results'.
-/
import Derived.Test.YtbhobmngnjfgfaaDoorReach
namespace Go.Proofs.YtbhobmngnjfgfaaDoor
open Go.RowKit

/-- The parts of a set as masks. -/
noncomputable def partsM (n : Nat) (e : Nat → Nat → Bool) (p : Nat → Bool) (j : Nat) : List Nat := (partsTo n e p j).map (maskB n)
theorem partsM_length (n : Nat) (e : Nat → Nat → Bool) (p : Nat → Bool) (j : Nat) : (partsM n e p j).length = (partsTo n e p j).length := by simp [partsM]
theorem sets_snoc (ms : List Nat) (x : Nat) : sets (ms ++ [x]) = sets ms ++ [.int .u32 (x : Nat)] := by simp [sets]

/-- The least one of what is left: the next part. -/
theorem parts_step {n : Nat} {e : Nat → Nat → Bool} {p : Nat → Bool} (hn : n ≤ 16) (hA : Adj n e) (hpn : ∀ b, p b = true → b < n) {J m : Nat} (hm : m = maskB n (leftB n e p J)) (h0 : m ≠ 0) :
    low m < n ∧ wayB n e (leftB n e p J) (low m) = wayB n e p (low m) ∧ partsTo n e p (low m + 1) = partsTo n e p J ++ [wayB n e p (low m)] ∧ (∀ b, leftB n e p (low m + 1) b = (leftB n e p J b && !wayB n e p (low m) b)) ∧ leftB n e p J (low m) = true := by
  have hm32 : m < 2 ^ 32 := by rw [two32, hm]; exact maskB_small (by omega) _
  obtain ⟨_, h2, h3⟩ := low_spec h0 hm32
  generalize low m = l at *
  rw [hm, testBit_maskB, Bool.and_eq_true, decide_eq_true_eq] at h2
  have hlow : ∀ i, J ≤ i → i < l → leftB n e p J i = false := fun i _ hi => by
    have := h3 i hi
    rw [hm, testBit_maskB] at this
    simpa [show i < n by omega] using this
  have hJl := (leftB_ge h2.2).1
  obtain ⟨g1, g2⟩ := jumpLeft hJl hlow
  have e1 := leftB_of_done g2
  have hl : leftB n e p l l = true := by rw [e1]; exact h2.2
  refine ⟨h2.1, ?_, ?_, fun b => ?_, h2.2⟩
  · rw [← e1]; exact wayB_left hA hpn hl
  · rw [partsTo_yes hl, g1]
  · rw [leftB_yes hl, e1]
theorem parts_end {n : Nat} {e : Nat → Nat → Bool} {p : Nat → Bool} {J : Nat} (hJ : J ≤ n) (h : maskB n (leftB n e p J) = 0) : partsTo n e p n = partsTo n e p J :=
  (jumpLeft hJ fun i _ hi => maskB_eq_zero.1 h i hi).1
theorem mask_less {n : Nat} {o o' : Nat → Bool} {l : Nat} (hl : l < n) (h0 : o l = true) (h1 : o' l = false) (h : ∀ b, o' b = true → o b = true) : maskB n o' < maskB n o := by
  refine Nat.lt_of_le_of_ne (mask_le h) fun he => ?_
  have := mask_eq_iff.1 he l hl
  rw [h0, h1] at this
  cases this

end Go.Proofs.YtbhobmngnjfgfaaDoor
