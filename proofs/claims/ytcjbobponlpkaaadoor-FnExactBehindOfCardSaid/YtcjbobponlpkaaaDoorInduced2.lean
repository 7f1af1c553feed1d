/-
  'has', 'narrow', 'induced' of the program.
-/
import Derived.Test.YtcjbobponlpkaaaDoorInduced
namespace Go.Proofs.YtcjbobponlpkaaaDoor
open Go.RowKit

theorem hasV_any (m : Nat) (hm : m < 4294967296) (v : Nat) (hv : v < 32) (V : Int) (hV : V = v) (b : Bool) (hb : m.testBit v = b) (w : World) :
    Calls Tryd.prog 65 #[.int .u32 m, .int .i64 V] w fun e w' => e = .returned (.bool b) ∧ w = w' := by
  subst hV; subst hb
  have hz : m / 2 ^ v ≤ m := Nat.div_le_self _ _
  have e1 : (bits BinOp.and IntKind.u32 ((m : Int) / 2 ^ v) 1 == 1) = m.testBit v := by
    have h1 : ((m : Int) / 2 ^ v) = ((m / 2 ^ v : Nat) : Int) := by simp
    rw [h1, show (1 : Int) = ((1 : Nat) : Int) from rfl, u32_and_nat (m / 2 ^ v) 1 (by omega) (by decide), Nat.and_one_is_mod, Nat.testBit_eq_decide_div_mod_eq, Bool.eq_iff_iff]
    simp
    omega
  have HE := Lib.hid e1
  clear e1 hz
  go_enter Tryd.func65, Tryd.ntmps65
  go_wp2_with fail
  go_ret
  exact ⟨ret_bool HE.out, rfl⟩

/-- A table filled row by row. -/
def fill (f : Nat → Nat → Bool) (k j : Nat) : Nat → Nat → Bool := fun a b => (decide (a < k) || (decide (a = k) && decide (b < j))) && f a b
theorem fill_no (f : Nat → Nat → Bool) {k j : Nat} (h : f k j = false) : fill f k j = fill f k (j + 1) := by
  funext a b
  unfold fill
  by_cases h1 : a = k
  · subst h1
    by_cases h2 : b = j
    · subst h2; simp [h]
    · have e : decide (b < j) = decide (b < j + 1) := by rw [Bool.eq_iff_iff]; simp; omega
      rw [e]
  · simp [h1]
theorem fill_yes {n : Nat} (f : Nat → Nat → Bool) {k j : Nat} (hk : k < n) (hj : j < n) (h : f k j = true) :
    (NB n (fill f k j)).set k ((NB n (fill f k j)).getD k 0 ||| 2 ^ j) = NB n (fill f k (j + 1)) := by
  refine eq_NB (by simp) fun a b ha => ?_
  rw [getD_set _ _ _ _ (by simpa using hk)]
  by_cases h1 : a = k
  · subst h1
    rw [if_pos rfl, NB_getD _ hk, Nat.testBit_or, testBit_maskB, Nat.testBit_two_pow]
    unfold fill
    by_cases h2 : b = j
    · subst h2; simp [h, hj]
    · have e : decide (b < j) = decide (b < j + 1) := by rw [Bool.eq_iff_iff]; simp; omega
      have h3 : ¬ j = b := fun h => h2 h.symm
      rw [e]
      simp [h3]
  · rw [if_neg h1, NB_getD _ ha, testBit_maskB]
    unfold fill
    simp [h1]
theorem fill_next (n : Nat) (f : Nat → Nat → Bool) (k : Nat) : NB n (fill f k n) = NB n (fill f (k + 1) 0) := by
  refine NB_ext fun a b ha hb => ?_
  unfold fill
  have e : (decide (a < k) || (decide (a = k) && decide (b < n))) = (decide (a < k + 1) || (decide (a = k + 1) && decide (b < 0))) := by rw [Bool.eq_iff_iff]; simp [hb]; omega
  rw [e]
theorem fill_zero (f : Nat → Nat → Bool) : fill f 0 0 = fun _ _ => false := by
  funext a b
  unfold fill
  simp
theorem fill_all (n : Nat) (f : Nat → Nat → Bool) : NB n (fill f n 0) = NB n f := by
  refine NB_ext fun a b ha hb => ?_
  unfold fill
  simp [ha]

end Go.Proofs.YtcjbobponlpkaaaDoor
