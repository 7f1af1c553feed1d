/-
  Three vertices apart, plainly: no two joined, and between each two a way that keeps off the third and its neighbours; the first such three.
-/
import Derived.Test.YtehejjmmbjekgaaDoorClawP
import Derived.Test.YtehejjmmbjekgaaDoorReach
namespace Go.Proofs.YtehejjmmbjekgaaDoor
open Go.RowKit

/-- b is neither w nor a neighbour of w. -/
def offB (e : Nat → Nat → Bool) (w b : Nat) : Bool := !decide (b = w) && !e w b
/-- Is there a way from x to y that keeps off w and its neighbours? -/
noncomputable def offWay (n : Nat) (e : Nat → Nat → Bool) (x y w : Nat) : Bool := offB e w x && (offB e w y && wayB n e (offB e w) x y)
theorem offWay_rev {n : Nat} {e : Nat → Nat → Bool} (hA : Adj n e) {x y w : Nat} (hx : x < n) (hy : y < n) (h1 : offB e w x = true) (h2 : offB e w y = true) : wayB n e (offB e w) y x = offWay n e x y w := by
  unfold offWay
  rw [h1, h2, Bool.true_and, Bool.true_and, Bool.eq_iff_iff, wayB_iff, wayB_iff]
  exact ⟨fun h => h.symm hA hy h2, fun h => h.symm hA hx h1⟩
structure Apart (n : Nat) (e : Nat → Nat → Bool) (x y z : Nat) : Prop where
  xy : x < y
  yz : y < z
  zn : z < n
  st : St e x y z
  way1 : offWay n e x y z = true
  way2 : offWay n e x z y = true
  way3 : offWay n e y z x = true
def Ahead3 (x y z x' y' z' : Nat) : Prop := x < x' ∨ (x = x' ∧ (y < y' ∨ (y = y' ∧ z < z')))
structure IsApart (n : Nat) (e : Nat → Nat → Bool) (x y z : Nat) : Prop where
  fits : Apart n e x y z
  first : ∀ x' y' z', Apart n e x' y' z' → ¬ Ahead3 x' y' z' x y z
theorem IsApart.unique {n : Nat} {e : Nat → Nat → Bool} {x y z x' y' z' : Nat} (h : IsApart n e x y z) (h' : IsApart n e x' y' z') : x = x' ∧ y = y' ∧ z = z' := by
  have h1 := h.first x' y' z' h'.fits
  have h2 := h'.first x y z h.fits
  unfold Ahead3 at h1 h2
  omega
/-- The set of three vertices. -/
def Bits3 (s x y z : Nat) : Prop := ∀ b, s.testBit b = (decide (b = x) || decide (b = y) || decide (b = z))
theorem lex3 {s t x y z x' y' z' : Nat} (hs : Bits3 s x y z) (ht : Bits3 t x' y' z') (h1 : x < y) (h2 : y < z) (h3 : x' < y') (h4 : y' < z') (h : Ahead3 x' y' z' x y z) : Lex t s := by
  unfold Bits3 at hs ht
  rcases h with h | ⟨rfl, h | ⟨rfl, h⟩⟩
  · refine ⟨x', by rw [ht]; simp, by rw [hs]; simp; omega, fun j hj => ?_⟩
    rw [hs, ht, Bool.eq_iff_iff]; simp; omega
  · refine ⟨y', by rw [ht]; simp, by rw [hs]; simp; omega, fun j hj => ?_⟩
    rw [hs, ht, Bool.eq_iff_iff]; simp; omega
  · refine ⟨z', by rw [ht]; simp, by rw [hs]; simp; omega, fun j hj => ?_⟩
    rw [hs, ht, Bool.eq_iff_iff]; simp; omega
theorem mask3 {n x y z : Nat} (h1 : x < y) (h2 : y < z) (h3 : z < n) : Bits3 (maskB n fun b => decide (b = x) || decide (b = y) || decide (b = z)) x y z := fun b => by
  rw [testBit_maskB]
  by_cases hb : b < n
  · simp [hb]
  · simp [hb]; omega

/-! ### The search of the reference -/
def A1 (n : Nat) (e : Nat → Nat → Bool) (a : Nat) : Prop := ∀ x y z, x < a → ¬ Apart n e x y z
def A2 (n : Nat) (e : Nat → Nat → Bool) (a b : Nat) : Prop := ∀ y z, y < b → ¬ Apart n e a y z
def A3 (n : Nat) (e : Nat → Nat → Bool) (a b c : Nat) : Prop := ∀ z, z < c → ¬ Apart n e a b z
section
variable {n : Nat} {e : Nat → Nat → Bool} {a b c : Nat}
theorem A1.start : A1 n e 0 := fun x y z h => by omega
theorem A2.start : A2 n e a (a + 1) := fun y z h hp => by have := hp.xy; omega
theorem A3.start : A3 n e a b (b + 1) := fun z h hp => by have := hp.yz; omega
theorem A1.succ (h : A1 n e a) (h2 : A2 n e a n) : A1 n e (a + 1) := fun x y z hx hp => by
  by_cases hxa : x = a
  · subst hxa; exact h2 y z (by have := hp.yz; have := hp.zn; omega) hp
  · exact h x y z (by omega) hp
theorem A2.succ (h : A2 n e a b) (h2 : A3 n e a b n) : A2 n e a (b + 1) := fun y z hy hp => by
  by_cases hyb : y = b
  · subst hyb; exact h2 z hp.zn hp
  · exact h y z (by omega) hp
theorem A2.skip (h : A2 n e a b) (h2 : e a b = true) : A2 n e a (b + 1) := fun y z hy hp => by
  by_cases hyb : y = b
  · subst hyb; have := hp.st.1; rw [h2] at this; cases this
  · exact h y z (by omega) hp
theorem A3.succ (h : A3 n e a b c) (h2 : ¬ Apart n e a b c) : A3 n e a b (c + 1) := fun z hz hp => by
  by_cases hzc : z = c
  · subst hzc; exact h2 hp
  · exact h z (by omega) hp
theorem A_found (h1 : A1 n e a) (h2 : A2 n e a b) (h3 : A3 n e a b c) (h : Apart n e a b c) : IsApart n e a b c := ⟨h, fun x y z hp hx => by
  rcases hx with hx | ⟨rfl, hx | ⟨rfl, hx⟩⟩
  · exact h1 x y z hx hp
  · exact h2 y z hx hp
  · exact h3 z hx hp⟩
end
def ApartC (n : Nat) (e : Nat → Nat → Bool) (rs : List Int) (ok : Bool) : Prop :=
  (∃ x y z, IsApart n e x y z ∧ rs = [(x : Int), (y : Int), (z : Int)] ∧ ok = true) ∨ ((∀ x y z, ¬ Apart n e x y z) ∧ rs = [] ∧ ok = false)
end Go.Proofs.YtehejjmmbjekgaaDoor
