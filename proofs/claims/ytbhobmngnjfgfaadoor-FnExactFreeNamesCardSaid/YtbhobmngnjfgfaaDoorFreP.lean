/-
  Formulas (plain): which are right; the names that are free in each node, as bits.
-/
import Derived.Test.YtbhobmngnjfgfaaDoorSetK
namespace Go.Proofs.YtbhobmngnjfgfaaDoor

abbrev FD := Int × Int × Int
def inB (x lo hi : Int) : Bool := decide (lo ≤ x ∧ x ≤ hi)
/-- Is a node right that stands at i? -/
def goodB (i : Nat) (x : FD) : Bool :=
  if x.1 = 1 ∨ x.1 = 2 then inB x.2.1 0 2 && inB x.2.2 0 2
  else if x.1 = 3 then inB x.2.1 0 2 && inB x.2.2 0 1
  else if x.1 = 4 then inB x.2.1 0 ((i : Int) - 1) && decide (x.2.2 = 0)
  else if x.1 = 5 ∨ x.1 = 6 then inB x.2.1 0 ((i : Int) - 1) && inB x.2.2 0 ((i : Int) - 1)
  else if x.1 = 7 then inB x.2.1 0 2 && inB x.2.2 0 ((i : Int) - 1)
  else if x.1 = 8 then inB x.2.1 0 1 && inB x.2.2 0 ((i : Int) - 1)
  else false
/-- The first k nodes are right. -/
def okTo (fs : List FD) (k : Nat) : Prop := ∀ i x, i < k → fs[i]? = some x → goodB i x = true
theorem okTo_zero (fs : List FD) : okTo fs 0 := fun _ _ h => by omega
theorem okTo_succ {fs : List FD} {k : Nat} {x : FD} (hx : fs[k]? = some x) (h : okTo fs k) (hg : goodB k x = true) : okTo fs (k + 1) := by
  intro i y hi hy
  by_cases h1 : i = k
  · subst h1
    rw [hx] at hy
    cases hy
    exact hg
  · exact h i y (by omega) hy
def OkF (fs : List FD) : Prop := 1 ≤ fs.length ∧ fs.length ≤ 40 ∧ okTo fs fs.length
theorem not_okF {fs : List FD} {k : Nat} {x : FD} (hx : fs[k]? = some x) (hg : goodB k x = false) : ¬ OkF fs := by
  rintro ⟨_, _, h⟩
  have := h k x (List.getElem?_eq_some_iff.1 hx).1 hx
  rw [hg] at this
  cases this

def clr (m b : Nat) : Nat := m &&& (4294967295 - 2 ^ b)
/-- The names that are free in a node, from those of the nodes ahead. -/
def stepM (ms : List Nat) (x : FD) : Nat :=
  if x.1 = 1 ∨ x.1 = 2 then 2 ^ x.2.1.toNat ||| 2 ^ x.2.2.toNat
  else if x.1 = 3 then 2 ^ x.2.1.toNat ||| 2 ^ (3 + x.2.2.toNat)
  else if x.1 = 4 then ms.getD x.2.1.toNat 0
  else if x.1 = 5 ∨ x.1 = 6 then ms.getD x.2.1.toNat 0 ||| ms.getD x.2.2.toNat 0
  else if x.1 = 7 then clr (ms.getD x.2.2.toNat 0) x.2.1.toNat
  else if x.1 = 8 then clr (ms.getD x.2.2.toNat 0) (3 + x.2.1.toNat)
  else 0
def masksF (fs : List FD) : List Nat := fs.foldl (fun ms x => ms ++ [stepM ms x]) []
theorem masksF_snoc (fs : List FD) (x : FD) : masksF (fs ++ [x]) = masksF fs ++ [stepM (masksF fs) x] := by simp [masksF, List.foldl_append]
theorem foldM_length (fs : List FD) : ∀ ms : List Nat, (fs.foldl (fun ms x => ms ++ [stepM ms x]) ms).length = ms.length + fs.length := by
  induction fs with
  | nil => intro ms; rfl
  | cons x fs ih => intro ms; rw [List.foldl_cons, ih]; simp; omega
theorem masksF_length (fs : List FD) : (masksF fs).length = fs.length := by
  unfold masksF
  rw [foldM_length]
  simp
theorem masksF_take {fs : List FD} {k : Nat} {x : FD} (hx : fs[k]? = some x) : masksF (fs.take (k + 1)) = masksF (fs.take k) ++ [stepM (masksF (fs.take k)) x] := by
  rw [take_snoc hx, masksF_snoc]
theorem clr_lt {m b : Nat} (h : m < 32) : clr m b < 32 := Nat.lt_of_le_of_lt Nat.and_le_left h
theorem or_lt32 {a b : Nat} (ha : a < 32) (hb : b < 32) : a ||| b < 32 := Nat.or_lt_two_pow (n := 5) ha hb
theorem pow_lt32 {a : Nat} (h : a < 5) : 2 ^ a < 32 := by
  have : 2 ^ a < 2 ^ 5 := Nat.pow_lt_pow_right (by decide) h
  omega
theorem getD_lt32 {ms : List Nat} (h : ∀ m ∈ ms, m < 32) (i : Nat) : ms.getD i 0 < 32 := by
  rw [List.getD_eq_getElem?_getD]
  cases hx : ms[i]? with
  | none => decide
  | some m => exact h m (List.mem_of_getElem? hx)
theorem stepM_lt {ms : List Nat} {i : Nat} {x : FD} (h : ∀ m ∈ ms, m < 32) (hg : goodB i x = true) : stepM ms x < 32 := by
  unfold goodB at hg
  unfold stepM
  split
  · rename_i h1
    rw [if_pos h1] at hg
    simp only [inB, Bool.and_eq_true, decide_eq_true_eq] at hg
    exact or_lt32 (pow_lt32 (by omega)) (pow_lt32 (by omega))
  · rename_i h1
    rw [if_neg h1] at hg
    split
    · rename_i h2
      rw [if_pos h2] at hg
      simp only [inB, Bool.and_eq_true, decide_eq_true_eq] at hg
      exact or_lt32 (pow_lt32 (by omega)) (pow_lt32 (by omega))
    · split
      · exact getD_lt32 h _
      · split
        · exact or_lt32 (getD_lt32 h _) (getD_lt32 h _)
        · split
          · exact clr_lt (getD_lt32 h _)
          · split
            · exact clr_lt (getD_lt32 h _)
            · decide
theorem masksF_small {fs : List FD} : ∀ {k : Nat}, k ≤ fs.length → okTo fs k → ∀ m ∈ masksF (fs.take k), m < 32 := by
  intro k
  induction k with
  | zero => intro _ _ m hm; simp [masksF] at hm
  | succ k ih =>
    intro hk h m hm
    obtain ⟨x, hx⟩ : ∃ x, fs[k]? = some x := ⟨_, List.getElem?_eq_getElem (by omega)⟩
    have h1 := ih (by omega) fun i y hi hy => h i y (by omega) hy
    rw [masksF_take hx, List.mem_append, List.mem_singleton] at hm
    rcases hm with hm | rfl
    · exact h1 m hm
    · exact stepM_lt h1 (h k x (by omega) hx)
/-- What is free at last. -/
def lastM (fs : List FD) : Nat := (masksF fs).getD (fs.length - 1) 0
theorem lastM_lt {fs : List FD} (h : OkF fs) : lastM fs < 32 := by
  have := masksF_small (Nat.le_refl _) h.2.2
  rw [List.take_length] at this
  exact getD_lt32 this _
theorem maskB_five {m : Nat} (h : m < 32) : maskB 5 m.testBit = m := by
  refine Nat.eq_of_testBit_eq fun i => ?_
  rw [testBit_maskB]
  by_cases hi : i < 5
  · simp [hi]
  · have : m.testBit i = false := Nat.testBit_lt_two_pow (Nat.lt_of_lt_of_le (show m < 2 ^ 5 by omega) (Nat.pow_le_pow_right (by decide) (by omega)))
    simp [hi, this]
/-- What 'FreeNames' answers. -/
def FreP (fs : List FD) (row : List Int) : Prop := (¬ OkF fs ∧ row = []) ∨ (OkF fs ∧ row = rowB 5 (lastM fs).testBit)
theorem freP_has (fs : List FD) : ∃ row, 1 + row.length ≤ 1000000000 ∧ FreP fs row := by
  by_cases h : OkF fs
  · exact ⟨_, by have := rowB_length 5 (lastM fs).testBit; omega, .inr ⟨h, rfl⟩⟩
  · exact ⟨[], by simp, .inl ⟨h, rfl⟩⟩
end Go.Proofs.YtbhobmngnjfgfaaDoor
