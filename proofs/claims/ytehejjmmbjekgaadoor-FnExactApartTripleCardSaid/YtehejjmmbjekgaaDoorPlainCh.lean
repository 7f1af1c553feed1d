/-
  The sets of so many numbers, tried in their order, plainly.
-/
import Derived.Test.YtehejjmmbjekgaaDoorSearch
import Derived.Test.YtehejjmmbjekgaaDoorSetK
namespace Go.Proofs.YtehejjmmbjekgaaDoor
open Go.RowKit

theorem range_split {d m : Nat} (h : d < m) : List.range m = List.range d ++ d :: List.range' (d + 1) (m - d - 1) := by
  have h1 : m = d + (m - d - 1 + 1) := by omega
  conv => lhs; rw [h1, List.range_add]
  congr 1
  rw [← List.range'_succ, List.range'_eq_map_range]
theorem find_mid {pre x rest : List Nat} {fit : Nat → Bool} (h0 : pre.any fit = false) (h1 : x.any fit = true) : (pre ++ (x ++ rest)).find? fit = x.find? fit ∧ (pre ++ (x ++ rest)).any fit = true := by
  have hp : pre.find? fit = none := by
    rw [List.find?_eq_none]
    intro y hy
    rw [List.any_eq_false] at h0
    exact h0 y hy
  rw [List.any_eq_true] at h1
  obtain ⟨y, hy, hfy⟩ := h1
  refine ⟨?_, by rw [List.any_append, List.any_append, List.any_eq_true.2 ⟨y, hy, hfy⟩]; simp⟩
  rw [List.find?_append, List.find?_append, hp, Option.none_or]
  cases hx : x.find? fit with
  | none => rw [List.find?_eq_none] at hx; exact (hx y hy hfy).elim
  | some z => rfl
/-- What a search for the smallest set returns. -/
def SmallRes (n : Nat) (fit : Nat → Bool) (w : World) (e : Ending) (w' : World) : Prop :=
  ∃ (r : Nat) (ok : Bool), e = .returned (.tuple #[.int .u32 (r : Nat), .bool ok]) ∧
    Hid ((ok = true ∧ IsBest size (fun s => fit s = true) (2 ^ n) r) ∨ (ok = false ∧ r = 0 ∧ ∀ t, t < 2 ^ n → fit t = false)) ∧ Below w.heap.size w w'
/-- What has been tried ahead of the d-th start. -/
def tried (n k f c d : Nat) : List Nat := (List.range d).flatMap fun d => combos n k (f + d + 1) (c ||| 2 ^ (f + d))
theorem tried_succ (n k f c d : Nat) : tried n k f c (d + 1) = tried n k f c d ++ combos n k (f + d + 1) (c ||| 2 ^ (f + d)) := by
  unfold tried
  rw [List.range_succ, List.flatMap_append]
  simp
theorem combos_tried {n k f c d : Nat} (h : d < n - (f + k)) : ∃ rest, combos n (k + 1) f c = tried n k f c d ++ (combos n k (f + d + 1) (c ||| 2 ^ (f + d)) ++ rest) := by
  unfold tried
  rw [show combos n (k + 1) f c = (List.range (n - (f + k))).flatMap fun d => combos n k (f + d + 1) (c ||| 2 ^ (f + d)) from rfl, range_split h, List.flatMap_append, List.flatMap_cons]
  exact ⟨_, rfl⟩
theorem below_bits {n f c : Nat} (hf : f ≤ n) (hc : ∀ j, f ≤ j → c.testBit j = false) : c < 2 ^ n := Nat.lt_pow_two_of_testBit c fun j hj => hc j (by omega)
theorem pow16 {n s : Nat} (hn : n ≤ 16) (h : s < 2 ^ n) : s < 65536 := Nat.lt_of_lt_of_le h (Nat.pow_le_pow_right (n := 2) (j := 16) (by decide) hn)
end Go.Proofs.YtehejjmmbjekgaaDoor
