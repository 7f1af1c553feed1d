import Derived.Test.YtbhobmngnjfgfaaDoorQuoPM
/-
  The edges along paths, plainly.
-/

namespace Go.Proofs.YtbhobmngnjfgfaaDoor
open Go.RowKit

/-- One step from x to y, or back. -/
def stepB (x y : Int) (u v : Nat) : Bool := (decide (x = (u : Int)) && decide (y = (v : Int))) || (decide (x = (v : Int)) && decide (y = (u : Int)))
theorem stepB_comm (x y : Int) (u v : Nat) : stepB x y u v = stepB x y v u := by unfold stepB; rw [Bool.or_comm]
def nearP (p : List Int) (j : Nat) (u v : Nat) : Bool := (List.range j).any fun i => decide (0 < i) && stepB (p.getD (i - 1) 0) (p.getD i 0) u v
theorem nearP_succ (p : List Int) (j u v : Nat) : nearP p (j + 1) u v = (nearP p j u v || (decide (0 < j) && stepB (p.getD (j - 1) 0) (p.getD j 0) u v)) := by
  unfold nearP
  rw [List.range_succ, List.any_append]
  simp
theorem nearP_comm (p : List Int) (j u v : Nat) : nearP p j u v = nearP p j v u := by
  unfold nearP
  congr 1
  funext i
  rw [stepB_comm]
def nearA (pss : List (List Int)) (k j : Nat) (u v : Nat) : Bool := ((pss.take k).any fun p => nearP p p.length u v) || nearP (pss.getD k []) j u v
theorem nearA_zero (pss : List (List Int)) (u v : Nat) : nearA pss 0 0 u v = false := by simp [nearA, nearP]
theorem nearA_next {pss : List (List Int)} {k : Nat} {p : List Int} (h : pss[k]? = some p) : nearA pss k p.length = nearA pss (k + 1) 0 := by
  funext u v
  unfold nearA
  rw [take_snoc h, List.any_append, List.getD_eq_getElem?_getD, h]
  simp [nearP]
theorem nearA_step {pss : List (List Int)} {k j : Nat} {p : List Int} (h : pss[k]? = some p) {x y : Int} (hx : p[j]? = some x) (hy : p[j + 1]? = some y) : nearA pss k (j + 2) = fun u v => nearA pss k (j + 1) u v || stepB x y u v := by
  funext u v
  unfold nearA
  rw [show j + 2 = (j + 1) + 1 by omega, nearP_succ, List.getD_eq_getElem?_getD, h]
  simp only [Option.getD_some]
  rw [show j + 1 - 1 = j by omega, List.getD_eq_getElem?_getD, hx, List.getD_eq_getElem?_getD, hy]
  simp [Bool.or_assoc]
theorem nearA_first {pss : List (List Int)} {k : Nat} : nearA pss k 1 = nearA pss k 0 := by
  funext u v
  unfold nearA
  rw [show (1 : Nat) = 0 + 1 by rfl, nearP_succ]
  simp
theorem nearA_comm (pss : List (List Int)) (k j u v : Nat) : nearA pss k j u v = nearA pss k j v u := by
  unfold nearA
  rw [nearP_comm]
  congr 1
  congr 1
  funext p
  rw [nearP_comm]
def adjN (pss : List (List Int)) (k j : Nat) : Nat → Nat → Bool := fun a b => decide (a ≠ b) && nearA pss k j a b
theorem adjN_same {pss : List (List Int)} {k j : Nat} {p : List Int} (h : pss[k]? = some p) {x : Int} (hx : p[j]? = some x) (hy : p[j + 1]? = some x) : adjN pss k (j + 2) = adjN pss k (j + 1) := by
  funext a b
  unfold adjN
  rw [nearA_step h hx hy]
  by_cases hab : a = b
  · simp [hab]
  · have : stepB x x a b = false := by
      unfold stepB
      rw [Bool.or_eq_false_iff, Bool.and_eq_false_iff, Bool.and_eq_false_iff, decide_eq_false_iff_not, decide_eq_false_iff_not]
      constructor <;> omega
    simp [this]
theorem adjN_step {pss : List (List Int)} {k j : Nat} {p : List Int} (h : pss[k]? = some p) {x y : Nat} (hx : p[j]? = some (x : Int)) (hy : p[j + 1]? = some (y : Int)) (hxy : x ≠ y) : adjN pss k (j + 2) = plus (adjN pss k (j + 1)) x y := by
  funext a b
  unfold adjN plus
  rw [nearA_step h hx hy]
  unfold stepB
  rw [Bool.eq_iff_iff]
  simp
  constructor
  · rintro ⟨h1, h2 | (⟨h2, h3⟩ | ⟨h2, h3⟩)⟩
    · exact .inl (.inl ⟨h1, h2⟩)
    · exact .inl (.inr ⟨by omega, by omega⟩)
    · exact .inr ⟨by omega, by omega⟩
  · rintro ((⟨h1, h2⟩ | ⟨h1, h2⟩) | ⟨h1, h2⟩)
    · exact ⟨h1, .inl h2⟩
    · exact ⟨by omega, .inr (.inl ⟨by omega, by omega⟩)⟩
    · exact ⟨by omega, .inr (.inr ⟨by omega, by omega⟩)⟩
theorem adjN_zero (pss : List (List Int)) : adjN pss 0 0 = fun _ _ => false := by funext a b; simp [adjN, nearA_zero]
theorem adjN_first {pss : List (List Int)} {k : Nat} : adjN pss k 1 = adjN pss k 0 := by unfold adjN; rw [nearA_first]
theorem adjN_next {pss : List (List Int)} {k : Nat} {p : List Int} (h : pss[k]? = some p) : adjN pss k p.length = adjN pss (k + 1) 0 := by unfold adjN; rw [nearA_next h]

def inV (x : Int) : Bool := decide (0 ≤ x ∧ x ≤ 15)
def OkEd (pss : List (List Int)) : Prop := pss.length ≤ 10 ∧ ∀ p ∈ pss, p.length ≤ 16 ∧ ∀ x ∈ p, inV x = true
def EdgP (pss rows : List (List Int)) : Prop := (¬ OkEd pss ∧ rows = []) ∨ (OkEd pss ∧ rows = edgesL 16 (adjN pss pss.length 0))

/-! ### The table, read row by row -/
def edgesTo2 (n : Nat) (e : Nat → Nat → Bool) (u v : Nat) : List (List Int) := ((List.range u).flatMap fun u => edgesRow n e u (rowB n (e u)).length) ++ ((List.range v).filter fun x => decide (u < x) && e u x).map fun (x : Nat) => [(u : Int), (x : Int)]
theorem edgesTo2_start (n : Nat) (e : Nat → Nat → Bool) (u : Nat) : edgesTo2 n e u (u + 1) = edgesTo n e u 0 := by
  have h : ((List.range (u + 1)).filter fun x => decide (u < x) && e u x) = [] := by
    rw [List.filter_eq_nil_iff]
    intro x hx
    have := List.mem_range.1 hx
    simp
    omega
  unfold edgesTo2 edgesTo
  rw [h]
  simp [edgesRow]
theorem edgesTo2_put {n : Nat} {e : Nat → Nat → Bool} {u v : Nat} (huv : u < v) (h : e u v = true) : edgesTo2 n e u (v + 1) = edgesTo2 n e u v ++ [[(u : Int), (v : Int)]] := by
  unfold edgesTo2
  rw [List.range_succ (n := v), List.filter_append, List.map_append, List.append_assoc]
  simp [huv, h]
theorem edgesTo2_skip {n : Nat} {e : Nat → Nat → Bool} {u v : Nat} (h : e u v = false) : edgesTo2 n e u (v + 1) = edgesTo2 n e u v := by
  unfold edgesTo2
  rw [List.range_succ (n := v), List.filter_append, List.map_append]
  simp [h]
theorem edgesTo2_next (n : Nat) (e : Nat → Nat → Bool) (u : Nat) : edgesTo2 n e u n = edgesTo n e (u + 1) 0 := by
  rw [← edgesTo_next]
  unfold edgesTo2 edgesTo edgesRow
  congr 1
  rw [List.take_length]
  unfold rowB
  rw [List.filter_map, List.map_map, List.filter_filter]
  congr 1
  congr 1
  funext x
  rw [Bool.and_comm]
  simp
  rw [Bool.and_comm]
theorem edgesTo2_len {n : Nat} {e : Nat → Nat → Bool} {u v : Nat} (hn : n ≤ 16) (hu : u ≤ 16) (hv : v ≤ 16) : (edgesTo2 n e u v).length ≤ 272 := by
  unfold edgesTo2
  rw [List.length_append, List.length_map]
  have h1 := List.length_filter_le (fun x => decide (u < x) && e u x) (List.range v)
  rw [List.length_range] at h1
  have h2 := edgesPre_len n e u
  have h3 : u * n ≤ 16 * 16 := Nat.mul_le_mul hu hn
  omega
end Go.Proofs.YtbhobmngnjfgfaaDoor
