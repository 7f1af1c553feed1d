import Derived.Test.YtbhobmngnjfgfaaDoorGq08
import Derived.Test.YtbhobmngnjfgfaaDoorGq12
/-
  Sets of vertices that lie apart, and the graph of those that touch, plainly. The edges of a graph as a list.
-/


namespace Go.Proofs.YtbhobmngnjfgfaaDoor
open Go.RowKit

def unionB (mss : List (List Int)) (k : Nat) : Nat → Bool := fun v => (mss.take k).any fun s => inL s v
theorem unionB_zero (mss : List (List Int)) : unionB mss 0 = fun _ => false := by funext v; simp [unionB]
theorem unionB_succ {mss : List (List Int)} {k : Nat} {s : List Int} (h : mss[k]? = some s) : unionB mss (k + 1) = fun v => unionB mss k v || inL s v := by
  funext v
  unfold unionB
  rw [take_snoc h, List.any_append]
  simp
def Good (n : Nat) (mss : List (List Int)) (k : Nat) : Prop := ∀ j s, j < k → mss[j]? = some s → SetP n s ∧ ∀ v, inL s v = true → unionB mss j v = false
theorem Good.zero {n : Nat} {mss : List (List Int)} : Good n mss 0 := fun _ _ h => by omega
theorem Good.succ {n : Nat} {mss : List (List Int)} {k : Nat} {s : List Int} (h : Good n mss k) (hs : mss[k]? = some s) (h1 : SetP n s) (h2 : ∀ v, inL s v = true → unionB mss k v = false) : Good n mss (k + 1) := by
  intro j t hj ht
  by_cases hjk : j = k
  · subst hjk
    obtain rfl : s = t := by rw [hs] at ht; exact Option.some.inj ht
    exact ⟨h1, h2⟩
  · exact h j t (by omega) ht
theorem lt_of_at {α : Type} {l : List α} {k : Nat} {x : α} (h : l[k]? = some x) : k < l.length := (List.getElem?_eq_some_iff.1 h).1
theorem Good.not_set {n : Nat} {mss : List (List Int)} {k : Nat} {s : List Int} (hs : mss[k]? = some s) (h : ¬ SetP n s) : ¬ Good n mss mss.length :=
  fun g => h (g k s (lt_of_at hs) hs).1
theorem Good.not_apart {n : Nat} {mss : List (List Int)} {k : Nat} {s : List Int} (hs : mss[k]? = some s) (v : Nat) (h1 : inL s v = true) (h2 : unionB mss k v = true) : ¬ Good n mss mss.length :=
  fun g => by have := (g k s (lt_of_at hs) hs).2 v h1; rw [h2] at this; cases this
theorem Good.at {n : Nat} {mss : List (List Int)} {k : Nat} {s : List Int} (h : Good n mss mss.length) (hs : mss[k]? = some s) : SetP n s := (h k s (lt_of_at hs) hs).1

def touchB (n : Nat) (e : Nat → Nat → Bool) (a b : Nat → Bool) : Bool := (List.range n).any fun u => (List.range n).any fun v => e u v && a u && b v
theorem touchB_iff {n : Nat} {e : Nat → Nat → Bool} {a b : Nat → Bool} : touchB n e a b = true ↔ ∃ u v, u < n ∧ v < n ∧ e u v = true ∧ a u = true ∧ b v = true := by
  unfold touchB
  simp only [List.any_eq_true, List.mem_range, Bool.and_eq_true]
  constructor
  · rintro ⟨u, hu, v, hv, ⟨h1, h2⟩, h3⟩; exact ⟨u, v, hu, hv, h1, h2, h3⟩
  · rintro ⟨u, v, hu, hv, h1, h2, h3⟩; exact ⟨u, hu, v, hv, ⟨h1, h2⟩, h3⟩
theorem touchB_comm {n : Nat} {e : Nat → Nat → Bool} (h : Adj n e) (a b : Nat → Bool) : touchB n e a b = touchB n e b a := by
  rw [Bool.eq_iff_iff, touchB_iff, touchB_iff]
  constructor <;> rintro ⟨u, v, hu, hv, h1, h2, h3⟩ <;> exact ⟨v, u, hv, hu, by rw [h.sym v u hv hu]; exact h1, h3, h2⟩
def setAt (mss : List (List Int)) (i : Nat) : Nat → Bool := inL (mss.getD i [])
theorem setAt_of {mss : List (List Int)} {i : Nat} {s : List Int} (h : mss[i]? = some s) : setAt mss i = inL s := by
  unfold setAt
  rw [List.getD_eq_getElem?_getD, h]; rfl
def touchM (n : Nat) (e : Nat → Nat → Bool) (mss : List (List Int)) : Nat → Nat → Bool := fun i k => touchB n e (setAt mss i) (setAt mss k)
def quoB (n : Nat) (e : Nat → Nat → Bool) (mss : List (List Int)) : Nat → Nat → Bool := fun i k => decide (i ≠ k) && touchM n e mss i k
theorem quo_sym {n : Nat} {e : Nat → Nat → Bool} (h : Adj n e) (mss : List (List Int)) (m : Nat) : NB m (tri (touchM n e mss) m 0) = NB m (quoB n e mss) := by
  rw [tri_all, sym_of (touchM n e mss) m fun a b _ _ => touchB_comm h (setAt mss a) (setAt mss b)]
  rfl

def QuoOk (xss mss : List (List Int)) : Prop := okB xss = true ∧ mss.length ≤ 16 ∧ Good xss.length mss mss.length ∧ 0 < mss.length ∧ ∀ s ∈ mss, s ≠ []
def QuoP (xss mss rows : List (List Int)) (ok : Bool) : Prop := (¬ QuoOk xss mss ∧ rows = [] ∧ ok = false) ∨
  ∃ e, Adj xss.length e ∧ xss = rowsB xss.length e ∧ QuoOk xss mss ∧ rows = rowsB mss.length (quoB xss.length e mss) ∧ ok = true
theorem quoP_has (xss mss : List (List Int)) : ∃ rows ok, 1 + total rows ≤ 1000000000 ∧ rows.length ≤ 1000000000 ∧ QuoP xss mss rows ok := by
  by_cases h : QuoOk xss mss
  · obtain ⟨e, hA, hx⟩ := (okB_iff xss).1 h.1
    refine ⟨_, true, ?_, ?_, .inr ⟨e, hA, hx, h, rfl, rfl⟩⟩
    · have h16 := h.2.1
      have := total_rowsB mss.length (quoB xss.length e mss) (by omega)
      omega
    · rw [rowsB_length]; have := h.2.1; omega
  · exact ⟨[], false, by simp [total], by simp, .inl ⟨h, rfl, rfl⟩⟩

/-! ### The edges -/
def edgesRow (n : Nat) (e : Nat → Nat → Bool) (u i : Nat) : List (List Int) := (((rowB n (e u)).take i).filter fun v => decide ((u : Int) < v)).map fun v => [(u : Int), v]
def edgesTo (n : Nat) (e : Nat → Nat → Bool) (u i : Nat) : List (List Int) := ((List.range u).flatMap fun u => edgesRow n e u (rowB n (e u)).length) ++ edgesRow n e u i
def edgesL (n : Nat) (e : Nat → Nat → Bool) : List (List Int) := (List.range n).flatMap fun u => edgesRow n e u (rowB n (e u)).length
theorem edgesTo_zero (n : Nat) (e : Nat → Nat → Bool) : edgesTo n e 0 0 = [] := by simp [edgesTo, edgesRow]
theorem edgesTo_put {n : Nat} {e : Nat → Nat → Bool} {u i : Nat} {v : Int} (h : (rowB n (e u))[i]? = some v) (hv : (u : Int) < v) : edgesTo n e u (i + 1) = edgesTo n e u i ++ [[(u : Int), v]] := by
  unfold edgesTo edgesRow
  rw [take_snoc h, List.filter_append, List.map_append, List.append_assoc]
  simp [hv]
theorem edgesTo_skip {n : Nat} {e : Nat → Nat → Bool} {u i : Nat} {v : Int} (h : (rowB n (e u))[i]? = some v) (hv : ¬ (u : Int) < v) : edgesTo n e u (i + 1) = edgesTo n e u i := by
  unfold edgesTo edgesRow
  rw [take_snoc h, List.filter_append, List.map_append]
  simp [hv]
theorem edgesTo_next (n : Nat) (e : Nat → Nat → Bool) (u : Nat) : edgesTo n e u (rowB n (e u)).length = edgesTo n e (u + 1) 0 := by
  unfold edgesTo
  rw [List.range_succ, List.flatMap_append]
  simp [edgesRow]
theorem edgesTo_all (n : Nat) (e : Nat → Nat → Bool) : edgesTo n e n 0 = edgesL n e := by
  simp [edgesTo, edgesL, edgesRow]
theorem mem_edgesL {n : Nat} {e : Nat → Nat → Bool} {x : List Int} : x ∈ edgesL n e ↔ ∃ u v : Nat, u < n ∧ v < n ∧ u < v ∧ e u v = true ∧ x = [(u : Int), (v : Int)] := by
  unfold edgesL edgesRow
  simp only [List.mem_flatMap, List.mem_range, List.take_length, List.mem_map, List.mem_filter, decide_eq_true_eq]
  constructor
  · rintro ⟨u, hu, y, ⟨hy, hlt⟩, rfl⟩
    obtain ⟨v, hv, he, rfl⟩ := mem_rowB.1 hy
    exact ⟨u, v, hu, hv, by omega, he, rfl⟩
  · rintro ⟨u, v, hu, hv, hlt, he, rfl⟩
    exact ⟨u, hu, (v : Int), ⟨nat_mem_rowB.2 ⟨hv, he⟩, by omega⟩, rfl⟩
theorem edgesRow_len (n : Nat) (e : Nat → Nat → Bool) (u i : Nat) : (edgesRow n e u i).length ≤ n := by
  unfold edgesRow
  rw [List.length_map]
  refine Nat.le_trans (List.length_filter_le _ _) ?_
  rw [List.length_take]
  have := rowB_length n (e u)
  omega
theorem edgesPre_len (n : Nat) (e : Nat → Nat → Bool) (u : Nat) : ((List.range u).flatMap fun u => edgesRow n e u (rowB n (e u)).length).length ≤ u * n := by
  induction u with
  | zero => simp
  | succ u ih =>
    rw [List.range_succ, List.flatMap_append, List.length_append, Nat.succ_mul]
    have := edgesRow_len n e u (rowB n (e u)).length
    rw [List.flatMap_singleton]
    omega
theorem edgesTo_len {n : Nat} {e : Nat → Nat → Bool} {u i : Nat} (hn : n ≤ 16) (hu : u ≤ 16) : (edgesTo n e u i).length ≤ 272 := by
  unfold edgesTo
  rw [List.length_append]
  have h1 := edgesRow_len n e u i
  have h2 := edgesPre_len n e u
  have h3 : u * n ≤ 16 * 16 := Nat.mul_le_mul hu hn
  omega
/-- One of two ends in the one set, the other in the other. -/
def endsB (a b : Nat → Bool) (u v : Nat) : Bool := (a u && b v) || (a v && b u)
theorem edges_touch {n : Nat} {e : Nat → Nat → Bool} (h : Adj n e) (a b : Nat → Bool) : touchB n e a b = true ↔ ∃ u v : Nat, [(u : Int), (v : Int)] ∈ edgesL n e ∧ endsB a b u v = true := by
  rw [touchB_iff]
  constructor
  · rintro ⟨u, v, hu, hv, h1, h2, h3⟩
    rcases Nat.lt_trichotomy u v with hlt | rfl | hlt
    · exact ⟨u, v, mem_edgesL.2 ⟨u, v, hu, hv, hlt, h1, rfl⟩, by simp [endsB, h2, h3]⟩
    · rw [h.irr u hu] at h1; cases h1
    · exact ⟨v, u, mem_edgesL.2 ⟨v, u, hv, hu, hlt, by rw [h.sym v u hv hu]; exact h1, rfl⟩, by simp [endsB, h2, h3]⟩
  · rintro ⟨u, v, hm, hE⟩
    obtain ⟨u', v', hu, hv, hlt, he, h1⟩ := mem_edgesL.1 hm
    obtain ⟨rfl, rfl⟩ : u = u' ∧ v = v' := by simp at h1; exact ⟨by omega, by omega⟩
    unfold endsB at hE
    rw [Bool.or_eq_true, Bool.and_eq_true, Bool.and_eq_true] at hE
    rcases hE with ⟨h1, h2⟩ | ⟨h1, h2⟩
    · exact ⟨u, v, hu, hv, he, h1, h2⟩
    · exact ⟨v, u, hv, hu, by rw [h.sym v u hv hu]; exact he, h1, h2⟩
end Go.Proofs.YtbhobmngnjfgfaaDoor
