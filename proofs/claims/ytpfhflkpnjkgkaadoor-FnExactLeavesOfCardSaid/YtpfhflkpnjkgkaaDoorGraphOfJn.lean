import Derived.Test.YtpfhflkpnjkgkaaDoorComplementJn
/-
  'GraphOf' of the reference and of the program.
-/

namespace Go.Proofs.YtpfhflkpnjkgkaaDoor
open Go.RowKit

/-- An edge: two different vertices below n, the smaller one first. -/
def PairP (n : Nat) (xs : List Int) : Prop := xs.length = 2 ∧ SetP n xs
instance (n : Nat) (xs : List Int) : Decidable (PairP n xs) := by unfold PairP; infer_instance
theorem PairP.parts {n : Nat} {xs : List Int} (h : PairP n xs) : ∃ u v : Nat, u < v ∧ v < n ∧ xs = [(u : Int), (v : Int)] := by
  obtain ⟨h1, h2, h3⟩ := h
  match xs, h1 with
  | [x, y], _ =>
    have hx := h2 x (by simp)
    have hy := h2 y (by simp)
    have hxy : x < y := by simpa using h3
    exact ⟨x.toNat, y.toNat, by omega, by omega, by rw [Int.toNat_of_nonneg hx.1, Int.toNat_of_nonneg hy.1]⟩

/-- The edges of a list, laid one by one. -/
def laidE (es : List (List Int)) : Nat → Nat → Bool := es.foldl (fun f xs => plus f (xs.getD 0 0).toNat (xs.getD 1 0).toNat) (fun _ _ => false)
theorem laidE_succ {es : List (List Int)} {k : Nat} {u v : Nat} (h : es[k]? = some [(u : Int), (v : Int)]) : laidE (es.take (k + 1)) = plus (laidE (es.take k)) u v := by
  unfold laidE
  rw [take_snoc h, List.foldl_append]
  simp

/-- 'GraphOf' gives a graph. -/
def OkE (n : Int) (es : List (List Int)) : Prop := (1 ≤ n ∧ n ≤ 16) ∧ es.length ≤ 120 ∧ ∀ e ∈ es, PairP n.toNat e

theorem ok_snoc {n : Nat} {es : List (List Int)} {k : Nat} {xs : List Int} (hx : es[k]? = some xs) (h : ∀ e ∈ es.take k, PairP n e) (h1 : PairP n xs) : ∀ e ∈ es.take (k + 1), PairP n e := by
  rw [take_snoc hx]
  intro e he
  rcases List.mem_append.1 he with he | he
  · exact h e he
  · rw [List.mem_singleton.1 he]; exact h1

theorem set_is (v : Value) (xs : List Int) (n : Nat) (hn : n ≤ 1000000) (b : Bool) (h : decide (SetP n xs) = b) (w : World) (hr : Row w 1 v xs.length (ints xs)) :
    Calls Tryd.prog 63 #[v, .int .i64 n] w fun e w' => e = .returned (.bool b) ∧ Below w.heap.size w w' := by
  subst h; exact set_any v xs n hn w hr

theorem pair_cells {w : World} {u : Value} {x y : Int} (h : Row w 1 u 2 (ints [x, y])) :
    ∃ b o c, u = .slice (some ⟨b, o, none⟩) 2 c ∧ w.cell? ⟨b, o, none⟩ = some (.int .i64 x) ∧ w.cell? ⟨b, o + 1, none⟩ = some (.int .i64 y) := by
  obtain ⟨a, c, rfl, h1, h2, h3, h4, h5⟩ := h
  obtain ⟨b, o, rfl, hc⟩ := h5 0 (.int .i64 x) rfl
  obtain ⟨b', o', e, hc'⟩ := h5 1 (.int .i64 y) rfl
  obtain ⟨rfl, rfl⟩ : b = b' ∧ o = o' := by simpa using e
  exact ⟨b, o, c, rfl, hc, hc'⟩

end Go.Proofs.YtpfhflkpnjkgkaaDoor
