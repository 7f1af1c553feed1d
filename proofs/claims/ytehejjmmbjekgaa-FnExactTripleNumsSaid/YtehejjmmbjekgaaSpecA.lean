/-
  The reference's base: 'l1In', 'l1Copy', 'l1Into', 'l1Empty', 'l1Link'.
-/
import Derived.Test.YtehejjmmbjekgaaNets
namespace Go.Proofs.Ytehejjmmbjekgaa
open Go.RowKit

theorem ints_one (xs : List Int) : ∀ u ∈ ints xs, u.oneCell' = true := ints_oneCell _ _

/-- With one more, rising: what 'l1Into' returns. -/
def into : List Int → Int → List Int
  | [], n => [n]
  | x :: r, n => if x < n then x :: into r n else if x = n then x :: r else n :: x :: r
theorem into_take {xs : List Int} {n : Int} {k : Nat} (hk : k ≤ xs.length) (h : ∀ j x, j < k → xs[j]? = some x → x < n) : into xs n = xs.take k ++ into (xs.drop k) n := by
  induction k generalizing xs with
  | zero => simp
  | succ k ih =>
    cases xs with
    | nil => simp at hk
    | cons x r =>
      have h0 := h 0 x (by omega) (by simp)
      rw [into, if_pos h0, ih (xs := r) (by simpa using hk) (fun j y hj hy => h (j + 1) y (by omega) (by simpa using hy))]
      simp
theorem into_length (xs : List Int) (n : Int) : (into xs n).length ≤ xs.length + 1 := by
  induction xs with
  | nil => simp [into]
  | cons x r ih =>
    unfold into
    split
    · simp; omega
    · split <;> simp

/-- Both are neighbours: what 'l1Link' does to the rows. -/
def link (xss : List (List Int)) (u v : Nat) : List (List Int) :=
  let yss := xss.set u (into (xss.getD u []) v)
  yss.set v (into (yss.getD v []) u)
@[simp] theorem link_length (xss : List (List Int)) (u v : Nat) : (link xss u v).length = xss.length := by simp [link]

/-- A value that is one slice in a struct: what a call that makes a graph leaves. -/
def GRes (w : World) (rows : List (List Int)) (ok : Bool) (e : Ending) (w' : World) : Prop :=
  ∃ u vs, e = .returned (.tuple #[.agg #[u], .bool ok]) ∧ OwnG w' w.heap.size 24 2 u vs (rows.map ints) ∧ Below w.heap.size w w'

end Go.Proofs.Ytehejjmmbjekgaa
