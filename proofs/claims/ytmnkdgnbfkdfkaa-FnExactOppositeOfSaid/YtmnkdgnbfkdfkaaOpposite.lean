/-
  'OppositeOf': the law, the reference, the program.
-/
import Derived.Test.YtmnkdgnbfkdfkaaRows
import Derived.WalkKit
import Derived.ProofKit
import Derived.OpenShut
import Derived.Lib.SmallJoins
import Derived.Below
import Derived.Lib.Hide
namespace Go.Proofs.Ytmnkdgnbfkdfkaa
open Go.ChangeShapes Go.WideShapes Go.ChangeAt Go.RowKit Go.Joins

def edit (k u v : Int) : Value := .agg #[.int .i64 k, .int .i64 u, .int .i64 v]
/-- The edit that undoes an edit. -/
def oppK (k : Int) : Int := if k = 1 then 2 else if k = 2 then 1 else if k = 3 then 4 else if k = 4 then 3 else 0
def opp (k u v : Int) : Value := if k = 1 ∨ k = 2 ∨ k = 3 ∨ k = 4 then edit (oppK k) u v else edit 0 0 0

theorem toEdit_any (k u v : Int) (w : World) :
    Calls Try.prog 8 #[.agg #[.int .i64 k, .int .i64 u, .int .i64 v]] w fun e w' => e = .returned (edit k u v) ∧ Below w.heap.size w w' := by
  go_enter Try.func8, Try.ntmps8
  go_wp2
  refine bodyPost_ret (v := edit k u v) (by simp [results, Try.results8, go_sem, edit]) rfl ?_
  exact ⟨rfl, (((Below.refl _ _).alloc (Nat.le_refl _) _).alloc (by simp) _).alloc (by simp; omega) _⟩

theorem specOpp (k u v : Int) (w : World) :
    Calls Try.prog 7 #[.agg #[.int .i64 k, .int .i64 u, .int .i64 v]] w fun e w' => e = .returned (opp k u v) ∧ Below w.heap.size w w' := by
  by_cases h1 : k = 1
  · subst h1
    go_enter Try.func7, Try.ntmps7
    go_wp2
    refine bodyPost_ret (v := edit 2 u v) (by simp [results, Try.results7, go_sem, edit]) rfl ?_
    exact ⟨rfl, ((Below.refl _ _).alloc (Nat.le_refl _) _).alloc (by simp) _⟩
  · by_cases h2 : k = 2
    · subst h2
      go_enter Try.func7, Try.ntmps7
      go_wp2
      refine bodyPost_ret (v := edit 1 u v) (by simp [results, Try.results7, go_sem, edit]) rfl ?_
      exact ⟨rfl, ((Below.refl _ _).alloc (Nat.le_refl _) _).alloc (by simp) _⟩
    · by_cases h3 : k = 3
      · subst h3
        go_enter Try.func7, Try.ntmps7
        go_wp2
        refine bodyPost_ret (v := edit 4 u v) (by simp [results, Try.results7, go_sem, edit]) rfl ?_
        exact ⟨rfl, ((Below.refl _ _).alloc (Nat.le_refl _) _).alloc (by simp) _⟩
      · by_cases h4 : k = 4
        · subst h4
          go_enter Try.func7, Try.ntmps7
          go_wp2
          refine bodyPost_ret (v := edit 3 u v) (by simp [results, Try.results7, go_sem, edit]) rfl ?_
          exact ⟨rfl, ((Below.refl _ _).alloc (Nat.le_refl _) _).alloc (by simp) _⟩
        · have ho : opp k u v = edit 0 0 0 := if_neg (by omega)
          rw [ho]
          go_enter Try.func7, Try.ntmps7
          go_wp2
          refine bodyPost_ret (v := edit 0 0 0) (by simp [results, Try.results7, go_sem, edit]) rfl ?_
          exact ⟨rfl, ((Below.refl _ _).alloc (Nat.le_refl _) _).alloc (by simp) _⟩

theorem implOpp (k u v : Int) (w : World) :
    Calls Try.prog 9 #[.agg #[.int .i64 k, .int .i64 u, .int .i64 v]] w fun e w' => e = .returned (opp k u v) ∧ Below w.heap.size w w' := by
  by_cases h1 : k = 1
  · subst h1
    go_enter Try.func9, Try.ntmps9
    go_wp2
    refine bodyPost_ret (v := edit 2 u v) (by simp [results, Try.results9, go_sem, edit]) rfl ?_
    exact ⟨rfl, ((Below.refl _ _).alloc (Nat.le_refl _) _).alloc (by simp) _⟩
  · by_cases h2 : k = 2
    · subst h2
      go_enter Try.func9, Try.ntmps9
      go_wp2
      refine bodyPost_ret (v := edit 1 u v) (by simp [results, Try.results9, go_sem, edit]) rfl ?_
      exact ⟨rfl, ((Below.refl _ _).alloc (Nat.le_refl _) _).alloc (by simp) _⟩
    · by_cases h3 : k = 3
      · subst h3
        go_enter Try.func9, Try.ntmps9
        go_wp2
        refine bodyPost_ret (v := edit 4 u v) (by simp [results, Try.results9, go_sem, edit]) rfl ?_
        exact ⟨rfl, ((Below.refl _ _).alloc (Nat.le_refl _) _).alloc (by simp) _⟩
      · by_cases h4 : k = 4
        · subst h4
          go_enter Try.func9, Try.ntmps9
          go_wp2
          refine bodyPost_ret (v := edit 3 u v) (by simp [results, Try.results9, go_sem, edit]) rfl ?_
          exact ⟨rfl, ((Below.refl _ _).alloc (Nat.le_refl _) _).alloc (by simp) _⟩
        · have ho : opp k u v = edit 0 0 0 := if_neg (by omega)
          rw [ho]
          go_enter Try.func9, Try.ntmps9
          go_wp2
          refine bodyPost_ret (v := edit 0 0 0) (by simp [results, Try.results9, go_sem, edit]) rfl ?_
          exact ⟨rfl, ((Below.refl _ _).alloc (Nat.le_refl _) _).alloc (by simp) _⟩

theorem eqEdit_same (k u v : Int) (w : World) :
    Calls Try.prog 10 #[.agg #[.int .i64 k, .int .i64 u, .int .i64 v], .agg #[.int .i64 k, .int .i64 u, .int .i64 v]] w fun e w' => e = .returned (.bool true) ∧ Below w.heap.size w w' := by
  have h : ∀ x : Int, (x != x) = false := fun x => by simp
  go_enter Try.func10, Try.ntmps10
  go_wp2
  go_ret
  exact ⟨rfl, ((Below.refl _ _).alloc (Nat.le_refl _) _).alloc (by simp) _⟩

theorem opp_shape (k u v : Int) : ∃ a b c, opp k u v = .agg #[.int .i64 a, .int .i64 b, .int .i64 c] := by
  unfold opp edit
  split
  · exact ⟨_, _, _, rfl⟩
  · exact ⟨_, _, _, rfl⟩

theorem cells3 {w : World} {b : Nat} {x y z : Value} {t : TypeId} (h : w.heap[b]? = some (.cells #[x, y, z] t (0, 0))) :
    w.cell? ⟨b, 0, none⟩ = some x ∧ w.cell? ⟨b, 1, none⟩ = some y ∧ w.cell? ⟨b, 2, none⟩ = some z := by
  simp [World.cell?, h]

theorem keepB {w w' : World} {b : Nat} {o : Obj} (h : w.heap[b]? = some o) (hb : Below w.heap.size w w') : w'.heap[b]? = some o :=
  (hb.block b (by rcases Nat.lt_or_ge b w.heap.size with h' | h'; (· exact h'); rw [Array.getElem?_eq_none h'] at h; cases h)).trans h
theorem goOn {w w1 w2 : World} (h : Below w.heap.size w w1) (h2 : Below w1.heap.size w1 w2) : Below w.heap.size w w2 := h.trans (h2.mono h.size)
theorem goNew {w w1 : World} (h : Below w.heap.size w w1) (o : Obj) : Below w.heap.size w (w1.alloc o) := h.alloc h.size o

set_option maxHeartbeats 1000000 in
theorem opposite_law (k u v : Int) (w : World) :
    Calls Try.prog 3 #[.agg #[.int .i64 k, .int .i64 u, .int .i64 v]] w fun e w' => e = .returned (.bool true) ∧ Below w.heap.size w w' := by
  obtain ⟨B, hB⟩ : ∃ B, w.heap.size = B := ⟨_, rfl⟩
  have hE0 : (w.alloc (.cells #[.int .i64 k, .int .i64 u, .int .i64 v] 23)).heap[B]? = some (.cells #[.int .i64 k, .int .i64 u, .int .i64 v] 23 (0, 0)) := by subst hB; exact heap_alloc_new w _
  have hb0 := goNew (Below.refl w.heap.size w) (.cells #[.int .i64 k, .int .i64 u, .int .i64 v] 23)
  obtain ⟨a, b, c, ho⟩ := opp_shape k u v
  go_enter Try.func3, Try.ntmps3
  go_wp2_with fail
  refine (toEdit_any k u v _).mono ?_
  rintro e w1 ⟨rfl, hb1⟩
  unfold edit
  have hE1 := keepB hE0 hb1
  have hb01 := goOn hb0 hb1
  clear hE0 hb0 hb1
  go_wp2_with fail
  refine (specOpp k u v _).mono ?_
  rintro e w2 ⟨rfl, hb2⟩
  rw [ho]
  have hE2 := keepB (keepB hE1 hb2) (goNew (Below.refl _ _) (.cells #[.int .i64 a, .int .i64 b, .int .i64 c] 24))
  have hb02 := goNew (goOn hb01 hb2) (.cells #[.int .i64 a, .int .i64 b, .int .i64 c] 24)
  have hF2 := heap_alloc_new w2 (.cells #[.int .i64 a, .int .i64 b, .int .i64 c] 24)
  obtain ⟨D, hD⟩ : ∃ D, w2.heap.size = D := ⟨_, rfl⟩
  rw [hD] at hF2
  obtain ⟨hc0, hc1, hc2⟩ := cells3 hE2
  clear hE1 hb01 hb2
  go_wp2_with fail
  generalize w2.alloc (.cells #[.int .i64 a, .int .i64 b, .int .i64 c] 24) = w3 at *
  refine (toEdit_any k u v _).mono ?_
  rintro e w4 ⟨rfl, hb4⟩
  unfold edit
  have hF4 := keepB hF2 hb4
  have hb04 := goOn hb02 hb4
  clear hE2 hb02 hb4 hF2 hc0 hc1 hc2
  go_wp2_with fail
  refine (implOpp k u v _).mono ?_
  rintro e w5 ⟨rfl, hb5⟩
  rw [ho]
  have hF5 := keepB (keepB hF4 hb5) (goNew (Below.refl _ _) (.cells #[.int .i64 a, .int .i64 b, .int .i64 c] 24))
  have hb05 := goNew (goOn hb04 hb5) (.cells #[.int .i64 a, .int .i64 b, .int .i64 c] 24)
  have hG5 := heap_alloc_new w5 (.cells #[.int .i64 a, .int .i64 b, .int .i64 c] 24)
  obtain ⟨E, hE⟩ : ∃ E, w5.heap.size = E := ⟨_, rfl⟩
  rw [hE] at hG5
  obtain ⟨hc0, hc1, hc2⟩ := cells3 hF5
  obtain ⟨hd0, hd1, hd2⟩ := cells3 hG5
  clear hF4 hb04 hb5
  go_wp2_with fail
  generalize w5.alloc (.cells #[.int .i64 a, .int .i64 b, .int .i64 c] 24) = w6 at *
  refine (eqEdit_same a b c _).mono ?_
  rintro e w7 ⟨rfl, hb7⟩
  have hb07 := goOn hb05 hb7
  clear hb05 hb7 hc0 hc1 hc2 hd0 hd1 hd2 hF5 hG5
  go_wp2_with fail
  go_ret
  exact ⟨rfl, hb07⟩
end Go.Proofs.Ytmnkdgnbfkdfkaa
