import Derived.Test.YtpfhflkpnjkgkaaGq02
import Derived.Test.YtpfhflkpnjkgkaaGq03
import Derived.Test.YtpfhflkpnjkgkaaGq05
import Derived.Test.YtpfhflkpnjkgkaaGq08
import Derived.Test.YtpfhflkpnjkgkaaGq09
import Derived.Test.YtpfhflkpnjkgkaaGq10
/-
  Weights, and the order of sets by size and numbers: 'goodWeights', 'l25Weights', 'slices.Compare', 'compareSets', 'bySize'.
-/




namespace Go.Proofs.Ytpfhflkpnjkgkaa
open Go.RowKit

/-! ### Weights -/
def lightB (x : Int) : Bool := !decide (0 ≤ x ∧ x ≤ 1000)
def goodW (ws : List Int) (n : Nat) : Bool := decide (ws.length = n) && !ws.any lightB
theorem goodW_iff {ws : List Int} {n : Nat} (h : goodW ws n = true) : ws.length = n ∧ ∀ x ∈ ws, 0 ≤ x ∧ x ≤ 1000 := by
  unfold goodW at h
  rw [Bool.and_eq_true, decide_eq_true_eq, Bool.not_eq_true', List.any_eq_false] at h
  refine ⟨h.1, fun x hx => ?_⟩
  have := h.2 x hx
  unfold lightB at this
  simpa using this
def wsum (ws : List Int) (l : List Int) : Int := (l.map fun x => ws.getD x.toNat 0).sum
theorem wsum_nil (ws : List Int) : wsum ws [] = 0 := rfl
theorem wsum_snoc (ws l : List Int) (x : Int) : wsum ws (l ++ [x]) = wsum ws l + ws.getD x.toNat 0 := by simp [wsum]
theorem wsum_bound {ws : List Int} (hw : ∀ x ∈ ws, 0 ≤ x ∧ x ≤ 1000) (l : List Int) : 0 ≤ wsum ws l ∧ wsum ws l ≤ 1000 * l.length := by
  induction l with
  | nil => simp [wsum]
  | cons a l ih =>
    have h1 : wsum ws (a :: l) = ws.getD a.toNat 0 + wsum ws l := by simp [wsum]
    have h2 : 0 ≤ ws.getD a.toNat 0 ∧ ws.getD a.toNat 0 ≤ 1000 := by
      rw [List.getD_eq_getElem?_getD]
      cases h : ws[a.toNat]? with
      | none => simp
      | some x => exact hw x (List.mem_of_getElem? h)
    rw [h1, List.length_cons]
    omega
def wt (ws : List Int) (n s : Nat) : Int := wsum ws (rowB n s.testBit)
theorem rowB_succ (n : Nat) (p : Nat → Bool) : rowB (n + 1) p = rowB n p ++ if p n = true then [(n : Int)] else [] := by
  unfold rowB
  rw [List.range_succ, List.filter_append, List.map_append]
  by_cases h : p n = true <;> simp [h]

/-! ### The order of sets -/
def cmpI (x y : Int) : Int := if x < y then -1 else if y < x then 1 else 0
/-- The first place where two rows differ. -/
def Diff (xs ys : List Int) : Prop := ∃ i x y, xs.take i = ys.take i ∧ xs[i]? = some x ∧ ys[i]? = some y ∧ x < y
def CmpL (xs ys : List Int) (d : Int) : Prop := (d = 0 ∧ xs = ys) ∨ (d = -1 ∧ Diff xs ys) ∨ (d = 1 ∧ Diff ys xs)

theorem diff_lex {n s t : Nat} (h : Diff (rowB n s.testBit) (rowB n t.testBit)) : Lex s t := by
  obtain ⟨i, x, y, h1, hx, hy, hlt⟩ := h
  obtain ⟨x', hxn, hsx, rfl⟩ := row_at hx
  obtain ⟨y', hyn, hty, rfl⟩ := row_at hy
  have hxy : x' < y' := by omega
  have hrs := rowB_rising n s.testBit
  have hrt := rowB_rising n t.testBit
  refine ⟨x', hsx, ?_, fun j hj => ?_⟩
  · cases hb : t.testBit x' with
    | false => rfl
    | true =>
      exfalso
      obtain ⟨k, hk⟩ := List.mem_iff_getElem?.1 (nat_mem_rowB.2 ⟨hxn, hb⟩)
      have hki : k < i := by
        apply Classical.byContradiction
        intro hn
        by_cases he : k = i
        · subst he; rw [hy] at hk; have := Option.some.inj hk; omega
        · have := rising_at hrt hy hk (by omega); omega
      have hm : ((x' : Nat) : Int) ∈ (rowB n s.testBit).take i := by rw [h1]; exact mem_take_iff.2 ⟨k, hki, hk⟩
      obtain ⟨k2, h3, h4⟩ := mem_take_iff.1 hm
      have := rising_at hrs h4 hx h3
      omega
  · have key : ∀ (p q : Nat → Bool), (rowB n p).take i = (rowB n q).take i → (∀ z, (rowB n p)[i]? = some z → (j : Int) < z) → (rowB n p)[i]? ≠ none → p j = true → q j = true := by
      intro p q h1 h2 h3 hp
      obtain ⟨z, hz⟩ := Option.ne_none_iff_exists'.1 h3
      have hjz := h2 z hz
      obtain ⟨z', hzn, _, rfl⟩ := row_at hz
      obtain ⟨k, hk⟩ := List.mem_iff_getElem?.1 (nat_mem_rowB.2 ⟨(by omega : j < n), hp⟩)
      have hki : k < i := by
        apply Classical.byContradiction
        intro hn
        by_cases he : k = i
        · subst he; rw [hz] at hk; have := Option.some.inj hk; omega
        · have := rising_at (rowB_rising n p) hz hk (by omega); omega
      have hm : ((j : Nat) : Int) ∈ (rowB n q).take i := by rw [← h1]; exact mem_take_iff.2 ⟨k, hki, hk⟩
      exact (nat_mem_rowB.1 (List.mem_of_mem_take hm)).2
    have a1 := key s.testBit t.testBit h1 (fun z hz => by rw [hx] at hz; have := Option.some.inj hz; omega) (by rw [hx]; simp)
    have a2 := key t.testBit s.testBit h1.symm (fun z hz => by rw [hy] at hz; have := Option.some.inj hz; omega) (by rw [hy]; simp)
    cases hs : s.testBit j with
    | true => exact (a1 hs).symm
    | false =>
      cases ht : t.testBit j with
      | false => rfl
      | true => rw [a2 ht] at hs; cases hs
theorem size_row {n s : Nat} (hn : n ≤ 32) (hs : s < 2 ^ n) : (rowB n s.testBit).length = size s := by
  rw [size_cnt hn (bits_above hs)]
  unfold rowB cnt
  rw [List.length_map, List.range_eq_range']
theorem cmp_lex {n s t : Nat} (hn : n ≤ 16) (hs : s < 2 ^ n) (ht : t < 2 ^ n) {d : Int} (h : CmpL (rowB n s.testBit) (rowB n t.testBit) d) : d < 0 ↔ lexB s t = true := by
  have hp := Nat.pow_le_pow_right (n := 2) (j := 16) (by decide) hn
  rw [lexB_iff (by omega) (by omega)]
  rcases h with ⟨rfl, h⟩ | ⟨rfl, h⟩ | ⟨rfl, h⟩
  · have he : s = t := by
      apply Nat.eq_of_testBit_eq
      intro i
      by_cases hi : i < n
      · have h1 := nat_mem_rowB (n := n) (p := s.testBit) (i := i)
        have h2 := nat_mem_rowB (n := n) (p := t.testBit) (i := i)
        rw [h, h2] at h1
        rw [Bool.eq_iff_iff]
        exact ⟨fun h3 => (h1.2 ⟨hi, h3⟩).2, fun h3 => (h1.1 ⟨hi, h3⟩).2⟩
      · rw [bits_above hs i (by omega), bits_above ht i (by omega)]
    subst he
    exact ⟨fun h => by omega, fun h => (h.irrefl).elim⟩
  · exact ⟨fun _ => diff_lex h, fun _ => by omega⟩
  · exact ⟨fun h => by omega, fun h2 => (h2.asymm (diff_lex h)).elim⟩

end Go.Proofs.Ytpfhflkpnjkgkaa
/-
  The drawn graphs and the drawn sets of the laws.
-/




namespace Go.Proofs.Ytpfhflkpnjkgkaa
open Go.RowKit

theorem Upd.then {lo hi B : Nat} {w w1 w2 : World} (h : Upd lo hi w w1) (hb : Below B w1 w2) (hB : w.heap.size ≤ B) : Upd lo hi w w2 :=
  ⟨hb.os.trans h.os, hb.tape.trans h.tape, hb.output.trans h.output, Nat.le_trans h.size hb.size, fun k hk hn => (hb.block k (by omega)).trans (h.block k hk hn)⟩
theorem OwnG.upd {w w' : World} {base : Nat} {v : Value} {vs : List Value} {css : List (List Value)} {lo hi : Nat} (h : OwnG w base 26 2 v vs css) (u : Upd lo hi w w') (hd : hi ≤ base ∨ hi ≤ lo) : OwnG w' base 26 2 v vs css :=
  ⟨h.len, owns_keep h.outer fun b hb hlt => u.block b hlt (by have := (h.lt (.inl hb)).1; omega), fun i x cs h1 h2 => owns_keep (h.rows i x cs h1 h2) fun b hb hlt => u.block b hlt (by have := (h.lt (.inr ⟨x, List.mem_of_getElem? h1, hb⟩)).1; omega), h.apart, h.unlike⟩
theorem own_upd {w w' : World} {base : Nat} {t : TypeId} {v : Value} {n : Nat} {cs : List Value} {lo hi : Nat} (h : w.ownsRow base t 1 v n cs) (u : Upd lo hi w w') (hd : hi ≤ base ∨ hi ≤ lo) : w'.ownsRow base t 1 v n cs :=
  owns_keep h fun b hb hlt => u.block b hlt (by have := (owns_lt h hb).1; omega)
theorem adj_none {n : Nat} (h1 : 1 ≤ n) (h2 : n ≤ 16) : Adj n fun _ _ => false := ⟨h1, h2, fun _ _ => rfl, fun _ _ _ _ => rfl⟩
theorem laidE_put (es : List (List Int)) (u v : Nat) : laidE (es ++ [[(u : Int), (v : Int)]]) = plus (laidE es) u v := by
  unfold laidE
  rw [List.foldl_append]
  simp
theorem adj_laids {n : Nat} : ∀ (es : List (List Int)) (f : Nat → Nat → Bool), Adj n f → (∀ e ∈ es, PairP n e) → Adj n (es.foldl (fun f xs => plus f (xs.getD 0 0).toNat (xs.getD 1 0).toNat) f) := by
  intro es
  induction es with
  | nil => exact fun f h _ => h
  | cons x es ih =>
    intro f hf h
    obtain ⟨u, v, huv, hv, rfl⟩ := (h x (by simp)).parts
    exact ih _ (by simpa using adj_plus hf (p := u) (q := v) (by omega)) fun e he => h e (by simp [he])
theorem adj_laidE {n : Nat} (h1 : 1 ≤ n) (h2 : n ≤ 16) (es : List (List Int)) (h : ∀ e ∈ es, PairP n e) : Adj n (laidE es) := adj_laids es _ (adj_none h1 h2) h
theorem pairP_of {n u v : Nat} (h : u < v) (hv : v < n) : PairP n [(u : Int), (v : Int)] := by
  refine ⟨rfl, ?_, ?_⟩
  · intro x hx
    simp only [List.mem_cons, List.not_mem_nil, or_false] at hx
    rcases hx with rfl | rfl <;> omega
  · simp [h]
theorem setP_put {k : Nat} {xs : List Int} (h : SetP k xs) : SetP (k + 1) (xs ++ [(k : Int)]) := by
  refine ⟨?_, ?_⟩
  · intro x hx
    simp only [List.mem_append, List.mem_cons, List.not_mem_nil, or_false] at hx
    rcases hx with hx | rfl
    · have := h.1 x hx; omega
    · omega
  · rw [List.pairwise_append]
    refine ⟨h.2, by simp, ?_⟩
    intro a ha b hb
    simp only [List.mem_cons, List.not_mem_nil, or_false] at hb
    subst hb
    exact (h.1 a ha).2
theorem SetP.up {k : Nat} {xs : List Int} (h : SetP k xs) : SetP (k + 1) xs := ⟨fun x hx => by have := h.1 x hx; omega, h.2⟩

end Go.Proofs.Ytpfhflkpnjkgkaa
/-
  'chooseSets' over the closure of 'smallestSet'.
-/

namespace Go.Proofs.Ytpfhflkpnjkgkaa
open Go.RowKit

end Go.Proofs.Ytpfhflkpnjkgkaa
/-
  'smallestSet' over the closure of 'LeastRule'.
-/

namespace Go.Proofs.Ytpfhflkpnjkgkaa
open Go.RowKit

end Go.Proofs.Ytpfhflkpnjkgkaa
/-
  'smallestSet' over the closure of 'LeastCover'.
-/

namespace Go.Proofs.Ytpfhflkpnjkgkaa
open Go.RowKit

end Go.Proofs.Ytpfhflkpnjkgkaa
