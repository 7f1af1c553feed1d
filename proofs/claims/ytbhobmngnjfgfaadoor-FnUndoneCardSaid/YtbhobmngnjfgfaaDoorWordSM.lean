import Derived.Test.YtbhobmngnjfgfaaDoorGrowM
import Derived.Test.YtbhobmngnjfgfaaDoorWordIM
/-
  'l21Sets' of the reference: the sets of a word.
-/


namespace Go.Proofs.YtbhobmngnjfgfaaDoor
open Go.RowKit

/-- The sets of a word as rows: after k of its places. -/
def RW (ws : List Int) (M k : Nat) : List (List Int) := (List.range M).map fun (j : Nat) => rowB k fun v => decide (ws.getD v 0 = (j : Int) + 1)
@[simp] theorem RW_length (ws : List Int) (M k : Nat) : (RW ws M k).length = M := by simp [RW]
theorem RW_SW (ws : List Int) (M : Nat) {k : Nat} (hk : k ≤ 16) : rowsOf (SW ws M k) = RW ws M k := by
  unfold rowsOf SW RW
  rw [List.map_map]
  refine List.map_congr_left fun j _ => ?_
  show nums (maskB 16 _) = _
  rw [nums_maskB (by omega)]
  refine rising_ext (rowB_rising _ _) (rowB_rising _ _) fun x => ?_
  rw [mem_rowB, mem_rowB]
  constructor
  · rintro ⟨b, _, hp, rfl⟩
    simp only [Bool.and_eq_true, decide_eq_true_eq] at hp
    exact ⟨b, hp.1, by simpa using hp.2, rfl⟩
  · rintro ⟨b, hb, hp, rfl⟩
    exact ⟨b, by omega, by simp only [Bool.and_eq_true, decide_eq_true_eq]; exact ⟨hb, by simpa using hp⟩, rfl⟩
theorem rowB_succ' (n : Nat) (p : Nat → Bool) : rowB (n + 1) p = rowB n p ++ if p n = true then [(n : Int)] else [] := by
  unfold rowB
  rw [List.range_succ, List.filter_append, List.map_append]
  by_cases h : p n = true <;> simp [h]
theorem RW_at {ws : List Int} {M k q : Nat} (hq : q < M) : (RW ws M k)[q]? = some (rowB k fun v => decide (ws.getD v 0 = (q : Int) + 1)) := by
  unfold RW
  rw [List.getElem?_map, List.getElem?_range hq]
  rfl
theorem RW_skip {ws : List Int} {M k : Nat} {y : Int} (h : ws[k]? = some y) (hy : y ≤ 0) : RW ws M (k + 1) = RW ws M k := by
  unfold RW
  refine List.map_congr_left fun j _ => ?_
  have : ws.getD k 0 = y := by rw [List.getD_eq_getElem?_getD, h]; rfl
  have h2 : ¬ y = (j : Int) + 1 := by omega
  rw [rowB_succ', this]
  simp [h2]
theorem RW_put {ws : List Int} {M k q : Nat} (h : ws[k]? = some ((q : Int) + 1)) (hq : q < M) : RW ws M (k + 1) = (RW ws M k).set q ((rowB k fun v => decide (ws.getD v 0 = (q : Int) + 1)) ++ [(k : Int)]) := by
  have hw : ws.getD k 0 = (q : Int) + 1 := by rw [List.getD_eq_getElem?_getD, h]; rfl
  apply List.ext_getElem?
  intro i
  rw [List.getElem?_set]
  by_cases hi : q = i
  · subst hi
    rw [if_pos rfl, if_pos (by simpa using hq), RW_at hq, rowB_succ', hw]
    simp
  · rw [if_neg hi]
    by_cases hM : i < M
    · have h2 : ¬ (q : Int) = i := by omega
      rw [RW_at hM, RW_at hM, rowB_succ', hw]
      simp [h2]
    · rw [List.getElem?_eq_none (by simp; omega), List.getElem?_eq_none (by simp; omega)]
theorem RW_zero (ws : List Int) (M : Nat) : RW ws M 0 = List.replicate M [] := by
  apply List.ext_getElem?
  intro i
  rw [List.getElem?_replicate]
  by_cases hi : i < M
  · rw [RW_at hi, if_pos hi]; rfl
  · rw [List.getElem?_eq_none (by simp; omega), if_neg hi]
/-- Rows of nothing. -/
theorem OwnG.nils {w : World} {base : Nat} {e1 e2 : TypeId} {v : Value} {M : Nat} (he : e1 ≠ e2) (h : w.ownsRow base e1 1 v M (List.replicate M (.slice none 0 0))) : OwnG w base e1 e2 v (List.replicate M (.slice none 0 0)) (List.replicate M []) := by
  refine ⟨by simp, by simpa using h, fun i u cs h1 h2 => ?_, ?_, he⟩
  · rw [List.getElem?_replicate] at h1 h2
    split at h1
    · rw [if_pos (by assumption)] at h2
      obtain rfl := Option.some.inj h1
      obtain rfl := Option.some.inj h2
      exact World.ownsRow_nil _ _ _ 1
    · cases h1
  · rw [List.pairwise_iff_getElem]
    intro p q hp hq _ k hk
    simp [Value.ownBlock] at hk
end Go.Proofs.YtbhobmngnjfgfaaDoor
