import Derived.Test.YtbhobmngnjfgfaaDoorGq07
import Derived.Test.YtbhobmngnjfgfaaDoorGq13
import Derived.Test.YtbhobmngnjfgfaaDoorWordM
/-
  'WordModel' of the program.
-/



namespace Go.Proofs.YtbhobmngnjfgfaaDoor
open Go.RowKit

/-- Is it a word? -/
def wordB (ws : List Int) : Bool := decide (1 ≤ ws.length ∧ ws.length ≤ 16) && !ws.any badW
/-- The sets of a word: after k of its places. -/
def SW (ws : List Int) (M k : Nat) : List Nat := (List.range M).map fun (j : Nat) => maskB 16 fun v => decide (v < k) && decide (ws.getD v 0 = (j : Int) + 1)
@[simp] theorem SW_length (ws : List Int) (M k : Nat) : (SW ws M k).length = M := by simp [SW]
theorem SW_zero (ws : List Int) (M : Nat) : SW ws M 0 = List.replicate M 0 := by
  apply List.ext_getElem?
  intro i
  unfold SW
  rw [List.getElem?_map, List.getElem?_replicate]
  by_cases hi : i < M
  · rw [List.getElem?_range hi, if_pos hi, Option.map_some]
    congr 1
  · rw [List.getElem?_eq_none (by simp; omega), if_neg hi]; rfl
theorem SW_small (ws : List Int) (M k : Nat) : Small (SW ws M k) := fun m hm => by
  unfold SW at hm
  rw [List.mem_map] at hm
  obtain ⟨j, _, rfl⟩ := hm
  exact maskB_small (by omega) _
theorem SW_skip {ws : List Int} {M k : Nat} {y : Int} (h : ws[k]? = some y) (hy : y ≤ 0) : SW ws M (k + 1) = SW ws M k := by
  unfold SW
  refine List.map_congr_left fun j _ => maskB_ext fun v _ => ?_
  by_cases hv : v = k
  · subst hv
    have : ws.getD v 0 = y := by rw [List.getD_eq_getElem?_getD, h]; rfl
    have h2 : ¬ y = (j : Int) + 1 := by omega
    rw [this]; simp [h2]
  · have : decide (v < k + 1) = decide (v < k) := by
      by_cases hlt : v < k
      · simp [hlt]; omega
      · have : ¬ v < k + 1 := by omega
        simp [hlt, this]
    rw [this]
theorem SW_put {ws : List Int} {M k q : Nat} (hk : k < 16) (h : ws[k]? = some ((q : Int) + 1)) (hq : q < M) : SW ws M (k + 1) = (SW ws M k).set q ((SW ws M k).getD q 0 ||| 2 ^ k) := by
  have hg : (SW ws M k).getD q 0 = maskB 16 (fun v => decide (v < k) && decide (ws.getD v 0 = (q : Int) + 1)) := by
    rw [List.getD_eq_getElem?_getD]
    unfold SW
    rw [List.getElem?_map, List.getElem?_range hq]
    rfl
  rw [hg]
  have hw : ws.getD k 0 = (q : Int) + 1 := by rw [List.getD_eq_getElem?_getD, h]; rfl
  apply List.ext_getElem?
  intro i
  rw [List.getElem?_set]
  by_cases hi : q = i
  · subst hi
    rw [if_pos rfl, if_pos (by simpa using hq)]
    unfold SW
    rw [List.getElem?_map, List.getElem?_range hq, Option.map_some]
    congr 1
    apply Nat.eq_of_testBit_eq
    intro b
    rw [Nat.testBit_or, testBit_maskB, testBit_maskB, Nat.testBit_two_pow]
    by_cases hb : b = k
    · subst hb
      rw [hw]; simp [hk]
    · have h1 : ¬ k = b := fun h => hb h.symm
      have : decide (b < k + 1) = decide (b < k) := by
        by_cases hlt : b < k
        · simp [hlt]; omega
        · have : ¬ b < k + 1 := by omega
          simp [hlt, this]
      rw [this]; simp [h1]
  · rw [if_neg hi]
    unfold SW
    rw [List.getElem?_map, List.getElem?_map]
    by_cases hM : i < M
    · rw [List.getElem?_range hM, Option.map_some, Option.map_some]
      congr 1
      refine maskB_ext fun v _ => ?_
      by_cases hv : v = k
      · subst hv
        have h2 : ¬ (q : Int) = i := by omega
        rw [hw]; simp [h2]
      · have : decide (v < k + 1) = decide (v < k) := by
          by_cases hlt : v < k
          · simp [hlt]; omega
          · have : ¬ v < k + 1 := by omega
            simp [hlt, this]
        rw [this]
    · rw [List.getElem?_eq_none (by simp; omega)]; rfl

/-- What WordModel gives: the sets as rows. -/
def MRes (w : World) (rows : List (List Int)) (ok : Bool) (e : Ending) (w' : World) : Prop := ∃ u vs, e = .returned (.tuple #[.agg #[u], .bool ok]) ∧ OwnG w' w.heap.size 30 2 u vs (rows.map ints) ∧ Below w.heap.size w w'
def WordP (ws : List Int) (rows : List (List Int)) (ok : Bool) : Prop := (wordB ws = false ∧ rows = [] ∧ ok = false) ∨ (wordB ws = true ∧ ∃ M : Nat, maxL ws = M ∧ M ≤ 16 ∧ rows = rowsOf (SW ws M ws.length) ∧ ok = true)
theorem maxTo_le {b : Int} : ∀ {x : Int} {l : List Int}, x ≤ b → (∀ y ∈ l, y ≤ b) → maxTo x l ≤ b
  | _, [], h, _ => h
  | x, y :: l, h, h2 => maxTo_le (x := if x < y then y else x) (l := l) (by split; (· exact h2 y (by simp)); exact h) fun z hz => h2 z (by simp [hz])
theorem maxTo_ge : ∀ {x : Int} {l : List Int}, x ≤ maxTo x l ∧ ∀ y ∈ l, y ≤ maxTo x l
  | _, [] => ⟨Int.le_refl _, fun y h => by simp at h⟩
  | x, y :: l => by
    have ih := maxTo_ge (x := if x < y then y else x) (l := l)
    have e : maxTo x (y :: l) = maxTo (if x < y then y else x) l := rfl
    rw [e]
    refine ⟨?_, fun z hz => ?_⟩
    · have := ih.1; split at this <;> omega
    · rcases List.mem_cons.1 hz with rfl | hz
      · have := ih.1; split at this <;> omega
      · exact ih.2 z hz
theorem maxL_bound {ws : List Int} (h : wordB ws = true) : ∃ M : Nat, maxL ws = M ∧ M ≤ 16 ∧ ∀ y ∈ ws, 0 ≤ y ∧ y ≤ M := by
  unfold wordB at h
  rw [Bool.and_eq_true, decide_eq_true_eq, Bool.not_eq_true', List.any_eq_false] at h
  have hb : ∀ y ∈ ws, 0 ≤ y ∧ y ≤ 16 := fun y hy => by have := h.2 y hy; unfold badW at this; simpa using this
  cases ws with
  | nil => simp at h
  | cons x l =>
    have h1 := maxTo_le (b := 16) (x := x) (l := l) (hb x (by simp)).2 fun y hy => (hb y (List.mem_cons_of_mem _ hy)).2
    have h2 := maxTo_ge (x := x) (l := l)
    have h0 := (hb x (by simp)).1
    refine ⟨(maxL (x :: l)).toNat, ?_, ?_, fun y hy => ⟨(hb y hy).1, ?_⟩⟩
    · show maxTo x l = ((maxTo x l).toNat : Int); omega
    · show (maxTo x l).toNat ≤ 16; omega
    · show y ≤ ((maxTo x l).toNat : Int)
      rcases List.mem_cons.1 hy with rfl | hy
      · omega
      · have := h2.2 y hy; omega

end Go.Proofs.YtbhobmngnjfgfaaDoor
