import Derived.Test.YtbhobmngnjfgfaaDoorQuoEM
import Derived.Test.YtbhobmngnjfgfaaDoorWordTM
/-
  'ModelWord' and 'QuotientBy' of the reference.
-/


namespace Go.Proofs.YtbhobmngnjfgfaaDoor
open Go.RowKit

theorem RdSS.rowAtL {xss : List (List Int)} {w : World} {a : Option Addr} {c : Nat} (h : RdSS (.slice a xss.length c) xss w) {j : Nat} (hj : j < xss.length) :
    ∃ b o ra rc xs, a = some ⟨b, o, none⟩ ∧ w.cell? ⟨b, o + j, none⟩ = some (.slice ra xs.length rc) ∧ Row w 1 (.slice ra xs.length rc) xs.length (ints xs) ∧ Hid (xss[j]? = some xs) := by
  obtain ⟨vsr, hG⟩ := h.ex
  obtain ⟨rb, ro, r, xs, rfl, hc, hxr, -, HXX⟩ := hG.intsAt (k := j) hj
  obtain ⟨ra, rc, rfl, -, -, -⟩ := id hxr
  exact ⟨rb, ro, ra, rc, xs, rfl, hc, hxr, HXX⟩
theorem gt_get_set {ds : List Int} {n q v : Nat} {d : Int} (hl : ds.length = n) (hq : q < n) : (ds.set q d).getD v 0 = if v = q then d else ds.getD v 0 := by
  simp only [List.getD, List.getElem?_set]
  by_cases h : q = v
  · subst h; simp [hl, hq]
  · have : ¬ v = q := fun h' => h h'.symm
    simp [h, this]
theorem rise_new {n : Nat} {s : List Int} (h : SetP n s) {j : Nat} {q : Int} (hj : s[j]? = some q) : q ∉ s.take j := by
  intro hm
  obtain ⟨i, hi⟩ := List.getElem?_of_mem hm
  have hij : i < j := by have := (List.getElem?_eq_some_iff.1 hi).1; simp at this; omega
  have hi2 : s[i]? = some q := by rw [List.getElem?_take] at hi; simpa [hij] using hi
  obtain ⟨h1, e1⟩ := List.getElem?_eq_some_iff.1 hi2
  obtain ⟨h2, e2⟩ := List.getElem?_eq_some_iff.1 hj
  have := List.pairwise_iff_getElem.1 h.2 i j h1 h2 hij
  omega

/-! ### The graph -/
def QR (m : Nat) (f : Nat → Nat → Bool) (i k : Nat) : List (List Int) := (List.range m).map fun a => rowB (if a < i then m else if a = i then k else 0) (f a)
@[simp] theorem QR_length (m : Nat) (f : Nat → Nat → Bool) (i k : Nat) : (QR m f i k).length = m := by simp [QR]
theorem QR_zero (m : Nat) (f : Nat → Nat → Bool) : QR m f 0 0 = List.replicate m [] := by
  unfold QR
  rw [List.eq_replicate_iff]
  refine ⟨by simp, fun b hb => ?_⟩
  obtain ⟨a, _, rfl⟩ := List.mem_map.1 hb
  have h1 : (if a < 0 then m else if a = 0 then 0 else 0) = 0 := by
    rw [if_neg (by omega)]
    split <;> rfl
  rw [h1]
  simp [rowB]
theorem QR_end (m : Nat) (f : Nat → Nat → Bool) : QR m f m 0 = rowsB m f := by
  unfold QR rowsB
  refine List.map_congr_left fun a ha => ?_
  rw [if_pos (List.mem_range.1 ha)]
theorem QR_next (m : Nat) (f : Nat → Nat → Bool) (i : Nat) : QR m f i m = QR m f (i + 1) 0 := by
  unfold QR
  refine List.map_congr_left fun a ha => ?_
  congr 1
  by_cases h1 : a < i
  · rw [if_pos h1, if_pos (by omega)]
  · by_cases h2 : a = i
    · rw [if_neg h1, if_pos h2, if_pos (by omega)]
    · rw [if_neg h1, if_neg h2, if_neg (by omega)]
      split <;> rfl
theorem QR_at {m i k : Nat} {f : Nat → Nat → Bool} (hi : i < m) : (QR m f i k)[i]? = some (rowB k (f i)) := by
  unfold QR
  rw [List.getElem?_map, List.getElem?_range hi]
  simp
theorem QR_skip {m i k : Nat} {f : Nat → Nat → Bool} (h : f i k = false) : QR m f i (k + 1) = QR m f i k := by
  unfold QR
  refine List.map_congr_left fun a ha => ?_
  by_cases h1 : a < i
  · rw [if_pos h1, if_pos h1]
  · by_cases h2 : a = i
    · subst h2
      rw [if_neg h1, if_pos rfl, if_neg h1, if_pos rfl, rowB_succ', h]
      simp
    · rw [if_neg h1, if_neg h2, if_neg h1, if_neg h2]
theorem QR_put {m i k : Nat} {f : Nat → Nat → Bool} (hi : i < m) (h : f i k = true) : QR m f i (k + 1) = (QR m f i k).set i (rowB k (f i) ++ [(k : Int)]) := by
  apply List.ext_getElem?
  intro a
  by_cases ha : a < m
  · by_cases hai : i = a
    · subst hai
      rw [List.getElem?_set_self (by simpa using hi), QR_at hi, rowB_succ', h]
      simp
    · rw [List.getElem?_set_ne hai]
      unfold QR
      rw [List.getElem?_map, List.getElem?_map, List.getElem?_range ha]
      simp only [Option.map_some]
      have h2 : ¬ a = i := fun e => hai e.symm
      by_cases h1 : a < i
      · rw [if_pos h1, if_pos h1]
      · rw [if_neg h1, if_neg h2, if_neg h1, if_neg h2]
  · rw [List.getElem?_eq_none (by simp; omega), List.getElem?_eq_none (by simp; omega)]
end Go.Proofs.YtbhobmngnjfgfaaDoor
