/-
  The law's helpers over arguments: szInt64S, szInt64SS (how much), toInt64S, toInt64SS (copies).
-/
import Derived.Test.YtbhobmngnjfgfaaLawsB
namespace Go.Proofs.Ytbhobmngnjfgfaa
open Go.RowKit

theorem szS_any (v : Value) (xs : List Int) (L : Int) (hL : L ≤ 1048576) (hL0 : 0 ≤ L) (w : World) (hr : Row w 1 v xs.length (ints xs)) :
    Calls Try.prog 48 #[v, .int .i64 L] w fun e w' => ∃ r, e = .returned (.int .i64 r) ∧ ((r = -1 ∧ L < xs.length) ∨ (r = L - xs.length ∧ 0 ≤ r)) ∧ w = w' := by
  have hl := hr.len
  unfold maxLen at hl
  obtain ⟨a, c, rfl, -, -, -⟩ := id hr
  by_cases h : L - xs.length < 0
  · go_enter Try.func48, Try.ntmps48
    go_wp2_with fail
    go_ret
    exact ⟨-1, rfl, .inl ⟨rfl, by omega⟩, rfl⟩
  · go_enter Try.func48, Try.ntmps48
    go_wp2_with fail
    go_ret
    exact ⟨_, rfl, .inr ⟨rfl, by omega⟩, rfl⟩

theorem set_fill (xs : List Int) (k : Nat) (x : Int) (hx : xs[k]? = some x) :
    (ints (xs.take k) ++ List.replicate (xs.length - k) (Value.int .i64 0)).set k (.int .i64 x) = ints (xs.take (k + 1)) ++ List.replicate (xs.length - (k + 1)) (Value.int .i64 0) := by
  obtain ⟨hk, rfl⟩ := List.getElem?_eq_some_iff.1 hx
  have hl : (ints (xs.take k)).length = k := by simp; omega
  rw [List.set_append_right _ _ (by omega), hl, Nat.sub_self, show xs.length - k = (xs.length - (k + 1)) + 1 by omega, List.replicate_succ, List.set_cons_zero, take_snoc hx, ints_snoc]
  simp

set_option maxHeartbeats 1000000 in
theorem toS_any (v : Value) (xs : List Int) (hn : xs.length ≤ 1048576) (w : World) (hr : Row w 1 v xs.length (ints xs)) :
    Calls Try.prog 49 #[v] w fun e w' => ∃ c, e = .returned (.slice (some ⟨w.heap.size, 0, none⟩) xs.length c) ∧ w'.ownsRow w.heap.size 2 1 (.slice (some ⟨w.heap.size, 0, none⟩) xs.length c) xs.length (ints xs) ∧ Below w.heap.size w w' := by
  obtain ⟨a, c, rfl, -, -, -⟩ := id hr
  obtain ⟨B, hB⟩ : ∃ B, w.heap.size = B := ⟨_, rfl⟩
  go_enter Try.func49, Try.ntmps49
  go_wp2_with (at_make; refine wpList_make _ rfl _ _ 24 rfl w.heap.size 2 (.int .i64 0) 8 Try.underlying24 infoI rfl .i64 .i64 _ _ xs.length rfl rfl (by omega) (by omega) (by omega) (by unfold maxLen; omega) (by simp) ?_; intro w1 ho1 hb1)
  go_loopw [4] (fun i wr => ∃ k : Nat, k ≤ xs.length ∧ i = .int .i64 k ∧ wr.ownsRow B 2 1 (.slice (some ⟨B, 0, none⟩) xs.length xs.length) xs.length (ints (xs.take k) ++ List.replicate (xs.length - k) (.int .i64 0)) ∧ Below B w wr) (fun i _ => xs.length - (intOf i).toNat)
  case atStart => exact ⟨0, Nat.zero_le _, rfl, by subst hB; simpa [ints] using ho1, by subst hB; exact hb1⟩
  case round =>
    obtain ⟨k, hk, rfl, ho, hb⟩ := hrel
    by_cases hlt : k < xs.length
    · obtain ⟨b, o, x, rfl, hc, HX⟩ := (hr.below (hB.symm ▸ hb)).intAt hlt
      have hf := ho.frozenAt k
      have hx : wr.cell? ⟨B, k, none⟩ = some (.int .i64 0) := by
        rw [ho.cellAt k (by omega), List.getElem?_append_right (by simp; omega)]
        rw [show k - (ints (xs.take k)).length = 0 by simp; omega, show xs.length - k = (xs.length - k - 1) + 1 by omega, List.replicate_succ]
        rfl
      have hst := ho.stored k (.int .i64 x)
      rw [set_fill xs k x HX.out] at hst
      obtain ⟨ho2, hg2⟩ := hst
      have hb2 := hb.trans (below_of_grown hg2 (by have := hb.size; omega) (fun b hb' => by simp at hb'; omega))
      clear hb ho
      go_wp2_with fail
      go_roundw
      case rel => exact ⟨k + 1, by omega, by go_num, ho2, hb2⟩
      case measure => simp [intOf]; omega
    · obtain rfl : k = xs.length := by omega
      go_wp2_with fail
      go_ret
      subst hB
      exact ⟨xs.length, rfl, by simpa using ho, hb⟩

theorem total_snoc (xss : List (List Int)) (xs : List Int) : total (xss ++ [xs]) = total xss + xs.length := by
  simp only [total, List.map_append, List.sum_append, List.map_cons, List.map_nil, List.sum_cons, List.sum_nil]
  omega

/-- 'make([][]T, n)': n rows of nothing. -/
theorem OwnG.zeros {w : World} {base : Nat} {e1 e2 : TypeId} (he : e1 ≠ e2) {v : Value} {n : Nat} (h : w.ownsRow base e1 1 v n (List.replicate n (.slice none 0 0))) :
    OwnG w base e1 e2 v (List.replicate n (.slice none 0 0)) (List.replicate n []) := by
  refine ⟨by simp, by simpa using h, fun i u cs h1 h2 => ?_, ?_, he⟩
  · have hu := List.eq_of_mem_replicate (List.mem_of_getElem? h1)
    have hc := List.eq_of_mem_replicate (List.mem_of_getElem? h2)
    subst hu; subst hc
    exact World.ownsRow_nil _ _ _ _
  · rw [List.pairwise_replicate]
    right
    intro k hk
    simp [Value.ownBlock] at hk

/-- Rows, the first k of them written. -/
def rowsUp (xss : List (List Int)) (k : Nat) : List (List Int) := xss.take k ++ List.replicate (xss.length - k) []
@[simp] theorem rowsUp_length (xss : List (List Int)) (k : Nat) (hk : k ≤ xss.length) : (rowsUp xss k).length = xss.length := by simp [rowsUp]; omega
theorem rowsUp_set (xss : List (List Int)) (k : Nat) (xs : List Int) (hx : xss[k]? = some xs) : (rowsUp xss k).set k xs = rowsUp xss (k + 1) := by
  obtain ⟨hk, rfl⟩ := List.getElem?_eq_some_iff.1 hx
  have hl : (xss.take k).length = k := by simp; omega
  unfold rowsUp
  rw [List.set_append_right _ _ (by omega), hl, Nat.sub_self, show xss.length - k = (xss.length - (k + 1)) + 1 by omega, List.replicate_succ, List.set_cons_zero, take_snoc hx, List.append_assoc]
  rfl

end Go.Proofs.Ytbhobmngnjfgfaa
