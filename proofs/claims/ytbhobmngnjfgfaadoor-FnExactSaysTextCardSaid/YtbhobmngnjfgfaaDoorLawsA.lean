/-
  The laws' helpers for slices of numbers: 'eqInt64S', 'markInt64S', 'heldInt64S', and those for slices of these.
-/
import Derived.Test.YtbhobmngnjfgfaaDoorNets
namespace Go.Proofs.YtbhobmngnjfgfaaDoor
open Go.RowKit

set_option maxHeartbeats 400000 in
theorem eqS_any (v1 v2 : Value) (xs ys : List Int) (w : World) (h1 : Row w 1 v1 xs.length (ints xs)) (h2 : Row w 1 v2 ys.length (ints ys)) :
    Calls Tryd.prog 19 #[v1, v2] w fun e w' => e = .returned (.bool (decide (xs = ys))) ∧ Below w.heap.size w w' := by
  have hl := h1.len
  have hl2 := h2.len
  unfold maxLen at hl hl2
  obtain ⟨a1, c1, rfl, -, -, -⟩ := id h1
  obtain ⟨a2, c2, rfl, -, -, -⟩ := id h2
  by_cases hlen : xs.length = ys.length
  · have hb : ((xs.length : Int) != ys.length) = false := by simp [hlen]
    have HL := Lib.hid hlen
    clear hlen
    go_enter Tryd.func19, Tryd.ntmps19
    go_wp2_with fail
    go_loopw [5] (fun i wr => ∃ k : Nat, k ≤ xs.length ∧ i = .int .i64 k ∧ xs.take k = ys.take k ∧ Below w.heap.size w wr) (fun i _ => xs.length - (intOf i).toNat)
    case atStart => exact ⟨0, Nat.zero_le _, rfl, rfl, Below.refl _ _⟩
    case round =>
      obtain ⟨k, hk, rfl, heq, hbel⟩ := hrel
      have HE := Lib.hid heq
      clear heq
      by_cases hlt : k < xs.length
      · have hlt2 : k < ys.length := by have := HL.out; omega
        obtain ⟨b, o, x, rfl, hc, HX⟩ := (h1.below hbel).intAt hlt
        obtain ⟨b', o', y, rfl, hc', HY⟩ := (h2.below hbel).intAt hlt2
        by_cases hxy : x = y
        · have hn : (x != y) = false := by simp [hxy]
          have HXY := Lib.hid hxy
          clear hxy
          go_wp2_with fail
          refine wp_region_ord [0, 1, 2, 4, 5, 6] [3, 7, 8] [] [] (by kernel_rfl) (by kernel_rfl) (fun _ _ d _ _ h => by cases d <;> exact h) ?_
          simp only [pickOps, List.filterMap_cons, List.filterMap_nil, List.getElem?_cons_succ, List.getElem?_cons_zero]
          repeat quiet_step (fail)
          simp only [wpQuiet_nil_eq, wpSegs_nil_eq]
          go_wp2_with fail
          go_roundw
          case rel => exact ⟨k + 1, by omega, by go_num, by rw [take_snoc HX.out, take_snoc HY.out, HE.out, HXY.out], hbel.drew⟩
          case measure => simp [intOf]; omega
        · have hn : (x != y) = true := by simpa using hxy
          go_wp2_with fail
          refine wp_region_ord [0, 1, 2, 4, 5, 6] [3, 7, 8] [] [] (by kernel_rfl) (by kernel_rfl) (fun _ _ d _ _ h => by cases d <;> exact h) ?_
          simp only [pickOps, List.filterMap_cons, List.filterMap_nil, List.getElem?_cons_succ, List.getElem?_cons_zero]
          repeat quiet_step (fail)
          simp only [wpQuiet_nil_eq, wpSegs_nil_eq]
          go_wp2_with fail
          go_ret
          refine ⟨ret_bool (by rw [Bool.eq_iff_iff]; simp; intro e; subst e; have h1 := HX.out; rw [HY.out] at h1; exact hxy (Option.some.inj h1).symm), hbel.drew⟩
      · go_wp2_with fail
        go_ret
        refine ⟨ret_bool (by rw [Bool.eq_iff_iff]; simp; have := HE.out; rwa [List.take_of_length_le (by omega), List.take_of_length_le (by have := HL.out; omega)] at this), hbel⟩
  · have hb : ((xs.length : Int) != ys.length) = true := by simp; omega
    go_enter Tryd.func19, Tryd.ntmps19
    go_wp2_with fail
    go_ret
    exact ⟨ret_bool (by rw [Bool.eq_iff_iff]; simp; intro e; subst e; exact hlen rfl), Below.refl _ _⟩

/-- n numbers from k on. -/
def from_ (k n : Nat) : List Int := (List.range n).map fun (i : Nat) => ((k + i : Nat) : Int)
@[simp] theorem from_length (k n : Nat) : (from_ k n).length = n := by simp [from_]
theorem from_at {k n i : Nat} (h : i < n) : (from_ k n)[i]? = some ((k + i : Nat) : Int) := by simp [from_, h]

set_option maxHeartbeats 400000 in
theorem markS_any (v : Value) (n : Nat) (cs : List Value) (base : Nat) (k : Nat) (hk : k + n ≤ 1000000000) (w : World) (ho : w.ownsRow base 2 1 v n cs) :
    Calls Tryd.prog 22 #[v, .int .i64 k] w fun e w' => e = .returned (.int .i64 ((k + n : Nat) : Int)) ∧ w'.ownsRow base 2 1 v n (ints (from_ k n)) ∧ w.grownBy w' v.ownBlock := by
  obtain ⟨a, cap, rfl⟩ := owns_shape ho
  have hcl := owns_len ho
  have HCL := Lib.hid hcl
  clear hcl
  go_enter Tryd.func22, Tryd.ntmps22
  go_wp2_with fail
  go_loopw [1, 5] (fun q i wr => ∃ j : Nat, j ≤ n ∧ i = .int .i64 j ∧ q = .int .i64 ((k : Int) + j) ∧ wr.ownsRow base 2 1 (.slice a n cap) n (ints (from_ k j) ++ cs.drop j) ∧ w.grownBy wr (Value.slice a n cap).ownBlock) (fun _ i _ => n - (intOf i).toNat)
  case atStart => exact ⟨0, Nat.zero_le _, rfl, by simp, by simpa [from_, ints] using ho, ⟨rfl, rfl, rfl, Nat.le_refl _, fun _ _ _ => rfl⟩⟩
  case round =>
    obtain ⟨j, hj, rfl, rfl, hown, hg⟩ := hrel
    by_cases hlt : j < n
    · obtain ⟨g, c2, he⟩ := owns_head hown (by omega)
      obtain ⟨rfl, rfl⟩ : a = some ⟨g, 0, none⟩ ∧ cap = c2 := by simpa using he
      have hf : wr.frozen? ⟨g, j, none⟩ = false := hown.frozenAt j
      have hc : wr.cell? ⟨g, j, none⟩ = some (cs[j]'(by have := HCL.out; omega)) := by
        rw [hown.cellAt j (by omega), List.getElem?_append_right (by simp)]
        have := HCL.out
        simp
      have hst := hown.stored j (.int .i64 ((k : Int) + j))
      have e : (ints (from_ k j) ++ cs.drop j).set j (.int .i64 ((k : Int) + j)) = ints (from_ k (j + 1)) ++ cs.drop (j + 1) := by
        have hd : cs.drop j = cs[j]'(by have := HCL.out; omega) :: cs.drop (j + 1) := List.drop_eq_getElem_cons _
        rw [hd, List.set_append, if_neg (by simp), show j - (ints (from_ k j)).length = 0 by simp, List.set_cons_zero]
        simp [from_, ints, List.range_succ]
      rw [e] at hst
      clear e he
      obtain ⟨c, hcc⟩ : ∃ c, wr.cell? ⟨g, j, none⟩ = some c := ⟨_, hc⟩
      clear hc
      go_wp2_with fail
      go_roundw
      case rel => exact ⟨j + 1, by omega, by go_num, by go_num, hst.1, grown_trans hg hst.2⟩
      case measure => simp [intOf]; omega
    · go_wp2_with fail
      go_ret
      obtain rfl : j = n := by omega
      refine ⟨ret_int (by omega), ?_, hg⟩
      rw [List.drop_of_length_le (by have := HCL.out; omega), List.append_nil] at hown
      exact hown

set_option maxHeartbeats 400000 in
theorem heldS_any (v : Value) (n : Nat) (k : Nat) (hk : k + n ≤ 1000000000) (w : World) (hr : Row w 1 v n (ints (from_ k n))) :
    Calls Tryd.prog 23 #[v, .int .i64 k] w fun e w' => e = .returned (.int .i64 ((k + n : Nat) : Int)) ∧ w = w' := by
  obtain ⟨a, cap, rfl, -, -, -⟩ := id hr
  go_enter Tryd.func23, Tryd.ntmps23
  go_wp2_with fail
  go_loop [1, 5] (fun q i => ∃ j : Nat, j ≤ n ∧ i = .int .i64 j ∧ q = .int .i64 ((k : Int) + j)) (fun _ i => n - (intOf i).toNat)
  case atStart => exact ⟨0, Nat.zero_le _, rfl, by simp⟩
  case round =>
    obtain ⟨j, hj, rfl, rfl⟩ := hrel
    by_cases hlt : j < n
    · obtain ⟨b, o, x, rfl, hc, HX⟩ := hr.intAt (xs := from_ k n) (j := j) (by simpa using hlt)
      have hx : x = (k : Int) + j := by have := HX.out; rw [from_at hlt] at this; have := Option.some.inj this; omega
      subst hx
      have hne : ((k : Int) + j != (k : Int) + j) = false := by simp
      go_wp2_with fail
      go_round
      case rel => exact ⟨j + 1, by omega, by go_num, by go_num⟩
      case measure => simp [intOf]; omega
    · go_wp2_with fail
      go_ret
      exact ⟨ret_int (by omega), rfl⟩
end Go.Proofs.YtbhobmngnjfgfaaDoor
