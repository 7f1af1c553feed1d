/-
  The program's sets of neighbours: 'maskOf', 'netsOf', 'all', 'complement', 'SetOk'; the reference's 'l1Edge', 'SetOk', 'l1CopyGraph', 'l2Other', 'l1All'.
-/
import Derived.Test.YtcjbobponlpkaaaDoorGraphOk
import Derived.Test.YtcjbobponlpkaaaDoorStep
namespace Go.Proofs.YtcjbobponlpkaaaDoor
open Go.RowKit

theorem size_rd (v : Value) (xss : List (List Int)) (w : World) (hr : RdSS v xss w) :
    Calls Tryd.prog 69 #[.agg #[v]] w fun e w' => e = .returned (.int .i64 xss.length) ∧ Below w.heap.size w w' := by
  obtain ⟨a, c, rfl⟩ := hr.shape
  exact size_any a xss.length c w

set_option maxHeartbeats 1000000 in
theorem specSetOk (v : Value) (xss : List (List Int)) (v2 : Value) (xs : List Int) (w : World) (hr : RdSS v xss w) (hs : RdS v2 xs w) :
    Calls Tryd.prog 52 #[.agg #[v], v2] w fun e w' => e = .returned (.bool (okB xss && decide (SetP xss.length xs))) ∧ Below w.heap.size w w' := by
  obtain ⟨a, c, rfl⟩ := hr.shape
  obtain ⟨a2, c2, rfl, -, -, -⟩ := id hs
  have hln : xss.length ≤ 9223372036854775807 := by
    obtain ⟨vs, hG⟩ := hr.ex
    have := hG.outer.len; have := hG.len; unfold maxLen at *; simp at *; omega
  obtain ⟨B, hB⟩ : ∃ B, w.heap.size = B := ⟨_, rfl⟩
  have hb0 : Below B w (w.alloc (.cells #[.slice a xss.length c] 28)) := by subst hB; exact below_alloc' _ _
  have hV0 : VC 28 B #[.slice a xss.length c] (w.alloc (.cells #[.slice a xss.length c] 28)) := VC.new hB
  have hsz : (w.alloc (.cells #[.slice a xss.length c] 28)).heap.size = B + 1 := by simp [hB]
  have hc0 := hV0.cell
  go_enter Tryd.func52, Tryd.ntmps52
  go_wp2_with fail
  generalize w.alloc (.cells #[.slice a xss.length c] 28) = W at *
  refine (specOk _ xss W (hr.below hb0 hB)).mono ?_
  rintro e w1 ⟨rfl, hb1⟩
  have hV1 := hV0.upd (Upd.of_below hb1) (by omega)
  have hb01 := hb0.trans (hb1.mono (by omega))
  clear hc0 hV0 hb0 hb1
  have hc1 := hV1.cell
  cases hok : okB xss with
  | false =>
    go_wp2_with fail
    go_ret
    exact ⟨ret_bool (by simp [hok]), by rw [hB]; exact hb01⟩
  | true =>
    have hn : xss.length ≤ 16 := by
      have : OkP xss := by unfold okB at hok; simpa using hok
      exact this.1.2
    go_wp2_with fail
    refine (size_any a xss.length c w1).mono ?_
    rintro e w2 ⟨rfl, hb2⟩
    have hb02 := hb01.trans (hb2.mono (by have := hV1.lt; omega))
    clear hc1 hV1 hb01 hb2
    go_wp2_with fail
    refine (set_any _ xs xss.length (by omega) w2 (RdS.below hs hb02 hB)).mono ?_
    rintro e w3 ⟨rfl, hb3⟩
    have hb03 := hb02.trans (hb3.mono (by have := hb02.size; omega))
    clear hb02 hb3
    go_wp2_with fail
    go_ret
    exact ⟨ret_bool (by simp [hok]), by rw [hB]; exact hb03⟩

set_option maxHeartbeats 1000000 in
theorem all_any (n : Nat) (hn : n ≤ 1000) (w : World) :
    Calls Tryd.prog 68 #[.int .i64 n] w (SRes w ((List.range n).map fun (i : Nat) => (i : Int))) := by
  obtain ⟨B, hB⟩ : ∃ B, w.heap.size = B := ⟨_, rfl⟩
  have ho0 : (w.alloc (.cells #[] 2)).ownsRow B 2 1 (.slice (some ⟨B, 0, none⟩) 0 0) 0 [] := by subst hB; exact World.ownsRow_lit w #[] 0 (Nat.le_refl _) (by simp [maxLen]) rfl
  have hb0 : Below B w (w.alloc (.cells #[] 2)) := by subst hB; exact (Below.refl _ _).alloc (Nat.le_refl _) _
  go_enter Tryd.func68, Tryd.ntmps68
  go_wp2_with fail
  go_loopw [3, 4] (fun u i wr => ∃ j : Nat, j ≤ n ∧ i = .int .i64 j ∧ wr.ownsRow B 2 1 u j (ints ((List.range j).map fun (i : Nat) => (i : Int))) ∧ Below B w wr) (fun _ i _ => n - (intOf i).toNat)
  case atStart => exact ⟨0, Nat.zero_le _, rfl, by simpa [ints] using ho0, hb0⟩
  case round =>
    obtain ⟨j, hj, rfl, ho, hb⟩ := hrel
    have hsz := hb.size
    by_cases hlt : j < n
    · go_wp2_with (at_builtin; refine wpList_push _ rfl _ _ 25 rfl B 2 _ _ 8 Tryd.underlying25 infoI rfl _ _ _ rfl ho _ rfl rfl (by unfold maxLen; omega) (by omega) (by omega) ?_; intro g' c' w2 ho2 hg)
      go_roundw
      case rel => exact ⟨j + 1, by omega, by go_num, by rw [List.range_succ, List.map_append]; simpa [ints] using ho2, hb.grown hg (by omega) fun b hb' => (owns_lt ho hb').1⟩
      case measure => simp [intOf]; omega
    · obtain rfl : j = n := by omega
      go_wp2_with fail
      go_ret
      exact ⟨_, rfl, by rw [hB]; simpa using ho, by rw [hB]; exact hb⟩

/-- Nothing in what is owned but the outer row. -/
theorem rowB_all (n : Nat) : rowB n (fun _ => true) = (List.range n).map fun (i : Nat) => (i : Int) := by
  unfold rowB
  rw [List.filter_eq_self.2 (by simp)]

end Go.Proofs.YtcjbobponlpkaaaDoor
