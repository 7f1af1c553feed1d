/-
  The program's sets of neighbours: 'maskOf', 'netsOf', 'all', 'complement', 'SetOk'; the reference's 'l1Edge', 'SetOk', 'l1CopyGraph', 'l2Other', 'l1All'.
-/
import Derived.Test.YtbhobmngnjfgfaaDoorGraphOk
import Derived.Test.YtbhobmngnjfgfaaDoorStep
namespace Go.Proofs.YtbhobmngnjfgfaaDoor
open Go.RowKit

/-! ### The reference -/
theorem edge_any (v : Value) (xss : List (List Int)) (u : Nat) (x : Int) (hu : u < xss.length) (w : World) (hr : RdSS v xss w) :
    Calls Tryd.prog 133 #[.agg #[v], .int .i64 u, .int .i64 x] w fun e w' => e = .returned (.bool ((xss.getD u []).contains x)) ∧ Below w.heap.size w w' := by
  obtain ⟨vs, hG⟩ := hr.ex
  have hl := hG.outer.len
  unfold maxLen at hl
  have e1 : vs.length = xss.length := by simpa using hG.len
  obtain ⟨a, c, rfl, -, -, -⟩ := id hG.outer
  rw [e1] at hG hl ⊢
  clear e1 hr
  obtain ⟨B, hB⟩ : ∃ B, w.heap.size = B := ⟨_, rfl⟩
  have hb0 : Below B w (w.alloc (.cells #[.slice a xss.length c] 56)) := by subst hB; exact below_alloc' _ _
  have hGr := hG.below (hB.symm ▸ hb0)
  obtain ⟨b, o, r, xs, rfl, hc, hx, -, HX⟩ := hGr.intsAt hu
  have HE : Hid ((xss.getD u []).contains x = xs.contains x) := Lib.hid (by rw [show xss.getD u [] = xs by simp [List.getD, HX.out]])
  go_enter Tryd.func133, Tryd.ntmps133
  go_wp2_with fail
  refine (has_any r xs x _ hx).mono ?_
  rintro e w' ⟨rfl, rfl⟩
  go_wp2_with fail
  go_ret
  exact ⟨ret_bool (by have h := HE.out; simpa using h.symm), by rw [hB]; exact hb0⟩

/-- Of a graph that is given by a yes-no function. -/
theorem edge_adj (v : Value) (n : Nat) (f : Nat → Nat → Bool) (u x : Nat) (hu : u < n) (hx : x < n) (w : World) (hr : RdSS v (rowsB n f) w) (U X : Int) (hU : U = u) (hX : X = x) (b : Bool) (hb : f u x = b) :
    Calls Tryd.prog 133 #[.agg #[v], .int .i64 U, .int .i64 X] w fun e w' => e = .returned (.bool b) ∧ Below w.heap.size w w' := by
  subst hU; subst hX; subst hb
  refine (edge_any v (rowsB n f) u x (by simpa using hu) w hr).mono ?_
  rintro e w' ⟨rfl, hb⟩
  exact ⟨ret_bool (by rw [rowsB_getD f hu, contains_rowB]; simp [hx]), hb⟩

theorem size_rd (v : Value) (xss : List (List Int)) (w : World) (hr : RdSS v xss w) :
    Calls Tryd.prog 99 #[.agg #[v]] w fun e w' => e = .returned (.int .i64 xss.length) ∧ Below w.heap.size w w' := by
  obtain ⟨a, c, rfl⟩ := hr.shape
  exact size_any a xss.length c w

set_option maxHeartbeats 1000000 in
theorem specSetOk (v : Value) (xss : List (List Int)) (v2 : Value) (xs : List Int) (w : World) (hr : RdSS v xss w) (hs : RdS v2 xs w) :
    Calls Tryd.prog 114 #[.agg #[v], v2] w fun e w' => e = .returned (.bool (okB xss && decide (SetP xss.length xs))) ∧ Below w.heap.size w w' := by
  obtain ⟨a, c, rfl⟩ := hr.shape
  obtain ⟨a2, c2, rfl, -, -, -⟩ := id hs
  have hln : xss.length ≤ 9223372036854775807 := by
    obtain ⟨vs, hG⟩ := hr.ex
    have := hG.outer.len; have := hG.len; unfold maxLen at *; simp at *; omega
  obtain ⟨B, hB⟩ : ∃ B, w.heap.size = B := ⟨_, rfl⟩
  have hb0 : Below B w (w.alloc (.cells #[.slice a xss.length c] 56)) := by subst hB; exact below_alloc' _ _
  have hV0 : VC 56 B #[.slice a xss.length c] (w.alloc (.cells #[.slice a xss.length c] 56)) := VC.new hB
  have hsz : (w.alloc (.cells #[.slice a xss.length c] 56)).heap.size = B + 1 := by simp [hB]
  have hc0 := hV0.cell
  go_enter Tryd.func114, Tryd.ntmps114
  go_wp2_with fail
  generalize w.alloc (.cells #[.slice a xss.length c] 56) = W at *
  refine (specOk _ xss W (hr.below hb0 hB)).mono ?_
  rintro e w1 ⟨rfl, hb1⟩
  have hV1 := hV0.upd (Upd.of_below hb1) (by omega)
  have hb01 := hb0.trans (hb1.mono (by omega))
  clear hc0 hV0 hb0 hb1
  have hc1 := hV1.cell
  cases hok : okB xss with
  | false =>
    go_wp2_with fail
    go_ret
    exact ⟨ret_bool (by simp [hok]), by rw [hB]; exact hb01⟩
  | true =>
    have hn : xss.length ≤ 16 := by
      have : OkP xss := by unfold okB at hok; simpa using hok
      exact this.1.2
    go_wp2_with fail
    refine (size_any a xss.length c w1).mono ?_
    rintro e w2 ⟨rfl, hb2⟩
    have hb02 := hb01.trans (hb2.mono (by have := hV1.lt; omega))
    clear hc1 hV1 hb01 hb2
    go_wp2_with fail
    refine (set_any _ xs xss.length (by omega) w2 (RdS.below hs hb02 hB)).mono ?_
    rintro e w3 ⟨rfl, hb3⟩
    have hb03 := hb02.trans (hb3.mono (by have := hb02.size; omega))
    clear hb02 hb3
    go_wp2_with fail
    go_ret
    exact ⟨ret_bool (by simp [hok]), by rw [hB]; exact hb03⟩

/-- Nothing in what is owned but the outer row. -/
theorem rowB_all (n : Nat) : rowB n (fun _ => true) = (List.range n).map fun (i : Nat) => (i : Int) := by
  unfold rowB
  rw [List.filter_eq_self.2 (by simp)]

end Go.Proofs.YtbhobmngnjfgfaaDoor
