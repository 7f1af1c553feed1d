/-
  'l1There', 'l2Pair', 'EdgeIn' of the reference; 'isVertex', 'isPair', 'EdgeIn' of the program.
-/
import Derived.Test.YtbhobmngnjfgfaaDoorComplement
namespace Go.Proofs.YtbhobmngnjfgfaaDoor
open Go.RowKit

/-- A vertex of n. -/
def inN (n : Nat) (v : Int) : Bool := decide (0 ≤ v ∧ v < (n : Int))
theorem inN_iff {n : Nat} {v : Int} : inN n v = true ↔ 0 ≤ v ∧ v < (n : Int) := by unfold inN; simp
theorem inN_nat {n : Nat} {v : Int} (h : inN n v = true) : ∃ k : Nat, v = k ∧ k < n := by
  have := inN_iff.1 h
  exact ⟨v.toNat, by omega, by omega⟩
def vertexB (xss : List (List Int)) (v : Int) : Bool := okB xss && inN xss.length v
def edgeB (xss : List (List Int)) (u v : Int) : Bool := okB xss && inN xss.length u && (xss.getD u.toNat []).contains v

theorem ok_size {xss : List (List Int)} (h : okB xss = true) : 1 ≤ xss.length ∧ xss.length ≤ 16 := by
  have : OkP xss := by unfold okB at h; simpa using h
  exact this.1

theorem there_any (v : Value) (xss : List (List Int)) (x : Int) (hn : xss.length ≤ 1000) (w : World) (hr : RdSS v xss w) :
    Calls Tryd.prog 132 #[.agg #[v], .int .i64 x] w fun e w' => e = .returned (.bool (inN xss.length x)) ∧ Below w.heap.size w w' := by
  obtain ⟨a, c, rfl⟩ := hr.shape
  obtain ⟨B, hB⟩ : ∃ B, w.heap.size = B := ⟨_, rfl⟩
  have hb0 : Below B w (w.alloc (.cells #[.slice a xss.length c] 56)) := by subst hB; exact below_alloc' _ _
  have hV0 : VC 56 B #[.slice a xss.length c] (w.alloc (.cells #[.slice a xss.length c] 56)) := VC.new hB
  have hsz : (w.alloc (.cells #[.slice a xss.length c] 56)).heap.size = B + 1 := by simp [hB]
  have hc0 := hV0.cell
  have hI := Lib.hid (l1In_is x 0 ((xss.length : Int) - 1) (inN xss.length x) (by unfold inN; rw [Bool.eq_iff_iff]; simp; omega))
  go_enter Tryd.func132, Tryd.ntmps132
  go_wp2_with fail
  generalize w.alloc (.cells #[.slice a xss.length c] 56) = W at *
  refine (size_any a xss.length c W).mono ?_
  rintro e w1 ⟨rfl, hb1⟩
  have hb01 := hb0.trans (hb1.mono (by omega))
  clear hb1
  go_wp2_with fail
  refine (hI.out w1).mono ?_
  rintro e w2 ⟨rfl, rfl⟩
  go_wp2_with fail
  go_ret
  exact ⟨rfl, by rw [hB]; exact hb01⟩

set_option maxHeartbeats 1000000 in
theorem isVertex_any (v : Value) (xss : List (List Int)) (x : Int) (w : World) (hr : RdSS v xss w) :
    Calls Tryd.prog 137 #[.agg #[v], .int .i64 x] w fun e w' => e = .returned (.bool (vertexB xss x)) ∧ Below w.heap.size w w' := by
  obtain ⟨a, c, rfl⟩ := hr.shape
  obtain ⟨B, hB⟩ : ∃ B, w.heap.size = B := ⟨_, rfl⟩
  have hb0 : Below B w (w.alloc (.cells #[.slice a xss.length c] 56)) := by subst hB; exact below_alloc' _ _
  have hV0 : VC 56 B #[.slice a xss.length c] (w.alloc (.cells #[.slice a xss.length c] 56)) := VC.new hB
  have hsz : (w.alloc (.cells #[.slice a xss.length c] 56)).heap.size = B + 1 := by simp [hB]
  have hc0 := hV0.cell
  have hI := Lib.hid (inRange_is x 0 ((xss.length : Int) - 1) (inN xss.length x) (by unfold inN; rw [Bool.eq_iff_iff]; simp; omega))
  go_enter Tryd.func137, Tryd.ntmps137
  go_wp2_with fail
  generalize w.alloc (.cells #[.slice a xss.length c] 56) = W at *
  refine (implOk _ xss W (hr.below hb0 hB)).mono ?_
  rintro e w1 ⟨rfl, hb1⟩
  have hV1 := hV0.upd (Upd.of_below hb1) (by omega)
  have hb01 := hb0.trans (hb1.mono (by omega))
  clear hb1 hc0 hV0
  have hc1 := hV1.cell
  cases hok : okB xss with
  | false =>
    go_wp2_with fail
    go_ret
    exact ⟨ret_bool (by simp [vertexB, hok]), by rw [hB]; exact hb01⟩
  | true =>
    have hn := ok_size hok
    go_wp2_with fail
    refine (hI.out w1).mono ?_
    rintro e w2 ⟨rfl, rfl⟩
    go_wp2_with fail
    go_ret
    exact ⟨ret_bool (by simp [vertexB, hok]), by rw [hB]; exact hb01⟩

set_option maxHeartbeats 1000000 in
theorem isPair_any (v : Value) (xss : List (List Int)) (x y : Int) (w : World) (hr : RdSS v xss w) :
    Calls Tryd.prog 127 #[.agg #[v], .int .i64 x, .int .i64 y] w fun e w' => e = .returned (.bool (vertexB xss x && vertexB xss y)) ∧ Below w.heap.size w w' := by
  obtain ⟨a, c, rfl⟩ := hr.shape
  obtain ⟨B, hB⟩ : ∃ B, w.heap.size = B := ⟨_, rfl⟩
  have hb0 : Below B w (w.alloc (.cells #[.slice a xss.length c] 56)) := by subst hB; exact below_alloc' _ _
  have hV0 : VC 56 B #[.slice a xss.length c] (w.alloc (.cells #[.slice a xss.length c] 56)) := VC.new hB
  have hsz : (w.alloc (.cells #[.slice a xss.length c] 56)).heap.size = B + 1 := by simp [hB]
  have hc0 := hV0.cell
  go_enter Tryd.func127, Tryd.ntmps127
  go_wp2_with fail
  generalize w.alloc (.cells #[.slice a xss.length c] 56) = W at *
  refine (isVertex_any _ xss x W (hr.below hb0 hB)).mono ?_
  rintro e w1 ⟨rfl, hb1⟩
  have hV1 := hV0.upd (Upd.of_below hb1) (by omega)
  have hb01 := hb0.trans (hb1.mono (by omega))
  clear hb1 hc0 hV0
  have hc1 := hV1.cell
  cases hvx : vertexB xss x with
  | false =>
    go_wp2_with fail
    go_ret
    exact ⟨ret_bool (by simp [hvx]), by rw [hB]; exact hb01⟩
  | true =>
    go_wp2_with fail
    refine (isVertex_any _ xss y w1 (hr.below hb01 hB)).mono ?_
    rintro e w2 ⟨rfl, hb2⟩
    have hb02 := hb01.trans (hb2.mono (by have := hV1.lt; omega))
    clear hb2
    go_wp2_with fail
    go_ret
    exact ⟨ret_bool (by simp [hvx]), by rw [hB]; exact hb02⟩

set_option maxHeartbeats 1000000 in
theorem implEdgeIn (v : Value) (xss : List (List Int)) (x y : Int) (w : World) (hr : RdSS v xss w) :
    Calls Tryd.prog 128 #[.agg #[v], .int .i64 x, .int .i64 y] w fun e w' => e = .returned (.bool (edgeB xss x y)) ∧ Below w.heap.size w w' := by
  obtain ⟨vs, hG⟩ := hr.ex
  have e1 : vs.length = xss.length := by simpa using hG.len
  obtain ⟨a, c, rfl, -, -, -⟩ := id hG.outer
  rw [e1] at hG hr ⊢
  clear e1
  obtain ⟨B, hB⟩ : ∃ B, w.heap.size = B := ⟨_, rfl⟩
  have hb0 : Below B w (w.alloc (.cells #[.slice a xss.length c] 56)) := by subst hB; exact below_alloc' _ _
  have hV0 : VC 56 B #[.slice a xss.length c] (w.alloc (.cells #[.slice a xss.length c] 56)) := VC.new hB
  have hsz : (w.alloc (.cells #[.slice a xss.length c] 56)).heap.size = B + 1 := by simp [hB]
  have hc0 := hV0.cell
  go_enter Tryd.func128, Tryd.ntmps128
  go_wp2_with fail
  generalize w.alloc (.cells #[.slice a xss.length c] 56) = W at *
  refine (isVertex_any _ xss x W (hr.below hb0 hB)).mono ?_
  rintro e w1 ⟨rfl, hb1⟩
  have hV1 := hV0.upd (Upd.of_below hb1) (by omega)
  have hb01 := hb0.trans (hb1.mono (by omega))
  clear hb1 hc0 hV0
  have hc1 := hV1.cell
  cases hvx : vertexB xss x with
  | false =>
    go_wp2_with fail
    go_ret
    exact ⟨ret_bool (by unfold vertexB at hvx; simp [edgeB, hvx]), by rw [hB]; exact hb01⟩
  | true =>
    have hv2 := hvx
    unfold vertexB at hv2
    rw [Bool.and_eq_true] at hv2
    obtain ⟨k, rfl, hk⟩ := inN_nat hv2.2
    have hn := ok_size hv2.1
    obtain ⟨rb, ro, r, xs, rfl, hc, hx, -, HX⟩ := (hG.below (hB.symm ▸ hb01)).intsAt hk
    have hC := Lib.hid (contI_is r xs y (edgeB xss (k : Int) y) (by unfold edgeB; rw [hv2.1, hv2.2]; simp [List.getD, HX.out]) w1 hx)
    clear hx hv2 hvx
    go_wp2_with fail
    refine hC.out.mono ?_
    rintro e w2 ⟨rfl, rfl⟩
    go_wp2_with fail
    go_ret
    exact ⟨rfl, by rw [hB]; exact hb01⟩

end Go.Proofs.YtbhobmngnjfgfaaDoor
