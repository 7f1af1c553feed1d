/-
  'l1There', 'l2Pair', 'EdgeIn' of the reference; 'isVertex', 'isPair', 'EdgeIn' of the program.
-/
import Derived.Test.YtcjbobponlpkaaaDoorComplement
namespace Go.Proofs.YtcjbobponlpkaaaDoor
open Go.RowKit

/-- A vertex of n. -/
def inN (n : Nat) (v : Int) : Bool := decide (0 ≤ v ∧ v < (n : Int))
theorem inN_iff {n : Nat} {v : Int} : inN n v = true ↔ 0 ≤ v ∧ v < (n : Int) := by unfold inN; simp
theorem inN_nat {n : Nat} {v : Int} (h : inN n v = true) : ∃ k : Nat, v = k ∧ k < n := by
  have := inN_iff.1 h
  exact ⟨v.toNat, by omega, by omega⟩
def vertexB (xss : List (List Int)) (v : Int) : Bool := okB xss && inN xss.length v
def edgeB (xss : List (List Int)) (u v : Int) : Bool := okB xss && inN xss.length u && (xss.getD u.toNat []).contains v

theorem ok_size {xss : List (List Int)} (h : okB xss = true) : 1 ≤ xss.length ∧ xss.length ≤ 16 := by
  have : OkP xss := by unfold okB at h; simpa using h
  exact this.1

theorem there_any (v : Value) (xss : List (List Int)) (x : Int) (hn : xss.length ≤ 1000) (w : World) (hr : RdSS v xss w) :
    Calls Tryd.prog 60 #[.agg #[v], .int .i64 x] w fun e w' => e = .returned (.bool (inN xss.length x)) ∧ Below w.heap.size w w' := by
  obtain ⟨a, c, rfl⟩ := hr.shape
  obtain ⟨B, hB⟩ : ∃ B, w.heap.size = B := ⟨_, rfl⟩
  have hb0 : Below B w (w.alloc (.cells #[.slice a xss.length c] 28)) := by subst hB; exact below_alloc' _ _
  have hV0 : VC 28 B #[.slice a xss.length c] (w.alloc (.cells #[.slice a xss.length c] 28)) := VC.new hB
  have hsz : (w.alloc (.cells #[.slice a xss.length c] 28)).heap.size = B + 1 := by simp [hB]
  have hc0 := hV0.cell
  have hI := Lib.hid (l1In_is x 0 ((xss.length : Int) - 1) (inN xss.length x) (by unfold inN; rw [Bool.eq_iff_iff]; simp; omega))
  go_enter Tryd.func60, Tryd.ntmps60
  go_wp2_with fail
  generalize w.alloc (.cells #[.slice a xss.length c] 28) = W at *
  refine (size_any a xss.length c W).mono ?_
  rintro e w1 ⟨rfl, hb1⟩
  have hb01 := hb0.trans (hb1.mono (by omega))
  clear hb1
  go_wp2_with fail
  refine (hI.out w1).mono ?_
  rintro e w2 ⟨rfl, rfl⟩
  go_wp2_with fail
  go_ret
  exact ⟨rfl, by rw [hB]; exact hb01⟩

set_option maxHeartbeats 1000000 in
theorem isVertex_any (v : Value) (xss : List (List Int)) (x : Int) (w : World) (hr : RdSS v xss w) :
    Calls Tryd.prog 64 #[.agg #[v], .int .i64 x] w fun e w' => e = .returned (.bool (vertexB xss x)) ∧ Below w.heap.size w w' := by
  obtain ⟨a, c, rfl⟩ := hr.shape
  obtain ⟨B, hB⟩ : ∃ B, w.heap.size = B := ⟨_, rfl⟩
  have hb0 : Below B w (w.alloc (.cells #[.slice a xss.length c] 28)) := by subst hB; exact below_alloc' _ _
  have hV0 : VC 28 B #[.slice a xss.length c] (w.alloc (.cells #[.slice a xss.length c] 28)) := VC.new hB
  have hsz : (w.alloc (.cells #[.slice a xss.length c] 28)).heap.size = B + 1 := by simp [hB]
  have hc0 := hV0.cell
  have hI := Lib.hid (inRange_is x 0 ((xss.length : Int) - 1) (inN xss.length x) (by unfold inN; rw [Bool.eq_iff_iff]; simp; omega))
  go_enter Tryd.func64, Tryd.ntmps64
  go_wp2_with fail
  generalize w.alloc (.cells #[.slice a xss.length c] 28) = W at *
  refine (implOk _ xss W (hr.below hb0 hB)).mono ?_
  rintro e w1 ⟨rfl, hb1⟩
  have hV1 := hV0.upd (Upd.of_below hb1) (by omega)
  have hb01 := hb0.trans (hb1.mono (by omega))
  clear hb1 hc0 hV0
  have hc1 := hV1.cell
  cases hok : okB xss with
  | false =>
    go_wp2_with fail
    go_ret
    exact ⟨ret_bool (by simp [vertexB, hok]), by rw [hB]; exact hb01⟩
  | true =>
    have hn := ok_size hok
    go_wp2_with fail
    refine (hI.out w1).mono ?_
    rintro e w2 ⟨rfl, rfl⟩
    go_wp2_with fail
    go_ret
    exact ⟨ret_bool (by simp [vertexB, hok]), by rw [hB]; exact hb01⟩

set_option maxHeartbeats 1000000 in
theorem isPair_any (v : Value) (xss : List (List Int)) (x y : Int) (w : World) (hr : RdSS v xss w) :
    Calls Tryd.prog 80 #[.agg #[v], .int .i64 x, .int .i64 y] w fun e w' => e = .returned (.bool (vertexB xss x && vertexB xss y)) ∧ Below w.heap.size w w' := by
  obtain ⟨a, c, rfl⟩ := hr.shape
  obtain ⟨B, hB⟩ : ∃ B, w.heap.size = B := ⟨_, rfl⟩
  have hb0 : Below B w (w.alloc (.cells #[.slice a xss.length c] 28)) := by subst hB; exact below_alloc' _ _
  have hV0 : VC 28 B #[.slice a xss.length c] (w.alloc (.cells #[.slice a xss.length c] 28)) := VC.new hB
  have hsz : (w.alloc (.cells #[.slice a xss.length c] 28)).heap.size = B + 1 := by simp [hB]
  have hc0 := hV0.cell
  go_enter Tryd.func80, Tryd.ntmps80
  go_wp2_with fail
  generalize w.alloc (.cells #[.slice a xss.length c] 28) = W at *
  refine (isVertex_any _ xss x W (hr.below hb0 hB)).mono ?_
  rintro e w1 ⟨rfl, hb1⟩
  have hV1 := hV0.upd (Upd.of_below hb1) (by omega)
  have hb01 := hb0.trans (hb1.mono (by omega))
  clear hb1 hc0 hV0
  have hc1 := hV1.cell
  cases hvx : vertexB xss x with
  | false =>
    go_wp2_with fail
    go_ret
    exact ⟨ret_bool (by simp [hvx]), by rw [hB]; exact hb01⟩
  | true =>
    go_wp2_with fail
    refine (isVertex_any _ xss y w1 (hr.below hb01 hB)).mono ?_
    rintro e w2 ⟨rfl, hb2⟩
    have hb02 := hb01.trans (hb2.mono (by have := hV1.lt; omega))
    clear hb2
    go_wp2_with fail
    go_ret
    exact ⟨ret_bool (by simp [hvx]), by rw [hB]; exact hb02⟩

end Go.Proofs.YtcjbobponlpkaaaDoor
