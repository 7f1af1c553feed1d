/-
  'goodInterval', the closure of 'GraphOfIntervals', 'slices.ContainsFunc' over it; 'GraphOfIntervals' of the program; both.
-/
import Derived.Test.YtehejjmmbjekgaaDoorIvS
import Derived.Test.YtehejjmmbjekgaaDoorVertex
namespace Go.Proofs.YtehejjmmbjekgaaDoor
open Go.RowKit

set_option maxHeartbeats 1000000 in
theorem good_any (x y : Int) (b : Bool) (h : rightI (x, y) = b) (w : World) :
    Calls Tryd.prog 79 #[.agg #[.int .i64 x, .int .i64 y]] w fun e w' => e = .returned (.bool b) ∧ Below w.heap.size w w' := by
  obtain ⟨B, hB⟩ : ∃ B, w.heap.size = B := ⟨_, rfl⟩
  have u0 : Below B w (w.alloc (.cells #[.int .i64 x, .int .i64 y] 104)) := by rw [← hB]; exact below_alloc' _ _
  have HH : Hid (b = (decide (0 ≤ x) && (decide (x ≤ y) && decide (y ≤ 100)))) := Lib.hid (by rw [← h]; unfold rightI; rw [Bool.eq_iff_iff]; simp)
  clear h
  by_cases h1 : 0 ≤ x
  · by_cases h2 : x ≤ y
    · by_cases h3 : y ≤ 100
      · have HB : Hid (b = true) := Lib.hid (by rw [HH.out]; simp [h1, h2, h3])
        go_enter Tryd.func79, Tryd.ntmps79
        go_wp2_with fail
        go_ret
        exact ⟨ret_bool HB.out.symm, by first | exact u0 | (rw [hB]; exact u0)⟩
      · have HB : Hid (b = false) := Lib.hid (by rw [HH.out]; simp [h3])
        go_enter Tryd.func79, Tryd.ntmps79
        go_wp2_with fail
        go_ret
        exact ⟨ret_bool HB.out.symm, by first | exact u0 | (rw [hB]; exact u0)⟩
    · have HB : Hid (b = false) := Lib.hid (by rw [HH.out]; simp [h2])
      go_enter Tryd.func79, Tryd.ntmps79
      go_wp2_with fail
      go_ret
      exact ⟨ret_bool HB.out.symm, by first | exact u0 | (rw [hB]; exact u0)⟩
  · have HB : Hid (b = false) := Lib.hid (by rw [HH.out]; simp [h1])
    go_enter Tryd.func79, Tryd.ntmps79
    go_wp2_with fail
    go_ret
    exact ⟨ret_bool HB.out.symm, by first | exact u0 | (rw [hB]; exact u0)⟩

theorem bad1_any (p : Int × Int) (w : World) :
    Calls Tryd.prog 78 #[.agg #[.int .i64 p.1, .int .i64 p.2]] w fun e w' => e = .returned (.bool (!rightI p)) ∧ Below w.heap.size w w' := by
  obtain ⟨x, y⟩ := p
  simp only
  obtain ⟨b, hb⟩ : ∃ b, rightI (x, y) = b := ⟨_, rfl⟩
  obtain ⟨B, hB⟩ : ∃ B, w.heap.size = B := ⟨_, rfl⟩
  obtain ⟨W0, hW0⟩ : ∃ W0, W0 = w.alloc (.cells #[.int .i64 x, .int .i64 y] 104) := ⟨_, rfl⟩
  have u0 : Below B w W0 := by rw [hW0, ← hB]; exact below_alloc' _ _
  have VX : VC 104 B #[.int .i64 x, .int .i64 y] W0 := by rw [hW0]; exact VC.new hB
  have c0 : W0.cell? ⟨B, 0, none⟩ = some (.int .i64 x) := by unfold VC at VX; simp [World.cell?, VX]
  have c1 : W0.cell? ⟨B, 1, none⟩ = some (.int .i64 y) := by unfold VC at VX; simp [World.cell?, VX]
  have HG := Lib.hid (good_any x y b hb W0)
  rw [hb]
  clear hb VX
  go_enter Tryd.func78, Tryd.ntmps78
  go_wp2_with fail
  try rw [← hW0]
  clear hW0
  go_wp2_with fail
  refine HG.out.mono ?_
  rintro e w1 ⟨rfl, hb1⟩
  have hb2 := u0.trans (hb1.mono (by have := u0.size; omega))
  clear hb1
  go_wp2_with fail
  go_ret
  exact ⟨rfl, by rw [hB]; exact hb2⟩

set_option maxHeartbeats 1000000 in
theorem idxF_any_iv  (p : Int × Int → Bool) (v : Value) (xs : List (Int × Int)) (w : World) (hr : RdV v xs w)
    (hcall : ∀ x ∈ xs, ∀ W, Below w.heap.size w W → Calls Tryd.prog 78 #[.agg #[.int .i64 x.1, .int .i64 x.2]] W fun e W' => e = .returned (.bool (p x)) ∧ Below W.heap.size W W') :
    Calls Tryd.prog 130 #[v, .func (.func 78) #[] #[]] w fun e w' => ∃ r : Int, e = .returned (.int .i64 r) ∧ Hid (decide (0 ≤ r) = xs.any p) ∧ Below w.heap.size w w' := by
  obtain ⟨a, c, rfl, -, -, -⟩ := id hr
  have hlen := hr.len
  unfold maxLen at hlen
  obtain ⟨B, hB⟩ : ∃ B, w.heap.size = B := ⟨_, rfl⟩
  rw [hB] at hcall
  have hcl : Below B w w := Below.refl _ _
  go_enter Tryd.func130, Tryd.ntmps130
  go_wp2_with fail
  go_loopw [8] (fun i wr => ∃ k : Nat, k ≤ xs.length ∧ i = .int .i64 k ∧ Hid ((xs.take k).any p = false) ∧ Below B w wr) (fun i _ => xs.length - (intOf i).toNat)
  case atStart => exact ⟨0, Nat.zero_le _, rfl, Lib.hid (by simp), hcl⟩
  case round =>
    clear hcl
    obtain ⟨k, hk, rfl, HK, hb⟩ := hrel
    have hsz := hb.size
    by_cases hlt : k < xs.length
    · obtain ⟨x, hxx⟩ : ∃ x, xs[k]? = some x := ⟨_, List.getElem?_eq_getElem hlt⟩
      obtain ⟨yb, yo, rfl, hc, hc'⟩ := RdV.at (RdV.below hr hb hB) hxx
      have HX := Lib.hid hxx
      clear hxx
      have HC := Lib.hid (hcall x (List.mem_of_getElem? HX.out) wr hb)
      obtain ⟨b, HBB⟩ : ∃ b, Hid (p x = b) := ⟨_, Lib.hid rfl⟩
      rw [HBB.out] at HC
      have HS : Hid ((xs.take (k + 1)).any p = b) := Lib.hid (by rw [take_snoc HX.out, List.any_append, HK.out]; simp [HBB.out])
      go_wp2_with fail
      refine HC.out.mono ?_
      rintro e1 w1 ⟨rfl, hb1⟩
      have hb2 := hb.trans (hb1.mono (by omega))
      clear hb1 HC hc hc' hb
      cases b with
      | true =>
        have HF : Hid (xs.any p = true) := Lib.hid (List.any_eq_true.2 ⟨x, List.mem_of_getElem? HX.out, HBB.out⟩)
        go_wp2_with fail
        go_ret
        exact ⟨_, rfl, Lib.hid (by rw [HF.out]; simp), by rw [hB]; exact hb2⟩
      | false =>
        go_wp2_with fail
        go_roundw
        case rel => exact ⟨k + 1, by omega, by go_num, HS, hb2⟩
        case measure => simp [intOf]; omega
    · obtain rfl : k = xs.length := by omega
      go_wp2_with fail
      go_ret
      exact ⟨_, rfl, Lib.hid (by have := HK.out; rw [List.take_length] at this; rw [this]; rfl), by rw [hB]; exact hb⟩
theorem contF_any_iv  (p : Int × Int → Bool) (v : Value) (xs : List (Int × Int)) (w : World) (hr : RdV v xs w)
    (hcall : ∀ x ∈ xs, ∀ W, Below w.heap.size w W → Calls Tryd.prog 78 #[.agg #[.int .i64 x.1, .int .i64 x.2]] W fun e W' => e = .returned (.bool (p x)) ∧ Below W.heap.size W W') :
    Calls Tryd.prog 77 #[v, .func (.func 78) #[] #[]] w fun e w' => e = .returned (.bool (xs.any p)) ∧ Below w.heap.size w w' := by
  obtain ⟨a, c, rfl, -, -, -⟩ := id hr
  have HI := Lib.hid (idxF_any_iv  p _ xs w hr hcall)
  clear hcall
  go_enter Tryd.func77, Tryd.ntmps77
  go_wp2_with fail
  refine HI.out.mono ?_
  rintro e1 w1 ⟨r, rfl, HR, hb⟩
  go_wp2_with fail
  go_ret
  exact ⟨ret_bool HR.out, hb⟩
end Go.Proofs.YtehejjmmbjekgaaDoor
