/-
  'FullGraph' of the reference and of the program.
-/
import Derived.Test.YtplpbgjmejggiaaDoorComplement
namespace Go.Proofs.YtplpbgjmejggiaaDoor
open Go.RowKit

set_option maxHeartbeats 1000000 in
theorem specFull_yes (n : Nat) (h1 : 1 ≤ n) (h2 : n ≤ 16) (w : World) :
    Calls Tryd.prog 23 #[.int .i64 n] w (GRes w (rowsB n (sym fun _ _ => true)) true) := by
  obtain ⟨B, hB⟩ : ∃ B, w.heap.size = B := ⟨_, rfl⟩
  have u1 : Below B w (w.alloc (.cells #[.slice none 0 0] 35)) := by subst hB; exact below_alloc' _ _
  have VR : VC 35 B #[.slice none 0 0] (w.alloc (.cells #[.slice none 0 0] 35)) := VC.new hB
  have hz1 : (w.alloc (.cells #[.slice none 0 0] 35)).heap.size = B + 1 := by simp [hB]
  go_enter Tryd.func23, Tryd.ntmps23
  go_wp2_with fail
  generalize w.alloc (.cells #[.slice none 0 0] 35) = W at *
  refine (of_yes n h1 h2 W).mono ?_
  rintro e w1 ⟨u, vs, rfl, hG, hb1⟩
  obtain ⟨a, c, rfl⟩ := owns_shape hG.outer
  obtain ⟨S1, hS1⟩ : ∃ S, w1.heap.size = S := ⟨_, rfl⟩
  have hz2 : B + 1 ≤ S1 := by have := hb1.size; omega
  have VG : VC 35 S1 #[.slice a vs.length c] (w1.alloc (.cells #[.slice a vs.length c] 35)) := VC.new hS1
  have u2 := Upd.of_below (below_alloc' w1 (.cells #[.slice a vs.length c] 35))
  have hb : Below B w (w1.alloc (.cells #[.slice a vs.length c] 35)) := (u1.trans (hb1.mono (by omega))).alloc (by omega) _
  replace VR := (VR.upd (Upd.of_below hb1) (by omega)).upd u2 (by omega)
  rw [← NB_zeros, rowsOf_NB (by omega)] at hG
  have hR : RdSS (.slice a vs.length c) (rowsB n fun _ _ => false) (w1.alloc (.cells #[.slice a vs.length c] 35)) := RdSS.below ⟨vs, hG.rd⟩ (below_alloc' w1 _) rfl
  clear hG hb1 u1 u2
  have hcg := VG.cell
  go_wp2_with fail
  generalize w1.alloc (.cells #[.slice a vs.length c] 35) = W2 at *
  refine (other_any _ n (fun _ _ => false) h2 W2 hR).mono ?_
  rintro e w3 ⟨u, us, rfl, hG, hb3⟩
  obtain ⟨ua, uc, rfl⟩ := owns_shape hG.outer
  have HF := Lib.hid (GRes.put (b := B) hB hb (by omega) (by have := VR.lt; omega) hG hb3 true)
  replace VR := VR.upd (Upd.of_below hb3) (by omega)
  have HCE := Lib.hid (VR.set (.slice ua us.length uc)).cell
  clear hG hb3 hcg hR
  have hcr := VR.cell
  have hfr := VR.free
  go_wp2_with fail
  refine bodyPost_ret (v := .tuple #[.agg #[.slice ua us.length uc], .bool true]) (by simp [results, Tryd.results23, go_sem, HCE.out]) rfl ?_
  exact HF.out

set_option maxHeartbeats 1000000 in
theorem specFull_no (n : Int) (h : ¬ (1 ≤ n ∧ n ≤ 16)) (w : World) :
    Calls Tryd.prog 23 #[.int .i64 n] w (GRes w [] false) := by
  obtain ⟨B, hB⟩ : ∃ B, w.heap.size = B := ⟨_, rfl⟩
  have u1 : Below B w (w.alloc (.cells #[.slice none 0 0] 35)) := by subst hB; exact below_alloc' _ _
  have VR : VC 35 B #[.slice none 0 0] (w.alloc (.cells #[.slice none 0 0] 35)) := VC.new hB
  have hz1 : (w.alloc (.cells #[.slice none 0 0] 35)).heap.size = B + 1 := by simp [hB]
  have H := Lib.hid h
  clear h
  go_enter Tryd.func23, Tryd.ntmps23
  go_wp2_with fail
  generalize w.alloc (.cells #[.slice none 0 0] 35) = W at *
  refine (of_no n H.out W).mono ?_
  rintro e w1 ⟨u, vs, rfl, hG, hb1⟩
  obtain ⟨a, c, rfl⟩ := owns_shape hG.outer
  replace VR := (VR.upd (Upd.of_below hb1) (by omega)).upd (Upd.alloc w1 (.cells #[.slice a vs.length c] 35)) (by omega)
  have hb : Below B w (w1.alloc (.cells #[.slice a vs.length c] 35)) := (u1.trans (hb1.mono (by omega))).alloc (by have := hb1.size; omega) _
  have hcr := VR.cell
  have hfr := VR.free
  have HCE := Lib.hid (VR.set (.slice none 0 0)).cell
  have HB := Lib.hid (hb.setCell (p := ⟨B, 0, none⟩) (by simp) (.slice none 0 0))
  clear hG hb1 hb u1
  go_wp2_with fail
  refine bodyPost_ret (v := .tuple #[.agg #[.slice none 0 0], .bool false]) (by simp [results, Tryd.results23, go_sem, HCE.out]) rfl ?_
  exact GRes.nothing _ _ (by rw [hB]; exact HB.out)

set_option maxHeartbeats 1000000 in
theorem implFull_yes (n : Nat) (h1 : 1 ≤ n) (h2 : n ≤ 16) (w : World) (ht : Tab w) :
    Calls Tryd.prog 24 #[.int .i64 n] w (GRes w (rowsB n fun a b => decide (a ≠ b) && !false) true) := by
  have hin := Lib.hid (inRange_is n 1 16 true (by simp; omega))
  obtain ⟨B, hB⟩ : ∃ B, w.heap.size = B := ⟨_, rfl⟩
  have u1 : Below B w (w.alloc (.cells #[.slice none 0 0] 35)) := by subst hB; exact below_alloc' _ _
  have VR : VC 35 B #[.slice none 0 0] (w.alloc (.cells #[.slice none 0 0] 35)) := VC.new hB
  have hz1 : (w.alloc (.cells #[.slice none 0 0] 35)).heap.size = B + 1 := by simp [hB]
  have hTB : 0 < B := by rw [← hB]; exact ht.lt
  go_enter Tryd.func24, Tryd.ntmps24
  go_wp2_with fail
  generalize w.alloc (.cells #[.slice none 0 0] 35) = W at *
  refine (hin.out W).mono ?_
  rintro e w1 ⟨rfl, rfl⟩
  go_wp2_with (at_make; refine wpList_make _ rfl _ _ 82 rfl (B + 1) 78 (.int .u32 0) 4 Tryd.underlying82 infoV rfl .i64 .i64 _ _ n rfl rfl (by omega) (by omega) (by omega) (by unfold maxLen; omega) (by simp [hz1]) ?_; intro w1 ho1 hb1)
  rw [hz1] at hb1 ho1
  rw [sets_zeros, ← NB_zeros] at ho1
  have hrow : Row w1 1 (.slice (some ⟨B + 1, 0, none⟩) n n) n (sets (NB n fun _ _ => false)) := Row.of_owns ho1
  have hb : Below B w w1 := u1.trans (hb1.mono (by omega))
  replace VR := VR.belowAt hb1 (by omega)
  clear ho1 hb1 u1
  first | rw [hz1] | skip
  go_wp2_with fail
  refine (complement_any _ n (fun _ _ => false) h2 w1 hrow).mono ?_
  rintro e w3 ⟨u3, rfl, hN3, hb3⟩
  have hsm := NB_small (n := n) (by omega) (fun a b => decide (a ≠ b) && !false)
  have hrow3 : Row w3 1 u3 (NB n fun a b => decide (a ≠ b) && !false).length (sets (NB n fun a b => decide (a ≠ b) && !false)) := by rw [NB_length]; exact Row.of_owns hN3
  have HG := Lib.hid (graph_any u3 (NB n fun a b => decide (a ≠ b) && !false) hsm (by simp; omega) w3 (ht.keep (hb.trans (hb3.mono (by have := VR.lt; omega))) hTB) hrow3)
  clear hsm hrow3
  go_wp2_with fail
  refine HG.out.mono ?_
  rintro e1 w4 ⟨u4, vs, rfl, hG, hb4⟩
  rw [rowsOf_NB (by omega)] at hG
  obtain ⟨ua, uc, rfl⟩ := owns_shape hG.outer
  have hb14 := hb3.trans (hb4.mono hb3.size)
  have HF := Lib.hid (GRes.put (b := B) hB hb (by omega) (by have := VR.lt; omega) (hG.rebase hb3.size) hb14 true)
  replace VR := VR.upd (Upd.of_below hb14) (by omega)
  have HCE := Lib.hid (VR.set (.slice ua vs.length uc)).cell
  clear hG hb3 hb4 hb14 hrow hN3 HG
  have hcr := VR.cell
  have hfr := VR.free
  go_wp2_with fail
  refine bodyPost_ret (v := .tuple #[.agg #[.slice ua vs.length uc], .bool true]) (by simp [results, Tryd.results24, go_sem, HCE.out]) rfl ?_
  exact HF.out

theorem implFull_no (n : Int) (h : ¬ (1 ≤ n ∧ n ≤ 16)) (w : World) :
    Calls Tryd.prog 24 #[.int .i64 n] w (GRes w [] false) := by
  have hin := Lib.hid (inRange_is n 1 16 false (by simpa using h))
  clear h
  go_enter Tryd.func24, Tryd.ntmps24
  go_wp2_with fail
  refine (hin.out _).mono ?_
  rintro e w' ⟨rfl, rfl⟩
  go_wp2_with fail
  refine bodyPost_ret (v := .tuple #[.agg #[.slice none 0 0], .bool false]) (by simp [results, Tryd.results24, go_sem]) rfl ?_
  exact GRes.nothing _ _ (below_alloc _ _)

theorem both_FullGraph (n : Int) : ∃ rows ok, 1 + total rows ≤ 1000000000 ∧ rows.length ≤ 1000000000 ∧
    (∀ (w : World), Tab w → Calls Tryd.prog 23 #[.int .i64 n] w (GRes w rows ok)) ∧
    (∀ (w : World), Tab w → Calls Tryd.prog 24 #[.int .i64 n] w (GRes w rows ok)) := by
  by_cases h : 1 ≤ n ∧ n ≤ 16
  · obtain ⟨k, rfl⟩ := Int.eq_ofNat_of_zero_le (show 0 ≤ n by omega)
    have he : rowsB k (sym fun _ _ => true) = rowsB k (fun a b => decide (a ≠ b) && !false) := by
      rw [← rowsOf_NB (by omega), ← rowsOf_NB (by omega), sym_of _ k fun a b ha hb => rfl]; rfl
    have ht := total_rowsB k (fun a b => decide (a ≠ b) && !false) (by omega)
    refine ⟨_, true, by omega, by simp; omega, fun w _ => ?_, fun w ht => implFull_yes k (by omega) (by omega) w ht⟩
    rw [← he]; exact specFull_yes k (by omega) (by omega) w
  · exact ⟨[], false, by simp [total], by simp, fun w _ => specFull_no n h w, fun w _ => implFull_no n h w⟩
end Go.Proofs.YtplpbgjmejggiaaDoor
