/-
  The law of 'DistHereditary': it returns true where reference and program return the like.
-/
import Derived.Test.YtbhobmngnjfgfaaDoorKinds
namespace Go.Proofs.YtbhobmngnjfgfaaDoor
open Go.RowKit

set_option maxHeartbeats 4000000 in
set_option maxRecDepth 100000 in
theorem coreDistHereditary (v0 : Value) (xss0 : List (List Int)) (ok0 : Bool) 
    (hs : ∀ (w : World) (v0 : Value), Tab w → RdSS v0 xss0 w → Calls Tryd.prog 31 #[.agg #[v0]] w (BRes w ok0))
    (hi : ∀ (w : World) (v0 : Value), Tab w → RdSS v0 xss0 w → Calls Tryd.prog 33 #[.agg #[v0]] w (BRes w ok0))
    (w : World) (ht : Tab w) (hr0 : RdSS v0 xss0 w) :
    Calls Tryd.prog 6 #[.agg #[v0]] w fun e w' => e = .returned (.bool true) ∧ Below w.heap.size w w' := by
  obtain ⟨a0, c0, rfl⟩ := hr0.shape
  have hl0 : xss0.length ≤ maxLen := (let ⟨_, h⟩ := hr0.ex; by have := h.outer.len; have := h.len; simp at *; omega)
  unfold maxLen at hl0
  obtain ⟨B, hB⟩ : ∃ B, w.heap.size = B := ⟨_, rfl⟩
  have hTB : 2 < B := by rw [← hB]; exact ht.lt
  have hq0 : (ok0 != ok0) = false := by simp
  have Hs := Lib.hid hs
  have Hi := Lib.hid hi
  clear hs hi
  have hb : Below B w w := Below.refl _ _
  have hS0 : w.heap.size = B := hB
  have u := Upd.alloc w (.cells #[.slice a0 xss0.length c0] 53)
  have A0 : VC 53 (B) #[.slice a0 xss0.length c0] (w.alloc (.cells #[.slice a0 xss0.length c0] 53)) := VC.new hS0
  replace hb := u.below hb (by omega) (by omega)
  replace hS0 : (w.alloc (.cells #[.slice a0 xss0.length c0] 53)).heap.size = B + 1 := by simp [hS0]
  clear u
  have cA0 := A0.cell
  go_enter Tryd.func6, Tryd.ntmps6
  go_wp2_with fail
  generalize (w.alloc (.cells #[.slice a0 xss0.length c0] 53)) = W0 at *
  refine (szG_k (hr0.below hb hB) (by omega) (by omega)).mono ?_
  rintro e w1 ⟨r0, rfl, hr, u⟩
  clear cA0
  replace A0 := A0.upd u (by omega)
  replace hb := u.below hb (by omega) (by omega)
  obtain ⟨S1, hS1⟩ : ∃ S, w1.heap.size = S := ⟨_, rfl⟩
  have hz1 : B + 1 ≤ S1 := by have := u.size; omega
  clear u
  rcases hr with rfl | ⟨hlf0, hlf1⟩
  · go_wp2_with fail
    go_ret
    exact ⟨rfl, by rw [hB]; exact hb⟩
  have hrl0 : r0 ≤ 1048576 := by omega
  have ht0 : xss0.length + total xss0 ≤ 1048576 := by omega
  clear hlf1
  have HL0 := Lib.hid (fun xs (h : xs ∈ xss0) => Nat.le_trans (len_le_total h) (show total xss0 ≤ 1048576 by omega))
  have cA0 := A0.cell
  go_wp2_with fail
  refine (toG_k (hr0.below hb hB) (by omega) HL0.out hS1).mono ?_
  rintro e w2 ⟨us0, rfl, Os0, u⟩
  clear cA0
  replace A0 := A0.upd u (by omega)
  replace hb := u.below hb (by omega) (by omega)
  obtain ⟨S2, hS2⟩ : ∃ S, w2.heap.size = S := ⟨_, rfl⟩
  have hz2 : S1 ≤ S2 := by have := u.size; omega
  clear u
  rw [hS2] at Os0
  obtain ⟨as0, ds0, rfl⟩ := Os0.shape
  have cA0 := A0.cell
  go_wp2_with fail
  refine (Hs.out _ _ (ht.keep hb hTB) Os0.rd).mono ?_
  rintro e w3 ⟨rfl, u⟩
  replace u := Upd.of_below u
  clear cA0
  replace A0 := A0.upd u (by omega)
  replace Os0 := Os0.upd u (by omega)
  replace hb := u.below hb (by omega) (by omega)
  obtain ⟨S3, hS3⟩ : ∃ S, w3.heap.size = S := ⟨_, rfl⟩
  have hz3 : S2 ≤ S3 := by have := u.size; omega
  clear u
  have cA0 := A0.cell
  go_wp2_with fail
  clear Os0
  refine (toG_k (hr0.below hb hB) (by omega) HL0.out hS3).mono ?_
  rintro e w4 ⟨ux0, rfl, Ox0, u⟩
  clear cA0
  replace A0 := A0.upd u (by omega)
  replace hb := u.below hb (by omega) (by omega)
  obtain ⟨S4, hS4⟩ : ∃ S, w4.heap.size = S := ⟨_, rfl⟩
  have hz4 : S3 ≤ S4 := by have := u.size; omega
  clear u
  rw [hS4] at Ox0
  obtain ⟨ax0, dx0, rfl⟩ := Ox0.shape
  have u := Upd.alloc w4 (.cells #[.slice ax0 xss0.length dx0] 56)
  have X0 : VC 56 (S4) #[.slice ax0 xss0.length dx0] (w4.alloc (.cells #[.slice ax0 xss0.length dx0] 56)) := VC.new hS4
  replace A0 := A0.upd u (by omega)
  replace Ox0 := Ox0.upd u (by omega)
  replace hb := u.below hb (by omega) (by omega)
  have hS5 : (w4.alloc (.cells #[.slice ax0 xss0.length dx0] 56)).heap.size = S4 + 1 := by simp [hS4]
  clear u
  have cA0 := A0.cell
  have cX0 := X0.cell
  go_wp2_with fail
  generalize w4.alloc (.cells #[.slice ax0 xss0.length dx0] 56) = W5 at *
  refine (Hi.out _ _ (ht.keep hb hTB) Ox0.rd).mono ?_
  rintro e w6 ⟨rfl, u⟩
  replace u := Upd.of_below u
  clear cA0 cX0
  replace A0 := A0.upd u (by omega)
  replace Ox0 := Ox0.upd u (by omega)
  replace X0 := X0.upd u (by omega)
  replace hb := u.below hb (by omega) (by omega)
  obtain ⟨S6, hS6⟩ : ∃ S, w6.heap.size = S := ⟨_, rfl⟩
  have hz6 : S4 + 1 ≤ S6 := by have := u.size; omega
  clear u
  have cA0 := A0.cell
  have cX0 := X0.cell
  go_wp2_with fail
  refine wp_region_ord [] [0, 1] [2] [3, 4] (by kernel_rfl) (by kernel_rfl) (fun _ _ d _ _ h => by cases d <;> exact h) ?_
  simp only [pickOps, List.filterMap_cons, List.filterMap_nil, List.getElem?_cons_succ, List.getElem?_cons_zero]
  repeat quiet_step (fail)
  refine wpSegs_cons ?_
  clear cA0 cX0
  have u := Upd.drew w6
  replace A0 := A0.upd u (by omega)
  replace Ox0 := Ox0.upd u (by omega)
  replace X0 := X0.upd u (by omega)
  replace hb := u.below hb (by omega) (by omega)
  clear u
  have hS7 : w6.drew.heap.size = S6 := hS6
  have cA0 := A0.cell
  have cX0 := X0.cell
  go_wp2_with fail
  refine (toG_k (hr0.below hb hB) (by omega) HL0.out hS7).mono ?_
  rintro e w8 ⟨uy0, rfl, Oy0, u⟩
  have HB : Hid (Below w6.heap.size w6 w8) := Lib.hid ⟨u.os, u.tape, u.output, u.size, fun k hk => u.block k hk (by omega)⟩
  clear cA0 cX0
  replace A0 := A0.upd u (by omega)
  replace Ox0 := Ox0.upd u (by omega)
  replace X0 := X0.upd u (by omega)
  replace hb := u.below hb (by omega) (by omega)
  obtain ⟨S8, hS8⟩ : ∃ S, w8.heap.size = S := ⟨_, rfl⟩
  have hz8 : S6 ≤ S8 := by have := u.size; omega
  clear u
  rw [hS8] at Oy0
  obtain ⟨ay0, dy0, rfl⟩ := Oy0.shape
  have cA0 := A0.cell
  have cX0 := X0.cell
  go_wp2_with fail
  refine ⟨(by have h := HB.out; first | exact h | (rw [hS6] at h; exact h)), ?_⟩
  simp only [wpSegs_nil_eq]
  go_wp2_with fail
  clear HB
  refine (eqG_k Ox0.rd Oy0.rd).mono ?_
  rintro e w9 ⟨rfl, u⟩
  clear cA0 cX0
  replace A0 := A0.upd u (by omega)
  replace Ox0 := Ox0.upd u (by omega)
  replace X0 := X0.upd u (by omega)
  replace Oy0 := Oy0.upd u (by omega)
  replace hb := u.below hb (by omega) (by omega)
  obtain ⟨S9, hS9⟩ : ∃ S, w9.heap.size = S := ⟨_, rfl⟩
  have hz9 : S8 ≤ S9 := by have := u.size; omega
  clear u
  have cA0 := A0.cell
  have cX0 := X0.cell
  go_wp2_with fail
  clear Oy0
  go_ret
  exact ⟨rfl, by rw [hB]; exact hb⟩
end Go.Proofs.YtbhobmngnjfgfaaDoor
