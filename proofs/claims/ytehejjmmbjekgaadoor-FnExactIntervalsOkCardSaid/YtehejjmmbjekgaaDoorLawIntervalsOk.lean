/-
  The law of 'IntervalsOk': it returns true where reference and program return the like.
-/
import Derived.Test.YtehejjmmbjekgaaDoorKinds
import Derived.Test.YtehejjmmbjekgaaDoorIvK
namespace Go.Proofs.YtehejjmmbjekgaaDoor
open Go.RowKit

set_option maxHeartbeats 4000000 in
set_option maxRecDepth 100000 in
theorem coreIntervalsOk (v0 : Value) (xss0 : List (List Int)) (v1 : Value) (ls1 : List (Int × Int)) (ok0 : Bool) 
    (hs : ∀ (w : World) (v0 : Value) (v1 : Value), Tab w → RdSS v0 xss0 w → RdV v1 ls1 w → Calls Tryd.prog 51 #[.agg #[v0], v1] w (BRes w ok0))
    (hi : ∀ (w : World) (v0 : Value) (v1 : Value), Tab w → RdSS v0 xss0 w → RdV v1 ls1 w → Calls Tryd.prog 52 #[.agg #[v0], v1] w (BRes w ok0))
    (w : World) (ht : Tab w) (hr0 : RdSS v0 xss0 w) (hr1 : RdV v1 ls1 w) :
    Calls Tryd.prog 10 #[.agg #[v0], v1] w fun e w' => e = .returned (.bool true) ∧ Below w.heap.size w w' := by
  obtain ⟨a0, c0, rfl⟩ := hr0.shape
  have hl0 : xss0.length ≤ maxLen := (let ⟨_, h⟩ := hr0.ex; by have := h.outer.len; have := h.len; simp at *; omega)
  unfold maxLen at hl0
  obtain ⟨a1, c1, rfl, -, -, -⟩ := id hr1
  have hl1 : ls1.length ≤ maxLen := hr1.len
  unfold maxLen at hl1
  obtain ⟨B, hB⟩ : ∃ B, w.heap.size = B := ⟨_, rfl⟩
  have hTB : 0 < B := by rw [← hB]; exact ht.lt
  have hq0 : (ok0 != ok0) = false := by simp
  have Hs := Lib.hid hs
  have Hi := Lib.hid hi
  clear hs hi
  have hb : Below B w w := Below.refl _ _
  have hS0 : w.heap.size = B := hB
  have u := Upd.alloc w (.cells #[.slice a0 xss0.length c0] 49)
  have A0 : VC 49 (B) #[.slice a0 xss0.length c0] (w.alloc (.cells #[.slice a0 xss0.length c0] 49)) := VC.new hS0
  replace hb := u.below hb (by omega) (by omega)
  replace hS0 : (w.alloc (.cells #[.slice a0 xss0.length c0] 49)).heap.size = B + 1 := by simp [hS0]
  clear u
  have cA0 := A0.cell
  go_enter Tryd.func10, Tryd.ntmps10
  go_wp2_with fail
  generalize (w.alloc (.cells #[.slice a0 xss0.length c0] 49)) = W0 at *
  refine (szG_k (hr0.below hb hB) (by omega) (by omega)).mono ?_
  rintro e w1 ⟨r0, rfl, hr, u⟩
  clear cA0
  replace A0 := A0.upd u (by omega)
  replace hb := u.below hb (by omega) (by omega)
  obtain ⟨S1, hS1⟩ : ∃ S, w1.heap.size = S := ⟨_, rfl⟩
  have hz1 : B + 1 ≤ S1 := by have := u.size; omega
  clear u
  rcases hr with rfl | ⟨hlf0, hlf1⟩
  · go_wp2_with fail
    go_ret
    exact ⟨rfl, by rw [hB]; exact hb⟩
  have hrl0 : r0 ≤ 1048576 := by omega
  have ht0 : xss0.length + total xss0 ≤ 1048576 := by omega
  clear hlf1
  have HL0 := Lib.hid (fun xs (h : xs ∈ xss0) => Nat.le_trans (len_le_total h) (show total xss0 ≤ 1048576 by omega))
  have cA0 := A0.cell
  go_wp2_with fail
  refine (szV_k (hr1.below hb hB) (by omega) (by omega)).mono ?_
  rintro e w2 ⟨r1, rfl, hr, u⟩
  clear cA0
  replace A0 := A0.upd u (by omega)
  replace hb := u.below hb (by omega) (by omega)
  obtain ⟨S2, hS2⟩ : ∃ S, w2.heap.size = S := ⟨_, rfl⟩
  have hz2 : S1 ≤ S2 := by have := u.size; omega
  clear u
  rcases hr with rfl | ⟨hlf0, hlf1⟩
  · go_wp2_with fail
    go_ret
    exact ⟨rfl, by rw [hB]; exact hb⟩
  have hrl1 : r1 ≤ 1048576 := by omega
  have ht1 : ls1.length ≤ 1048576 := by omega
  clear hlf1
  have cA0 := A0.cell
  go_wp2_with fail
  refine (toG_k (hr0.below hb hB) (by omega) HL0.out hS2).mono ?_
  rintro e w3 ⟨us0, rfl, Os0, u⟩
  clear cA0
  replace A0 := A0.upd u (by omega)
  replace hb := u.below hb (by omega) (by omega)
  obtain ⟨S3, hS3⟩ : ∃ S, w3.heap.size = S := ⟨_, rfl⟩
  have hz3 : S2 ≤ S3 := by have := u.size; omega
  clear u
  rw [hS3] at Os0
  obtain ⟨as0, ds0, rfl⟩ := Os0.shape
  have cA0 := A0.cell
  go_wp2_with fail
  refine (toV_k (hr1.below hb hB) (by omega) hS3).mono ?_
  rintro e w4 ⟨us1, rfl, Os1, u⟩
  clear cA0
  replace A0 := A0.upd u (by omega)
  replace Os0 := Os0.upd u (by omega)
  replace hb := u.below hb (by omega) (by omega)
  obtain ⟨S4, hS4⟩ : ∃ S, w4.heap.size = S := ⟨_, rfl⟩
  have hz4 : S3 ≤ S4 := by have := u.size; omega
  clear u
  rw [hS4] at Os1
  obtain ⟨as1, ds1, rfl⟩ := Os1.shape
  have cA0 := A0.cell
  go_wp2_with fail
  refine (Hs.out _ _ _ (ht.keep hb hTB) Os0.rd Os1.rd).mono ?_
  rintro e w5 ⟨rfl, u⟩
  replace u := Upd.of_below u
  clear cA0
  replace A0 := A0.upd u (by omega)
  replace Os0 := Os0.upd u (by omega)
  replace Os1 := Os1.upd u (by omega)
  replace hb := u.below hb (by omega) (by omega)
  obtain ⟨S5, hS5⟩ : ∃ S, w5.heap.size = S := ⟨_, rfl⟩
  have hz5 : S4 ≤ S5 := by have := u.size; omega
  clear u
  have cA0 := A0.cell
  go_wp2_with fail
  clear Os0
  clear Os1
  refine (toG_k (hr0.below hb hB) (by omega) HL0.out hS5).mono ?_
  rintro e w6 ⟨ux0, rfl, Ox0, u⟩
  clear cA0
  replace A0 := A0.upd u (by omega)
  replace hb := u.below hb (by omega) (by omega)
  obtain ⟨S6, hS6⟩ : ∃ S, w6.heap.size = S := ⟨_, rfl⟩
  have hz6 : S5 ≤ S6 := by have := u.size; omega
  clear u
  rw [hS6] at Ox0
  obtain ⟨ax0, dx0, rfl⟩ := Ox0.shape
  have u := Upd.alloc w6 (.cells #[.slice ax0 xss0.length dx0] 24)
  have X0 : VC 24 (S6) #[.slice ax0 xss0.length dx0] (w6.alloc (.cells #[.slice ax0 xss0.length dx0] 24)) := VC.new hS6
  replace A0 := A0.upd u (by omega)
  replace Ox0 := Ox0.upd u (by omega)
  replace hb := u.below hb (by omega) (by omega)
  have hS7 : (w6.alloc (.cells #[.slice ax0 xss0.length dx0] 24)).heap.size = S6 + 1 := by simp [hS6]
  clear u
  have cA0 := A0.cell
  have cX0 := X0.cell
  go_wp2_with fail
  generalize w6.alloc (.cells #[.slice ax0 xss0.length dx0] 24) = W7 at *
  refine (toV_k (hr1.below hb hB) (by omega) hS7).mono ?_
  rintro e w8 ⟨ux1, rfl, Ox1, u⟩
  clear cA0 cX0
  replace A0 := A0.upd u (by omega)
  replace Ox0 := Ox0.upd u (by omega)
  replace X0 := X0.upd u (by omega)
  replace hb := u.below hb (by omega) (by omega)
  obtain ⟨S8, hS8⟩ : ∃ S, w8.heap.size = S := ⟨_, rfl⟩
  have hz8 : S6 + 1 ≤ S8 := by have := u.size; omega
  clear u
  rw [hS8] at Ox1
  obtain ⟨ax1, dx1, rfl⟩ := Ox1.shape
  have cA0 := A0.cell
  have cX0 := X0.cell
  go_wp2_with fail
  refine (Hi.out _ _ _ (ht.keep hb hTB) Ox0.rd Ox1.rd).mono ?_
  rintro e w9 ⟨rfl, u⟩
  replace u := Upd.of_below u
  clear cA0 cX0
  replace A0 := A0.upd u (by omega)
  replace Ox0 := Ox0.upd u (by omega)
  replace X0 := X0.upd u (by omega)
  replace Ox1 := Ox1.upd u (by omega)
  replace hb := u.below hb (by omega) (by omega)
  obtain ⟨S9, hS9⟩ : ∃ S, w9.heap.size = S := ⟨_, rfl⟩
  have hz9 : S8 ≤ S9 := by have := u.size; omega
  clear u
  have cA0 := A0.cell
  have cX0 := X0.cell
  go_wp2_with fail
  refine wp_region_ord [] [0, 1] [2] [3, 4] (by kernel_rfl) (by kernel_rfl) (fun _ _ d _ _ h => by cases d <;> exact h) ?_
  simp only [pickOps, List.filterMap_cons, List.filterMap_nil, List.getElem?_cons_succ, List.getElem?_cons_zero]
  repeat quiet_step (fail)
  refine wpSegs_cons ?_
  clear cA0 cX0
  have u := Upd.drew w9
  replace A0 := A0.upd u (by omega)
  replace Ox0 := Ox0.upd u (by omega)
  replace X0 := X0.upd u (by omega)
  replace Ox1 := Ox1.upd u (by omega)
  replace hb := u.below hb (by omega) (by omega)
  clear u
  have hS10 : w9.drew.heap.size = S9 := hS9
  have cA0 := A0.cell
  have cX0 := X0.cell
  go_wp2_with fail
  refine (toG_k (hr0.below hb hB) (by omega) HL0.out hS10).mono ?_
  rintro e w11 ⟨uy0, rfl, Oy0, u⟩
  have HB : Hid (Below w9.heap.size w9 w11) := Lib.hid ⟨u.os, u.tape, u.output, u.size, fun k hk => u.block k hk (by omega)⟩
  clear cA0 cX0
  replace A0 := A0.upd u (by omega)
  replace Ox0 := Ox0.upd u (by omega)
  replace X0 := X0.upd u (by omega)
  replace Ox1 := Ox1.upd u (by omega)
  replace hb := u.below hb (by omega) (by omega)
  obtain ⟨S11, hS11⟩ : ∃ S, w11.heap.size = S := ⟨_, rfl⟩
  have hz11 : S9 ≤ S11 := by have := u.size; omega
  clear u
  rw [hS11] at Oy0
  obtain ⟨ay0, dy0, rfl⟩ := Oy0.shape
  have cA0 := A0.cell
  have cX0 := X0.cell
  go_wp2_with fail
  refine ⟨(by have h := HB.out; first | exact h | (rw [hS9] at h; exact h)), ?_⟩
  simp only [wpSegs_nil_eq]
  go_wp2_with fail
  clear HB
  refine (eqG_k Ox0.rd Oy0.rd).mono ?_
  rintro e w12 ⟨rfl, u⟩
  clear cA0 cX0
  replace A0 := A0.upd u (by omega)
  replace Ox0 := Ox0.upd u (by omega)
  replace X0 := X0.upd u (by omega)
  replace Ox1 := Ox1.upd u (by omega)
  replace Oy0 := Oy0.upd u (by omega)
  replace hb := u.below hb (by omega) (by omega)
  obtain ⟨S12, hS12⟩ : ∃ S, w12.heap.size = S := ⟨_, rfl⟩
  have hz12 : S11 ≤ S12 := by have := u.size; omega
  clear u
  have cA0 := A0.cell
  have cX0 := X0.cell
  go_wp2_with fail
  clear Oy0
  refine (toV_k (hr1.below hb hB) (by omega) hS12).mono ?_
  rintro e w13 ⟨uy1, rfl, Oy1, u⟩
  clear cA0 cX0
  replace A0 := A0.upd u (by omega)
  replace Ox0 := Ox0.upd u (by omega)
  replace X0 := X0.upd u (by omega)
  replace Ox1 := Ox1.upd u (by omega)
  replace hb := u.below hb (by omega) (by omega)
  obtain ⟨S13, hS13⟩ : ∃ S, w13.heap.size = S := ⟨_, rfl⟩
  have hz13 : S12 ≤ S13 := by have := u.size; omega
  clear u
  rw [hS13] at Oy1
  obtain ⟨ay1, dy1, rfl⟩ := Oy1.shape
  have cA0 := A0.cell
  have cX0 := X0.cell
  go_wp2_with fail
  refine (eqV_k Ox1.rd Oy1.rd).mono ?_
  rintro e w14 ⟨rfl, u⟩
  clear cA0 cX0
  replace A0 := A0.upd u (by omega)
  replace Ox0 := Ox0.upd u (by omega)
  replace X0 := X0.upd u (by omega)
  replace Ox1 := Ox1.upd u (by omega)
  replace Oy1 := Oy1.upd u (by omega)
  replace hb := u.below hb (by omega) (by omega)
  obtain ⟨S14, hS14⟩ : ∃ S, w14.heap.size = S := ⟨_, rfl⟩
  have hz14 : S13 ≤ S14 := by have := u.size; omega
  clear u
  have cA0 := A0.cell
  have cX0 := X0.cell
  go_wp2_with fail
  clear Oy1
  go_ret
  exact ⟨rfl, by rw [hB]; exact hb⟩
end Go.Proofs.YtehejjmmbjekgaaDoor
