/-
  The law of 'GraphOfIntervals': it returns true where reference and program return the like.
-/
import Derived.Test.YtehejjmmbjekgaaDoorKinds
import Derived.Test.YtehejjmmbjekgaaDoorIvK
namespace Go.Proofs.YtehejjmmbjekgaaDoor
open Go.RowKit

set_option maxHeartbeats 4000000 in
set_option maxRecDepth 100000 in
theorem coreGraphOfIntervals (v0 : Value) (ls0 : List (Int × Int)) (rows0 : List (List Int)) (ok1 : Bool) (hk0 : 1 + total rows0 ≤ 1000000000) (hn0 : rows0.length ≤ 1000000000) 
    (hs : ∀ (w : World) (v0 : Value), Tab w → RdV v0 ls0 w → Calls Tryd.prog 18 #[v0] w (GRes w rows0 ok1))
    (hi : ∀ (w : World) (v0 : Value), Tab w → RdV v0 ls0 w → Calls Tryd.prog 20 #[v0] w (GRes w rows0 ok1))
    (w : World) (ht : Tab w) (hr0 : RdV v0 ls0 w) :
    Calls Tryd.prog 4 #[v0] w fun e w' => e = .returned (.bool true) ∧ Below w.heap.size w w' := by
  obtain ⟨a0, c0, rfl, -, -, -⟩ := id hr0
  have hl0 : ls0.length ≤ maxLen := hr0.len
  unfold maxLen at hl0
  obtain ⟨B, hB⟩ : ∃ B, w.heap.size = B := ⟨_, rfl⟩
  have hTB : 0 < B := by rw [← hB]; exact ht.lt
  have hq1 : (ok1 != ok1) = false := by simp
  have Hs := Lib.hid hs
  have Hi := Lib.hid hi
  clear hs hi
  obtain ⟨K0, hK0⟩ : ∃ K : Int, K = ((1 + total rows0 : Nat) : Int) := ⟨_, rfl⟩
  have hKp0 : 0 ≤ K0 := by omega
  have hKl0 : K0 ≤ 1000000000 := by omega
  have hKn0 : (K0 != K0) = false := by simp
  have HK0 := Lib.hid hK0
  clear hK0
  have hb : Below B w w := Below.refl _ _
  have hS0 : w.heap.size = B := hB
  go_enter Tryd.func4, Tryd.ntmps4
  go_wp2_with fail
  refine (szV_k (hr0.below hb hB) (by omega) (by omega)).mono ?_
  rintro e w1 ⟨r0, rfl, hr, u⟩
  replace hb := u.below hb (by omega) (by omega)
  obtain ⟨S1, hS1⟩ : ∃ S, w1.heap.size = S := ⟨_, rfl⟩
  have hz1 : B ≤ S1 := by have := u.size; omega
  clear u
  rcases hr with rfl | ⟨hlf0, hlf1⟩
  · go_wp2_with fail
    go_ret
    exact ⟨rfl, by rw [hB]; exact hb⟩
  have hrl0 : r0 ≤ 1048576 := by omega
  have ht0 : ls0.length ≤ 1048576 := by omega
  clear hlf1
  go_wp2_with fail
  refine (toV_k (hr0.below hb hB) (by omega) hS1).mono ?_
  rintro e w2 ⟨us0, rfl, Os0, u⟩
  replace hb := u.below hb (by omega) (by omega)
  obtain ⟨S2, hS2⟩ : ∃ S, w2.heap.size = S := ⟨_, rfl⟩
  have hz2 : S1 ≤ S2 := by have := u.size; omega
  clear u
  rw [hS2] at Os0
  obtain ⟨as0, ds0, rfl⟩ := Os0.shape
  go_wp2_with fail
  refine (Hs.out _ _ (ht.keep hb hTB) Os0.rd).mono ?_
  rintro e w3 ⟨uw0, vs, rfl, G, u⟩
  replace u := Upd.of_below u
  replace Os0 := Os0.upd u (by omega)
  replace hb := u.below hb (by omega) (by omega)
  obtain ⟨S3, hS3⟩ : ∃ S, w3.heap.size = S := ⟨_, rfl⟩
  have hz3 : S2 ≤ S3 := by have := u.size; omega
  clear u
  have Rw := OwSS.of G hS2 hS3
  clear G
  obtain ⟨aw, dw, rfl⟩ := Rw.shape
  have u := Upd.alloc w3 (.cells #[.slice aw rows0.length dw] 24)
  have Vw : VC 24 (S3) #[.slice aw rows0.length dw] (w3.alloc (.cells #[.slice aw rows0.length dw] 24)) := VC.new hS3
  replace Os0 := Os0.upd u (by omega)
  replace Rw := Rw.upd u (by omega)
  replace hb := u.below hb (by omega) (by omega)
  have hS4 : (w3.alloc (.cells #[.slice aw rows0.length dw] 24)).heap.size = S3 + 1 := by simp [hS3]
  clear u
  have cVw := Vw.cell
  go_wp2_with fail
  generalize w3.alloc (.cells #[.slice aw rows0.length dw] 24) = W4 at *
  clear Os0
  refine (toV_k (hr0.below hb hB) (by omega) hS4).mono ?_
  rintro e w5 ⟨ux0, rfl, Ox0, u⟩
  clear cVw
  replace Rw := Rw.upd u (by omega)
  replace Vw := Vw.upd u (by omega)
  replace hb := u.below hb (by omega) (by omega)
  obtain ⟨S5, hS5⟩ : ∃ S, w5.heap.size = S := ⟨_, rfl⟩
  have hz5 : S3 + 1 ≤ S5 := by have := u.size; omega
  clear u
  rw [hS5] at Ox0
  obtain ⟨ax0, dx0, rfl⟩ := Ox0.shape
  have cVw := Vw.cell
  go_wp2_with fail
  refine (Hi.out _ _ (ht.keep hb hTB) Ox0.rd).mono ?_
  rintro e w6 ⟨ug0, vs, rfl, G, u⟩
  replace u := Upd.of_below u
  clear cVw
  replace Rw := Rw.upd u (by omega)
  replace Vw := Vw.upd u (by omega)
  replace Ox0 := Ox0.upd u (by omega)
  replace hb := u.below hb (by omega) (by omega)
  obtain ⟨S6, hS6⟩ : ∃ S, w6.heap.size = S := ⟨_, rfl⟩
  have hz6 : S5 ≤ S6 := by have := u.size; omega
  clear u
  have Rg := OwSS.of G hS5 hS6
  clear G
  obtain ⟨ag, dg, rfl⟩ := Rg.shape
  have u := Upd.alloc w6 (.cells #[.slice ag rows0.length dg] 24)
  have Vg : VC 24 (S6) #[.slice ag rows0.length dg] (w6.alloc (.cells #[.slice ag rows0.length dg] 24)) := VC.new hS6
  replace Rw := Rw.upd u (by omega)
  replace Vw := Vw.upd u (by omega)
  replace Ox0 := Ox0.upd u (by omega)
  replace Rg := Rg.upd u (by omega)
  replace hb := u.below hb (by omega) (by omega)
  have hS7 : (w6.alloc (.cells #[.slice ag rows0.length dg] 24)).heap.size = S6 + 1 := by simp [hS6]
  clear u
  have cVw := Vw.cell
  have cVg := Vg.cell
  go_wp2_with fail
  generalize w6.alloc (.cells #[.slice ag rows0.length dg] 24) = W7 at *
  refine (eqG_k Rg.rd Rw.rd).mono ?_
  rintro e w8 ⟨rfl, u⟩
  clear cVw cVg
  replace Rw := Rw.upd u (by omega)
  replace Vw := Vw.upd u (by omega)
  replace Ox0 := Ox0.upd u (by omega)
  replace Rg := Rg.upd u (by omega)
  replace Vg := Vg.upd u (by omega)
  replace hb := u.below hb (by omega) (by omega)
  obtain ⟨S8, hS8⟩ : ∃ S, w8.heap.size = S := ⟨_, rfl⟩
  have hz8 : S6 + 1 ≤ S8 := by have := u.size; omega
  clear u
  have cVw := Vw.cell
  have cVg := Vg.cell
  go_wp2_with fail
  refine (toV_k (hr0.below hb hB) (by omega) hS8).mono ?_
  rintro e w9 ⟨uy0, rfl, Oy0, u⟩
  clear cVw cVg
  replace Rw := Rw.upd u (by omega)
  replace Vw := Vw.upd u (by omega)
  replace Ox0 := Ox0.upd u (by omega)
  replace Rg := Rg.upd u (by omega)
  replace Vg := Vg.upd u (by omega)
  replace hb := u.below hb (by omega) (by omega)
  obtain ⟨S9, hS9⟩ : ∃ S, w9.heap.size = S := ⟨_, rfl⟩
  have hz9 : S8 ≤ S9 := by have := u.size; omega
  clear u
  rw [hS9] at Oy0
  obtain ⟨ay0, dy0, rfl⟩ := Oy0.shape
  have cVw := Vw.cell
  have cVg := Vg.cell
  go_wp2_with fail
  refine (eqV_k Ox0.rd Oy0.rd).mono ?_
  rintro e w10 ⟨rfl, u⟩
  clear cVw cVg
  replace Rw := Rw.upd u (by omega)
  replace Vw := Vw.upd u (by omega)
  replace Ox0 := Ox0.upd u (by omega)
  replace Rg := Rg.upd u (by omega)
  replace Vg := Vg.upd u (by omega)
  replace Oy0 := Oy0.upd u (by omega)
  replace hb := u.below hb (by omega) (by omega)
  obtain ⟨S10, hS10⟩ : ∃ S, w10.heap.size = S := ⟨_, rfl⟩
  have hz10 : S9 ≤ S10 := by have := u.size; omega
  clear u
  have cVw := Vw.cell
  have cVg := Vg.cell
  go_wp2_with fail
  clear Oy0
  obtain ⟨J0, hJ0⟩ : ∃ K : Int, K = ((1 + 2 * ls0.length : Nat) : Int) := ⟨_, rfl⟩
  have hJp0 : 0 ≤ J0 := by omega
  have hJl0 : J0 ≤ 1000000000 := by omega
  have HJ0 := Lib.hid hJ0
  clear hJ0
  refine (markV_k Ox0 (k := 1) rfl HJ0.out (by omega)).mono ?_
  rintro e w11 ⟨rfl, Ox0', u⟩
  clear cVw cVg
  replace Rw := Rw.upd u (by omega)
  replace Vw := Vw.upd u (by omega)
  replace Rg := Rg.upd u (by omega)
  replace Vg := Vg.upd u (by omega)
  replace hb := u.below hb (by omega) (by omega)
  obtain ⟨S11, hS11⟩ : ∃ S, w11.heap.size = S := ⟨_, rfl⟩
  have hz11 : S10 ≤ S11 := by have := u.size; omega
  clear u
  clear Ox0
  clear Ox0'
  have cVw := Vw.cell
  have cVg := Vg.cell
  go_wp2_with fail
  refine (eqG_k Rg.rd Rw.rd).mono ?_
  rintro e w12 ⟨rfl, u⟩
  clear cVw cVg
  replace Rw := Rw.upd u (by omega)
  replace Vw := Vw.upd u (by omega)
  replace Rg := Rg.upd u (by omega)
  replace Vg := Vg.upd u (by omega)
  replace hb := u.below hb (by omega) (by omega)
  obtain ⟨S12, hS12⟩ : ∃ S, w12.heap.size = S := ⟨_, rfl⟩
  have hz12 : S11 ≤ S12 := by have := u.size; omega
  clear u
  have cVw := Vw.cell
  have cVg := Vg.cell
  go_wp2_with fail
  refine (markG_k Rg (k := 1) rfl HK0.out hk0 hn0).mono ?_
  rintro e w13 ⟨rfl, Rm, u⟩
  clear cVw cVg
  replace Rw := Rw.upd u (by omega)
  replace Vw := Vw.upd u (by omega)
  replace Vg := Vg.upd u (by omega)
  replace hb := u.below hb (by omega) (by omega)
  obtain ⟨S13, hS13⟩ : ∃ S, w13.heap.size = S := ⟨_, rfl⟩
  have hz13 : S12 ≤ S13 := by have := u.size; omega
  clear u
  clear Rg
  have cVw := Vw.cell
  have cVg := Vg.cell
  go_wp2_with fail
  refine (heldG_k Rm.rd (k := 1) rfl HK0.out hk0 hn0).mono ?_
  rintro e w14 ⟨rfl, u⟩
  clear cVw cVg
  replace Rw := Rw.upd u (by omega)
  replace Vw := Vw.upd u (by omega)
  replace Vg := Vg.upd u (by omega)
  replace Rm := Rm.upd u (by omega)
  replace hb := u.below hb (by omega) (by omega)
  obtain ⟨S14, hS14⟩ : ∃ S, w14.heap.size = S := ⟨_, rfl⟩
  have hz14 : S13 ≤ S14 := by have := u.size; omega
  clear u
  have cVw := Vw.cell
  have cVg := Vg.cell
  go_wp2_with fail
  refine (toV_k (hr0.below hb hB) (by omega) hS14).mono ?_
  rintro e w15 ⟨uz0, rfl, Oz0, u⟩
  clear cVw cVg
  replace Rw := Rw.upd u (by omega)
  replace Vw := Vw.upd u (by omega)
  replace Vg := Vg.upd u (by omega)
  replace Rm := Rm.upd u (by omega)
  replace hb := u.below hb (by omega) (by omega)
  obtain ⟨S15, hS15⟩ : ∃ S, w15.heap.size = S := ⟨_, rfl⟩
  have hz15 : S14 ≤ S15 := by have := u.size; omega
  clear u
  rw [hS15] at Oz0
  obtain ⟨az0, dz0, rfl⟩ := Oz0.shape
  have cVw := Vw.cell
  have cVg := Vg.cell
  go_wp2_with fail
  refine (Hi.out _ _ (ht.keep hb hTB) Oz0.rd).mono ?_
  rintro e w16 ⟨uh0, vs, rfl, G, u⟩
  replace u := Upd.of_below u
  clear cVw cVg
  replace Rw := Rw.upd u (by omega)
  replace Vw := Vw.upd u (by omega)
  replace Vg := Vg.upd u (by omega)
  replace Rm := Rm.upd u (by omega)
  replace Oz0 := Oz0.upd u (by omega)
  replace hb := u.below hb (by omega) (by omega)
  obtain ⟨S16, hS16⟩ : ∃ S, w16.heap.size = S := ⟨_, rfl⟩
  have hz16 : S15 ≤ S16 := by have := u.size; omega
  clear u
  have Rh := OwSS.of G hS15 hS16
  clear G
  obtain ⟨ah, dh, rfl⟩ := Rh.shape
  have u := Upd.alloc w16 (.cells #[.slice ah rows0.length dh] 24)
  have Vh : VC 24 (S16) #[.slice ah rows0.length dh] (w16.alloc (.cells #[.slice ah rows0.length dh] 24)) := VC.new hS16
  replace Rw := Rw.upd u (by omega)
  replace Vw := Vw.upd u (by omega)
  replace Vg := Vg.upd u (by omega)
  replace Rm := Rm.upd u (by omega)
  replace Oz0 := Oz0.upd u (by omega)
  replace Rh := Rh.upd u (by omega)
  replace hb := u.below hb (by omega) (by omega)
  have hS17 : (w16.alloc (.cells #[.slice ah rows0.length dh] 24)).heap.size = S16 + 1 := by simp [hS16]
  clear u
  have cVw := Vw.cell
  have cVg := Vg.cell
  have cVh := Vh.cell
  go_wp2_with fail
  generalize w16.alloc (.cells #[.slice ah rows0.length dh] 24) = W17 at *
  refine (eqG_k Rh.rd Rw.rd).mono ?_
  rintro e w18 ⟨rfl, u⟩
  clear cVw cVg cVh
  replace Rw := Rw.upd u (by omega)
  replace Vw := Vw.upd u (by omega)
  replace Vg := Vg.upd u (by omega)
  replace Rm := Rm.upd u (by omega)
  replace Oz0 := Oz0.upd u (by omega)
  replace Rh := Rh.upd u (by omega)
  replace Vh := Vh.upd u (by omega)
  replace hb := u.below hb (by omega) (by omega)
  obtain ⟨S18, hS18⟩ : ∃ S, w18.heap.size = S := ⟨_, rfl⟩
  have hz18 : S16 + 1 ≤ S18 := by have := u.size; omega
  clear u
  have cVw := Vw.cell
  have cVg := Vg.cell
  have cVh := Vh.cell
  go_wp2_with fail
  refine (heldG_k Rm.rd (k := 1) rfl HK0.out hk0 hn0).mono ?_
  rintro e w19 ⟨rfl, u⟩
  clear cVw cVg cVh
  replace Rw := Rw.upd u (by omega)
  replace Vw := Vw.upd u (by omega)
  replace Vg := Vg.upd u (by omega)
  replace Rm := Rm.upd u (by omega)
  replace Oz0 := Oz0.upd u (by omega)
  replace Rh := Rh.upd u (by omega)
  replace Vh := Vh.upd u (by omega)
  replace hb := u.below hb (by omega) (by omega)
  obtain ⟨S19, hS19⟩ : ∃ S, w19.heap.size = S := ⟨_, rfl⟩
  have hz19 : S18 ≤ S19 := by have := u.size; omega
  clear u
  have cVw := Vw.cell
  have cVg := Vg.cell
  have cVh := Vh.cell
  go_wp2_with fail
  go_ret
  exact ⟨rfl, by rw [hB]; exact hb⟩
end Go.Proofs.YtehejjmmbjekgaaDoor
