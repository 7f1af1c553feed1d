/-
  The law of 'PatternOf': it returns true where reference and program return the like.
-/
import Derived.Test.YtehejjmmbjekgaaDoorKinds
namespace Go.Proofs.YtehejjmmbjekgaaDoor
open Go.RowKit

set_option maxHeartbeats 4000000 in
set_option maxRecDepth 100000 in
theorem corePatternOf (n0 : Int) (rows0 : List (List Int)) (hk0 : 1 + total rows0 ≤ 1000000000) (hn0 : rows0.length ≤ 1000000000) 
    (hs : ∀ (w : World) , Tab w → Calls Tryd.prog 12 #[.int .i64 n0] w (G1Res w rows0))
    (hi : ∀ (w : World) , Tab w → Calls Tryd.prog 13 #[.int .i64 n0] w (G1Res w rows0))
    (w : World) (ht : Tab w)  :
    Calls Tryd.prog 3 #[.int .i64 n0] w fun e w' => e = .returned (.bool true) ∧ Below w.heap.size w w' := by
  obtain ⟨B, hB⟩ : ∃ B, w.heap.size = B := ⟨_, rfl⟩
  have hTB : 0 < B := by rw [← hB]; exact ht.lt
  have Hs := Lib.hid hs
  have Hi := Lib.hid hi
  clear hs hi
  obtain ⟨K0, hK0⟩ : ∃ K : Int, K = ((1 + total rows0 : Nat) : Int) := ⟨_, rfl⟩
  have hKp0 : 0 ≤ K0 := by omega
  have hKl0 : K0 ≤ 1000000000 := by omega
  have hKn0 : (K0 != K0) = false := by simp
  have HK0 := Lib.hid hK0
  clear hK0
  have hb : Below B w w := Below.refl _ _
  have hS0 : w.heap.size = B := hB
  go_enter Tryd.func3, Tryd.ntmps3
  go_wp2_with fail
  refine (Hs.out _  (ht.keep hb hTB) ).mono ?_
  rintro e w1 ⟨uw0, vs, rfl, G, u⟩
  replace u := Upd.of_below u
  replace hb := u.below hb (by omega) (by omega)
  obtain ⟨S1, hS1⟩ : ∃ S, w1.heap.size = S := ⟨_, rfl⟩
  have hz1 : B ≤ S1 := by have := u.size; omega
  clear u
  have Rw := OwSS.of G hS0 hS1
  clear G
  obtain ⟨aw, dw, rfl⟩ := Rw.shape
  have u := Upd.alloc w1 (.cells #[.slice aw rows0.length dw] 24)
  have Vw : VC 24 (S1) #[.slice aw rows0.length dw] (w1.alloc (.cells #[.slice aw rows0.length dw] 24)) := VC.new hS1
  replace Rw := Rw.upd u (by omega)
  replace hb := u.below hb (by omega) (by omega)
  have hS2 : (w1.alloc (.cells #[.slice aw rows0.length dw] 24)).heap.size = S1 + 1 := by simp [hS1]
  clear u
  have cVw := Vw.cell
  go_wp2_with fail
  generalize w1.alloc (.cells #[.slice aw rows0.length dw] 24) = W2 at *
  refine (Hi.out _  (ht.keep hb hTB) ).mono ?_
  rintro e w3 ⟨ug0, vs, rfl, G, u⟩
  replace u := Upd.of_below u
  clear cVw
  replace Rw := Rw.upd u (by omega)
  replace Vw := Vw.upd u (by omega)
  replace hb := u.below hb (by omega) (by omega)
  obtain ⟨S3, hS3⟩ : ∃ S, w3.heap.size = S := ⟨_, rfl⟩
  have hz3 : S1 + 1 ≤ S3 := by have := u.size; omega
  clear u
  have Rg := OwSS.of G hS2 hS3
  clear G
  obtain ⟨ag, dg, rfl⟩ := Rg.shape
  have u := Upd.alloc w3 (.cells #[.slice ag rows0.length dg] 24)
  have Vg : VC 24 (S3) #[.slice ag rows0.length dg] (w3.alloc (.cells #[.slice ag rows0.length dg] 24)) := VC.new hS3
  replace Rw := Rw.upd u (by omega)
  replace Vw := Vw.upd u (by omega)
  replace Rg := Rg.upd u (by omega)
  replace hb := u.below hb (by omega) (by omega)
  have hS4 : (w3.alloc (.cells #[.slice ag rows0.length dg] 24)).heap.size = S3 + 1 := by simp [hS3]
  clear u
  have cVw := Vw.cell
  have cVg := Vg.cell
  go_wp2_with fail
  generalize w3.alloc (.cells #[.slice ag rows0.length dg] 24) = W4 at *
  refine (eqG_k Rg.rd Rw.rd).mono ?_
  rintro e w5 ⟨rfl, u⟩
  clear cVw cVg
  replace Rw := Rw.upd u (by omega)
  replace Vw := Vw.upd u (by omega)
  replace Rg := Rg.upd u (by omega)
  replace Vg := Vg.upd u (by omega)
  replace hb := u.below hb (by omega) (by omega)
  obtain ⟨S5, hS5⟩ : ∃ S, w5.heap.size = S := ⟨_, rfl⟩
  have hz5 : S3 + 1 ≤ S5 := by have := u.size; omega
  clear u
  have cVw := Vw.cell
  have cVg := Vg.cell
  go_wp2_with fail
  refine (markG_k Rg (k := 1) rfl HK0.out hk0 hn0).mono ?_
  rintro e w6 ⟨rfl, Rm, u⟩
  clear cVw cVg
  replace Rw := Rw.upd u (by omega)
  replace Vw := Vw.upd u (by omega)
  replace Vg := Vg.upd u (by omega)
  replace hb := u.below hb (by omega) (by omega)
  obtain ⟨S6, hS6⟩ : ∃ S, w6.heap.size = S := ⟨_, rfl⟩
  have hz6 : S5 ≤ S6 := by have := u.size; omega
  clear u
  clear Rg
  have cVw := Vw.cell
  have cVg := Vg.cell
  go_wp2_with fail
  refine (heldG_k Rm.rd (k := 1) rfl HK0.out hk0 hn0).mono ?_
  rintro e w7 ⟨rfl, u⟩
  clear cVw cVg
  replace Rw := Rw.upd u (by omega)
  replace Vw := Vw.upd u (by omega)
  replace Vg := Vg.upd u (by omega)
  replace Rm := Rm.upd u (by omega)
  replace hb := u.below hb (by omega) (by omega)
  obtain ⟨S7, hS7⟩ : ∃ S, w7.heap.size = S := ⟨_, rfl⟩
  have hz7 : S6 ≤ S7 := by have := u.size; omega
  clear u
  have cVw := Vw.cell
  have cVg := Vg.cell
  go_wp2_with fail
  refine (Hi.out _  (ht.keep hb hTB) ).mono ?_
  rintro e w8 ⟨uh0, vs, rfl, G, u⟩
  replace u := Upd.of_below u
  clear cVw cVg
  replace Rw := Rw.upd u (by omega)
  replace Vw := Vw.upd u (by omega)
  replace Vg := Vg.upd u (by omega)
  replace Rm := Rm.upd u (by omega)
  replace hb := u.below hb (by omega) (by omega)
  obtain ⟨S8, hS8⟩ : ∃ S, w8.heap.size = S := ⟨_, rfl⟩
  have hz8 : S7 ≤ S8 := by have := u.size; omega
  clear u
  have Rh := OwSS.of G hS7 hS8
  clear G
  obtain ⟨ah, dh, rfl⟩ := Rh.shape
  have u := Upd.alloc w8 (.cells #[.slice ah rows0.length dh] 24)
  have Vh : VC 24 (S8) #[.slice ah rows0.length dh] (w8.alloc (.cells #[.slice ah rows0.length dh] 24)) := VC.new hS8
  replace Rw := Rw.upd u (by omega)
  replace Vw := Vw.upd u (by omega)
  replace Vg := Vg.upd u (by omega)
  replace Rm := Rm.upd u (by omega)
  replace Rh := Rh.upd u (by omega)
  replace hb := u.below hb (by omega) (by omega)
  have hS9 : (w8.alloc (.cells #[.slice ah rows0.length dh] 24)).heap.size = S8 + 1 := by simp [hS8]
  clear u
  have cVw := Vw.cell
  have cVg := Vg.cell
  have cVh := Vh.cell
  go_wp2_with fail
  generalize w8.alloc (.cells #[.slice ah rows0.length dh] 24) = W9 at *
  refine (eqG_k Rh.rd Rw.rd).mono ?_
  rintro e w10 ⟨rfl, u⟩
  clear cVw cVg cVh
  replace Rw := Rw.upd u (by omega)
  replace Vw := Vw.upd u (by omega)
  replace Vg := Vg.upd u (by omega)
  replace Rm := Rm.upd u (by omega)
  replace Rh := Rh.upd u (by omega)
  replace Vh := Vh.upd u (by omega)
  replace hb := u.below hb (by omega) (by omega)
  obtain ⟨S10, hS10⟩ : ∃ S, w10.heap.size = S := ⟨_, rfl⟩
  have hz10 : S8 + 1 ≤ S10 := by have := u.size; omega
  clear u
  have cVw := Vw.cell
  have cVg := Vg.cell
  have cVh := Vh.cell
  go_wp2_with fail
  refine (heldG_k Rm.rd (k := 1) rfl HK0.out hk0 hn0).mono ?_
  rintro e w11 ⟨rfl, u⟩
  clear cVw cVg cVh
  replace Rw := Rw.upd u (by omega)
  replace Vw := Vw.upd u (by omega)
  replace Vg := Vg.upd u (by omega)
  replace Rm := Rm.upd u (by omega)
  replace Rh := Rh.upd u (by omega)
  replace Vh := Vh.upd u (by omega)
  replace hb := u.below hb (by omega) (by omega)
  obtain ⟨S11, hS11⟩ : ∃ S, w11.heap.size = S := ⟨_, rfl⟩
  have hz11 : S10 ≤ S11 := by have := u.size; omega
  clear u
  have cVw := Vw.cell
  have cVg := Vg.cell
  have cVh := Vh.cell
  go_wp2_with fail
  go_ret
  exact ⟨rfl, by rw [hB]; exact hb⟩
end Go.Proofs.YtehejjmmbjekgaaDoor
