/-
  The law of 'WordModel': it returns true where reference and program return the like.
-/
import Derived.Test.YtehejjmmbjekgaaDoorKinds
import Derived.Test.YtehejjmmbjekgaaDoorModelK
import Derived.Test.YtehejjmmbjekgaaDoorWordT
namespace Go.Proofs.YtehejjmmbjekgaaDoor
open Go.RowKit

set_option maxHeartbeats 4000000 in
set_option maxRecDepth 100000 in
theorem coreWordModel (v0 : Value) (xs0 : List Int) (rows0 : List (List Int)) (ok1 : Bool) (hk0 : 1 + total rows0 ≤ 1000000000) (hn0 : rows0.length ≤ 1000000000) 
    (hs : ∀ (w : World) (v0 : Value), Tab w → RdS v0 xs0 w → Calls Tryd.prog 23 #[v0] w (MRes w rows0 ok1))
    (hi : ∀ (w : World) (v0 : Value), Tab w → RdS v0 xs0 w → Calls Tryd.prog 25 #[v0] w (MRes w rows0 ok1))
    (w : World) (ht : Tab w) (hr0 : RdS v0 xs0 w) :
    Calls Tryd.prog 5 #[v0] w fun e w' => e = .returned (.bool true) ∧ Below w.heap.size w w' := by
  obtain ⟨a0, c0, rfl, -, -, -⟩ := id hr0
  have hl0 : xs0.length ≤ maxLen := hr0.len
  unfold maxLen at hl0
  obtain ⟨B, hB⟩ : ∃ B, w.heap.size = B := ⟨_, rfl⟩
  have hTB : 0 < B := by rw [← hB]; exact ht.lt
  have hq1 : (ok1 != ok1) = false := by simp
  have Hs := Lib.hid hs
  have Hi := Lib.hid hi
  clear hs hi
  obtain ⟨K0, hK0⟩ : ∃ K : Int, K = ((1 + total rows0 : Nat) : Int) := ⟨_, rfl⟩
  have hKp0 : 0 ≤ K0 := by omega
  have hKl0 : K0 ≤ 1000000000 := by omega
  have hKn0 : (K0 != K0) = false := by simp
  have HK0 := Lib.hid hK0
  clear hK0
  have hb : Below B w w := Below.refl _ _
  have hS0 : w.heap.size = B := hB
  by_cases hlen0 : 1048576 < xs0.length
  · go_enter Tryd.func5, Tryd.ntmps5
    go_wp2_with fail
    go_ret
    exact ⟨rfl, by rw [hB]; exact hb⟩
  go_enter Tryd.func5, Tryd.ntmps5
  go_wp2_with fail
  refine (toS_k (hr0.below hb hB) (by omega) hS0).mono ?_
  rintro e w1 ⟨us0, rfl, Os0, u⟩
  replace hb := u.below hb (by omega) (by omega)
  obtain ⟨S1, hS1⟩ : ∃ S, w1.heap.size = S := ⟨_, rfl⟩
  have hz1 : B ≤ S1 := by have := u.size; omega
  clear u
  rw [hS1] at Os0
  obtain ⟨as0, ds0, rfl⟩ := Os0.shape
  go_wp2_with fail
  refine (Hs.out _ _ (ht.keep hb hTB) Os0.rd).mono ?_
  rintro e w2 ⟨uw0, vs, rfl, G, u⟩
  replace u := Upd.of_below u
  replace Os0 := Os0.upd u (by omega)
  replace hb := u.below hb (by omega) (by omega)
  obtain ⟨S2, hS2⟩ : ∃ S, w2.heap.size = S := ⟨_, rfl⟩
  have hz2 : S1 ≤ S2 := by have := u.size; omega
  clear u
  have Rw := OwSS.of G hS1 hS2
  clear G
  obtain ⟨aw, dw, rfl⟩ := Rw.shape
  have u := Upd.alloc w2 (.cells #[.slice aw rows0.length dw] 40)
  have Vw : VC 40 (S2) #[.slice aw rows0.length dw] (w2.alloc (.cells #[.slice aw rows0.length dw] 40)) := VC.new hS2
  replace Os0 := Os0.upd u (by omega)
  replace Rw := Rw.upd u (by omega)
  replace hb := u.below hb (by omega) (by omega)
  have hS3 : (w2.alloc (.cells #[.slice aw rows0.length dw] 40)).heap.size = S2 + 1 := by simp [hS2]
  clear u
  have cVw := Vw.cell
  go_wp2_with fail
  generalize w2.alloc (.cells #[.slice aw rows0.length dw] 40) = W3 at *
  clear Os0
  refine (toS_k (hr0.below hb hB) (by omega) hS3).mono ?_
  rintro e w4 ⟨ux0, rfl, Ox0, u⟩
  clear cVw
  replace Rw := Rw.upd u (by omega)
  replace Vw := Vw.upd u (by omega)
  replace hb := u.below hb (by omega) (by omega)
  obtain ⟨S4, hS4⟩ : ∃ S, w4.heap.size = S := ⟨_, rfl⟩
  have hz4 : S2 + 1 ≤ S4 := by have := u.size; omega
  clear u
  rw [hS4] at Ox0
  obtain ⟨ax0, dx0, rfl⟩ := Ox0.shape
  have cVw := Vw.cell
  go_wp2_with fail
  refine (Hi.out _ _ (ht.keep hb hTB) Ox0.rd).mono ?_
  rintro e w5 ⟨ug0, vs, rfl, G, u⟩
  replace u := Upd.of_below u
  clear cVw
  replace Rw := Rw.upd u (by omega)
  replace Vw := Vw.upd u (by omega)
  replace Ox0 := Ox0.upd u (by omega)
  replace hb := u.below hb (by omega) (by omega)
  obtain ⟨S5, hS5⟩ : ∃ S, w5.heap.size = S := ⟨_, rfl⟩
  have hz5 : S4 ≤ S5 := by have := u.size; omega
  clear u
  have Rg := OwSS.of G hS4 hS5
  clear G
  obtain ⟨ag, dg, rfl⟩ := Rg.shape
  have u := Upd.alloc w5 (.cells #[.slice ag rows0.length dg] 40)
  have Vg : VC 40 (S5) #[.slice ag rows0.length dg] (w5.alloc (.cells #[.slice ag rows0.length dg] 40)) := VC.new hS5
  replace Rw := Rw.upd u (by omega)
  replace Vw := Vw.upd u (by omega)
  replace Ox0 := Ox0.upd u (by omega)
  replace Rg := Rg.upd u (by omega)
  replace hb := u.below hb (by omega) (by omega)
  have hS6 : (w5.alloc (.cells #[.slice ag rows0.length dg] 40)).heap.size = S5 + 1 := by simp [hS5]
  clear u
  have cVw := Vw.cell
  have cVg := Vg.cell
  go_wp2_with fail
  generalize w5.alloc (.cells #[.slice ag rows0.length dg] 40) = W6 at *
  refine (eqM_k Rg.rd Rw.rd).mono ?_
  rintro e w7 ⟨rfl, u⟩
  clear cVw cVg
  replace Rw := Rw.upd u (by omega)
  replace Vw := Vw.upd u (by omega)
  replace Ox0 := Ox0.upd u (by omega)
  replace Rg := Rg.upd u (by omega)
  replace Vg := Vg.upd u (by omega)
  replace hb := u.below hb (by omega) (by omega)
  obtain ⟨S7, hS7⟩ : ∃ S, w7.heap.size = S := ⟨_, rfl⟩
  have hz7 : S5 + 1 ≤ S7 := by have := u.size; omega
  clear u
  have cVw := Vw.cell
  have cVg := Vg.cell
  go_wp2_with fail
  refine (toS_k (hr0.below hb hB) (by omega) hS7).mono ?_
  rintro e w8 ⟨uy0, rfl, Oy0, u⟩
  clear cVw cVg
  replace Rw := Rw.upd u (by omega)
  replace Vw := Vw.upd u (by omega)
  replace Ox0 := Ox0.upd u (by omega)
  replace Rg := Rg.upd u (by omega)
  replace Vg := Vg.upd u (by omega)
  replace hb := u.below hb (by omega) (by omega)
  obtain ⟨S8, hS8⟩ : ∃ S, w8.heap.size = S := ⟨_, rfl⟩
  have hz8 : S7 ≤ S8 := by have := u.size; omega
  clear u
  rw [hS8] at Oy0
  obtain ⟨ay0, dy0, rfl⟩ := Oy0.shape
  have cVw := Vw.cell
  have cVg := Vg.cell
  go_wp2_with fail
  refine (eqS_k Ox0.rd Oy0.rd).mono ?_
  rintro e w9 ⟨rfl, u⟩
  clear cVw cVg
  replace Rw := Rw.upd u (by omega)
  replace Vw := Vw.upd u (by omega)
  replace Ox0 := Ox0.upd u (by omega)
  replace Rg := Rg.upd u (by omega)
  replace Vg := Vg.upd u (by omega)
  replace Oy0 := Oy0.upd u (by omega)
  replace hb := u.below hb (by omega) (by omega)
  obtain ⟨S9, hS9⟩ : ∃ S, w9.heap.size = S := ⟨_, rfl⟩
  have hz9 : S8 ≤ S9 := by have := u.size; omega
  clear u
  have cVw := Vw.cell
  have cVg := Vg.cell
  go_wp2_with fail
  clear Oy0
  obtain ⟨J0, hJ0⟩ : ∃ K : Int, K = ((1 + xs0.length : Nat) : Int) := ⟨_, rfl⟩
  have hJp0 : 0 ≤ J0 := by omega
  have hJl0 : J0 ≤ 1000000000 := by omega
  have HJ0 := Lib.hid hJ0
  clear hJ0
  refine (markS_k Ox0 (k := 1) rfl HJ0.out (by omega)).mono ?_
  rintro e w10 ⟨rfl, Ox0', u⟩
  clear cVw cVg
  replace Rw := Rw.upd u (by omega)
  replace Vw := Vw.upd u (by omega)
  replace Rg := Rg.upd u (by omega)
  replace Vg := Vg.upd u (by omega)
  replace hb := u.below hb (by omega) (by omega)
  obtain ⟨S10, hS10⟩ : ∃ S, w10.heap.size = S := ⟨_, rfl⟩
  have hz10 : S9 ≤ S10 := by have := u.size; omega
  clear u
  clear Ox0
  clear Ox0'
  have cVw := Vw.cell
  have cVg := Vg.cell
  go_wp2_with fail
  refine (eqM_k Rg.rd Rw.rd).mono ?_
  rintro e w11 ⟨rfl, u⟩
  clear cVw cVg
  replace Rw := Rw.upd u (by omega)
  replace Vw := Vw.upd u (by omega)
  replace Rg := Rg.upd u (by omega)
  replace Vg := Vg.upd u (by omega)
  replace hb := u.below hb (by omega) (by omega)
  obtain ⟨S11, hS11⟩ : ∃ S, w11.heap.size = S := ⟨_, rfl⟩
  have hz11 : S10 ≤ S11 := by have := u.size; omega
  clear u
  have cVw := Vw.cell
  have cVg := Vg.cell
  go_wp2_with fail
  refine (markM_k Rg (k := 1) rfl HK0.out hk0 hn0).mono ?_
  rintro e w12 ⟨rfl, Rm, u⟩
  clear cVw cVg
  replace Rw := Rw.upd u (by omega)
  replace Vw := Vw.upd u (by omega)
  replace Vg := Vg.upd u (by omega)
  replace hb := u.below hb (by omega) (by omega)
  obtain ⟨S12, hS12⟩ : ∃ S, w12.heap.size = S := ⟨_, rfl⟩
  have hz12 : S11 ≤ S12 := by have := u.size; omega
  clear u
  clear Rg
  have cVw := Vw.cell
  have cVg := Vg.cell
  go_wp2_with fail
  refine (heldM_k Rm.rd (k := 1) rfl HK0.out hk0 hn0).mono ?_
  rintro e w13 ⟨rfl, u⟩
  clear cVw cVg
  replace Rw := Rw.upd u (by omega)
  replace Vw := Vw.upd u (by omega)
  replace Vg := Vg.upd u (by omega)
  replace Rm := Rm.upd u (by omega)
  replace hb := u.below hb (by omega) (by omega)
  obtain ⟨S13, hS13⟩ : ∃ S, w13.heap.size = S := ⟨_, rfl⟩
  have hz13 : S12 ≤ S13 := by have := u.size; omega
  clear u
  have cVw := Vw.cell
  have cVg := Vg.cell
  go_wp2_with fail
  refine (toS_k (hr0.below hb hB) (by omega) hS13).mono ?_
  rintro e w14 ⟨uz0, rfl, Oz0, u⟩
  clear cVw cVg
  replace Rw := Rw.upd u (by omega)
  replace Vw := Vw.upd u (by omega)
  replace Vg := Vg.upd u (by omega)
  replace Rm := Rm.upd u (by omega)
  replace hb := u.below hb (by omega) (by omega)
  obtain ⟨S14, hS14⟩ : ∃ S, w14.heap.size = S := ⟨_, rfl⟩
  have hz14 : S13 ≤ S14 := by have := u.size; omega
  clear u
  rw [hS14] at Oz0
  obtain ⟨az0, dz0, rfl⟩ := Oz0.shape
  have cVw := Vw.cell
  have cVg := Vg.cell
  go_wp2_with fail
  refine (Hi.out _ _ (ht.keep hb hTB) Oz0.rd).mono ?_
  rintro e w15 ⟨uh0, vs, rfl, G, u⟩
  replace u := Upd.of_below u
  clear cVw cVg
  replace Rw := Rw.upd u (by omega)
  replace Vw := Vw.upd u (by omega)
  replace Vg := Vg.upd u (by omega)
  replace Rm := Rm.upd u (by omega)
  replace Oz0 := Oz0.upd u (by omega)
  replace hb := u.below hb (by omega) (by omega)
  obtain ⟨S15, hS15⟩ : ∃ S, w15.heap.size = S := ⟨_, rfl⟩
  have hz15 : S14 ≤ S15 := by have := u.size; omega
  clear u
  have Rh := OwSS.of G hS14 hS15
  clear G
  obtain ⟨ah, dh, rfl⟩ := Rh.shape
  have u := Upd.alloc w15 (.cells #[.slice ah rows0.length dh] 40)
  have Vh : VC 40 (S15) #[.slice ah rows0.length dh] (w15.alloc (.cells #[.slice ah rows0.length dh] 40)) := VC.new hS15
  replace Rw := Rw.upd u (by omega)
  replace Vw := Vw.upd u (by omega)
  replace Vg := Vg.upd u (by omega)
  replace Rm := Rm.upd u (by omega)
  replace Oz0 := Oz0.upd u (by omega)
  replace Rh := Rh.upd u (by omega)
  replace hb := u.below hb (by omega) (by omega)
  have hS16 : (w15.alloc (.cells #[.slice ah rows0.length dh] 40)).heap.size = S15 + 1 := by simp [hS15]
  clear u
  have cVw := Vw.cell
  have cVg := Vg.cell
  have cVh := Vh.cell
  go_wp2_with fail
  generalize w15.alloc (.cells #[.slice ah rows0.length dh] 40) = W16 at *
  refine (eqM_k Rh.rd Rw.rd).mono ?_
  rintro e w17 ⟨rfl, u⟩
  clear cVw cVg cVh
  replace Rw := Rw.upd u (by omega)
  replace Vw := Vw.upd u (by omega)
  replace Vg := Vg.upd u (by omega)
  replace Rm := Rm.upd u (by omega)
  replace Oz0 := Oz0.upd u (by omega)
  replace Rh := Rh.upd u (by omega)
  replace Vh := Vh.upd u (by omega)
  replace hb := u.below hb (by omega) (by omega)
  obtain ⟨S17, hS17⟩ : ∃ S, w17.heap.size = S := ⟨_, rfl⟩
  have hz17 : S15 + 1 ≤ S17 := by have := u.size; omega
  clear u
  have cVw := Vw.cell
  have cVg := Vg.cell
  have cVh := Vh.cell
  go_wp2_with fail
  refine (heldM_k Rm.rd (k := 1) rfl HK0.out hk0 hn0).mono ?_
  rintro e w18 ⟨rfl, u⟩
  clear cVw cVg cVh
  replace Rw := Rw.upd u (by omega)
  replace Vw := Vw.upd u (by omega)
  replace Vg := Vg.upd u (by omega)
  replace Rm := Rm.upd u (by omega)
  replace Oz0 := Oz0.upd u (by omega)
  replace Rh := Rh.upd u (by omega)
  replace Vh := Vh.upd u (by omega)
  replace hb := u.below hb (by omega) (by omega)
  obtain ⟨S18, hS18⟩ : ∃ S, w18.heap.size = S := ⟨_, rfl⟩
  have hz18 : S17 ≤ S18 := by have := u.size; omega
  clear u
  have cVw := Vw.cell
  have cVg := Vg.cell
  have cVh := Vh.cell
  go_wp2_with fail
  go_ret
  exact ⟨rfl, by rw [hB]; exact hb⟩
end Go.Proofs.YtehejjmmbjekgaaDoor
