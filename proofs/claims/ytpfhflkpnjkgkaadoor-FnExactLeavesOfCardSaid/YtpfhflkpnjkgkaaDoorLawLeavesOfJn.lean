import Derived.Test.YtpfhflkpnjkgkaaDoorGq04
import Derived.Test.YtpfhflkpnjkgkaaDoorGq05
/-
  The law of 'LeavesOf': it returns true where reference and program return the like.
-/


namespace Go.Proofs.YtpfhflkpnjkgkaaDoor
open Go.RowKit

set_option maxHeartbeats 4000000 in
set_option maxRecDepth 100000 in
theorem coreLeavesOf (v0 : Value) (ps0 : List PartD) (n1 : Int) (row0 : List Int) (hk0 : 1 + row0.length ≤ 1000000000) 
    (hs : ∀ (w : World) (v0 : Value), Tab w → RdP v0 ps0 w → Calls Tryd.prog 6 #[v0, .int .i64 n1] w (SRes w row0))
    (hi : ps0.length ≤ 1048576 → ∀ (w : World) (v0 : Value), Tab w → RdP v0 ps0 w → Calls Tryd.prog 8 #[v0, .int .i64 n1] w (SRes w row0))
    (w : World) (ht : Tab w) (hr0 : RdP v0 ps0 w) :
    Calls Tryd.prog 3 #[v0, .int .i64 n1] w fun e w' => e = .returned (.bool true) ∧ Below w.heap.size w w' := by
  obtain ⟨a0, c0, rfl, -, -, -⟩ := id hr0.outer
  have hl0 : ps0.length ≤ maxLen := hr0.len
  unfold maxLen at hl0
  obtain ⟨B, hB⟩ : ∃ B, w.heap.size = B := ⟨_, rfl⟩
  have hTB : 0 < B := by rw [← hB]; exact ht.lt
  have Hs := Lib.hid hs
  have Hi := Lib.hid hi
  clear hs hi
  obtain ⟨K0, hK0⟩ : ∃ K : Int, K = ((1 + row0.length : Nat) : Int) := ⟨_, rfl⟩
  have hKp0 : 0 ≤ K0 := by omega
  have hKl0 : K0 ≤ 1000000000 := by omega
  have hKn0 : (K0 != K0) = false := by simp
  have HK0 := Lib.hid hK0
  clear hK0
  have hb : Below B w w := Below.refl _ _
  have hS0 : w.heap.size = B := hB
  go_enter Tryd.func3, Tryd.ntmps3
  go_wp2_with fail
  refine (szP_k (hr0.below hb hB) (by omega) (by omega)).mono ?_
  rintro e w1 ⟨r0, rfl, hr, u⟩
  replace hb := u.below hb (by omega) (by omega)
  obtain ⟨S1, hS1⟩ : ∃ S, w1.heap.size = S := ⟨_, rfl⟩
  have hz1 : B ≤ S1 := by have := u.size; omega
  clear u
  rcases hr with rfl | ⟨hlf0, hlf1⟩
  · go_wp2_with fail
    go_ret
    exact ⟨rfl, by rw [hB]; exact hb⟩
  have hrl0 : r0 ≤ 1048576 := by omega
  have ht0 : ps0.length + kidsT ps0 ≤ 1048576 := by omega
  clear hlf1
  go_wp2_with fail
  refine (toP_k (hr0.below hb hB) (by omega) hS1).mono ?_
  rintro e w2 ⟨us0, rfl, Os0, u⟩
  replace hb := u.below hb (by omega) (by omega)
  obtain ⟨S2, hS2⟩ : ∃ S, w2.heap.size = S := ⟨_, rfl⟩
  have hz2 : S1 ≤ S2 := by have := u.size; omega
  clear u
  rw [hS2] at Os0
  obtain ⟨as0, ds0, rfl⟩ := Os0.shape
  go_wp2_with fail
  refine (Hs.out _ _ (ht.keep hb hTB) Os0.rd).mono ?_
  rintro e w3 ⟨uw0, rfl, G, u⟩
  replace u := Upd.of_below u
  replace Os0 := Os0.upd u (by omega)
  replace hb := u.below hb (by omega) (by omega)
  obtain ⟨S3, hS3⟩ : ∃ S, w3.heap.size = S := ⟨_, rfl⟩
  have hz3 : S2 ≤ S3 := by have := u.size; omega
  clear u
  have Rw := OwS.of G hS2 hS3
  clear G
  obtain ⟨aw, dw, rfl⟩ := Rw.shape
  go_wp2_with fail
  clear Os0
  refine (toP_k (hr0.below hb hB) (by omega) hS3).mono ?_
  rintro e w4 ⟨ux0, rfl, Ox0, u⟩
  replace Rw := Rw.upd u (by omega)
  replace hb := u.below hb (by omega) (by omega)
  obtain ⟨S4, hS4⟩ : ∃ S, w4.heap.size = S := ⟨_, rfl⟩
  have hz4 : S3 ≤ S4 := by have := u.size; omega
  clear u
  rw [hS4] at Ox0
  obtain ⟨ax0, dx0, rfl⟩ := Ox0.shape
  go_wp2_with fail
  refine (Hi.out (by omega) _ _ (ht.keep hb hTB) Ox0.rd).mono ?_
  rintro e w5 ⟨ug0, rfl, G, u⟩
  replace u := Upd.of_below u
  replace Rw := Rw.upd u (by omega)
  replace Ox0 := Ox0.upd u (by omega)
  replace hb := u.below hb (by omega) (by omega)
  obtain ⟨S5, hS5⟩ : ∃ S, w5.heap.size = S := ⟨_, rfl⟩
  have hz5 : S4 ≤ S5 := by have := u.size; omega
  clear u
  have Rg := OwS.of G hS4 hS5
  clear G
  obtain ⟨ag, dg, rfl⟩ := Rg.shape
  go_wp2_with fail
  refine (eqS_k Rg.rd Rw.rd).mono ?_
  rintro e w6 ⟨rfl, u⟩
  replace Rw := Rw.upd u (by omega)
  replace Ox0 := Ox0.upd u (by omega)
  replace Rg := Rg.upd u (by omega)
  replace hb := u.below hb (by omega) (by omega)
  obtain ⟨S6, hS6⟩ : ∃ S, w6.heap.size = S := ⟨_, rfl⟩
  have hz6 : S5 ≤ S6 := by have := u.size; omega
  clear u
  go_wp2_with fail
  refine (toP_k (hr0.below hb hB) (by omega) hS6).mono ?_
  rintro e w7 ⟨uy0, rfl, Oy0, u⟩
  replace Rw := Rw.upd u (by omega)
  replace Ox0 := Ox0.upd u (by omega)
  replace Rg := Rg.upd u (by omega)
  replace hb := u.below hb (by omega) (by omega)
  obtain ⟨S7, hS7⟩ : ∃ S, w7.heap.size = S := ⟨_, rfl⟩
  have hz7 : S6 ≤ S7 := by have := u.size; omega
  clear u
  rw [hS7] at Oy0
  obtain ⟨ay0, dy0, rfl⟩ := Oy0.shape
  go_wp2_with fail
  refine (eqP_k Ox0.rd Oy0.rd).mono ?_
  rintro e w8 ⟨rfl, u⟩
  replace Rw := Rw.upd u (by omega)
  replace Ox0 := Ox0.upd u (by omega)
  replace Rg := Rg.upd u (by omega)
  replace Oy0 := Oy0.upd u (by omega)
  replace hb := u.below hb (by omega) (by omega)
  obtain ⟨S8, hS8⟩ : ∃ S, w8.heap.size = S := ⟨_, rfl⟩
  have hz8 : S7 ≤ S8 := by have := u.size; omega
  clear u
  go_wp2_with fail
  clear Oy0
  obtain ⟨J0, hJ0⟩ : ∃ K : Int, K = ((1 + 2 * ps0.length + kidsT ps0 : Nat) : Int) := ⟨_, rfl⟩
  have hJp0 : 0 ≤ J0 := by omega
  have hJl0 : J0 ≤ 1000000000 := by omega
  have HJ0 := Lib.hid hJ0
  clear hJ0
  refine (markP_k Ox0 (k := 1) rfl HJ0.out (by omega)).mono ?_
  rintro e w9 ⟨rfl, Ox0', u⟩
  replace Rw := Rw.upd u (by omega)
  replace Rg := Rg.upd u (by omega)
  replace hb := u.below hb (by omega) (by omega)
  obtain ⟨S9, hS9⟩ : ∃ S, w9.heap.size = S := ⟨_, rfl⟩
  have hz9 : S8 ≤ S9 := by have := u.size; omega
  clear u
  clear Ox0
  clear Ox0'
  go_wp2_with fail
  refine (eqS_k Rg.rd Rw.rd).mono ?_
  rintro e w10 ⟨rfl, u⟩
  replace Rw := Rw.upd u (by omega)
  replace Rg := Rg.upd u (by omega)
  replace hb := u.below hb (by omega) (by omega)
  obtain ⟨S10, hS10⟩ : ∃ S, w10.heap.size = S := ⟨_, rfl⟩
  have hz10 : S9 ≤ S10 := by have := u.size; omega
  clear u
  go_wp2_with fail
  refine (markS_k Rg (k := 1) rfl HK0.out hk0).mono ?_
  rintro e w11 ⟨rfl, Rm, u⟩
  replace Rw := Rw.upd u (by omega)
  replace hb := u.below hb (by omega) (by omega)
  obtain ⟨S11, hS11⟩ : ∃ S, w11.heap.size = S := ⟨_, rfl⟩
  have hz11 : S10 ≤ S11 := by have := u.size; omega
  clear u
  clear Rg
  go_wp2_with fail
  refine (heldS_k Rm.rd (k := 1) rfl HK0.out hk0).mono ?_
  rintro e w12 ⟨rfl, u⟩
  replace Rw := Rw.upd u (by omega)
  replace Rm := Rm.upd u (by omega)
  replace hb := u.below hb (by omega) (by omega)
  obtain ⟨S12, hS12⟩ : ∃ S, w12.heap.size = S := ⟨_, rfl⟩
  have hz12 : S11 ≤ S12 := by have := u.size; omega
  clear u
  go_wp2_with fail
  refine (toP_k (hr0.below hb hB) (by omega) hS12).mono ?_
  rintro e w13 ⟨uz0, rfl, Oz0, u⟩
  replace Rw := Rw.upd u (by omega)
  replace Rm := Rm.upd u (by omega)
  replace hb := u.below hb (by omega) (by omega)
  obtain ⟨S13, hS13⟩ : ∃ S, w13.heap.size = S := ⟨_, rfl⟩
  have hz13 : S12 ≤ S13 := by have := u.size; omega
  clear u
  rw [hS13] at Oz0
  obtain ⟨az0, dz0, rfl⟩ := Oz0.shape
  go_wp2_with fail
  refine (Hi.out (by omega) _ _ (ht.keep hb hTB) Oz0.rd).mono ?_
  rintro e w14 ⟨uh0, rfl, G, u⟩
  replace u := Upd.of_below u
  replace Rw := Rw.upd u (by omega)
  replace Rm := Rm.upd u (by omega)
  replace Oz0 := Oz0.upd u (by omega)
  replace hb := u.below hb (by omega) (by omega)
  obtain ⟨S14, hS14⟩ : ∃ S, w14.heap.size = S := ⟨_, rfl⟩
  have hz14 : S13 ≤ S14 := by have := u.size; omega
  clear u
  have Rh := OwS.of G hS13 hS14
  clear G
  obtain ⟨ah, dh, rfl⟩ := Rh.shape
  go_wp2_with fail
  refine (eqS_k Rh.rd Rw.rd).mono ?_
  rintro e w15 ⟨rfl, u⟩
  replace Rw := Rw.upd u (by omega)
  replace Rm := Rm.upd u (by omega)
  replace Oz0 := Oz0.upd u (by omega)
  replace Rh := Rh.upd u (by omega)
  replace hb := u.below hb (by omega) (by omega)
  obtain ⟨S15, hS15⟩ : ∃ S, w15.heap.size = S := ⟨_, rfl⟩
  have hz15 : S14 ≤ S15 := by have := u.size; omega
  clear u
  go_wp2_with fail
  refine (heldS_k Rm.rd (k := 1) rfl HK0.out hk0).mono ?_
  rintro e w16 ⟨rfl, u⟩
  replace Rw := Rw.upd u (by omega)
  replace Rm := Rm.upd u (by omega)
  replace Oz0 := Oz0.upd u (by omega)
  replace Rh := Rh.upd u (by omega)
  replace hb := u.below hb (by omega) (by omega)
  obtain ⟨S16, hS16⟩ : ∃ S, w16.heap.size = S := ⟨_, rfl⟩
  have hz16 : S15 ≤ S16 := by have := u.size; omega
  clear u
  go_wp2_with fail
  go_ret
  exact ⟨rfl, by rw [hB]; exact hb⟩
end Go.Proofs.YtpfhflkpnjkgkaaDoor
