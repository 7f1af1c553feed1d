import Derived.Test.YtpfhflkpnjkgkaaDoorGq05
/-
  The law of 'ThinnestFirst': it returns true where reference and program return the like.
-/

namespace Go.Proofs.YtpfhflkpnjkgkaaDoor
open Go.RowKit

set_option maxHeartbeats 4000000 in
set_option maxRecDepth 100000 in
theorem coreThinnestFirst (v0 : Value) (xss0 : List (List Int)) (row0 : List Int) (hk0 : 1 + row0.length ≤ 1000000000) 
    (hs : ∀ (w : World) (v0 : Value), Tab w → RdSS v0 xss0 w → Calls Tryd.prog 15 #[.agg #[v0]] w (SRes w row0))
    (hi : ∀ (w : World) (v0 : Value), Tab w → RdSS v0 xss0 w → Calls Tryd.prog 17 #[.agg #[v0]] w (SRes w row0))
    (w : World) (ht : Tab w) (hr0 : RdSS v0 xss0 w) :
    Calls Tryd.prog 4 #[.agg #[v0]] w fun e w' => e = .returned (.bool true) ∧ Below w.heap.size w w' := by
  obtain ⟨a0, c0, rfl⟩ := hr0.shape
  have hl0 : xss0.length ≤ maxLen := (let ⟨_, h⟩ := hr0.ex; by have := h.outer.len; have := h.len; simp at *; omega)
  unfold maxLen at hl0
  obtain ⟨B, hB⟩ : ∃ B, w.heap.size = B := ⟨_, rfl⟩
  have hTB : 0 < B := by rw [← hB]; exact ht.lt
  have Hs := Lib.hid hs
  have Hi := Lib.hid hi
  clear hs hi
  obtain ⟨K0, hK0⟩ : ∃ K : Int, K = ((1 + row0.length : Nat) : Int) := ⟨_, rfl⟩
  have hKp0 : 0 ≤ K0 := by omega
  have hKl0 : K0 ≤ 1000000000 := by omega
  have hKn0 : (K0 != K0) = false := by simp
  have HK0 := Lib.hid hK0
  clear hK0
  have hb : Below B w w := Below.refl _ _
  have hS0 : w.heap.size = B := hB
  have u := Upd.alloc w (.cells #[.slice a0 xss0.length c0] 35)
  have A0 : VC 35 (B) #[.slice a0 xss0.length c0] (w.alloc (.cells #[.slice a0 xss0.length c0] 35)) := VC.new hS0
  replace hb := u.below hb (by omega) (by omega)
  replace hS0 : (w.alloc (.cells #[.slice a0 xss0.length c0] 35)).heap.size = B + 1 := by simp [hS0]
  clear u
  have cA0 := A0.cell
  go_enter Tryd.func4, Tryd.ntmps4
  go_wp2_with fail
  generalize (w.alloc (.cells #[.slice a0 xss0.length c0] 35)) = W0 at *
  refine (szG_k (hr0.below hb hB) (by omega) (by omega)).mono ?_
  rintro e w1 ⟨r0, rfl, hr, u⟩
  clear cA0
  replace A0 := A0.upd u (by omega)
  replace hb := u.below hb (by omega) (by omega)
  obtain ⟨S1, hS1⟩ : ∃ S, w1.heap.size = S := ⟨_, rfl⟩
  have hz1 : B + 1 ≤ S1 := by have := u.size; omega
  clear u
  rcases hr with rfl | ⟨hlf0, hlf1⟩
  · go_wp2_with fail
    go_ret
    exact ⟨rfl, by rw [hB]; exact hb⟩
  have hrl0 : r0 ≤ 1048576 := by omega
  have ht0 : xss0.length + total xss0 ≤ 1048576 := by omega
  clear hlf1
  have HL0 := Lib.hid (fun xs (h : xs ∈ xss0) => Nat.le_trans (len_le_total h) (show total xss0 ≤ 1048576 by omega))
  have cA0 := A0.cell
  go_wp2_with fail
  refine (toG_k (hr0.below hb hB) (by omega) HL0.out hS1).mono ?_
  rintro e w2 ⟨us0, rfl, Os0, u⟩
  clear cA0
  replace A0 := A0.upd u (by omega)
  replace hb := u.below hb (by omega) (by omega)
  obtain ⟨S2, hS2⟩ : ∃ S, w2.heap.size = S := ⟨_, rfl⟩
  have hz2 : S1 ≤ S2 := by have := u.size; omega
  clear u
  rw [hS2] at Os0
  obtain ⟨as0, ds0, rfl⟩ := Os0.shape
  have cA0 := A0.cell
  go_wp2_with fail
  refine (Hs.out _ _ (ht.keep hb hTB) Os0.rd).mono ?_
  rintro e w3 ⟨uw0, rfl, G, u⟩
  replace u := Upd.of_below u
  clear cA0
  replace A0 := A0.upd u (by omega)
  replace Os0 := Os0.upd u (by omega)
  replace hb := u.below hb (by omega) (by omega)
  obtain ⟨S3, hS3⟩ : ∃ S, w3.heap.size = S := ⟨_, rfl⟩
  have hz3 : S2 ≤ S3 := by have := u.size; omega
  clear u
  have Rw := OwS.of G hS2 hS3
  clear G
  obtain ⟨aw, dw, rfl⟩ := Rw.shape
  have cA0 := A0.cell
  go_wp2_with fail
  clear Os0
  refine (toG_k (hr0.below hb hB) (by omega) HL0.out hS3).mono ?_
  rintro e w4 ⟨ux0, rfl, Ox0, u⟩
  clear cA0
  replace A0 := A0.upd u (by omega)
  replace Rw := Rw.upd u (by omega)
  replace hb := u.below hb (by omega) (by omega)
  obtain ⟨S4, hS4⟩ : ∃ S, w4.heap.size = S := ⟨_, rfl⟩
  have hz4 : S3 ≤ S4 := by have := u.size; omega
  clear u
  rw [hS4] at Ox0
  obtain ⟨ax0, dx0, rfl⟩ := Ox0.shape
  have u := Upd.alloc w4 (.cells #[.slice ax0 xss0.length dx0] 38)
  have X0 : VC 38 (S4) #[.slice ax0 xss0.length dx0] (w4.alloc (.cells #[.slice ax0 xss0.length dx0] 38)) := VC.new hS4
  replace A0 := A0.upd u (by omega)
  replace Rw := Rw.upd u (by omega)
  replace Ox0 := Ox0.upd u (by omega)
  replace hb := u.below hb (by omega) (by omega)
  have hS5 : (w4.alloc (.cells #[.slice ax0 xss0.length dx0] 38)).heap.size = S4 + 1 := by simp [hS4]
  clear u
  have cA0 := A0.cell
  have cX0 := X0.cell
  go_wp2_with fail
  generalize w4.alloc (.cells #[.slice ax0 xss0.length dx0] 38) = W5 at *
  refine (Hi.out _ _ (ht.keep hb hTB) Ox0.rd).mono ?_
  rintro e w6 ⟨ug0, rfl, G, u⟩
  replace u := Upd.of_below u
  clear cA0 cX0
  replace A0 := A0.upd u (by omega)
  replace Rw := Rw.upd u (by omega)
  replace Ox0 := Ox0.upd u (by omega)
  replace X0 := X0.upd u (by omega)
  replace hb := u.below hb (by omega) (by omega)
  obtain ⟨S6, hS6⟩ : ∃ S, w6.heap.size = S := ⟨_, rfl⟩
  have hz6 : S4 + 1 ≤ S6 := by have := u.size; omega
  clear u
  have Rg := OwS.of G hS5 hS6
  clear G
  obtain ⟨ag, dg, rfl⟩ := Rg.shape
  have cA0 := A0.cell
  have cX0 := X0.cell
  go_wp2_with fail
  refine (eqS_k Rg.rd Rw.rd).mono ?_
  rintro e w7 ⟨rfl, u⟩
  clear cA0 cX0
  replace A0 := A0.upd u (by omega)
  replace Rw := Rw.upd u (by omega)
  replace Ox0 := Ox0.upd u (by omega)
  replace X0 := X0.upd u (by omega)
  replace Rg := Rg.upd u (by omega)
  replace hb := u.below hb (by omega) (by omega)
  obtain ⟨S7, hS7⟩ : ∃ S, w7.heap.size = S := ⟨_, rfl⟩
  have hz7 : S6 ≤ S7 := by have := u.size; omega
  clear u
  have cA0 := A0.cell
  have cX0 := X0.cell
  go_wp2_with fail
  refine wp_region_ord [] [0, 1] [2] [3, 4] (by kernel_rfl) (by kernel_rfl) (fun _ _ d _ _ h => by cases d <;> exact h) ?_
  simp only [pickOps, List.filterMap_cons, List.filterMap_nil, List.getElem?_cons_succ, List.getElem?_cons_zero]
  repeat quiet_step (fail)
  refine wpSegs_cons ?_
  clear cA0 cX0
  have u := Upd.drew w7
  replace A0 := A0.upd u (by omega)
  replace Rw := Rw.upd u (by omega)
  replace Ox0 := Ox0.upd u (by omega)
  replace X0 := X0.upd u (by omega)
  replace Rg := Rg.upd u (by omega)
  replace hb := u.below hb (by omega) (by omega)
  clear u
  have hS8 : w7.drew.heap.size = S7 := hS7
  have cA0 := A0.cell
  have cX0 := X0.cell
  go_wp2_with fail
  refine (toG_k (hr0.below hb hB) (by omega) HL0.out hS8).mono ?_
  rintro e w9 ⟨uy0, rfl, Oy0, u⟩
  have HB : Hid (Below w7.heap.size w7 w9) := Lib.hid ⟨u.os, u.tape, u.output, u.size, fun k hk => u.block k hk (by omega)⟩
  clear cA0 cX0
  replace A0 := A0.upd u (by omega)
  replace Rw := Rw.upd u (by omega)
  replace Ox0 := Ox0.upd u (by omega)
  replace X0 := X0.upd u (by omega)
  replace Rg := Rg.upd u (by omega)
  replace hb := u.below hb (by omega) (by omega)
  obtain ⟨S9, hS9⟩ : ∃ S, w9.heap.size = S := ⟨_, rfl⟩
  have hz9 : S7 ≤ S9 := by have := u.size; omega
  clear u
  rw [hS9] at Oy0
  obtain ⟨ay0, dy0, rfl⟩ := Oy0.shape
  have cA0 := A0.cell
  have cX0 := X0.cell
  go_wp2_with fail
  refine ⟨(by have h := HB.out; first | exact h | (rw [hS7] at h; exact h)), ?_⟩
  simp only [wpSegs_nil_eq]
  go_wp2_with fail
  clear HB
  refine (eqG_k Ox0.rd Oy0.rd).mono ?_
  rintro e w10 ⟨rfl, u⟩
  clear cA0 cX0
  replace A0 := A0.upd u (by omega)
  replace Rw := Rw.upd u (by omega)
  replace Ox0 := Ox0.upd u (by omega)
  replace X0 := X0.upd u (by omega)
  replace Rg := Rg.upd u (by omega)
  replace Oy0 := Oy0.upd u (by omega)
  replace hb := u.below hb (by omega) (by omega)
  obtain ⟨S10, hS10⟩ : ∃ S, w10.heap.size = S := ⟨_, rfl⟩
  have hz10 : S9 ≤ S10 := by have := u.size; omega
  clear u
  have cA0 := A0.cell
  have cX0 := X0.cell
  go_wp2_with fail
  clear Oy0
  obtain ⟨J0, hJ0⟩ : ∃ K : Int, K = ((1 + total xss0 : Nat) : Int) := ⟨_, rfl⟩
  have hJp0 : 0 ≤ J0 := by omega
  have hJl0 : J0 ≤ 1000000000 := by omega
  have HJ0 := Lib.hid hJ0
  clear hJ0
  refine (markG_k Ox0 (k := 1) rfl HJ0.out (by omega) (by omega)).mono ?_
  rintro e w11 ⟨rfl, Ox0', u⟩
  clear cA0 cX0
  replace A0 := A0.upd u (by omega)
  replace Rw := Rw.upd u (by omega)
  replace X0 := X0.upd u (by omega)
  replace Rg := Rg.upd u (by omega)
  replace hb := u.below hb (by omega) (by omega)
  obtain ⟨S11, hS11⟩ : ∃ S, w11.heap.size = S := ⟨_, rfl⟩
  have hz11 : S10 ≤ S11 := by have := u.size; omega
  clear u
  clear Ox0
  clear Ox0'
  have cA0 := A0.cell
  have cX0 := X0.cell
  go_wp2_with fail
  refine (eqS_k Rg.rd Rw.rd).mono ?_
  rintro e w12 ⟨rfl, u⟩
  clear cA0 cX0
  replace A0 := A0.upd u (by omega)
  replace Rw := Rw.upd u (by omega)
  replace X0 := X0.upd u (by omega)
  replace Rg := Rg.upd u (by omega)
  replace hb := u.below hb (by omega) (by omega)
  obtain ⟨S12, hS12⟩ : ∃ S, w12.heap.size = S := ⟨_, rfl⟩
  have hz12 : S11 ≤ S12 := by have := u.size; omega
  clear u
  have cA0 := A0.cell
  have cX0 := X0.cell
  go_wp2_with fail
  clear cX0 X0
  refine (markS_k Rg (k := 1) rfl HK0.out hk0).mono ?_
  rintro e w13 ⟨rfl, Rm, u⟩
  clear cA0
  replace A0 := A0.upd u (by omega)
  replace Rw := Rw.upd u (by omega)
  replace hb := u.below hb (by omega) (by omega)
  obtain ⟨S13, hS13⟩ : ∃ S, w13.heap.size = S := ⟨_, rfl⟩
  have hz13 : S12 ≤ S13 := by have := u.size; omega
  clear u
  clear Rg
  have cA0 := A0.cell
  go_wp2_with fail
  refine (heldS_k Rm.rd (k := 1) rfl HK0.out hk0).mono ?_
  rintro e w14 ⟨rfl, u⟩
  clear cA0
  replace A0 := A0.upd u (by omega)
  replace Rw := Rw.upd u (by omega)
  replace Rm := Rm.upd u (by omega)
  replace hb := u.below hb (by omega) (by omega)
  obtain ⟨S14, hS14⟩ : ∃ S, w14.heap.size = S := ⟨_, rfl⟩
  have hz14 : S13 ≤ S14 := by have := u.size; omega
  clear u
  have cA0 := A0.cell
  go_wp2_with fail
  refine (toG_k (hr0.below hb hB) (by omega) HL0.out hS14).mono ?_
  rintro e w15 ⟨uz0, rfl, Oz0, u⟩
  clear cA0
  replace A0 := A0.upd u (by omega)
  replace Rw := Rw.upd u (by omega)
  replace Rm := Rm.upd u (by omega)
  replace hb := u.below hb (by omega) (by omega)
  obtain ⟨S15, hS15⟩ : ∃ S, w15.heap.size = S := ⟨_, rfl⟩
  have hz15 : S14 ≤ S15 := by have := u.size; omega
  clear u
  rw [hS15] at Oz0
  obtain ⟨az0, dz0, rfl⟩ := Oz0.shape
  have cA0 := A0.cell
  go_wp2_with fail
  refine (Hi.out _ _ (ht.keep hb hTB) Oz0.rd).mono ?_
  rintro e w16 ⟨uh0, rfl, G, u⟩
  replace u := Upd.of_below u
  clear cA0
  replace A0 := A0.upd u (by omega)
  replace Rw := Rw.upd u (by omega)
  replace Rm := Rm.upd u (by omega)
  replace Oz0 := Oz0.upd u (by omega)
  replace hb := u.below hb (by omega) (by omega)
  obtain ⟨S16, hS16⟩ : ∃ S, w16.heap.size = S := ⟨_, rfl⟩
  have hz16 : S15 ≤ S16 := by have := u.size; omega
  clear u
  have Rh := OwS.of G hS15 hS16
  clear G
  obtain ⟨ah, dh, rfl⟩ := Rh.shape
  have cA0 := A0.cell
  go_wp2_with fail
  refine (eqS_k Rh.rd Rw.rd).mono ?_
  rintro e w17 ⟨rfl, u⟩
  clear cA0
  replace A0 := A0.upd u (by omega)
  replace Rw := Rw.upd u (by omega)
  replace Rm := Rm.upd u (by omega)
  replace Oz0 := Oz0.upd u (by omega)
  replace Rh := Rh.upd u (by omega)
  replace hb := u.below hb (by omega) (by omega)
  obtain ⟨S17, hS17⟩ : ∃ S, w17.heap.size = S := ⟨_, rfl⟩
  have hz17 : S16 ≤ S17 := by have := u.size; omega
  clear u
  have cA0 := A0.cell
  go_wp2_with fail
  refine (heldS_k Rm.rd (k := 1) rfl HK0.out hk0).mono ?_
  rintro e w18 ⟨rfl, u⟩
  clear cA0
  replace A0 := A0.upd u (by omega)
  replace Rw := Rw.upd u (by omega)
  replace Rm := Rm.upd u (by omega)
  replace Oz0 := Oz0.upd u (by omega)
  replace Rh := Rh.upd u (by omega)
  replace hb := u.below hb (by omega) (by omega)
  obtain ⟨S18, hS18⟩ : ∃ S, w18.heap.size = S := ⟨_, rfl⟩
  have hz18 : S17 ≤ S18 := by have := u.size; omega
  clear u
  have cA0 := A0.cell
  go_wp2_with fail
  go_ret
  exact ⟨rfl, by rw [hB]; exact hb⟩
end Go.Proofs.YtpfhflkpnjkgkaaDoor
