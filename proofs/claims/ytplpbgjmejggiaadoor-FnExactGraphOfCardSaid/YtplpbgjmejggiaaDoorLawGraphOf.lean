/-
  The law of 'GraphOf': it returns true where reference and program return the like.
-/
import Derived.Test.YtplpbgjmejggiaaDoorKinds
namespace Go.Proofs.YtplpbgjmejggiaaDoor
open Go.RowKit

set_option maxHeartbeats 4000000 in
set_option maxRecDepth 100000 in
theorem coreGraphOf (n0 : Int) (v1 : Value) (xss1 : List (List Int)) (rows0 : List (List Int)) (ok1 : Bool) (hk0 : 1 + total rows0 ≤ 1000000000) (hn0 : rows0.length ≤ 1000000000) 
    (hs : ∀ (w : World) (v1 : Value), Tab w → RdSS v1 xss1 w → Calls Tryd.prog 31 #[.int .i64 n0, v1] w (GRes w rows0 ok1))
    (hi : ∀ (w : World) (v1 : Value), Tab w → RdSS v1 xss1 w → Calls Tryd.prog 33 #[.int .i64 n0, v1] w (GRes w rows0 ok1))
    (w : World) (ht : Tab w) (hr1 : RdSS v1 xss1 w) :
    Calls Tryd.prog 6 #[.int .i64 n0, v1] w fun e w' => e = .returned (.bool true) ∧ Below w.heap.size w w' := by
  obtain ⟨a1, c1, rfl⟩ := hr1.shape
  have hl1 : xss1.length ≤ maxLen := (let ⟨_, h⟩ := hr1.ex; by have := h.outer.len; have := h.len; simp at *; omega)
  unfold maxLen at hl1
  obtain ⟨B, hB⟩ : ∃ B, w.heap.size = B := ⟨_, rfl⟩
  have hTB : 0 < B := by rw [← hB]; exact ht.lt
  have hq1 : (ok1 != ok1) = false := by simp
  have Hs := Lib.hid hs
  have Hi := Lib.hid hi
  clear hs hi
  obtain ⟨K0, hK0⟩ : ∃ K : Int, K = ((1 + total rows0 : Nat) : Int) := ⟨_, rfl⟩
  have hKp0 : 0 ≤ K0 := by omega
  have hKl0 : K0 ≤ 1000000000 := by omega
  have hKn0 : (K0 != K0) = false := by simp
  have HK0 := Lib.hid hK0
  clear hK0
  have hb : Below B w w := Below.refl _ _
  have hS0 : w.heap.size = B := hB
  go_enter Tryd.func6, Tryd.ntmps6
  go_wp2_with fail
  refine (szSS_k (hr1.below hb hB) (by omega) (by omega)).mono ?_
  rintro e w1 ⟨r1, rfl, hr, u⟩
  replace hb := u.below hb (by omega) (by omega)
  obtain ⟨S1, hS1⟩ : ∃ S, w1.heap.size = S := ⟨_, rfl⟩
  have hz1 : B ≤ S1 := by have := u.size; omega
  clear u
  rcases hr with rfl | ⟨hlf0, hlf1⟩
  · go_wp2_with fail
    go_ret
    exact ⟨rfl, by rw [hB]; exact hb⟩
  have hrl1 : r1 ≤ 1048576 := by omega
  have ht1 : xss1.length + total xss1 ≤ 1048576 := by omega
  clear hlf1
  have HL1 := Lib.hid (fun xs (h : xs ∈ xss1) => Nat.le_trans (len_le_total h) (show total xss1 ≤ 1048576 by omega))
  go_wp2_with fail
  refine (toSS_k (hr1.below hb hB) (by omega) HL1.out hS1).mono ?_
  rintro e w2 ⟨us1, rfl, Os1, u⟩
  replace hb := u.below hb (by omega) (by omega)
  obtain ⟨S2, hS2⟩ : ∃ S, w2.heap.size = S := ⟨_, rfl⟩
  have hz2 : S1 ≤ S2 := by have := u.size; omega
  clear u
  rw [hS2] at Os1
  obtain ⟨as1, ds1, rfl⟩ := Os1.shape
  go_wp2_with fail
  refine (Hs.out _ _ (ht.keep hb hTB) Os1.rd).mono ?_
  rintro e w3 ⟨uw0, vs, rfl, G, u⟩
  replace u := Upd.of_below u
  replace Os1 := Os1.upd u (by omega)
  replace hb := u.below hb (by omega) (by omega)
  obtain ⟨S3, hS3⟩ : ∃ S, w3.heap.size = S := ⟨_, rfl⟩
  have hz3 : S2 ≤ S3 := by have := u.size; omega
  clear u
  have Rw := OwSS.of G hS2 hS3
  clear G
  obtain ⟨aw, dw, rfl⟩ := Rw.shape
  have u := Upd.alloc w3 (.cells #[.slice aw rows0.length dw] 35)
  have Vw : VC 35 (S3) #[.slice aw rows0.length dw] (w3.alloc (.cells #[.slice aw rows0.length dw] 35)) := VC.new hS3
  replace Os1 := Os1.upd u (by omega)
  replace Rw := Rw.upd u (by omega)
  replace hb := u.below hb (by omega) (by omega)
  have hS4 : (w3.alloc (.cells #[.slice aw rows0.length dw] 35)).heap.size = S3 + 1 := by simp [hS3]
  clear u
  have cVw := Vw.cell
  go_wp2_with fail
  generalize w3.alloc (.cells #[.slice aw rows0.length dw] 35) = W4 at *
  clear Os1
  refine (toSS_k (hr1.below hb hB) (by omega) HL1.out hS4).mono ?_
  rintro e w5 ⟨ux1, rfl, Ox1, u⟩
  clear cVw
  replace Rw := Rw.upd u (by omega)
  replace Vw := Vw.upd u (by omega)
  replace hb := u.below hb (by omega) (by omega)
  obtain ⟨S5, hS5⟩ : ∃ S, w5.heap.size = S := ⟨_, rfl⟩
  have hz5 : S3 + 1 ≤ S5 := by have := u.size; omega
  clear u
  rw [hS5] at Ox1
  obtain ⟨ax1, dx1, rfl⟩ := Ox1.shape
  have cVw := Vw.cell
  go_wp2_with fail
  refine (Hi.out _ _ (ht.keep hb hTB) Ox1.rd).mono ?_
  rintro e w6 ⟨ug0, vs, rfl, G, u⟩
  replace u := Upd.of_below u
  clear cVw
  replace Rw := Rw.upd u (by omega)
  replace Vw := Vw.upd u (by omega)
  replace Ox1 := Ox1.upd u (by omega)
  replace hb := u.below hb (by omega) (by omega)
  obtain ⟨S6, hS6⟩ : ∃ S, w6.heap.size = S := ⟨_, rfl⟩
  have hz6 : S5 ≤ S6 := by have := u.size; omega
  clear u
  have Rg := OwSS.of G hS5 hS6
  clear G
  obtain ⟨ag, dg, rfl⟩ := Rg.shape
  have u := Upd.alloc w6 (.cells #[.slice ag rows0.length dg] 35)
  have Vg : VC 35 (S6) #[.slice ag rows0.length dg] (w6.alloc (.cells #[.slice ag rows0.length dg] 35)) := VC.new hS6
  replace Rw := Rw.upd u (by omega)
  replace Vw := Vw.upd u (by omega)
  replace Ox1 := Ox1.upd u (by omega)
  replace Rg := Rg.upd u (by omega)
  replace hb := u.below hb (by omega) (by omega)
  have hS7 : (w6.alloc (.cells #[.slice ag rows0.length dg] 35)).heap.size = S6 + 1 := by simp [hS6]
  clear u
  have cVw := Vw.cell
  have cVg := Vg.cell
  go_wp2_with fail
  generalize w6.alloc (.cells #[.slice ag rows0.length dg] 35) = W7 at *
  refine (eqG_k Rg.rd Rw.rd).mono ?_
  rintro e w8 ⟨rfl, u⟩
  clear cVw cVg
  replace Rw := Rw.upd u (by omega)
  replace Vw := Vw.upd u (by omega)
  replace Ox1 := Ox1.upd u (by omega)
  replace Rg := Rg.upd u (by omega)
  replace Vg := Vg.upd u (by omega)
  replace hb := u.below hb (by omega) (by omega)
  obtain ⟨S8, hS8⟩ : ∃ S, w8.heap.size = S := ⟨_, rfl⟩
  have hz8 : S6 + 1 ≤ S8 := by have := u.size; omega
  clear u
  have cVw := Vw.cell
  have cVg := Vg.cell
  go_wp2_with fail
  refine (toSS_k (hr1.below hb hB) (by omega) HL1.out hS8).mono ?_
  rintro e w9 ⟨uy1, rfl, Oy1, u⟩
  clear cVw cVg
  replace Rw := Rw.upd u (by omega)
  replace Vw := Vw.upd u (by omega)
  replace Ox1 := Ox1.upd u (by omega)
  replace Rg := Rg.upd u (by omega)
  replace Vg := Vg.upd u (by omega)
  replace hb := u.below hb (by omega) (by omega)
  obtain ⟨S9, hS9⟩ : ∃ S, w9.heap.size = S := ⟨_, rfl⟩
  have hz9 : S8 ≤ S9 := by have := u.size; omega
  clear u
  rw [hS9] at Oy1
  obtain ⟨ay1, dy1, rfl⟩ := Oy1.shape
  have cVw := Vw.cell
  have cVg := Vg.cell
  go_wp2_with fail
  refine (eqSS_k Ox1.rd Oy1.rd).mono ?_
  rintro e w10 ⟨rfl, u⟩
  clear cVw cVg
  replace Rw := Rw.upd u (by omega)
  replace Vw := Vw.upd u (by omega)
  replace Ox1 := Ox1.upd u (by omega)
  replace Rg := Rg.upd u (by omega)
  replace Vg := Vg.upd u (by omega)
  replace Oy1 := Oy1.upd u (by omega)
  replace hb := u.below hb (by omega) (by omega)
  obtain ⟨S10, hS10⟩ : ∃ S, w10.heap.size = S := ⟨_, rfl⟩
  have hz10 : S9 ≤ S10 := by have := u.size; omega
  clear u
  have cVw := Vw.cell
  have cVg := Vg.cell
  go_wp2_with fail
  clear Oy1
  obtain ⟨J1, hJ1⟩ : ∃ K : Int, K = ((1 + total xss1 : Nat) : Int) := ⟨_, rfl⟩
  have hJp1 : 0 ≤ J1 := by omega
  have hJl1 : J1 ≤ 1000000000 := by omega
  have HJ1 := Lib.hid hJ1
  clear hJ1
  refine (markSS_k Ox1 (k := 1) rfl HJ1.out (by omega) (by omega)).mono ?_
  rintro e w11 ⟨rfl, Ox1', u⟩
  clear cVw cVg
  replace Rw := Rw.upd u (by omega)
  replace Vw := Vw.upd u (by omega)
  replace Rg := Rg.upd u (by omega)
  replace Vg := Vg.upd u (by omega)
  replace hb := u.below hb (by omega) (by omega)
  obtain ⟨S11, hS11⟩ : ∃ S, w11.heap.size = S := ⟨_, rfl⟩
  have hz11 : S10 ≤ S11 := by have := u.size; omega
  clear u
  clear Ox1
  clear Ox1'
  have cVw := Vw.cell
  have cVg := Vg.cell
  go_wp2_with fail
  refine (eqG_k Rg.rd Rw.rd).mono ?_
  rintro e w12 ⟨rfl, u⟩
  clear cVw cVg
  replace Rw := Rw.upd u (by omega)
  replace Vw := Vw.upd u (by omega)
  replace Rg := Rg.upd u (by omega)
  replace Vg := Vg.upd u (by omega)
  replace hb := u.below hb (by omega) (by omega)
  obtain ⟨S12, hS12⟩ : ∃ S, w12.heap.size = S := ⟨_, rfl⟩
  have hz12 : S11 ≤ S12 := by have := u.size; omega
  clear u
  have cVw := Vw.cell
  have cVg := Vg.cell
  go_wp2_with fail
  refine (markG_k Rg (k := 1) rfl HK0.out hk0 hn0).mono ?_
  rintro e w13 ⟨rfl, Rm, u⟩
  clear cVw cVg
  replace Rw := Rw.upd u (by omega)
  replace Vw := Vw.upd u (by omega)
  replace Vg := Vg.upd u (by omega)
  replace hb := u.below hb (by omega) (by omega)
  obtain ⟨S13, hS13⟩ : ∃ S, w13.heap.size = S := ⟨_, rfl⟩
  have hz13 : S12 ≤ S13 := by have := u.size; omega
  clear u
  clear Rg
  have cVw := Vw.cell
  have cVg := Vg.cell
  go_wp2_with fail
  refine (heldG_k Rm.rd (k := 1) rfl HK0.out hk0 hn0).mono ?_
  rintro e w14 ⟨rfl, u⟩
  clear cVw cVg
  replace Rw := Rw.upd u (by omega)
  replace Vw := Vw.upd u (by omega)
  replace Vg := Vg.upd u (by omega)
  replace Rm := Rm.upd u (by omega)
  replace hb := u.below hb (by omega) (by omega)
  obtain ⟨S14, hS14⟩ : ∃ S, w14.heap.size = S := ⟨_, rfl⟩
  have hz14 : S13 ≤ S14 := by have := u.size; omega
  clear u
  have cVw := Vw.cell
  have cVg := Vg.cell
  go_wp2_with fail
  refine (toSS_k (hr1.below hb hB) (by omega) HL1.out hS14).mono ?_
  rintro e w15 ⟨uz1, rfl, Oz1, u⟩
  clear cVw cVg
  replace Rw := Rw.upd u (by omega)
  replace Vw := Vw.upd u (by omega)
  replace Vg := Vg.upd u (by omega)
  replace Rm := Rm.upd u (by omega)
  replace hb := u.below hb (by omega) (by omega)
  obtain ⟨S15, hS15⟩ : ∃ S, w15.heap.size = S := ⟨_, rfl⟩
  have hz15 : S14 ≤ S15 := by have := u.size; omega
  clear u
  rw [hS15] at Oz1
  obtain ⟨az1, dz1, rfl⟩ := Oz1.shape
  have cVw := Vw.cell
  have cVg := Vg.cell
  go_wp2_with fail
  refine (Hi.out _ _ (ht.keep hb hTB) Oz1.rd).mono ?_
  rintro e w16 ⟨uh0, vs, rfl, G, u⟩
  replace u := Upd.of_below u
  clear cVw cVg
  replace Rw := Rw.upd u (by omega)
  replace Vw := Vw.upd u (by omega)
  replace Vg := Vg.upd u (by omega)
  replace Rm := Rm.upd u (by omega)
  replace Oz1 := Oz1.upd u (by omega)
  replace hb := u.below hb (by omega) (by omega)
  obtain ⟨S16, hS16⟩ : ∃ S, w16.heap.size = S := ⟨_, rfl⟩
  have hz16 : S15 ≤ S16 := by have := u.size; omega
  clear u
  have Rh := OwSS.of G hS15 hS16
  clear G
  obtain ⟨ah, dh, rfl⟩ := Rh.shape
  have u := Upd.alloc w16 (.cells #[.slice ah rows0.length dh] 35)
  have Vh : VC 35 (S16) #[.slice ah rows0.length dh] (w16.alloc (.cells #[.slice ah rows0.length dh] 35)) := VC.new hS16
  replace Rw := Rw.upd u (by omega)
  replace Vw := Vw.upd u (by omega)
  replace Vg := Vg.upd u (by omega)
  replace Rm := Rm.upd u (by omega)
  replace Oz1 := Oz1.upd u (by omega)
  replace Rh := Rh.upd u (by omega)
  replace hb := u.below hb (by omega) (by omega)
  have hS17 : (w16.alloc (.cells #[.slice ah rows0.length dh] 35)).heap.size = S16 + 1 := by simp [hS16]
  clear u
  have cVw := Vw.cell
  have cVg := Vg.cell
  have cVh := Vh.cell
  go_wp2_with fail
  generalize w16.alloc (.cells #[.slice ah rows0.length dh] 35) = W17 at *
  refine (eqG_k Rh.rd Rw.rd).mono ?_
  rintro e w18 ⟨rfl, u⟩
  clear cVw cVg cVh
  replace Rw := Rw.upd u (by omega)
  replace Vw := Vw.upd u (by omega)
  replace Vg := Vg.upd u (by omega)
  replace Rm := Rm.upd u (by omega)
  replace Oz1 := Oz1.upd u (by omega)
  replace Rh := Rh.upd u (by omega)
  replace Vh := Vh.upd u (by omega)
  replace hb := u.below hb (by omega) (by omega)
  obtain ⟨S18, hS18⟩ : ∃ S, w18.heap.size = S := ⟨_, rfl⟩
  have hz18 : S16 + 1 ≤ S18 := by have := u.size; omega
  clear u
  have cVw := Vw.cell
  have cVg := Vg.cell
  have cVh := Vh.cell
  go_wp2_with fail
  refine (heldG_k Rm.rd (k := 1) rfl HK0.out hk0 hn0).mono ?_
  rintro e w19 ⟨rfl, u⟩
  clear cVw cVg cVh
  replace Rw := Rw.upd u (by omega)
  replace Vw := Vw.upd u (by omega)
  replace Vg := Vg.upd u (by omega)
  replace Rm := Rm.upd u (by omega)
  replace Oz1 := Oz1.upd u (by omega)
  replace Rh := Rh.upd u (by omega)
  replace Vh := Vh.upd u (by omega)
  replace hb := u.below hb (by omega) (by omega)
  obtain ⟨S19, hS19⟩ : ∃ S, w19.heap.size = S := ⟨_, rfl⟩
  have hz19 : S18 ≤ S19 := by have := u.size; omega
  clear u
  have cVw := Vw.cell
  have cVg := Vg.cell
  have cVh := Vh.cell
  go_wp2_with fail
  go_ret
  exact ⟨rfl, by rw [hB]; exact hb⟩
end Go.Proofs.YtplpbgjmejggiaaDoor
