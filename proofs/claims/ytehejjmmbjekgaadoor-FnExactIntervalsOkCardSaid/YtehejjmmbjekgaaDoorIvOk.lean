/-
  'IntervalsOk' of the reference and of the program; both.
-/
import Derived.Test.YtehejjmmbjekgaaDoorIvJ
import Derived.Test.YtehejjmmbjekgaaDoorSameG
import Derived.Test.YtehejjmmbjekgaaDoorOrder2
namespace Go.Proofs.YtehejjmmbjekgaaDoor
open Go.RowKit

def ivOkB (xss : List (List Int)) (L : List (Int × Int)) : Bool := okB xss && (okI L && sameB xss (rowsB L.length (adjI L)))
theorem ivOk_impl (xss : List (List Int)) (L : List (Int × Int)) : ivOkB xss L = (okI L && sameB xss (rowsB L.length (adjI L))) := by
  unfold ivOkB sameB
  cases okB xss <;> cases okI L <;> rfl

attribute [local irreducible] wpQuiet
set_option maxHeartbeats 4000000 in
theorem specIntervalsOk (v1 : Value) (xss : List (List Int)) (v2 : Value) (L : List (Int × Int)) (w : World) (h1 : RdSS v1 xss w) (h2 : RdV v2 L w) :
    Calls Tryd.prog 51 #[.agg #[v1], v2] w (BRes w (ivOkB xss L)) := by
  obtain ⟨a1, c1, rfl⟩ := h1.shape
  obtain ⟨a2, c2, rfl, -, -, -⟩ := id h2
  obtain ⟨B, hB⟩ : ∃ B, w.heap.size = B := ⟨_, rfl⟩
  obtain ⟨W0, hW0⟩ : ∃ W0, W0 = w.alloc (.cells #[.slice a1 xss.length c1] 24) := ⟨_, rfl⟩
  have u0 : Below B w W0 := by rw [hW0, ← hB]; exact below_alloc' _ _
  have V1 : VC 24 B #[.slice a1 xss.length c1] W0 := by rw [hW0]; exact VC.new hB
  have hz0 : W0.heap.size = B + 1 := by rw [hW0]; simp [hB]
  have hg := V1.cell
  have hbd : Below B w W0.drew := u0.drew
  obtain ⟨q1, hq1⟩ : ∃ q, okB xss = q := ⟨_, rfl⟩
  obtain ⟨q2, hq2⟩ : ∃ q, okI L = q := ⟨_, rfl⟩
  obtain ⟨q3, hq3⟩ : ∃ q, sameB xss (rowsB L.length (adjI L)) = q := ⟨_, rfl⟩
  have HB : Hid (ivOkB xss L = (q1 && (q2 && q3))) := Lib.hid (by unfold ivOkB; rw [hq1, hq2, hq3])
  have C1 := Lib.hid (specOk _ xss W0.drew (h1.below hbd hB))
  rw [hq1] at C1
  have HQ2 := Lib.hid hq2
  have HQ3 := Lib.hid hq3
  have HRD : Hid (∀ W, Below B w W → RdSS (.slice a1 xss.length c1) xss W ∧ RdV (.slice a2 L.length c2) L W) := Lib.hid fun W h => ⟨h1.below h hB, RdV.below h2 h hB⟩
  clear hq1 hq2 hq3 h1 h2
  go_enter Tryd.func51, Tryd.ntmps51
  go_wp2_with fail
  rw [← hW0]
  clear hW0
  refine wp_region_take [] [0] 1 12 #[true, false, false, false, false, false, false, false, false, false, false, false, false] (by kernel_rfl) (by kernel_rfl) (by kernel_rfl) (by kernel_rfl) (fun _ _ d _ _ h => by cases d <;> exact h) ?_
  simp only [pickOps, List.filterMap_cons, List.filterMap_nil, List.getElem?_cons_succ, List.getElem?_cons_zero, wpQuiet_nil_eq]
  repeat quiet_step (fail)
  simp only [wpQuiet_nil_eq]
  refine wpAnyG_1 1 (by kernel_rfl) rfl ?_
  unfold wpNext
  go_wp2_with fail
  refine C1.out.mono ?_
  rintro e1 w1 ⟨rfl, hb1⟩
  have hb01 : Below B w w1 := hbd.trans (hb1.mono (by show B ≤ W0.heap.size; omega))
  have hb1' : Below (B + 1) W0 w1 := ((Below.refl _ _).drew : Below (B + 1) W0 W0.drew).trans (hb1.mono (by show B + 1 ≤ W0.heap.size; omega))
  have V1' := V1.belowAt hb1' (by omega)
  have hz1 : B + 1 ≤ w1.heap.size := by have := hb1'.size; omega
  clear hg hb1 hb1' C1 V1 hbd u0
  have hg1 := V1'.cell
  go_wp2_with fail
  refine ⟨fun h => by simp at h, ?_⟩
  cases q1 with
  | false =>
    refine wpAnyG_mid [2, 3] 9 #[true, true, true, true, false, false, false, false, false, false, false, false, false] rfl (by kernel_rfl) (by kernel_rfl) (by kernel_rfl) (fun _ _ d _ _ h => by cases d <;> exact h) (fun h => by simp at h) ?_
    simp only [pickOps, List.filterMap_cons, List.filterMap_nil, List.getElem?_cons_succ, List.getElem?_cons_zero]
    repeat quiet_step (fail)
    simp only [wpQuiet_nil_eq]
    refine wpAnyG_1 4 (by kernel_rfl) rfl ?_
    unfold wpNext
    go_wp2_with fail
    refine ⟨fun h => by simp at h, ?_⟩
    refine wpAnyG_mid [5, 6] 6 #[true, true, true, true, true, true, true, false, false, false, false, false, false] rfl (by kernel_rfl) (by kernel_rfl) (by kernel_rfl) (fun _ _ d _ _ h => by cases d <;> exact h) (fun h => by simp at h) ?_
    simp only [pickOps, List.filterMap_cons, List.filterMap_nil, List.getElem?_cons_succ, List.getElem?_cons_zero]
    repeat quiet_step (fail)
    simp only [wpQuiet_nil_eq]
    refine wpAnyG_mid [8] 5 #[true, true, true, true, true, true, true, false, true, false, false, false, false] rfl (by kernel_rfl) (by kernel_rfl) (by kernel_rfl) (fun _ _ d _ _ h => by cases d <;> exact h) (fun h => by simp at h) ?_
    simp only [pickOps, List.filterMap_cons, List.filterMap_nil, List.getElem?_cons_succ, List.getElem?_cons_zero]
    repeat quiet_step (fail)
    simp only [wpQuiet_nil_eq]
    refine wpAnyG_2 7 9 (by kernel_rfl) rfl rfl ?_ ?_
    · unfold wpNext
      go_wp2_with fail
      refine ⟨fun h => by simp at h, ?_⟩
      refine wpAnyG_1 9 (by kernel_rfl) rfl ?_
      unfold wpNext
      go_wp2_with fail
      refine ⟨fun h => by simp at h, ?_⟩
      refine wpAnyG_1 10 (by kernel_rfl) rfl ?_
      unfold wpNext
      go_wp2_with fail
      refine ⟨fun h => by simp at h, ?_⟩
      refine wpAnyG_tail [11, 12] rfl (.inl (by kernel_rfl)) (by kernel_rfl) ?_
      simp only [pickOps, List.filterMap_cons, List.filterMap_nil, List.getElem?_cons_succ, List.getElem?_cons_zero]
      go_wp2_with fail
      go_ret
      exact ⟨ret_bool (by rw [HB.out]; rfl), by rw [hB]; exact hb01⟩
    · unfold wpNext
      go_wp2_with fail
      refine ⟨fun h => by simp at h, ?_⟩
      refine wpAnyG_1 7 (by kernel_rfl) rfl ?_
      unfold wpNext
      go_wp2_with fail
      refine ⟨fun h => by simp at h, ?_⟩
      refine wpAnyG_1 10 (by kernel_rfl) rfl ?_
      unfold wpNext
      go_wp2_with fail
      refine ⟨fun h => by simp at h, ?_⟩
      refine wpAnyG_tail [11, 12] rfl (.inl (by kernel_rfl)) (by kernel_rfl) ?_
      simp only [pickOps, List.filterMap_cons, List.filterMap_nil, List.getElem?_cons_succ, List.getElem?_cons_zero]
      go_wp2_with fail
      go_ret
      exact ⟨ret_bool (by rw [HB.out]; rfl), by rw [hB]; exact hb01⟩
  | true =>
    refine wpAnyG_mid [2, 3] 9 #[true, true, true, true, false, false, false, false, false, false, false, false, false] rfl (by kernel_rfl) (by kernel_rfl) (by kernel_rfl) (fun _ _ d _ _ h => by cases d <;> exact h) (fun h => by simp at h) ?_
    simp only [pickOps, List.filterMap_cons, List.filterMap_nil, List.getElem?_cons_succ, List.getElem?_cons_zero]
    repeat quiet_step (fail)
    simp only [wpQuiet_nil_eq]
    refine wpAnyG_1 4 (by kernel_rfl) rfl ?_
    unfold wpNext
    have CA := Lib.hid (all14_any _ L q2 HQ2.out w1 (HRD.out w1 hb01).2)
    clear hg1
    go_wp2_with fail
    refine CA.out.mono ?_
    rintro e1 w2 ⟨rfl, hb2⟩
    have hb02 := hb01.trans (hb2.mono (by omega))
    have VV := V1'.belowAt hb2 (by omega)
    have hz2 : B + 1 ≤ w2.heap.size := by have := hb2.size; omega
    have hg2 := VV.cell
    clear hb2 CA
    go_wp2_with fail
    refine ⟨fun h => by simp at h, ?_⟩
    cases q2 with
    | false =>
      refine wpAnyG_mid [5, 6] 6 #[true, true, true, true, true, true, true, false, false, false, false, false, false] rfl (by kernel_rfl) (by kernel_rfl) (by kernel_rfl) (fun _ _ d _ _ h => by cases d <;> exact h) (fun h => by simp at h) ?_
      simp only [pickOps, List.filterMap_cons, List.filterMap_nil, List.getElem?_cons_succ, List.getElem?_cons_zero]
      repeat quiet_step (fail)
      simp only [wpQuiet_nil_eq]
      refine wpAnyG_mid [8] 5 #[true, true, true, true, true, true, true, false, true, false, false, false, false] rfl (by kernel_rfl) (by kernel_rfl) (by kernel_rfl) (fun _ _ d _ _ h => by cases d <;> exact h) (fun h => by simp at h) ?_
      simp only [pickOps, List.filterMap_cons, List.filterMap_nil, List.getElem?_cons_succ, List.getElem?_cons_zero]
      repeat quiet_step (fail)
      simp only [wpQuiet_nil_eq]
      refine wpAnyG_2 7 9 (by kernel_rfl) rfl rfl ?_ ?_
      · unfold wpNext
        go_wp2_with fail
        refine ⟨fun h => by simp at h, ?_⟩
        refine wpAnyG_1 9 (by kernel_rfl) rfl ?_
        unfold wpNext
        go_wp2_with fail
        refine ⟨fun h => by simp at h, ?_⟩
        refine wpAnyG_1 10 (by kernel_rfl) rfl ?_
        unfold wpNext
        go_wp2_with fail
        refine ⟨fun h => by simp at h, ?_⟩
        refine wpAnyG_tail [11, 12] rfl (.inl (by kernel_rfl)) (by kernel_rfl) ?_
        simp only [pickOps, List.filterMap_cons, List.filterMap_nil, List.getElem?_cons_succ, List.getElem?_cons_zero]
        go_wp2_with fail
        go_ret
        exact ⟨ret_bool (by rw [HB.out]; rfl), by rw [hB]; exact hb02⟩
      · unfold wpNext
        go_wp2_with fail
        refine ⟨fun h => by simp at h, ?_⟩
        refine wpAnyG_1 7 (by kernel_rfl) rfl ?_
        unfold wpNext
        go_wp2_with fail
        refine ⟨fun h => by simp at h, ?_⟩
        refine wpAnyG_1 10 (by kernel_rfl) rfl ?_
        unfold wpNext
        go_wp2_with fail
        refine ⟨fun h => by simp at h, ?_⟩
        refine wpAnyG_tail [11, 12] rfl (.inl (by kernel_rfl)) (by kernel_rfl) ?_
        simp only [pickOps, List.filterMap_cons, List.filterMap_nil, List.getElem?_cons_succ, List.getElem?_cons_zero]
        go_wp2_with fail
        go_ret
        exact ⟨ret_bool (by rw [HB.out]; rfl), by rw [hB]; exact hb02⟩
    | true =>
      have h16 := (adj_of_okI HQ2.out).le
      have CG := Lib.hid (graph14_any _ L h16 w2 (HRD.out w2 hb02).2)
      refine wpAnyG_mid [5, 6] 6 #[true, true, true, true, true, true, true, false, false, false, false, false, false] rfl (by kernel_rfl) (by kernel_rfl) (by kernel_rfl) (fun _ _ d _ _ h => by cases d <;> exact h) (fun h => by simp at h) ?_
      simp only [pickOps, List.filterMap_cons, List.filterMap_nil, List.getElem?_cons_succ, List.getElem?_cons_zero]
      repeat quiet_step (fail)
      simp only [wpQuiet_nil_eq]
      refine wpAnyG_mid [8] 5 #[true, true, true, true, true, true, true, false, true, false, false, false, false] rfl (by kernel_rfl) (by kernel_rfl) (by kernel_rfl) (fun _ _ d _ _ h => by cases d <;> exact h) (fun h => by simp at h) ?_
      simp only [pickOps, List.filterMap_cons, List.filterMap_nil, List.getElem?_cons_succ, List.getElem?_cons_zero]
      repeat quiet_step (fail)
      simp only [wpQuiet_nil_eq]
      refine wpAnyG_2 7 9 (by kernel_rfl) rfl rfl ?_ ?_
      · unfold wpNext
        go_wp2_with fail
        refine ⟨fun h => by simp at h, ?_⟩
        refine wpAnyG_1 9 (by kernel_rfl) rfl ?_
        unfold wpNext
        go_wp2_with fail
        refine CG.out.mono ?_
        rintro e1 w3 ⟨u3, vs3, rfl, hG3, hb3⟩
        have hb03 := hb02.trans (hb3.mono (by omega))
        have hg3 := (VV.belowAt hb3 (by omega)).cell
        have HR3 : Hid (RdSS u3 (rowsB L.length (adjI L)) w3) := Lib.hid ⟨_, hG3.rd⟩
        have CS := Lib.hid (specSame _ _ xss (rowsB L.length (adjI L)) w3 (HRD.out w3 hb03).1 HR3.out q3 HQ3.out)
        obtain ⟨ua3, uc3, rfl⟩ := owns_shape hG3.outer
        have HB03 := Lib.hid hb03
        clear hG3 hb3 hb03
        go_wp2_with fail
        refine ⟨fun h => by simp at h, ?_⟩
        refine wpAnyG_1 10 (by kernel_rfl) rfl ?_
        unfold wpNext
        go_wp2_with fail
        refine CS.out.mono ?_
        rintro e1 w4 ⟨rfl, hb4⟩
        have hb04 := HB03.out.trans (hb4.mono (by have := HB03.out.size; omega))
        clear hb4
        go_wp2_with fail
        refine ⟨fun h => by simp at h, ?_⟩
        refine wpAnyG_tail [11, 12] rfl (.inl (by kernel_rfl)) (by kernel_rfl) ?_
        simp only [pickOps, List.filterMap_cons, List.filterMap_nil, List.getElem?_cons_succ, List.getElem?_cons_zero]
        go_wp2_with fail
        go_ret
        exact ⟨ret_bool (by rw [HB.out]; rfl), by rw [hB]; exact hb04⟩
      · unfold wpNext
        go_wp2_with fail
        refine CG.out.mono ?_
        rintro e1 w3 ⟨u3, vs3, rfl, hG3, hb3⟩
        have hb03 := hb02.trans (hb3.mono (by omega))
        have hg3 := (VV.belowAt hb3 (by omega)).cell
        have HR3 : Hid (RdSS u3 (rowsB L.length (adjI L)) w3) := Lib.hid ⟨_, hG3.rd⟩
        have CS := Lib.hid (specSame _ _ xss (rowsB L.length (adjI L)) w3 (HRD.out w3 hb03).1 HR3.out q3 HQ3.out)
        obtain ⟨ua3, uc3, rfl⟩ := owns_shape hG3.outer
        have HB03 := Lib.hid hb03
        clear hG3 hb3 hb03
        go_wp2_with fail
        refine ⟨fun h => by simp at h, ?_⟩
        refine wpAnyG_1 7 (by kernel_rfl) rfl ?_
        unfold wpNext
        go_wp2_with fail
        refine ⟨fun h => by simp at h, ?_⟩
        refine wpAnyG_1 10 (by kernel_rfl) rfl ?_
        unfold wpNext
        go_wp2_with fail
        refine CS.out.mono ?_
        rintro e1 w4 ⟨rfl, hb4⟩
        have hb04 := HB03.out.trans (hb4.mono (by have := HB03.out.size; omega))
        clear hb4
        go_wp2_with fail
        refine ⟨fun h => by simp at h, ?_⟩
        refine wpAnyG_tail [11, 12] rfl (.inl (by kernel_rfl)) (by kernel_rfl) ?_
        simp only [pickOps, List.filterMap_cons, List.filterMap_nil, List.getElem?_cons_succ, List.getElem?_cons_zero]
        go_wp2_with fail
        go_ret
        exact ⟨ret_bool (by rw [HB.out]; rfl), by rw [hB]; exact hb04⟩

set_option maxHeartbeats 2000000 in
theorem implIntervalsOk (v1 : Value) (xss : List (List Int)) (v2 : Value) (L : List (Int × Int)) (w : World) (ht : Tab w) (h1 : RdSS v1 xss w) (h2 : RdV v2 L w) :
    Calls Tryd.prog 52 #[.agg #[v1], v2] w (BRes w (ivOkB xss L)) := by
  obtain ⟨a1, c1, rfl⟩ := h1.shape
  obtain ⟨a2, c2, rfl, -, -, -⟩ := id h2
  obtain ⟨B, hB⟩ : ∃ B, w.heap.size = B := ⟨_, rfl⟩
  have hTB : 0 < B := by rw [← hB]; exact ht.lt
  obtain ⟨W0, hW0⟩ : ∃ W0, W0 = w.alloc (.cells #[.slice a1 xss.length c1] 24) := ⟨_, rfl⟩
  have u0 : Below B w W0 := by rw [hW0, ← hB]; exact below_alloc' _ _
  have V1 : VC 24 B #[.slice a1 xss.length c1] W0 := by rw [hW0]; exact VC.new hB
  have hz0 : W0.heap.size = B + 1 := by rw [hW0]; simp [hB]
  obtain ⟨rows, ok, _, _, hP⟩ := ivP_has L
  have HB0 := Lib.hid (ivOk_impl xss L)
  have CI := Lib.hid (implGraphOfIntervals _ L W0 (ht.keep u0 hTB) (RdV.below h2 u0 hB) rows ok hP)
  have HRD : Hid (∀ W, Below B w W → RdSS (.slice a1 xss.length c1) xss W) := Lib.hid fun W h => h1.below h hB
  have HP := Lib.hid hP
  clear h1 h2 hP
  go_enter Tryd.func52, Tryd.ntmps52
  go_wp2_with fail
  rw [← hW0]
  clear hW0
  refine CI.out.mono ?_
  rintro e1 w1 ⟨u, vs, rfl, hG, hb1⟩
  obtain ⟨ua, uc, rfl⟩ := owns_shape hG.outer
  have hb01 := u0.trans (hb1.mono (by omega))
  have hR1 : RdSS (.slice ua vs.length uc) rows w1 := ⟨_, hG.rd⟩
  have VV := V1.belowAt hb1 (by omega)
  have hz1 : B + 1 ≤ w1.heap.size := by have := hb1.size; omega
  obtain ⟨D, hD⟩ : ∃ D, w1.heap.size = D := ⟨_, rfl⟩
  obtain ⟨w2, hw2⟩ : ∃ w2, w2 = w1.alloc (.cells #[.slice ua vs.length uc] 24) := ⟨_, rfl⟩
  have hb2 : Below D w1 w2 := by rw [hw2, ← hD]; exact below_alloc' _ _
  have VH : VC 24 D #[.slice ua vs.length uc] w2 := by rw [hw2]; exact VC.new hD
  have hR2 := hR1.below hb2 hD
  have hb02 := hb01.trans (hb2.mono (by omega))
  have hg1 := VV.cell
  have hg2 := (VV.belowAt hb2 (by omega)).cell
  have hh2 := VH.cell
  have HR2 := Lib.hid hR2
  have hg1a : (w1.alloc (.cells #[.slice ua vs.length uc] 24)).cell? ⟨B, 0, none⟩ = some (.slice a1 xss.length c1) := hw2 ▸ hg2
  have hBD : B < D := by omega
  clear hb1 hG hR1 hR2 CI V1 u0
  cases ok with
  | false =>
    have HF : Hid (ivOkB xss L = false) := Lib.hid (by
      rcases HP.out with ⟨h, _⟩ | ⟨_, _, _, h⟩
      · rw [HB0.out, h]; rfl
      · cases h)
    go_wp2_with fail
    go_ret
    exact ⟨ret_bool HF.out.symm, by rw [hB]; first | exact hb02 | (rw [hw2] at hb02; exact hb02)⟩
  | true =>
    obtain ⟨hoI, hrows⟩ : okI L = true ∧ rows = rowsB L.length (adjI L) := by
      rcases HP.out with ⟨_, _, h⟩ | ⟨h1, _, h2, _⟩
      · cases h
      · exact ⟨h1, h2⟩
    obtain ⟨q3, hq3⟩ : ∃ q, sameB xss rows = q := ⟨_, rfl⟩
    have HF : Hid (ivOkB xss L = q3) := Lib.hid (by rw [HB0.out, hoI, ← hrows, hq3]; rfl)
    have CS := Lib.hid (implSame _ _ xss rows w2 (HRD.out w2 hb02) HR2.out q3 hq3)
    clear hq3 hoI hrows
    go_wp2_with fail
    try rw [← hw2]
    try rw [hD]
    clear hw2 hg1a
    go_wp2_with fail
    refine CS.out.mono ?_
    rintro e1 w3 ⟨rfl, hb3⟩
    have hb03 := hb02.trans (hb3.mono (by have := hb02.size; omega))
    clear hb3
    go_wp2_with fail
    go_ret
    exact ⟨ret_bool HF.out.symm, by rw [hB]; exact hb03⟩

theorem both_IntervalsOk (xss : List (List Int)) (L : List (Int × Int)) : ∃ (ok : Bool),
    (∀ (w : World) (g v : Value), Tab w → RdSS g xss w → RdV v L w → Calls Tryd.prog 51 #[.agg #[g], v] w (BRes w ok)) ∧
    (∀ (w : World) (g v : Value), Tab w → RdSS g xss w → RdV v L w → Calls Tryd.prog 52 #[.agg #[g], v] w (BRes w ok)) :=
  ⟨_, fun w g v _ h1 h2 => specIntervalsOk g xss v L w h1 h2, fun w g v ht h1 h2 => implIntervalsOk g xss v L w ht h1 h2⟩
end Go.Proofs.YtehejjmmbjekgaaDoor
