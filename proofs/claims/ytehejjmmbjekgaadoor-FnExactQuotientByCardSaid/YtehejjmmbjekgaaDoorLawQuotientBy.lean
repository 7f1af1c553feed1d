/-
  The law of 'QuotientBy': it returns true where reference and program return the like.
-/
import Derived.Test.YtehejjmmbjekgaaDoorKinds
import Derived.Test.YtehejjmmbjekgaaDoorModelK
import Derived.Test.YtehejjmmbjekgaaDoorOrder2
import Derived.Deep.DeepCutAuto
namespace Go.Proofs.YtehejjmmbjekgaaDoor
open Go.RowKit

set_option maxHeartbeats 4000000 in
set_option maxRecDepth 100000 in
theorem coreQuotientBy (v0 : Value) (xss0 : List (List Int)) (v1 : Value) (xss1 : List (List Int)) (rows0 : List (List Int)) (ok1 : Bool) (hk0 : 1 + total rows0 ≤ 1000000000) (hn0 : rows0.length ≤ 1000000000) 
    (hs : ∀ (w : World) (v0 : Value) (v1 : Value), Tab w → RdSS v0 xss0 w → RdSS v1 xss1 w → Calls Tryd.prog 33 #[.agg #[v0], .agg #[v1]] w (GRes w rows0 ok1))
    (hi : ∀ (w : World) (v0 : Value) (v1 : Value), Tab w → RdSS v0 xss0 w → RdSS v1 xss1 w → Calls Tryd.prog 36 #[.agg #[v0], .agg #[v1]] w (GRes w rows0 ok1))
    (w : World) (ht : Tab w) (hr0 : RdSS v0 xss0 w) (hr1 : RdSS v1 xss1 w) :
    Calls Tryd.prog 6 #[.agg #[v0], .agg #[v1]] w fun e w' => e = .returned (.bool true) ∧ Below w.heap.size w w' := by
  obtain ⟨a0, c0, rfl⟩ := hr0.shape
  have hl0 : xss0.length ≤ maxLen := (let ⟨_, h⟩ := hr0.ex; by have := h.outer.len; have := h.len; simp at *; omega)
  unfold maxLen at hl0
  obtain ⟨a1, c1, rfl⟩ := hr1.shape
  have hl1 : xss1.length ≤ maxLen := (let ⟨_, h⟩ := hr1.ex; by have := h.outer.len; have := h.len; simp at *; omega)
  unfold maxLen at hl1
  obtain ⟨B, hB⟩ : ∃ B, w.heap.size = B := ⟨_, rfl⟩
  have hTB : 0 < B := by rw [← hB]; exact ht.lt
  have hq1 : (ok1 != ok1) = false := by simp
  have Hs := Lib.hid hs
  have Hi := Lib.hid hi
  clear hs hi
  obtain ⟨K0, hK0⟩ : ∃ K : Int, K = ((1 + total rows0 : Nat) : Int) := ⟨_, rfl⟩
  have hKp0 : 0 ≤ K0 := by omega
  have hKl0 : K0 ≤ 1000000000 := by omega
  have hKn0 : (K0 != K0) = false := by simp
  have HK0 := Lib.hid hK0
  clear hK0
  have hb : Below B w w := Below.refl _ _
  have hS0 : w.heap.size = B := hB
  have u := Upd.alloc w (.cells #[.slice a0 xss0.length c0] 49)
  have A0 : VC 49 (B) #[.slice a0 xss0.length c0] (w.alloc (.cells #[.slice a0 xss0.length c0] 49)) := VC.new hS0
  replace hb := u.below hb (by omega) (by omega)
  replace hS0 : (w.alloc (.cells #[.slice a0 xss0.length c0] 49)).heap.size = B + 1 := by simp [hS0]
  clear u
  have u := Upd.alloc (w.alloc (.cells #[.slice a0 xss0.length c0] 49)) (.cells #[.slice a1 xss1.length c1] 50)
  have A1 : VC 50 (B + 1) #[.slice a1 xss1.length c1] ((w.alloc (.cells #[.slice a0 xss0.length c0] 49)).alloc (.cells #[.slice a1 xss1.length c1] 50)) := VC.new hS0
  replace A0 := A0.upd u (by omega)
  replace hb := u.below hb (by omega) (by omega)
  replace hS0 : ((w.alloc (.cells #[.slice a0 xss0.length c0] 49)).alloc (.cells #[.slice a1 xss1.length c1] 50)).heap.size = B + 2 := by simp [hS0]
  clear u
  have cA0 := A0.cell
  have cA1 := A1.cell
  go_enter Tryd.func6, Tryd.ntmps6
  go_wp2_with fail
  generalize ((w.alloc (.cells #[.slice a0 xss0.length c0] 49)).alloc (.cells #[.slice a1 xss1.length c1] 50)) = W0 at *
  refine (szG_k (hr0.below hb hB) (by omega) (by omega)).mono ?_
  rintro e w1 ⟨r0, rfl, hr, u⟩
  clear cA0 cA1
  replace A0 := A0.upd u (by omega)
  replace A1 := A1.upd u (by omega)
  replace hb := u.below hb (by omega) (by omega)
  obtain ⟨S1, hS1⟩ : ∃ S, w1.heap.size = S := ⟨_, rfl⟩
  have hz1 : B + 2 ≤ S1 := by have := u.size; omega
  clear u
  rcases hr with rfl | ⟨hlf0, hlf1⟩
  · go_wp2_with fail
    go_ret
    exact ⟨rfl, by rw [hB]; exact hb⟩
  have hrl0 : r0 ≤ 1048576 := by omega
  have ht0 : xss0.length + total xss0 ≤ 1048576 := by omega
  clear hlf1
  have HL0 := Lib.hid (fun xs (h : xs ∈ xss0) => Nat.le_trans (len_le_total h) (show total xss0 ≤ 1048576 by omega))
  have cA0 := A0.cell
  have cA1 := A1.cell
  go_wp2_with fail
  refine (szM_k (hr1.below hb hB) (by omega) (by omega)).mono ?_
  rintro e w2 ⟨r1, rfl, hr, u⟩
  clear cA0 cA1
  replace A0 := A0.upd u (by omega)
  replace A1 := A1.upd u (by omega)
  replace hb := u.below hb (by omega) (by omega)
  obtain ⟨S2, hS2⟩ : ∃ S, w2.heap.size = S := ⟨_, rfl⟩
  have hz2 : S1 ≤ S2 := by have := u.size; omega
  clear u
  rcases hr with rfl | ⟨hlf0, hlf1⟩
  · go_wp2_with fail
    go_ret
    exact ⟨rfl, by rw [hB]; exact hb⟩
  have hrl1 : r1 ≤ 1048576 := by omega
  have ht1 : xss1.length + total xss1 ≤ 1048576 := by omega
  clear hlf1
  have HL1 := Lib.hid (fun xs (h : xs ∈ xss1) => Nat.le_trans (len_le_total h) (show total xss1 ≤ 1048576 by omega))
  have cA0 := A0.cell
  have cA1 := A1.cell
  go_upto_region 8 with (fail)
  obtain ⟨SRw, hSRw⟩ : ∃ S, w2.heap.size = S := ⟨_, rfl⟩
  have hzRw : S2 ≤ SRw := by omega
  go_cut [6, 7] (fun sv so wx => ∃ (SLw SHw SVw SEw : Nat) (aw : Option Addr) (dw : Nat), sv = .pointer (some ⟨SVw, 0, none⟩) ∧ so = .bool ok1 ∧ VC 24 SVw #[.slice aw rows0.length dw] wx ∧ OwSS SLw SHw (.slice aw rows0.length dw) rows0 wx ∧ wx.heap.size = SEw ∧ SRw ≤ SLw ∧ SHw ≤ SEw ∧ SRw ≤ SVw ∧ SVw < SEw ∧ (SVw < SLw ∨ SHw ≤ SVw) ∧ Below SRw w2 wx)
  case first =>
    have hbRw : Below SRw w2 w2 := Below.refl _ _
    refine wp_region_take [] [0, 2] 3 9 #[true, false, true, false, false, false, false, false, false, false, false] (by kernel_rfl) (by kernel_rfl) (by kernel_rfl) (by kernel_rfl) (fun _ _ d _ _ h => by cases d <;> exact h) ?_
    simp only [pickOps, List.filterMap_cons, List.filterMap_nil, List.getElem?_cons_succ, List.getElem?_cons_zero]
    repeat quiet_step (fail)
    simp only [wpQuiet_nil_eq]
    clear cA0 cA1
    have u := Upd.drew w2
    replace A0 := A0.upd u (by omega)
    replace A1 := A1.upd u (by omega)
    replace hb := u.below hb (by omega) (by omega)
    replace hbRw := hbRw.drew
    clear u
    have hS3 : w2.drew.heap.size = SRw := hSRw
    refine wpAnyG_2 1 8 (by kernel_rfl) rfl rfl ?_ ?_
    ·
      unfold wpNext
      have cA0 := A0.cell
      have cA1 := A1.cell
      go_wp2_with fail
      refine (toG_k (hr0.below hb hB) (by omega) HL0.out hS3).mono ?_
      rintro e w4 ⟨uws0, rfl, Ows0, u⟩
      replace hbRw := hbRw.trans (u.toBelow (B := SRw) (by omega) (by omega))
      clear cA0 cA1
      replace A0 := A0.upd u (by omega)
      replace A1 := A1.upd u (by omega)
      replace hb := u.below hb (by omega) (by omega)
      obtain ⟨S4, hS4⟩ : ∃ S, w4.heap.size = S := ⟨_, rfl⟩
      have hz4 : SRw ≤ S4 := by have := u.size; omega
      clear u
      rw [hS4] at Ows0
      obtain ⟨aws0, dws0, rfl⟩ := Ows0.shape
      have cA0 := A0.cell
      have cA1 := A1.cell
      go_wp2_with fail
      refine ⟨fun _ => over_of_below (by rw [hSRw]; exact hbRw), ?_⟩
      clear cA0 cA1
      refine wpAnyG_2 3 8 (by kernel_rfl) rfl rfl ?_ ?_
      ·
        unfold wpNext
        have cA0 := A0.cell
        have cA1 := A1.cell
        go_wp2_with fail
        refine (toM_k (hr1.below hb hB) (by omega) HL1.out hS4).mono ?_
        rintro e w5 ⟨uws1, rfl, Ows1, u⟩
        replace hbRw := hbRw.trans (u.toBelow (B := SRw) (by omega) (by omega))
        clear cA0 cA1
        replace A0 := A0.upd u (by omega)
        replace A1 := A1.upd u (by omega)
        replace Ows0 := Ows0.upd u (by omega)
        replace hb := u.below hb (by omega) (by omega)
        obtain ⟨S5, hS5⟩ : ∃ S, w5.heap.size = S := ⟨_, rfl⟩
        have hz5 : S4 ≤ S5 := by have := u.size; omega
        clear u
        rw [hS5] at Ows1
        obtain ⟨aws1, dws1, rfl⟩ := Ows1.shape
        have cA0 := A0.cell
        have cA1 := A1.cell
        go_wp2_with fail
        refine ⟨fun h => by simp at h, ?_⟩
        clear cA0 cA1
        refine wpAnyG_2 4 8 (by kernel_rfl) rfl rfl ?_ ?_
        ·
          unfold wpNext
          have cA0 := A0.cell
          have cA1 := A1.cell
          go_wp2_with fail
          refine (Hs.out _ _ _ (ht.keep hb hTB) Ows0.rd Ows1.rd).mono ?_
          rintro e w6 ⟨uw0, vs, rfl, G, u⟩
          replace u := Upd.of_below u
          clear cA0 cA1
          replace A0 := A0.upd u (by omega)
          replace A1 := A1.upd u (by omega)
          replace Ows0 := Ows0.upd u (by omega)
          replace Ows1 := Ows1.upd u (by omega)
          replace hb := u.below hb (by omega) (by omega)
          replace hbRw := hbRw.trans (u.toBelow (B := SRw) (by omega) (by omega))
          obtain ⟨SLw, hSLw⟩ : ∃ S, S = S5 := ⟨_, rfl⟩
          obtain ⟨SHw, hSHw⟩ : ∃ S, w6.heap.size = S := ⟨_, rfl⟩
          have hzHw : SLw ≤ SHw := by have := u.size; omega
          clear u
          have Rw := OwSS.of (lo := SLw) G (hS5.trans hSLw.symm) hSHw
          clear G
          obtain ⟨aw, dw, rfl⟩ := Rw.shape
          clear Ows0
          clear Ows1
          have cA0 := A0.cell
          have cA1 := A1.cell
          go_wp2_with fail
          clear cA0 cA1
          refine ⟨fun h => by simp at h, ?_⟩
          refine wpAnyG_mid [5, 6, 7] 3 #[true, true, true, true, true, true, true, true, false, false, false] rfl (by kernel_rfl) (by kernel_rfl) (by kernel_rfl) (fun _ _ d _ _ h => by cases d <;> exact h) (fun h => by simp at h) ?_
          simp only [pickOps, List.filterMap_cons, List.filterMap_nil, List.getElem?_cons_succ, List.getElem?_cons_zero]
          repeat quiet_step (fail)
          simp only [wpQuiet_nil_eq]
          refine wpAnyG_1 8 (by kernel_rfl) rfl ?_
          unfold wpNext
          go_wp2_with fail
          obtain ⟨SVw, hSVw⟩ : ∃ S, S = SHw := ⟨_, rfl⟩
          have Vw : VC 24 SVw #[.slice none 0 0] (w6.alloc (.cells #[.slice none 0 0] 24)) := VC.new (by rw [hSVw]; exact hSHw)
          have u : Upd 0 0 w6 (w6.alloc (.cells #[.slice none 0 0] 24)) := ⟨rfl, rfl, rfl, by simp, fun k hk _ => Below.heap_alloc _ _ _ hk⟩
          replace A0 := A0.upd u (by omega)
          replace A1 := A1.upd u (by omega)
          replace Rw := Rw.upd u (by omega)
          replace hb := u.below hb (by omega) (by omega)
          replace hbRw := hbRw.trans (u.toBelow (B := SRw) (by omega) (by omega))
          clear u
          have hS7 : (w6.alloc (.cells #[.slice none 0 0] 24)).heap.size = SHw + 1 := by simp [hSHw, hSRw]
          generalize (w6.alloc (.cells #[.slice none 0 0] 24)) = W7 at *
          obtain ⟨S7, hSe7⟩ : ∃ S, S = SHw + 1 := ⟨_, rfl⟩
          rw [← hSe7] at hS7
          try rw [hSHw]
          try rw [hSRw]
          try rw [← hSVw]
          have hi1 : SVw ≤ SHw ∧ SHw ≤ SVw := by omega
          clear hSVw
          refine ⟨fun h => by simp at h, ?_⟩
          have cVw := Vw.cell
          have fVw := Vw.free
          have hzVw : SVw < S7 := by have := Vw.lt; omega
          have HM : Hid (VC 24 SVw #[.slice aw rows0.length dw] (W7.setCell ⟨SVw, 0, none⟩ (.slice aw rows0.length dw)) ∧ OwSS SLw SHw (.slice aw rows0.length dw) rows0 (W7.setCell ⟨SVw, 0, none⟩ (.slice aw rows0.length dw)) ∧ (W7.setCell ⟨SVw, 0, none⟩ (.slice aw rows0.length dw)).heap.size = S7 ∧ Below SRw w2 (W7.setCell ⟨SVw, 0, none⟩ (.slice aw rows0.length dw))) := Lib.hid (by
            have u : Upd SVw (SVw + 1) W7 (W7.setCell ⟨SVw, 0, none⟩ (.slice aw rows0.length dw)) := Upd.setCell _ _ _
            exact ⟨Vw.set _, Rw.upd u (by omega), by simp [World.setCell, hS7], hbRw.trans (u.toBelow (B := SRw) (by omega) (by omega))⟩)
          clear Vw Rw hbRw
          refine wpAnyG_tail [9, 10] rfl (.inl (by kernel_rfl)) (by kernel_rfl) ?_
          simp only [pickOps, List.filterMap_cons, List.filterMap_nil, List.getElem?_cons_succ, List.getElem?_cons_zero]
          go_wp2_with fail
          go_meet
          exact ⟨SLw, SHw, SVw, S7, aw, dw, rfl, rfl, HM.out.1, HM.out.2.1, HM.out.2.2.1, by omega, by omega, by omega, by omega, by omega, HM.out.2.2.2⟩
        ·
          unfold wpNext
          go_wp2_with fail
          obtain ⟨SVw, hSVw⟩ : ∃ S, S = S5 := ⟨_, rfl⟩
          have Vw : VC 24 SVw #[.slice none 0 0] (w5.alloc (.cells #[.slice none 0 0] 24)) := VC.new (by rw [hSVw]; exact hS5)
          have u : Upd 0 0 w5 (w5.alloc (.cells #[.slice none 0 0] 24)) := ⟨rfl, rfl, rfl, by simp, fun k hk _ => Below.heap_alloc _ _ _ hk⟩
          replace A0 := A0.upd u (by omega)
          replace A1 := A1.upd u (by omega)
          replace Ows0 := Ows0.upd u (by omega)
          replace Ows1 := Ows1.upd u (by omega)
          replace hb := u.below hb (by omega) (by omega)
          replace hbRw := hbRw.trans (u.toBelow (B := SRw) (by omega) (by omega))
          clear u
          have hS8 : (w5.alloc (.cells #[.slice none 0 0] 24)).heap.size = S5 + 1 := by simp [hS5, hSRw]
          generalize (w5.alloc (.cells #[.slice none 0 0] 24)) = W8 at *
          obtain ⟨S8, hSe8⟩ : ∃ S, S = S5 + 1 := ⟨_, rfl⟩
          rw [← hSe8] at hS8
          try rw [hS5]
          try rw [hSRw]
          try rw [← hSVw]
          have hi1 : SVw ≤ S5 ∧ S5 ≤ SVw := by omega
          clear hSVw
          refine ⟨fun h => by simp at h, ?_⟩
          refine wpAnyG_1 4 (by kernel_rfl) rfl ?_
          unfold wpNext
          have cA0 := A0.cell
          have cA1 := A1.cell
          have cVw := Vw.cell
          go_wp2_with fail
          refine (Hs.out _ _ _ (ht.keep hb hTB) Ows0.rd Ows1.rd).mono ?_
          rintro e w9 ⟨uw0, vs, rfl, G, u⟩
          replace u := Upd.of_below u
          clear cA0 cA1 cVw
          replace A0 := A0.upd u (by omega)
          replace A1 := A1.upd u (by omega)
          replace Ows0 := Ows0.upd u (by omega)
          replace Ows1 := Ows1.upd u (by omega)
          replace Vw := Vw.upd u (by omega)
          replace hb := u.below hb (by omega) (by omega)
          replace hbRw := hbRw.trans (u.toBelow (B := SRw) (by omega) (by omega))
          obtain ⟨SLw, hSLw⟩ : ∃ S, S = S8 := ⟨_, rfl⟩
          obtain ⟨SHw, hSHw⟩ : ∃ S, w9.heap.size = S := ⟨_, rfl⟩
          have hzHw : SLw ≤ SHw := by have := u.size; omega
          clear u
          have Rw := OwSS.of (lo := SLw) G (hS8.trans hSLw.symm) hSHw
          clear G
          obtain ⟨aw, dw, rfl⟩ := Rw.shape
          clear Ows0
          clear Ows1
          have cA0 := A0.cell
          have cA1 := A1.cell
          have cVw := Vw.cell
          go_wp2_with fail
          clear cA0 cA1 cVw
          refine ⟨fun h => by simp at h, ?_⟩
          refine wpAnyG_mid [5, 6, 7] 2 #[true, true, true, true, true, true, true, true, true, false, false] rfl (by kernel_rfl) (by kernel_rfl) (by kernel_rfl) (fun _ _ d _ _ h => by cases d <;> exact h) (fun h => by simp at h) ?_
          simp only [pickOps, List.filterMap_cons, List.filterMap_nil, List.getElem?_cons_succ, List.getElem?_cons_zero]
          repeat quiet_step (fail)
          simp only [wpQuiet_nil_eq]
          have cVw := Vw.cell
          have fVw := Vw.free
          have hzVw : SVw < SHw := by have := Vw.lt; omega
          have HM : Hid (VC 24 SVw #[.slice aw rows0.length dw] (w9.setCell ⟨SVw, 0, none⟩ (.slice aw rows0.length dw)) ∧ OwSS SLw SHw (.slice aw rows0.length dw) rows0 (w9.setCell ⟨SVw, 0, none⟩ (.slice aw rows0.length dw)) ∧ (w9.setCell ⟨SVw, 0, none⟩ (.slice aw rows0.length dw)).heap.size = SHw ∧ Below SRw w2 (w9.setCell ⟨SVw, 0, none⟩ (.slice aw rows0.length dw))) := Lib.hid (by
            have u : Upd SVw (SVw + 1) w9 (w9.setCell ⟨SVw, 0, none⟩ (.slice aw rows0.length dw)) := Upd.setCell _ _ _
            exact ⟨Vw.set _, Rw.upd u (by omega), by simp [World.setCell, hSHw], hbRw.trans (u.toBelow (B := SRw) (by omega) (by omega))⟩)
          clear Vw Rw hbRw
          refine wpAnyG_tail [9, 10] rfl (.inl (by kernel_rfl)) (by kernel_rfl) ?_
          simp only [pickOps, List.filterMap_cons, List.filterMap_nil, List.getElem?_cons_succ, List.getElem?_cons_zero]
          go_wp2_with fail
          go_meet
          exact ⟨SLw, SHw, SVw, SHw, aw, dw, rfl, rfl, HM.out.1, HM.out.2.1, HM.out.2.2.1, by omega, by omega, by omega, by omega, by omega, HM.out.2.2.2⟩
      ·
        unfold wpNext
        go_wp2_with fail
        obtain ⟨SVw, hSVw⟩ : ∃ S, S = S4 := ⟨_, rfl⟩
        have Vw : VC 24 SVw #[.slice none 0 0] (w4.alloc (.cells #[.slice none 0 0] 24)) := VC.new (by rw [hSVw]; exact hS4)
        have u : Upd 0 0 w4 (w4.alloc (.cells #[.slice none 0 0] 24)) := ⟨rfl, rfl, rfl, by simp, fun k hk _ => Below.heap_alloc _ _ _ hk⟩
        replace A0 := A0.upd u (by omega)
        replace A1 := A1.upd u (by omega)
        replace Ows0 := Ows0.upd u (by omega)
        replace hb := u.below hb (by omega) (by omega)
        replace hbRw := hbRw.trans (u.toBelow (B := SRw) (by omega) (by omega))
        clear u
        have hS10 : (w4.alloc (.cells #[.slice none 0 0] 24)).heap.size = S4 + 1 := by simp [hS4, hSRw]
        generalize (w4.alloc (.cells #[.slice none 0 0] 24)) = W10 at *
        obtain ⟨S10, hSe10⟩ : ∃ S, S = S4 + 1 := ⟨_, rfl⟩
        rw [← hSe10] at hS10
        try rw [hS4]
        try rw [hSRw]
        try rw [← hSVw]
        have hi1 : SVw ≤ S4 ∧ S4 ≤ SVw := by omega
        clear hSVw
        refine ⟨fun _ => over_of_below (by rw [hSRw]; exact hbRw), ?_⟩
        refine wpAnyG_1 3 (by kernel_rfl) rfl ?_
        unfold wpNext
        have cA0 := A0.cell
        have cA1 := A1.cell
        have cVw := Vw.cell
        go_wp2_with fail
        refine (toM_k (hr1.below hb hB) (by omega) HL1.out hS10).mono ?_
        rintro e w11 ⟨uws1, rfl, Ows1, u⟩
        replace hbRw := hbRw.trans (u.toBelow (B := SRw) (by omega) (by omega))
        clear cA0 cA1 cVw
        replace A0 := A0.upd u (by omega)
        replace A1 := A1.upd u (by omega)
        replace Ows0 := Ows0.upd u (by omega)
        replace Vw := Vw.upd u (by omega)
        replace hb := u.below hb (by omega) (by omega)
        obtain ⟨S11, hS11⟩ : ∃ S, w11.heap.size = S := ⟨_, rfl⟩
        have hz11 : S10 ≤ S11 := by have := u.size; omega
        clear u
        rw [hS11] at Ows1
        obtain ⟨aws1, dws1, rfl⟩ := Ows1.shape
        have cA0 := A0.cell
        have cA1 := A1.cell
        have cVw := Vw.cell
        go_wp2_with fail
        refine ⟨fun h => by simp at h, ?_⟩
        clear cA0 cA1 cVw
        refine wpAnyG_1 4 (by kernel_rfl) rfl ?_
        unfold wpNext
        have cA0 := A0.cell
        have cA1 := A1.cell
        have cVw := Vw.cell
        go_wp2_with fail
        refine (Hs.out _ _ _ (ht.keep hb hTB) Ows0.rd Ows1.rd).mono ?_
        rintro e w12 ⟨uw0, vs, rfl, G, u⟩
        replace u := Upd.of_below u
        clear cA0 cA1 cVw
        replace A0 := A0.upd u (by omega)
        replace A1 := A1.upd u (by omega)
        replace Ows0 := Ows0.upd u (by omega)
        replace Vw := Vw.upd u (by omega)
        replace Ows1 := Ows1.upd u (by omega)
        replace hb := u.below hb (by omega) (by omega)
        replace hbRw := hbRw.trans (u.toBelow (B := SRw) (by omega) (by omega))
        obtain ⟨SLw, hSLw⟩ : ∃ S, S = S11 := ⟨_, rfl⟩
        obtain ⟨SHw, hSHw⟩ : ∃ S, w12.heap.size = S := ⟨_, rfl⟩
        have hzHw : SLw ≤ SHw := by have := u.size; omega
        clear u
        have Rw := OwSS.of (lo := SLw) G (hS11.trans hSLw.symm) hSHw
        clear G
        obtain ⟨aw, dw, rfl⟩ := Rw.shape
        clear Ows0
        clear Ows1
        have cA0 := A0.cell
        have cA1 := A1.cell
        have cVw := Vw.cell
        go_wp2_with fail
        clear cA0 cA1 cVw
        refine ⟨fun h => by simp at h, ?_⟩
        refine wpAnyG_mid [5, 6, 7] 2 #[true, true, true, true, true, true, true, true, true, false, false] rfl (by kernel_rfl) (by kernel_rfl) (by kernel_rfl) (fun _ _ d _ _ h => by cases d <;> exact h) (fun h => by simp at h) ?_
        simp only [pickOps, List.filterMap_cons, List.filterMap_nil, List.getElem?_cons_succ, List.getElem?_cons_zero]
        repeat quiet_step (fail)
        simp only [wpQuiet_nil_eq]
        have cVw := Vw.cell
        have fVw := Vw.free
        have hzVw : SVw < SHw := by have := Vw.lt; omega
        have HM : Hid (VC 24 SVw #[.slice aw rows0.length dw] (w12.setCell ⟨SVw, 0, none⟩ (.slice aw rows0.length dw)) ∧ OwSS SLw SHw (.slice aw rows0.length dw) rows0 (w12.setCell ⟨SVw, 0, none⟩ (.slice aw rows0.length dw)) ∧ (w12.setCell ⟨SVw, 0, none⟩ (.slice aw rows0.length dw)).heap.size = SHw ∧ Below SRw w2 (w12.setCell ⟨SVw, 0, none⟩ (.slice aw rows0.length dw))) := Lib.hid (by
          have u : Upd SVw (SVw + 1) w12 (w12.setCell ⟨SVw, 0, none⟩ (.slice aw rows0.length dw)) := Upd.setCell _ _ _
          exact ⟨Vw.set _, Rw.upd u (by omega), by simp [World.setCell, hSHw], hbRw.trans (u.toBelow (B := SRw) (by omega) (by omega))⟩)
        clear Vw Rw hbRw
        refine wpAnyG_tail [9, 10] rfl (.inl (by kernel_rfl)) (by kernel_rfl) ?_
        simp only [pickOps, List.filterMap_cons, List.filterMap_nil, List.getElem?_cons_succ, List.getElem?_cons_zero]
        go_wp2_with fail
        go_meet
        exact ⟨SLw, SHw, SVw, SHw, aw, dw, rfl, rfl, HM.out.1, HM.out.2.1, HM.out.2.2.1, by omega, by omega, by omega, by omega, by omega, HM.out.2.2.2⟩
    ·
      unfold wpNext
      go_wp2_with fail
      obtain ⟨SVw, hSVw⟩ : ∃ S, S = SRw := ⟨_, rfl⟩
      have Vw : VC 24 SVw #[.slice none 0 0] (w2.alloc (.cells #[.slice none 0 0] 24)).drew := (VC.new (by rw [hSVw]; exact hS3)).upd (Upd.drew _) (by omega)
      have u : Upd 0 0 w2.drew (w2.alloc (.cells #[.slice none 0 0] 24)).drew := ⟨rfl, rfl, rfl, by simp, fun k hk _ => Below.heap_alloc _ _ _ hk⟩
      replace A0 := A0.upd u (by omega)
      replace A1 := A1.upd u (by omega)
      replace hb := u.below hb (by omega) (by omega)
      replace hbRw := hbRw.trans (u.toBelow (B := SRw) (by omega) (by omega))
      clear u
      have hS13 : (w2.alloc (.cells #[.slice none 0 0] 24)).drew.heap.size = SRw + 1 := by simp [hS3, hSRw]
      generalize (w2.alloc (.cells #[.slice none 0 0] 24)).drew = W13 at *
      obtain ⟨S13, hSe13⟩ : ∃ S, S = SRw + 1 := ⟨_, rfl⟩
      rw [← hSe13] at hS13
      try rw [hS3]
      try rw [hSRw]
      try rw [← hSVw]
      have hi1 : SVw ≤ SRw ∧ SRw ≤ SVw := by omega
      clear hSVw
      refine ⟨fun _ => over_of_below (by rw [hSRw]; exact hbRw), ?_⟩
      refine wpAnyG_1 1 (by kernel_rfl) rfl ?_
      unfold wpNext
      have cA0 := A0.cell
      have cA1 := A1.cell
      have cVw := Vw.cell
      go_wp2_with fail
      refine (toG_k (hr0.below hb hB) (by omega) HL0.out hS13).mono ?_
      rintro e w14 ⟨uws0, rfl, Ows0, u⟩
      replace hbRw := hbRw.trans (u.toBelow (B := SRw) (by omega) (by omega))
      clear cA0 cA1 cVw
      replace A0 := A0.upd u (by omega)
      replace A1 := A1.upd u (by omega)
      replace Vw := Vw.upd u (by omega)
      replace hb := u.below hb (by omega) (by omega)
      obtain ⟨S14, hS14⟩ : ∃ S, w14.heap.size = S := ⟨_, rfl⟩
      have hz14 : S13 ≤ S14 := by have := u.size; omega
      clear u
      rw [hS14] at Ows0
      obtain ⟨aws0, dws0, rfl⟩ := Ows0.shape
      have cA0 := A0.cell
      have cA1 := A1.cell
      have cVw := Vw.cell
      go_wp2_with fail
      refine ⟨fun _ => over_of_below (by rw [hSRw]; exact hbRw), ?_⟩
      clear cA0 cA1 cVw
      refine wpAnyG_1 3 (by kernel_rfl) rfl ?_
      unfold wpNext
      have cA0 := A0.cell
      have cA1 := A1.cell
      have cVw := Vw.cell
      go_wp2_with fail
      refine (toM_k (hr1.below hb hB) (by omega) HL1.out hS14).mono ?_
      rintro e w15 ⟨uws1, rfl, Ows1, u⟩
      replace hbRw := hbRw.trans (u.toBelow (B := SRw) (by omega) (by omega))
      clear cA0 cA1 cVw
      replace A0 := A0.upd u (by omega)
      replace A1 := A1.upd u (by omega)
      replace Vw := Vw.upd u (by omega)
      replace Ows0 := Ows0.upd u (by omega)
      replace hb := u.below hb (by omega) (by omega)
      obtain ⟨S15, hS15⟩ : ∃ S, w15.heap.size = S := ⟨_, rfl⟩
      have hz15 : S14 ≤ S15 := by have := u.size; omega
      clear u
      rw [hS15] at Ows1
      obtain ⟨aws1, dws1, rfl⟩ := Ows1.shape
      have cA0 := A0.cell
      have cA1 := A1.cell
      have cVw := Vw.cell
      go_wp2_with fail
      refine ⟨fun h => by simp at h, ?_⟩
      clear cA0 cA1 cVw
      refine wpAnyG_1 4 (by kernel_rfl) rfl ?_
      unfold wpNext
      have cA0 := A0.cell
      have cA1 := A1.cell
      have cVw := Vw.cell
      go_wp2_with fail
      refine (Hs.out _ _ _ (ht.keep hb hTB) Ows0.rd Ows1.rd).mono ?_
      rintro e w16 ⟨uw0, vs, rfl, G, u⟩
      replace u := Upd.of_below u
      clear cA0 cA1 cVw
      replace A0 := A0.upd u (by omega)
      replace A1 := A1.upd u (by omega)
      replace Vw := Vw.upd u (by omega)
      replace Ows0 := Ows0.upd u (by omega)
      replace Ows1 := Ows1.upd u (by omega)
      replace hb := u.below hb (by omega) (by omega)
      replace hbRw := hbRw.trans (u.toBelow (B := SRw) (by omega) (by omega))
      obtain ⟨SLw, hSLw⟩ : ∃ S, S = S15 := ⟨_, rfl⟩
      obtain ⟨SHw, hSHw⟩ : ∃ S, w16.heap.size = S := ⟨_, rfl⟩
      have hzHw : SLw ≤ SHw := by have := u.size; omega
      clear u
      have Rw := OwSS.of (lo := SLw) G (hS15.trans hSLw.symm) hSHw
      clear G
      obtain ⟨aw, dw, rfl⟩ := Rw.shape
      clear Ows0
      clear Ows1
      have cA0 := A0.cell
      have cA1 := A1.cell
      have cVw := Vw.cell
      go_wp2_with fail
      clear cA0 cA1 cVw
      refine ⟨fun h => by simp at h, ?_⟩
      refine wpAnyG_mid [5, 6, 7] 2 #[true, true, true, true, true, true, true, true, true, false, false] rfl (by kernel_rfl) (by kernel_rfl) (by kernel_rfl) (fun _ _ d _ _ h => by cases d <;> exact h) (fun h => by simp at h) ?_
      simp only [pickOps, List.filterMap_cons, List.filterMap_nil, List.getElem?_cons_succ, List.getElem?_cons_zero]
      repeat quiet_step (fail)
      simp only [wpQuiet_nil_eq]
      have cVw := Vw.cell
      have fVw := Vw.free
      have hzVw : SVw < SHw := by have := Vw.lt; omega
      have HM : Hid (VC 24 SVw #[.slice aw rows0.length dw] (w16.setCell ⟨SVw, 0, none⟩ (.slice aw rows0.length dw)) ∧ OwSS SLw SHw (.slice aw rows0.length dw) rows0 (w16.setCell ⟨SVw, 0, none⟩ (.slice aw rows0.length dw)) ∧ (w16.setCell ⟨SVw, 0, none⟩ (.slice aw rows0.length dw)).heap.size = SHw ∧ Below SRw w2 (w16.setCell ⟨SVw, 0, none⟩ (.slice aw rows0.length dw))) := Lib.hid (by
        have u : Upd SVw (SVw + 1) w16 (w16.setCell ⟨SVw, 0, none⟩ (.slice aw rows0.length dw)) := Upd.setCell _ _ _
        exact ⟨Vw.set _, Rw.upd u (by omega), by simp [World.setCell, hSHw], hbRw.trans (u.toBelow (B := SRw) (by omega) (by omega))⟩)
      clear Vw Rw hbRw
      refine wpAnyG_tail [9, 10] rfl (.inl (by kernel_rfl)) (by kernel_rfl) ?_
      simp only [pickOps, List.filterMap_cons, List.filterMap_nil, List.getElem?_cons_succ, List.getElem?_cons_zero]
      go_wp2_with fail
      go_meet
      exact ⟨SLw, SHw, SVw, SHw, aw, dw, rfl, rfl, HM.out.1, HM.out.2.1, HM.out.2.2.1, by omega, by omega, by omega, by omega, by omega, HM.out.2.2.2⟩
  case rest =>
    obtain ⟨SLw, SHw, SVw, SEw, aw, dw, rfl, rfl, Vw, Rw, hSEw, hx1, hx2, hx3, hx4, hx5, hbx⟩ := hcut
    have u : Upd 0 0 w2 _ := Upd.of_below (by rw [hSRw]; exact hbx)
    clear hbx
    clear cA0 cA1
    replace A0 := A0.upd u (by omega)
    replace A1 := A1.upd u (by omega)
    replace hb := u.below hb (by omega) (by omega)
    have hzEw : SRw ≤ SEw := by omega
    clear u
    rename_i wx
    have cA0 := A0.cell
    have cA1 := A1.cell
    have cVw := Vw.cell
    go_wp2_with fail
    refine (toG_k (hr0.below hb hB) (by omega) HL0.out hSEw).mono ?_
    rintro e w18 ⟨ux0, rfl, Ox0, u⟩
    clear cA0 cA1 cVw
    replace A0 := A0.upd u (by omega)
    replace A1 := A1.upd u (by omega)
    replace Rw := Rw.upd u (by omega)
    replace Vw := Vw.upd u (by omega)
    replace hb := u.below hb (by omega) (by omega)
    obtain ⟨S18, hS18⟩ : ∃ S, w18.heap.size = S := ⟨_, rfl⟩
    have hz18 : SEw ≤ S18 := by have := u.size; omega
    clear u
    rw [hS18] at Ox0
    obtain ⟨ax0, dx0, rfl⟩ := Ox0.shape
    have u := Upd.alloc w18 (.cells #[.slice ax0 xss0.length dx0] 24)
    have X0 : VC 24 (S18) #[.slice ax0 xss0.length dx0] (w18.alloc (.cells #[.slice ax0 xss0.length dx0] 24)) := VC.new hS18
    replace A0 := A0.upd u (by omega)
    replace A1 := A1.upd u (by omega)
    replace Rw := Rw.upd u (by omega)
    replace Vw := Vw.upd u (by omega)
    replace Ox0 := Ox0.upd u (by omega)
    replace hb := u.below hb (by omega) (by omega)
    have hS19 : (w18.alloc (.cells #[.slice ax0 xss0.length dx0] 24)).heap.size = S18 + 1 := by simp [hS18]
    clear u
    have cA0 := A0.cell
    have cA1 := A1.cell
    have cVw := Vw.cell
    have cX0 := X0.cell
    go_wp2_with fail
    generalize w18.alloc (.cells #[.slice ax0 xss0.length dx0] 24) = W19 at *
    refine (toM_k (hr1.below hb hB) (by omega) HL1.out hS19).mono ?_
    rintro e w20 ⟨ux1, rfl, Ox1, u⟩
    clear cA0 cA1 cVw cX0
    replace A0 := A0.upd u (by omega)
    replace A1 := A1.upd u (by omega)
    replace Rw := Rw.upd u (by omega)
    replace Vw := Vw.upd u (by omega)
    replace Ox0 := Ox0.upd u (by omega)
    replace X0 := X0.upd u (by omega)
    replace hb := u.below hb (by omega) (by omega)
    obtain ⟨S20, hS20⟩ : ∃ S, w20.heap.size = S := ⟨_, rfl⟩
    have hz20 : S18 + 1 ≤ S20 := by have := u.size; omega
    clear u
    rw [hS20] at Ox1
    obtain ⟨ax1, dx1, rfl⟩ := Ox1.shape
    have u := Upd.alloc w20 (.cells #[.slice ax1 xss1.length dx1] 40)
    have X1 : VC 40 (S20) #[.slice ax1 xss1.length dx1] (w20.alloc (.cells #[.slice ax1 xss1.length dx1] 40)) := VC.new hS20
    replace A0 := A0.upd u (by omega)
    replace A1 := A1.upd u (by omega)
    replace Rw := Rw.upd u (by omega)
    replace Vw := Vw.upd u (by omega)
    replace Ox0 := Ox0.upd u (by omega)
    replace X0 := X0.upd u (by omega)
    replace Ox1 := Ox1.upd u (by omega)
    replace hb := u.below hb (by omega) (by omega)
    have hS21 : (w20.alloc (.cells #[.slice ax1 xss1.length dx1] 40)).heap.size = S20 + 1 := by simp [hS20]
    clear u
    have cA0 := A0.cell
    have cA1 := A1.cell
    have cVw := Vw.cell
    have cX0 := X0.cell
    have cX1 := X1.cell
    go_wp2_with fail
    generalize w20.alloc (.cells #[.slice ax1 xss1.length dx1] 40) = W21 at *
    refine (Hi.out _ _ _ (ht.keep hb hTB) Ox0.rd Ox1.rd).mono ?_
    rintro e w22 ⟨ug0, vs, rfl, G, u⟩
    replace u := Upd.of_below u
    clear cA0 cA1 cVw cX0 cX1
    replace A0 := A0.upd u (by omega)
    replace A1 := A1.upd u (by omega)
    replace Rw := Rw.upd u (by omega)
    replace Vw := Vw.upd u (by omega)
    replace Ox0 := Ox0.upd u (by omega)
    replace X0 := X0.upd u (by omega)
    replace Ox1 := Ox1.upd u (by omega)
    replace X1 := X1.upd u (by omega)
    replace hb := u.below hb (by omega) (by omega)
    obtain ⟨S22, hS22⟩ : ∃ S, w22.heap.size = S := ⟨_, rfl⟩
    have hz22 : S20 + 1 ≤ S22 := by have := u.size; omega
    clear u
    have Rg := OwSS.of G hS21 hS22
    clear G
    obtain ⟨ag, dg, rfl⟩ := Rg.shape
    have u := Upd.alloc w22 (.cells #[.slice ag rows0.length dg] 24)
    have Vg : VC 24 (S22) #[.slice ag rows0.length dg] (w22.alloc (.cells #[.slice ag rows0.length dg] 24)) := VC.new hS22
    replace A0 := A0.upd u (by omega)
    replace A1 := A1.upd u (by omega)
    replace Rw := Rw.upd u (by omega)
    replace Vw := Vw.upd u (by omega)
    replace Ox0 := Ox0.upd u (by omega)
    replace X0 := X0.upd u (by omega)
    replace Ox1 := Ox1.upd u (by omega)
    replace X1 := X1.upd u (by omega)
    replace Rg := Rg.upd u (by omega)
    replace hb := u.below hb (by omega) (by omega)
    have hS23 : (w22.alloc (.cells #[.slice ag rows0.length dg] 24)).heap.size = S22 + 1 := by simp [hS22]
    clear u
    have cA0 := A0.cell
    have cA1 := A1.cell
    have cVw := Vw.cell
    have cX0 := X0.cell
    have cX1 := X1.cell
    have cVg := Vg.cell
    go_wp2_with fail
    generalize w22.alloc (.cells #[.slice ag rows0.length dg] 24) = W23 at *
    refine (eqG_k Rg.rd Rw.rd).mono ?_
    rintro e w24 ⟨rfl, u⟩
    clear cA0 cA1 cVw cX0 cX1 cVg
    replace A0 := A0.upd u (by omega)
    replace A1 := A1.upd u (by omega)
    replace Rw := Rw.upd u (by omega)
    replace Vw := Vw.upd u (by omega)
    replace Ox0 := Ox0.upd u (by omega)
    replace X0 := X0.upd u (by omega)
    replace Ox1 := Ox1.upd u (by omega)
    replace X1 := X1.upd u (by omega)
    replace Rg := Rg.upd u (by omega)
    replace Vg := Vg.upd u (by omega)
    replace hb := u.below hb (by omega) (by omega)
    obtain ⟨S24, hS24⟩ : ∃ S, w24.heap.size = S := ⟨_, rfl⟩
    have hz24 : S22 + 1 ≤ S24 := by have := u.size; omega
    clear u
    have cA0 := A0.cell
    have cA1 := A1.cell
    have cVw := Vw.cell
    have cX0 := X0.cell
    have cX1 := X1.cell
    have cVg := Vg.cell
    go_wp2_with fail
    refine wp_region_ord [] [0, 1] [2] [3, 4] (by kernel_rfl) (by kernel_rfl) (fun _ _ d _ _ h => by cases d <;> exact h) ?_
    simp only [pickOps, List.filterMap_cons, List.filterMap_nil, List.getElem?_cons_succ, List.getElem?_cons_zero]
    repeat quiet_step (fail)
    refine wpSegs_cons ?_
    clear cA0 cA1 cVw cX0 cX1 cVg
    have u := Upd.drew w24
    replace A0 := A0.upd u (by omega)
    replace A1 := A1.upd u (by omega)
    replace Rw := Rw.upd u (by omega)
    replace Vw := Vw.upd u (by omega)
    replace Ox0 := Ox0.upd u (by omega)
    replace X0 := X0.upd u (by omega)
    replace Ox1 := Ox1.upd u (by omega)
    replace X1 := X1.upd u (by omega)
    replace Rg := Rg.upd u (by omega)
    replace Vg := Vg.upd u (by omega)
    replace hb := u.below hb (by omega) (by omega)
    clear u
    have hS25 : w24.drew.heap.size = S24 := hS24
    have cA0 := A0.cell
    have cA1 := A1.cell
    have cVw := Vw.cell
    have cX0 := X0.cell
    have cX1 := X1.cell
    have cVg := Vg.cell
    go_wp2_with fail
    refine (toG_k (hr0.below hb hB) (by omega) HL0.out hS25).mono ?_
    rintro e w26 ⟨uy0, rfl, Oy0, u⟩
    have HB : Hid (Below w24.heap.size w24 w26) := Lib.hid ⟨u.os, u.tape, u.output, u.size, fun k hk => u.block k hk (by omega)⟩
    clear cA0 cA1 cVw cX0 cX1 cVg
    replace A0 := A0.upd u (by omega)
    replace A1 := A1.upd u (by omega)
    replace Rw := Rw.upd u (by omega)
    replace Vw := Vw.upd u (by omega)
    replace Ox0 := Ox0.upd u (by omega)
    replace X0 := X0.upd u (by omega)
    replace Ox1 := Ox1.upd u (by omega)
    replace X1 := X1.upd u (by omega)
    replace Rg := Rg.upd u (by omega)
    replace Vg := Vg.upd u (by omega)
    replace hb := u.below hb (by omega) (by omega)
    obtain ⟨S26, hS26⟩ : ∃ S, w26.heap.size = S := ⟨_, rfl⟩
    have hz26 : S24 ≤ S26 := by have := u.size; omega
    clear u
    rw [hS26] at Oy0
    obtain ⟨ay0, dy0, rfl⟩ := Oy0.shape
    have cA0 := A0.cell
    have cA1 := A1.cell
    have cVw := Vw.cell
    have cX0 := X0.cell
    have cX1 := X1.cell
    have cVg := Vg.cell
    go_wp2_with fail
    refine ⟨(by have h := HB.out; first | exact h | (rw [hS24] at h; exact h)), ?_⟩
    simp only [wpSegs_nil_eq]
    go_wp2_with fail
    clear HB
    refine (eqG_k Ox0.rd Oy0.rd).mono ?_
    rintro e w27 ⟨rfl, u⟩
    clear cA0 cA1 cVw cX0 cX1 cVg
    replace A0 := A0.upd u (by omega)
    replace A1 := A1.upd u (by omega)
    replace Rw := Rw.upd u (by omega)
    replace Vw := Vw.upd u (by omega)
    replace Ox0 := Ox0.upd u (by omega)
    replace X0 := X0.upd u (by omega)
    replace Ox1 := Ox1.upd u (by omega)
    replace X1 := X1.upd u (by omega)
    replace Rg := Rg.upd u (by omega)
    replace Vg := Vg.upd u (by omega)
    replace Oy0 := Oy0.upd u (by omega)
    replace hb := u.below hb (by omega) (by omega)
    obtain ⟨S27, hS27⟩ : ∃ S, w27.heap.size = S := ⟨_, rfl⟩
    have hz27 : S26 ≤ S27 := by have := u.size; omega
    clear u
    have cA0 := A0.cell
    have cA1 := A1.cell
    have cVw := Vw.cell
    have cX0 := X0.cell
    have cX1 := X1.cell
    have cVg := Vg.cell
    go_wp2_with fail
    clear Oy0
    refine wp_region_ord [] [0, 1] [2] [3, 4] (by kernel_rfl) (by kernel_rfl) (fun _ _ d _ _ h => by cases d <;> exact h) ?_
    simp only [pickOps, List.filterMap_cons, List.filterMap_nil, List.getElem?_cons_succ, List.getElem?_cons_zero]
    repeat quiet_step (fail)
    refine wpSegs_cons ?_
    clear cA0 cA1 cVw cX0 cX1 cVg
    have u := Upd.drew w27
    replace A0 := A0.upd u (by omega)
    replace A1 := A1.upd u (by omega)
    replace Rw := Rw.upd u (by omega)
    replace Vw := Vw.upd u (by omega)
    replace Ox0 := Ox0.upd u (by omega)
    replace X0 := X0.upd u (by omega)
    replace Ox1 := Ox1.upd u (by omega)
    replace X1 := X1.upd u (by omega)
    replace Rg := Rg.upd u (by omega)
    replace Vg := Vg.upd u (by omega)
    replace hb := u.below hb (by omega) (by omega)
    clear u
    have hS28 : w27.drew.heap.size = S27 := hS27
    have cA0 := A0.cell
    have cA1 := A1.cell
    have cVw := Vw.cell
    have cX0 := X0.cell
    have cX1 := X1.cell
    have cVg := Vg.cell
    go_wp2_with fail
    refine (toM_k (hr1.below hb hB) (by omega) HL1.out hS28).mono ?_
    rintro e w29 ⟨uy1, rfl, Oy1, u⟩
    have HB : Hid (Below w27.heap.size w27 w29) := Lib.hid ⟨u.os, u.tape, u.output, u.size, fun k hk => u.block k hk (by omega)⟩
    clear cA0 cA1 cVw cX0 cX1 cVg
    replace A0 := A0.upd u (by omega)
    replace A1 := A1.upd u (by omega)
    replace Rw := Rw.upd u (by omega)
    replace Vw := Vw.upd u (by omega)
    replace Ox0 := Ox0.upd u (by omega)
    replace X0 := X0.upd u (by omega)
    replace Ox1 := Ox1.upd u (by omega)
    replace X1 := X1.upd u (by omega)
    replace Rg := Rg.upd u (by omega)
    replace Vg := Vg.upd u (by omega)
    replace hb := u.below hb (by omega) (by omega)
    obtain ⟨S29, hS29⟩ : ∃ S, w29.heap.size = S := ⟨_, rfl⟩
    have hz29 : S27 ≤ S29 := by have := u.size; omega
    clear u
    rw [hS29] at Oy1
    obtain ⟨ay1, dy1, rfl⟩ := Oy1.shape
    have cA0 := A0.cell
    have cA1 := A1.cell
    have cVw := Vw.cell
    have cX0 := X0.cell
    have cX1 := X1.cell
    have cVg := Vg.cell
    go_wp2_with fail
    refine ⟨(by have h := HB.out; first | exact h | (rw [hS27] at h; exact h)), ?_⟩
    simp only [wpSegs_nil_eq]
    go_wp2_with fail
    clear HB
    refine (eqM_k Ox1.rd Oy1.rd).mono ?_
    rintro e w30 ⟨rfl, u⟩
    clear cA0 cA1 cVw cX0 cX1 cVg
    replace A0 := A0.upd u (by omega)
    replace A1 := A1.upd u (by omega)
    replace Rw := Rw.upd u (by omega)
    replace Vw := Vw.upd u (by omega)
    replace Ox0 := Ox0.upd u (by omega)
    replace X0 := X0.upd u (by omega)
    replace Ox1 := Ox1.upd u (by omega)
    replace X1 := X1.upd u (by omega)
    replace Rg := Rg.upd u (by omega)
    replace Vg := Vg.upd u (by omega)
    replace Oy1 := Oy1.upd u (by omega)
    replace hb := u.below hb (by omega) (by omega)
    obtain ⟨S30, hS30⟩ : ∃ S, w30.heap.size = S := ⟨_, rfl⟩
    have hz30 : S29 ≤ S30 := by have := u.size; omega
    clear u
    have cA0 := A0.cell
    have cA1 := A1.cell
    have cVw := Vw.cell
    have cX0 := X0.cell
    have cX1 := X1.cell
    have cVg := Vg.cell
    go_wp2_with fail
    clear Oy1
    obtain ⟨J0, hJ0⟩ : ∃ K : Int, K = ((1 + total xss0 : Nat) : Int) := ⟨_, rfl⟩
    have hJp0 : 0 ≤ J0 := by omega
    have hJl0 : J0 ≤ 1000000000 := by omega
    have HJ0 := Lib.hid hJ0
    clear hJ0
    refine (markG_k Ox0 (k := 1) rfl HJ0.out (by omega) (by omega)).mono ?_
    rintro e w31 ⟨rfl, Ox0', u⟩
    clear cA0 cA1 cVw cX0 cX1 cVg
    replace A0 := A0.upd u (by omega)
    replace A1 := A1.upd u (by omega)
    replace Rw := Rw.upd u (by omega)
    replace Vw := Vw.upd u (by omega)
    replace X0 := X0.upd u (by omega)
    replace Ox1 := Ox1.upd u (by omega)
    replace X1 := X1.upd u (by omega)
    replace Rg := Rg.upd u (by omega)
    replace Vg := Vg.upd u (by omega)
    replace hb := u.below hb (by omega) (by omega)
    obtain ⟨S31, hS31⟩ : ∃ S, w31.heap.size = S := ⟨_, rfl⟩
    have hz31 : S30 ≤ S31 := by have := u.size; omega
    clear u
    clear Ox0
    clear Ox0'
    have cA0 := A0.cell
    have cA1 := A1.cell
    have cVw := Vw.cell
    have cX0 := X0.cell
    have cX1 := X1.cell
    have cVg := Vg.cell
    go_wp2_with fail
    obtain ⟨J1, hJ1⟩ : ∃ K : Int, K = ((1 + total xss0 + total xss1 : Nat) : Int) := ⟨_, rfl⟩
    have hJp1 : 0 ≤ J1 := by omega
    have hJl1 : J1 ≤ 1000000000 := by omega
    have HJ1 := Lib.hid hJ1
    clear hJ1
    refine (markM_k Ox1 (k := 1 + total xss0) HJ0.out HJ1.out (by omega) (by omega)).mono ?_
    rintro e w32 ⟨rfl, Ox1', u⟩
    clear cA0 cA1 cVw cX0 cX1 cVg
    replace A0 := A0.upd u (by omega)
    replace A1 := A1.upd u (by omega)
    replace Rw := Rw.upd u (by omega)
    replace Vw := Vw.upd u (by omega)
    replace X0 := X0.upd u (by omega)
    replace X1 := X1.upd u (by omega)
    replace Rg := Rg.upd u (by omega)
    replace Vg := Vg.upd u (by omega)
    replace hb := u.below hb (by omega) (by omega)
    obtain ⟨S32, hS32⟩ : ∃ S, w32.heap.size = S := ⟨_, rfl⟩
    have hz32 : S31 ≤ S32 := by have := u.size; omega
    clear u
    clear Ox1
    clear Ox1'
    have cA0 := A0.cell
    have cA1 := A1.cell
    have cVw := Vw.cell
    have cX0 := X0.cell
    have cX1 := X1.cell
    have cVg := Vg.cell
    go_wp2_with fail
    refine (eqG_k Rg.rd Rw.rd).mono ?_
    rintro e w33 ⟨rfl, u⟩
    clear cA0 cA1 cVw cX0 cX1 cVg
    replace A0 := A0.upd u (by omega)
    replace A1 := A1.upd u (by omega)
    replace Rw := Rw.upd u (by omega)
    replace Vw := Vw.upd u (by omega)
    replace X0 := X0.upd u (by omega)
    replace X1 := X1.upd u (by omega)
    replace Rg := Rg.upd u (by omega)
    replace Vg := Vg.upd u (by omega)
    replace hb := u.below hb (by omega) (by omega)
    obtain ⟨S33, hS33⟩ : ∃ S, w33.heap.size = S := ⟨_, rfl⟩
    have hz33 : S32 ≤ S33 := by have := u.size; omega
    clear u
    have cA0 := A0.cell
    have cA1 := A1.cell
    have cVw := Vw.cell
    have cX0 := X0.cell
    have cX1 := X1.cell
    have cVg := Vg.cell
    go_wp2_with fail
    clear cX0 X0
    clear cX1 X1
    refine (markG_k Rg (k := 1) rfl HK0.out hk0 hn0).mono ?_
    rintro e w34 ⟨rfl, Rm, u⟩
    clear cA0 cA1 cVw cVg
    replace A0 := A0.upd u (by omega)
    replace A1 := A1.upd u (by omega)
    replace Rw := Rw.upd u (by omega)
    replace Vw := Vw.upd u (by omega)
    replace Vg := Vg.upd u (by omega)
    replace hb := u.below hb (by omega) (by omega)
    obtain ⟨S34, hS34⟩ : ∃ S, w34.heap.size = S := ⟨_, rfl⟩
    have hz34 : S33 ≤ S34 := by have := u.size; omega
    clear u
    clear Rg
    have cA0 := A0.cell
    have cA1 := A1.cell
    have cVw := Vw.cell
    have cVg := Vg.cell
    go_wp2_with fail
    refine (heldG_k Rm.rd (k := 1) rfl HK0.out hk0 hn0).mono ?_
    rintro e w35 ⟨rfl, u⟩
    clear cA0 cA1 cVw cVg
    replace A0 := A0.upd u (by omega)
    replace A1 := A1.upd u (by omega)
    replace Rw := Rw.upd u (by omega)
    replace Vw := Vw.upd u (by omega)
    replace Vg := Vg.upd u (by omega)
    replace Rm := Rm.upd u (by omega)
    replace hb := u.below hb (by omega) (by omega)
    obtain ⟨S35, hS35⟩ : ∃ S, w35.heap.size = S := ⟨_, rfl⟩
    have hz35 : S34 ≤ S35 := by have := u.size; omega
    clear u
    have cA0 := A0.cell
    have cA1 := A1.cell
    have cVw := Vw.cell
    have cVg := Vg.cell
    go_upto_region 31 with (fail)
    obtain ⟨SRh, hSRh⟩ : ∃ S, w35.heap.size = S := ⟨_, rfl⟩
    have hzRh : S35 ≤ SRh := by omega
    go_cut [15, 16] (fun sv so wx => ∃ (SLh SHh SVh SEh : Nat) (ah : Option Addr) (dh : Nat), sv = .pointer (some ⟨SVh, 0, none⟩) ∧ so = .bool ok1 ∧ VC 24 SVh #[.slice ah rows0.length dh] wx ∧ OwSS SLh SHh (.slice ah rows0.length dh) rows0 wx ∧ wx.heap.size = SEh ∧ SRh ≤ SLh ∧ SHh ≤ SEh ∧ SRh ≤ SVh ∧ SVh < SEh ∧ (SVh < SLh ∨ SHh ≤ SVh) ∧ Below SRh w35 wx)
    case first =>
      have hbRh : Below SRh w35 w35 := Below.refl _ _
      refine wp_region_take [] [0, 2] 3 9 #[true, false, true, false, false, false, false, false, false, false, false] (by kernel_rfl) (by kernel_rfl) (by kernel_rfl) (by kernel_rfl) (fun _ _ d _ _ h => by cases d <;> exact h) ?_
      simp only [pickOps, List.filterMap_cons, List.filterMap_nil, List.getElem?_cons_succ, List.getElem?_cons_zero]
      repeat quiet_step (fail)
      simp only [wpQuiet_nil_eq]
      clear cA0 cA1 cVw cVg
      clear Rw Vw Vg Rm
      have u := Upd.drew w35
      replace A0 := A0.upd u (by omega)
      replace A1 := A1.upd u (by omega)
      replace hb := u.below hb (by omega) (by omega)
      replace hbRh := hbRh.drew
      clear u
      have hS36 : w35.drew.heap.size = SRh := hSRh
      refine wpAnyG_2 1 8 (by kernel_rfl) rfl rfl ?_ ?_
      ·
        unfold wpNext
        have cA0 := A0.cell
        have cA1 := A1.cell
        go_wp2_with fail
        refine (toG_k (hr0.below hb hB) (by omega) HL0.out hS36).mono ?_
        rintro e w37 ⟨uhs0, rfl, Ohs0, u⟩
        replace hbRh := hbRh.trans (u.toBelow (B := SRh) (by omega) (by omega))
        clear cA0 cA1
        replace A0 := A0.upd u (by omega)
        replace A1 := A1.upd u (by omega)
        replace hb := u.below hb (by omega) (by omega)
        obtain ⟨S37, hS37⟩ : ∃ S, w37.heap.size = S := ⟨_, rfl⟩
        have hz37 : SRh ≤ S37 := by have := u.size; omega
        clear u
        rw [hS37] at Ohs0
        obtain ⟨ahs0, dhs0, rfl⟩ := Ohs0.shape
        have cA0 := A0.cell
        have cA1 := A1.cell
        go_wp2_with fail
        refine ⟨fun _ => over_of_below (by rw [hSRh]; exact hbRh), ?_⟩
        clear cA0 cA1
        refine wpAnyG_2 3 8 (by kernel_rfl) rfl rfl ?_ ?_
        ·
          unfold wpNext
          have cA0 := A0.cell
          have cA1 := A1.cell
          go_wp2_with fail
          refine (toM_k (hr1.below hb hB) (by omega) HL1.out hS37).mono ?_
          rintro e w38 ⟨uhs1, rfl, Ohs1, u⟩
          replace hbRh := hbRh.trans (u.toBelow (B := SRh) (by omega) (by omega))
          clear cA0 cA1
          replace A0 := A0.upd u (by omega)
          replace A1 := A1.upd u (by omega)
          replace Ohs0 := Ohs0.upd u (by omega)
          replace hb := u.below hb (by omega) (by omega)
          obtain ⟨S38, hS38⟩ : ∃ S, w38.heap.size = S := ⟨_, rfl⟩
          have hz38 : S37 ≤ S38 := by have := u.size; omega
          clear u
          rw [hS38] at Ohs1
          obtain ⟨ahs1, dhs1, rfl⟩ := Ohs1.shape
          have cA0 := A0.cell
          have cA1 := A1.cell
          go_wp2_with fail
          refine ⟨fun h => by simp at h, ?_⟩
          clear cA0 cA1
          refine wpAnyG_2 4 8 (by kernel_rfl) rfl rfl ?_ ?_
          ·
            unfold wpNext
            have cA0 := A0.cell
            have cA1 := A1.cell
            go_wp2_with fail
            refine (Hi.out _ _ _ (ht.keep hb hTB) Ohs0.rd Ohs1.rd).mono ?_
            rintro e w39 ⟨uh0, vs, rfl, G, u⟩
            replace u := Upd.of_below u
            clear cA0 cA1
            replace A0 := A0.upd u (by omega)
            replace A1 := A1.upd u (by omega)
            replace Ohs0 := Ohs0.upd u (by omega)
            replace Ohs1 := Ohs1.upd u (by omega)
            replace hb := u.below hb (by omega) (by omega)
            replace hbRh := hbRh.trans (u.toBelow (B := SRh) (by omega) (by omega))
            obtain ⟨SLh, hSLh⟩ : ∃ S, S = S38 := ⟨_, rfl⟩
            obtain ⟨SHh, hSHh⟩ : ∃ S, w39.heap.size = S := ⟨_, rfl⟩
            have hzHh : SLh ≤ SHh := by have := u.size; omega
            clear u
            have Rh := OwSS.of (lo := SLh) G (hS38.trans hSLh.symm) hSHh
            clear G
            obtain ⟨ah, dh, rfl⟩ := Rh.shape
            clear Ohs0
            clear Ohs1
            have cA0 := A0.cell
            have cA1 := A1.cell
            go_wp2_with fail
            clear cA0 cA1
            refine ⟨fun h => by simp at h, ?_⟩
            refine wpAnyG_mid [5, 6, 7] 3 #[true, true, true, true, true, true, true, true, false, false, false] rfl (by kernel_rfl) (by kernel_rfl) (by kernel_rfl) (fun _ _ d _ _ h => by cases d <;> exact h) (fun h => by simp at h) ?_
            simp only [pickOps, List.filterMap_cons, List.filterMap_nil, List.getElem?_cons_succ, List.getElem?_cons_zero]
            repeat quiet_step (fail)
            simp only [wpQuiet_nil_eq]
            refine wpAnyG_1 8 (by kernel_rfl) rfl ?_
            unfold wpNext
            go_wp2_with fail
            obtain ⟨SVh, hSVh⟩ : ∃ S, S = SHh := ⟨_, rfl⟩
            have Vh : VC 24 SVh #[.slice none 0 0] (w39.alloc (.cells #[.slice none 0 0] 24)) := VC.new (by rw [hSVh]; exact hSHh)
            have u : Upd 0 0 w39 (w39.alloc (.cells #[.slice none 0 0] 24)) := ⟨rfl, rfl, rfl, by simp, fun k hk _ => Below.heap_alloc _ _ _ hk⟩
            replace A0 := A0.upd u (by omega)
            replace A1 := A1.upd u (by omega)
            replace Rh := Rh.upd u (by omega)
            replace hb := u.below hb (by omega) (by omega)
            replace hbRh := hbRh.trans (u.toBelow (B := SRh) (by omega) (by omega))
            clear u
            have hS40 : (w39.alloc (.cells #[.slice none 0 0] 24)).heap.size = SHh + 1 := by simp [hSHh, hSRh]
            generalize (w39.alloc (.cells #[.slice none 0 0] 24)) = W40 at *
            obtain ⟨S40, hSe40⟩ : ∃ S, S = SHh + 1 := ⟨_, rfl⟩
            rw [← hSe40] at hS40
            try rw [hSHh]
            try rw [hSRh]
            try rw [← hSVh]
            have hi1 : SVh ≤ SHh ∧ SHh ≤ SVh := by omega
            clear hSVh
            refine ⟨fun h => by simp at h, ?_⟩
            have cVh := Vh.cell
            have fVh := Vh.free
            have hzVh : SVh < S40 := by have := Vh.lt; omega
            have HM : Hid (VC 24 SVh #[.slice ah rows0.length dh] (W40.setCell ⟨SVh, 0, none⟩ (.slice ah rows0.length dh)) ∧ OwSS SLh SHh (.slice ah rows0.length dh) rows0 (W40.setCell ⟨SVh, 0, none⟩ (.slice ah rows0.length dh)) ∧ (W40.setCell ⟨SVh, 0, none⟩ (.slice ah rows0.length dh)).heap.size = S40 ∧ Below SRh w35 (W40.setCell ⟨SVh, 0, none⟩ (.slice ah rows0.length dh))) := Lib.hid (by
              have u : Upd SVh (SVh + 1) W40 (W40.setCell ⟨SVh, 0, none⟩ (.slice ah rows0.length dh)) := Upd.setCell _ _ _
              exact ⟨Vh.set _, Rh.upd u (by omega), by simp [World.setCell, hS40], hbRh.trans (u.toBelow (B := SRh) (by omega) (by omega))⟩)
            clear Vh Rh hbRh
            refine wpAnyG_tail [9, 10] rfl (.inl (by kernel_rfl)) (by kernel_rfl) ?_
            simp only [pickOps, List.filterMap_cons, List.filterMap_nil, List.getElem?_cons_succ, List.getElem?_cons_zero]
            go_wp2_with fail
            go_meet
            exact ⟨SLh, SHh, SVh, S40, ah, dh, rfl, rfl, HM.out.1, HM.out.2.1, HM.out.2.2.1, by omega, by omega, by omega, by omega, by omega, HM.out.2.2.2⟩
          ·
            unfold wpNext
            go_wp2_with fail
            obtain ⟨SVh, hSVh⟩ : ∃ S, S = S38 := ⟨_, rfl⟩
            have Vh : VC 24 SVh #[.slice none 0 0] (w38.alloc (.cells #[.slice none 0 0] 24)) := VC.new (by rw [hSVh]; exact hS38)
            have u : Upd 0 0 w38 (w38.alloc (.cells #[.slice none 0 0] 24)) := ⟨rfl, rfl, rfl, by simp, fun k hk _ => Below.heap_alloc _ _ _ hk⟩
            replace A0 := A0.upd u (by omega)
            replace A1 := A1.upd u (by omega)
            replace Ohs0 := Ohs0.upd u (by omega)
            replace Ohs1 := Ohs1.upd u (by omega)
            replace hb := u.below hb (by omega) (by omega)
            replace hbRh := hbRh.trans (u.toBelow (B := SRh) (by omega) (by omega))
            clear u
            have hS41 : (w38.alloc (.cells #[.slice none 0 0] 24)).heap.size = S38 + 1 := by simp [hS38, hSRh]
            generalize (w38.alloc (.cells #[.slice none 0 0] 24)) = W41 at *
            obtain ⟨S41, hSe41⟩ : ∃ S, S = S38 + 1 := ⟨_, rfl⟩
            rw [← hSe41] at hS41
            try rw [hS38]
            try rw [hSRh]
            try rw [← hSVh]
            have hi1 : SVh ≤ S38 ∧ S38 ≤ SVh := by omega
            clear hSVh
            refine ⟨fun h => by simp at h, ?_⟩
            refine wpAnyG_1 4 (by kernel_rfl) rfl ?_
            unfold wpNext
            have cA0 := A0.cell
            have cA1 := A1.cell
            have cVh := Vh.cell
            go_wp2_with fail
            refine (Hi.out _ _ _ (ht.keep hb hTB) Ohs0.rd Ohs1.rd).mono ?_
            rintro e w42 ⟨uh0, vs, rfl, G, u⟩
            replace u := Upd.of_below u
            clear cA0 cA1 cVh
            replace A0 := A0.upd u (by omega)
            replace A1 := A1.upd u (by omega)
            replace Ohs0 := Ohs0.upd u (by omega)
            replace Ohs1 := Ohs1.upd u (by omega)
            replace Vh := Vh.upd u (by omega)
            replace hb := u.below hb (by omega) (by omega)
            replace hbRh := hbRh.trans (u.toBelow (B := SRh) (by omega) (by omega))
            obtain ⟨SLh, hSLh⟩ : ∃ S, S = S41 := ⟨_, rfl⟩
            obtain ⟨SHh, hSHh⟩ : ∃ S, w42.heap.size = S := ⟨_, rfl⟩
            have hzHh : SLh ≤ SHh := by have := u.size; omega
            clear u
            have Rh := OwSS.of (lo := SLh) G (hS41.trans hSLh.symm) hSHh
            clear G
            obtain ⟨ah, dh, rfl⟩ := Rh.shape
            clear Ohs0
            clear Ohs1
            have cA0 := A0.cell
            have cA1 := A1.cell
            have cVh := Vh.cell
            go_wp2_with fail
            clear cA0 cA1 cVh
            refine ⟨fun h => by simp at h, ?_⟩
            refine wpAnyG_mid [5, 6, 7] 2 #[true, true, true, true, true, true, true, true, true, false, false] rfl (by kernel_rfl) (by kernel_rfl) (by kernel_rfl) (fun _ _ d _ _ h => by cases d <;> exact h) (fun h => by simp at h) ?_
            simp only [pickOps, List.filterMap_cons, List.filterMap_nil, List.getElem?_cons_succ, List.getElem?_cons_zero]
            repeat quiet_step (fail)
            simp only [wpQuiet_nil_eq]
            have cVh := Vh.cell
            have fVh := Vh.free
            have hzVh : SVh < SHh := by have := Vh.lt; omega
            have HM : Hid (VC 24 SVh #[.slice ah rows0.length dh] (w42.setCell ⟨SVh, 0, none⟩ (.slice ah rows0.length dh)) ∧ OwSS SLh SHh (.slice ah rows0.length dh) rows0 (w42.setCell ⟨SVh, 0, none⟩ (.slice ah rows0.length dh)) ∧ (w42.setCell ⟨SVh, 0, none⟩ (.slice ah rows0.length dh)).heap.size = SHh ∧ Below SRh w35 (w42.setCell ⟨SVh, 0, none⟩ (.slice ah rows0.length dh))) := Lib.hid (by
              have u : Upd SVh (SVh + 1) w42 (w42.setCell ⟨SVh, 0, none⟩ (.slice ah rows0.length dh)) := Upd.setCell _ _ _
              exact ⟨Vh.set _, Rh.upd u (by omega), by simp [World.setCell, hSHh], hbRh.trans (u.toBelow (B := SRh) (by omega) (by omega))⟩)
            clear Vh Rh hbRh
            refine wpAnyG_tail [9, 10] rfl (.inl (by kernel_rfl)) (by kernel_rfl) ?_
            simp only [pickOps, List.filterMap_cons, List.filterMap_nil, List.getElem?_cons_succ, List.getElem?_cons_zero]
            go_wp2_with fail
            go_meet
            exact ⟨SLh, SHh, SVh, SHh, ah, dh, rfl, rfl, HM.out.1, HM.out.2.1, HM.out.2.2.1, by omega, by omega, by omega, by omega, by omega, HM.out.2.2.2⟩
        ·
          unfold wpNext
          go_wp2_with fail
          obtain ⟨SVh, hSVh⟩ : ∃ S, S = S37 := ⟨_, rfl⟩
          have Vh : VC 24 SVh #[.slice none 0 0] (w37.alloc (.cells #[.slice none 0 0] 24)) := VC.new (by rw [hSVh]; exact hS37)
          have u : Upd 0 0 w37 (w37.alloc (.cells #[.slice none 0 0] 24)) := ⟨rfl, rfl, rfl, by simp, fun k hk _ => Below.heap_alloc _ _ _ hk⟩
          replace A0 := A0.upd u (by omega)
          replace A1 := A1.upd u (by omega)
          replace Ohs0 := Ohs0.upd u (by omega)
          replace hb := u.below hb (by omega) (by omega)
          replace hbRh := hbRh.trans (u.toBelow (B := SRh) (by omega) (by omega))
          clear u
          have hS43 : (w37.alloc (.cells #[.slice none 0 0] 24)).heap.size = S37 + 1 := by simp [hS37, hSRh]
          generalize (w37.alloc (.cells #[.slice none 0 0] 24)) = W43 at *
          obtain ⟨S43, hSe43⟩ : ∃ S, S = S37 + 1 := ⟨_, rfl⟩
          rw [← hSe43] at hS43
          try rw [hS37]
          try rw [hSRh]
          try rw [← hSVh]
          have hi1 : SVh ≤ S37 ∧ S37 ≤ SVh := by omega
          clear hSVh
          refine ⟨fun _ => over_of_below (by rw [hSRh]; exact hbRh), ?_⟩
          refine wpAnyG_1 3 (by kernel_rfl) rfl ?_
          unfold wpNext
          have cA0 := A0.cell
          have cA1 := A1.cell
          have cVh := Vh.cell
          go_wp2_with fail
          refine (toM_k (hr1.below hb hB) (by omega) HL1.out hS43).mono ?_
          rintro e w44 ⟨uhs1, rfl, Ohs1, u⟩
          replace hbRh := hbRh.trans (u.toBelow (B := SRh) (by omega) (by omega))
          clear cA0 cA1 cVh
          replace A0 := A0.upd u (by omega)
          replace A1 := A1.upd u (by omega)
          replace Ohs0 := Ohs0.upd u (by omega)
          replace Vh := Vh.upd u (by omega)
          replace hb := u.below hb (by omega) (by omega)
          obtain ⟨S44, hS44⟩ : ∃ S, w44.heap.size = S := ⟨_, rfl⟩
          have hz44 : S43 ≤ S44 := by have := u.size; omega
          clear u
          rw [hS44] at Ohs1
          obtain ⟨ahs1, dhs1, rfl⟩ := Ohs1.shape
          have cA0 := A0.cell
          have cA1 := A1.cell
          have cVh := Vh.cell
          go_wp2_with fail
          refine ⟨fun h => by simp at h, ?_⟩
          clear cA0 cA1 cVh
          refine wpAnyG_1 4 (by kernel_rfl) rfl ?_
          unfold wpNext
          have cA0 := A0.cell
          have cA1 := A1.cell
          have cVh := Vh.cell
          go_wp2_with fail
          refine (Hi.out _ _ _ (ht.keep hb hTB) Ohs0.rd Ohs1.rd).mono ?_
          rintro e w45 ⟨uh0, vs, rfl, G, u⟩
          replace u := Upd.of_below u
          clear cA0 cA1 cVh
          replace A0 := A0.upd u (by omega)
          replace A1 := A1.upd u (by omega)
          replace Ohs0 := Ohs0.upd u (by omega)
          replace Vh := Vh.upd u (by omega)
          replace Ohs1 := Ohs1.upd u (by omega)
          replace hb := u.below hb (by omega) (by omega)
          replace hbRh := hbRh.trans (u.toBelow (B := SRh) (by omega) (by omega))
          obtain ⟨SLh, hSLh⟩ : ∃ S, S = S44 := ⟨_, rfl⟩
          obtain ⟨SHh, hSHh⟩ : ∃ S, w45.heap.size = S := ⟨_, rfl⟩
          have hzHh : SLh ≤ SHh := by have := u.size; omega
          clear u
          have Rh := OwSS.of (lo := SLh) G (hS44.trans hSLh.symm) hSHh
          clear G
          obtain ⟨ah, dh, rfl⟩ := Rh.shape
          clear Ohs0
          clear Ohs1
          have cA0 := A0.cell
          have cA1 := A1.cell
          have cVh := Vh.cell
          go_wp2_with fail
          clear cA0 cA1 cVh
          refine ⟨fun h => by simp at h, ?_⟩
          refine wpAnyG_mid [5, 6, 7] 2 #[true, true, true, true, true, true, true, true, true, false, false] rfl (by kernel_rfl) (by kernel_rfl) (by kernel_rfl) (fun _ _ d _ _ h => by cases d <;> exact h) (fun h => by simp at h) ?_
          simp only [pickOps, List.filterMap_cons, List.filterMap_nil, List.getElem?_cons_succ, List.getElem?_cons_zero]
          repeat quiet_step (fail)
          simp only [wpQuiet_nil_eq]
          have cVh := Vh.cell
          have fVh := Vh.free
          have hzVh : SVh < SHh := by have := Vh.lt; omega
          have HM : Hid (VC 24 SVh #[.slice ah rows0.length dh] (w45.setCell ⟨SVh, 0, none⟩ (.slice ah rows0.length dh)) ∧ OwSS SLh SHh (.slice ah rows0.length dh) rows0 (w45.setCell ⟨SVh, 0, none⟩ (.slice ah rows0.length dh)) ∧ (w45.setCell ⟨SVh, 0, none⟩ (.slice ah rows0.length dh)).heap.size = SHh ∧ Below SRh w35 (w45.setCell ⟨SVh, 0, none⟩ (.slice ah rows0.length dh))) := Lib.hid (by
            have u : Upd SVh (SVh + 1) w45 (w45.setCell ⟨SVh, 0, none⟩ (.slice ah rows0.length dh)) := Upd.setCell _ _ _
            exact ⟨Vh.set _, Rh.upd u (by omega), by simp [World.setCell, hSHh], hbRh.trans (u.toBelow (B := SRh) (by omega) (by omega))⟩)
          clear Vh Rh hbRh
          refine wpAnyG_tail [9, 10] rfl (.inl (by kernel_rfl)) (by kernel_rfl) ?_
          simp only [pickOps, List.filterMap_cons, List.filterMap_nil, List.getElem?_cons_succ, List.getElem?_cons_zero]
          go_wp2_with fail
          go_meet
          exact ⟨SLh, SHh, SVh, SHh, ah, dh, rfl, rfl, HM.out.1, HM.out.2.1, HM.out.2.2.1, by omega, by omega, by omega, by omega, by omega, HM.out.2.2.2⟩
      ·
        unfold wpNext
        go_wp2_with fail
        obtain ⟨SVh, hSVh⟩ : ∃ S, S = SRh := ⟨_, rfl⟩
        have Vh : VC 24 SVh #[.slice none 0 0] (w35.alloc (.cells #[.slice none 0 0] 24)).drew := (VC.new (by rw [hSVh]; exact hS36)).upd (Upd.drew _) (by omega)
        have u : Upd 0 0 w35.drew (w35.alloc (.cells #[.slice none 0 0] 24)).drew := ⟨rfl, rfl, rfl, by simp, fun k hk _ => Below.heap_alloc _ _ _ hk⟩
        replace A0 := A0.upd u (by omega)
        replace A1 := A1.upd u (by omega)
        replace hb := u.below hb (by omega) (by omega)
        replace hbRh := hbRh.trans (u.toBelow (B := SRh) (by omega) (by omega))
        clear u
        have hS46 : (w35.alloc (.cells #[.slice none 0 0] 24)).drew.heap.size = SRh + 1 := by simp [hS36, hSRh]
        generalize (w35.alloc (.cells #[.slice none 0 0] 24)).drew = W46 at *
        obtain ⟨S46, hSe46⟩ : ∃ S, S = SRh + 1 := ⟨_, rfl⟩
        rw [← hSe46] at hS46
        try rw [hS36]
        try rw [hSRh]
        try rw [← hSVh]
        have hi1 : SVh ≤ SRh ∧ SRh ≤ SVh := by omega
        clear hSVh
        refine ⟨fun _ => over_of_below (by rw [hSRh]; exact hbRh), ?_⟩
        refine wpAnyG_1 1 (by kernel_rfl) rfl ?_
        unfold wpNext
        have cA0 := A0.cell
        have cA1 := A1.cell
        have cVh := Vh.cell
        go_wp2_with fail
        refine (toG_k (hr0.below hb hB) (by omega) HL0.out hS46).mono ?_
        rintro e w47 ⟨uhs0, rfl, Ohs0, u⟩
        replace hbRh := hbRh.trans (u.toBelow (B := SRh) (by omega) (by omega))
        clear cA0 cA1 cVh
        replace A0 := A0.upd u (by omega)
        replace A1 := A1.upd u (by omega)
        replace Vh := Vh.upd u (by omega)
        replace hb := u.below hb (by omega) (by omega)
        obtain ⟨S47, hS47⟩ : ∃ S, w47.heap.size = S := ⟨_, rfl⟩
        have hz47 : S46 ≤ S47 := by have := u.size; omega
        clear u
        rw [hS47] at Ohs0
        obtain ⟨ahs0, dhs0, rfl⟩ := Ohs0.shape
        have cA0 := A0.cell
        have cA1 := A1.cell
        have cVh := Vh.cell
        go_wp2_with fail
        refine ⟨fun _ => over_of_below (by rw [hSRh]; exact hbRh), ?_⟩
        clear cA0 cA1 cVh
        refine wpAnyG_1 3 (by kernel_rfl) rfl ?_
        unfold wpNext
        have cA0 := A0.cell
        have cA1 := A1.cell
        have cVh := Vh.cell
        go_wp2_with fail
        refine (toM_k (hr1.below hb hB) (by omega) HL1.out hS47).mono ?_
        rintro e w48 ⟨uhs1, rfl, Ohs1, u⟩
        replace hbRh := hbRh.trans (u.toBelow (B := SRh) (by omega) (by omega))
        clear cA0 cA1 cVh
        replace A0 := A0.upd u (by omega)
        replace A1 := A1.upd u (by omega)
        replace Vh := Vh.upd u (by omega)
        replace Ohs0 := Ohs0.upd u (by omega)
        replace hb := u.below hb (by omega) (by omega)
        obtain ⟨S48, hS48⟩ : ∃ S, w48.heap.size = S := ⟨_, rfl⟩
        have hz48 : S47 ≤ S48 := by have := u.size; omega
        clear u
        rw [hS48] at Ohs1
        obtain ⟨ahs1, dhs1, rfl⟩ := Ohs1.shape
        have cA0 := A0.cell
        have cA1 := A1.cell
        have cVh := Vh.cell
        go_wp2_with fail
        refine ⟨fun h => by simp at h, ?_⟩
        clear cA0 cA1 cVh
        refine wpAnyG_1 4 (by kernel_rfl) rfl ?_
        unfold wpNext
        have cA0 := A0.cell
        have cA1 := A1.cell
        have cVh := Vh.cell
        go_wp2_with fail
        refine (Hi.out _ _ _ (ht.keep hb hTB) Ohs0.rd Ohs1.rd).mono ?_
        rintro e w49 ⟨uh0, vs, rfl, G, u⟩
        replace u := Upd.of_below u
        clear cA0 cA1 cVh
        replace A0 := A0.upd u (by omega)
        replace A1 := A1.upd u (by omega)
        replace Vh := Vh.upd u (by omega)
        replace Ohs0 := Ohs0.upd u (by omega)
        replace Ohs1 := Ohs1.upd u (by omega)
        replace hb := u.below hb (by omega) (by omega)
        replace hbRh := hbRh.trans (u.toBelow (B := SRh) (by omega) (by omega))
        obtain ⟨SLh, hSLh⟩ : ∃ S, S = S48 := ⟨_, rfl⟩
        obtain ⟨SHh, hSHh⟩ : ∃ S, w49.heap.size = S := ⟨_, rfl⟩
        have hzHh : SLh ≤ SHh := by have := u.size; omega
        clear u
        have Rh := OwSS.of (lo := SLh) G (hS48.trans hSLh.symm) hSHh
        clear G
        obtain ⟨ah, dh, rfl⟩ := Rh.shape
        clear Ohs0
        clear Ohs1
        have cA0 := A0.cell
        have cA1 := A1.cell
        have cVh := Vh.cell
        go_wp2_with fail
        clear cA0 cA1 cVh
        refine ⟨fun h => by simp at h, ?_⟩
        refine wpAnyG_mid [5, 6, 7] 2 #[true, true, true, true, true, true, true, true, true, false, false] rfl (by kernel_rfl) (by kernel_rfl) (by kernel_rfl) (fun _ _ d _ _ h => by cases d <;> exact h) (fun h => by simp at h) ?_
        simp only [pickOps, List.filterMap_cons, List.filterMap_nil, List.getElem?_cons_succ, List.getElem?_cons_zero]
        repeat quiet_step (fail)
        simp only [wpQuiet_nil_eq]
        have cVh := Vh.cell
        have fVh := Vh.free
        have hzVh : SVh < SHh := by have := Vh.lt; omega
        have HM : Hid (VC 24 SVh #[.slice ah rows0.length dh] (w49.setCell ⟨SVh, 0, none⟩ (.slice ah rows0.length dh)) ∧ OwSS SLh SHh (.slice ah rows0.length dh) rows0 (w49.setCell ⟨SVh, 0, none⟩ (.slice ah rows0.length dh)) ∧ (w49.setCell ⟨SVh, 0, none⟩ (.slice ah rows0.length dh)).heap.size = SHh ∧ Below SRh w35 (w49.setCell ⟨SVh, 0, none⟩ (.slice ah rows0.length dh))) := Lib.hid (by
          have u : Upd SVh (SVh + 1) w49 (w49.setCell ⟨SVh, 0, none⟩ (.slice ah rows0.length dh)) := Upd.setCell _ _ _
          exact ⟨Vh.set _, Rh.upd u (by omega), by simp [World.setCell, hSHh], hbRh.trans (u.toBelow (B := SRh) (by omega) (by omega))⟩)
        clear Vh Rh hbRh
        refine wpAnyG_tail [9, 10] rfl (.inl (by kernel_rfl)) (by kernel_rfl) ?_
        simp only [pickOps, List.filterMap_cons, List.filterMap_nil, List.getElem?_cons_succ, List.getElem?_cons_zero]
        go_wp2_with fail
        go_meet
        exact ⟨SLh, SHh, SVh, SHh, ah, dh, rfl, rfl, HM.out.1, HM.out.2.1, HM.out.2.2.1, by omega, by omega, by omega, by omega, by omega, HM.out.2.2.2⟩
    case rest =>
      obtain ⟨SLh, SHh, SVh, SEh, ah, dh, rfl, rfl, Vh, Rh, hSEh, hx1, hx2, hx3, hx4, hx5, hbx⟩ := hcut
      have u : Upd 0 0 w35 _ := Upd.of_below (by rw [hSRh]; exact hbx)
      clear hbx
      clear cA0 cA1 cVw cVg
      replace A0 := A0.upd u (by omega)
      replace A1 := A1.upd u (by omega)
      replace Rw := Rw.upd u (by omega)
      replace Vw := Vw.upd u (by omega)
      replace Vg := Vg.upd u (by omega)
      replace Rm := Rm.upd u (by omega)
      replace hb := u.below hb (by omega) (by omega)
      have hzEh : SRh ≤ SEh := by omega
      clear u
      rename_i wx
      have cA0 := A0.cell
      have cA1 := A1.cell
      have cVw := Vw.cell
      have cVg := Vg.cell
      have cVh := Vh.cell
      go_wp2_with fail
      refine (eqG_k Rh.rd Rw.rd).mono ?_
      rintro e w51 ⟨rfl, u⟩
      clear cA0 cA1 cVw cVg cVh
      replace A0 := A0.upd u (by omega)
      replace A1 := A1.upd u (by omega)
      replace Rw := Rw.upd u (by omega)
      replace Vw := Vw.upd u (by omega)
      replace Vg := Vg.upd u (by omega)
      replace Rm := Rm.upd u (by omega)
      replace Rh := Rh.upd u (by omega)
      replace Vh := Vh.upd u (by omega)
      replace hb := u.below hb (by omega) (by omega)
      obtain ⟨S51, hS51⟩ : ∃ S, w51.heap.size = S := ⟨_, rfl⟩
      have hz51 : SEh ≤ S51 := by have := u.size; omega
      clear u
      have cA0 := A0.cell
      have cA1 := A1.cell
      have cVw := Vw.cell
      have cVg := Vg.cell
      have cVh := Vh.cell
      go_wp2_with fail
      refine (heldG_k Rm.rd (k := 1) rfl HK0.out hk0 hn0).mono ?_
      rintro e w52 ⟨rfl, u⟩
      clear cA0 cA1 cVw cVg cVh
      replace A0 := A0.upd u (by omega)
      replace A1 := A1.upd u (by omega)
      replace Rw := Rw.upd u (by omega)
      replace Vw := Vw.upd u (by omega)
      replace Vg := Vg.upd u (by omega)
      replace Rm := Rm.upd u (by omega)
      replace Rh := Rh.upd u (by omega)
      replace Vh := Vh.upd u (by omega)
      replace hb := u.below hb (by omega) (by omega)
      obtain ⟨S52, hS52⟩ : ∃ S, w52.heap.size = S := ⟨_, rfl⟩
      have hz52 : S51 ≤ S52 := by have := u.size; omega
      clear u
      have cA0 := A0.cell
      have cA1 := A1.cell
      have cVw := Vw.cell
      have cVg := Vg.cell
      have cVh := Vh.cell
      go_wp2_with fail
      go_ret
      exact ⟨rfl, by rw [hB]; exact hb⟩
end Go.Proofs.YtehejjmmbjekgaaDoor
