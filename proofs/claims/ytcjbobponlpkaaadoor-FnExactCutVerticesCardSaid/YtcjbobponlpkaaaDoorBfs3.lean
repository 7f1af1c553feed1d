/-
  'CutVertices' of the reference; both.
-/
import Derived.Test.YtcjbobponlpkaaaDoorBfs2
namespace Go.Proofs.YtcjbobponlpkaaaDoor
open Go.RowKit

set_option maxHeartbeats 4000000 in
theorem specCuts (g : Value) (xss : List (List Int)) (w : World) (hr : RdSS g xss w) (rs : List Int) (h : CutsP xss rs) :
    Calls Tryd.prog 32 #[.agg #[g]] w (SRes w rs) := by
  obtain ⟨a, c, rfl⟩ := hr.shape
  obtain ⟨B, hB⟩ : ∃ B, w.heap.size = B := ⟨_, rfl⟩
  have u1 : Below B w (w.alloc (.cells #[.slice a xss.length c] 28)) := by subst hB; exact below_alloc' _ _
  have VG0 : VC 28 B #[.slice a xss.length c] (w.alloc (.cells #[.slice a xss.length c] 28)) := VC.new hB
  have hz0 : (w.alloc (.cells #[.slice a xss.length c] 28)).heap.size = B + 1 := by simp [hB]
  have ho0 := World.ownsRow_lit (base := B + 1) (e := 2) (size := 1) (w.alloc (.cells #[.slice a xss.length c] 28)) #[] 0 (by omega) (by simp [maxLen]) rfl
  rw [hz0] at ho0
  have u2 : Below B w ((w.alloc (.cells #[.slice a xss.length c] 28)).alloc (.cells #[] 2)) := u1.alloc (by omega) _
  have VG1 := VG0.upd (Upd.alloc _ (.cells #[] 2)) (by omega)
  have hz1 : ((w.alloc (.cells #[.slice a xss.length c] 28)).alloc (.cells #[] 2)).heap.size = B + 2 := by simp [hB]
  have hcg := VG1.cell
  have H := Lib.hid h
  clear h
  go_enter Tryd.func32, Tryd.ntmps32
  go_wp2_with fail
  generalize (w.alloc (.cells #[.slice a xss.length c] 28)).alloc (.cells #[] 2) = W at *
  have hbW : Below (B + 1) W W := Below.refl _ _
  refine (specOk _ xss W (hr.below u2 hB)).mono ?_
  rintro e1 w1 ⟨rfl, hb1⟩
  have ho1 := owns_below ho0 hb1
  have hbW1 := hbW.trans (hb1.mono (by omega))
  have VG2 := VG1.belowAt hbW1 (by omega)
  have hz2 := hb1.size
  clear hb1 hcg ho0 hbW
  have hcg := VG2.cell
  cases hok : okB xss with
  | false =>
    obtain rfl : rs = [] := by
      rcases H.out with ⟨_, h⟩ | ⟨e, hA, hx, _⟩
      · exact h
      · rw [hx, okB_adj hA] at hok; cases hok
    clear hok
    go_wp2_with fail
    go_ret
    exact ⟨_, rfl, by rw [hB]; exact owns_base ho1 (by omega), by rw [hB]; exact u2.trans (hbW1.mono (by omega))⟩
  | true =>
    obtain ⟨e, hA, hx, hrs⟩ : ∃ e, Adj xss.length e ∧ xss = rowsB xss.length e ∧ rs = rowB xss.length (cutB xss.length e (allB xss.length)) := by
      rcases H.out with ⟨h, _⟩ | h
      · rw [hok] at h; cases h
      · exact h
    have hn16 := hA.le
    have HRS := Lib.hid hrs
    have HGR : Hid (∀ W', Below (B + 1) W W' → RdSS (.slice a xss.length c) (rowsB xss.length e) W') := Lib.hid fun W' hb' => by
      have := hr.below (u2.trans (hb'.mono (by omega))) hB
      rwa [hx, rowsB_length] at this
    have HXL := Lib.hid (show (rowsB xss.length e).length = xss.length by simp)
    have hbd : Below (B + 1) W w1.drew := hbW1.trans ((below_drewN' w1 1).mono (by omega))
    have HAL := Lib.hid (l16All_any (.slice a xss.length c) (rowsB xss.length e) (by simp; omega) w1.drew (HGR.out _ hbd))
    rw [HXL.out] at HAL
    have hel : (rowB xss.length (allB xss.length)).length = xss.length := by rw [← allN_allB]; simp
    have HEL := Lib.hid hel
    clear hok hx hrs H hA hel
    go_wp2_with fail
    refine wp_region_ord [] [0, 1] [2] [3, 4, 5] (by kernel_rfl) (by kernel_rfl) (fun _ _ d _ _ h => by cases d <;> exact h) ?_
    simp only [pickOps, List.filterMap_cons, List.filterMap_nil, List.getElem?_cons_succ, List.getElem?_cons_zero]
    repeat quiet_step (fail)
    simp only [wpQuiet_nil_eq]
    refine wpSegs_cons ?_
    go_wp2_with fail
    refine HAL.out.mono ?_
    rintro e1 w2 ⟨ul, rfl, hL, hb2⟩
    obtain ⟨la, lc, rfl⟩ := owns_shape hL
    have hb2' := below_drew hb2
    have hbW2 := hbW1.trans (hb2'.mono (by omega))
    have ho2 := owns_below ho1 hb2'
    have HB2 := Lib.hid hb2'
    have hzz2 := hb2'.size
    have HPA := Lib.hid (l16Parts_any (.slice a xss.length c) xss.length e hn16 (.slice la (rowB xss.length (allB xss.length)).length lc) (allB xss.length) w2 (HGR.out _ hbW2) (Row.of_owns hL))
    obtain ⟨k0, HK0⟩ : ∃ k : Nat, Hid (k = (partsTo xss.length e (allB xss.length) xss.length).length) := ⟨_, Lib.hid rfl⟩
    have hk0 : k0 ≤ xss.length := by rw [HK0.out]; exact partsTo_length _
    clear hL hb2 hb2' HAL hcg ho1 hbd
    go_wp2_with fail
    refine ⟨HB2.out, ?_⟩
    simp only [wpSegs_nil_eq]
    go_wp2_with fail
    refine HPA.out.mono ?_
    rintro e1 w3 ⟨u3, vs3, rfl, hG3, hb3⟩
    obtain ⟨pa, pc, rfl⟩ := owns_shape hG3.outer
    have hlv : vs3.length = k0 := by rw [hG3.len, HK0.out]; simp
    rw [hlv]
    have hbW3 := hbW2.trans (hb3.mono (by omega))
    have ho3 := owns_below ho2 hb3
    have hz3 : W.heap.size ≤ w3.heap.size := by have := hb3.size; omega
    have VG3 := VG2.belowAt ((HB2.out.trans (hb3.mono HB2.out.size)).mono hz2) (by omega)
    clear hG3 hb3 hlv HPA ho2 hbW2
    generalize w3 = w3 at *
    go_wp2_with fail
    have hcl : Below (B + 1) w3 w3 := Below.refl _ _
    go_loopw [3, 5] (fun u i wr => ∃ (j m : Nat), j ≤ xss.length ∧ m ≤ j ∧ i = .int .i64 j ∧ Hid ((upTo j (cutB xss.length e (allB xss.length))).length = m) ∧ wr.ownsRow (B + 1) 2 1 u m (ints (upTo j (cutB xss.length e (allB xss.length)))) ∧ Below (B + 1) w3 wr) (fun _ i _ => xss.length - (intOf i).toNat)
    case atStart => exact ⟨0, 0, Nat.zero_le _, Nat.le_refl _, rfl, Lib.hid rfl, by simpa [ints, upTo] using ho3, hcl⟩
    case round =>
      clear ho3 hcl
      obtain ⟨j, m, hj, hm, rfl, HM, ho, hb⟩ := hrel
      have hsz := hb.size
      have hbWr := hbW3.trans hb
      have hcg := (VG3.belowAt hb (by omega)).cell
      by_cases hlt : j < xss.length
      · have HWO := Lib.hid (l19Without_any (.slice a xss.length c) (rowsB xss.length e) (by simp; omega) j j rfl wr.drew (HGR.out _ (hbWr.trans ((below_drewN' wr 1).mono (by omega)))))
        rw [HXL.out] at HWO
        go_wp2_with fail
        refine wp_region_ord [2, 6] [0, 1] [3] [4, 5, 7] (by kernel_rfl) (by kernel_rfl) (fun _ _ d _ _ h => by cases d <;> exact h) ?_
        simp only [pickOps, List.filterMap_cons, List.filterMap_nil, List.getElem?_cons_succ, List.getElem?_cons_zero]
        repeat quiet_step (fail)
        simp only [wpQuiet_nil_eq]
        refine wpSegs_cons ?_
        go_wp2_with fail
        refine HWO.out.mono ?_
        rintro e1 w4 ⟨ul, rfl, hL, hb4⟩
        obtain ⟨la, lc, rfl⟩ := owns_shape hL
        have hb4' := below_drew hb4
        have hbW4 := hbWr.trans (hb4'.mono (by omega))
        have ho4 := owns_below ho hb4'
        have HB4 := Lib.hid hb4'
        have hzz4 := hb4'.size
        have HPA := Lib.hid (l16Parts_any (.slice a xss.length c) xss.length e hn16 (.slice la (rowB xss.length (butB (allB xss.length) j)).length lc) (butB (allB xss.length) j) w4 (HGR.out _ hbW4) (Row.of_owns hL))
        obtain ⟨k1, HK1⟩ : ∃ k : Nat, Hid (k = (partsTo xss.length e (butB (allB xss.length) j) xss.length).length) := ⟨_, Lib.hid rfl⟩
        have hk1 : k1 ≤ xss.length := by rw [HK1.out]; exact partsTo_length _
        have HCU : Hid (cutB xss.length e (allB xss.length) j = decide (k0 < k1)) := Lib.hid (by unfold cutB; rw [HK0.out, HK1.out])
        clear hL hb4 hb4' HWO hcg ho hbWr
        go_wp2_with fail
        refine ⟨HB4.out, ?_⟩
        simp only [wpSegs_nil_eq]
        go_wp2_with fail
        refine HPA.out.mono ?_
        rintro e1 w5 ⟨u5, vs5, rfl, hG5, hb5⟩
        obtain ⟨pa, pc, rfl⟩ := owns_shape hG5.outer
        have hlv : vs5.length = k1 := by rw [hG5.len, HK1.out]; simp
        rw [hlv]
        have hbr5 := hb.trans ((HB4.out.trans (hb5.mono HB4.out.size)).mono (by omega))
        have ho5 := owns_below ho4 hb5
        have hz5 : wr.heap.size ≤ w5.heap.size := by have := hb5.size; omega
        clear hG5 hb5 hlv HPA ho4 hbW4 hb
        by_cases hkk : k0 < k1
        · have hd : (k0 : Int) < k1 := by omega
          have HS := Lib.hid (upTo_yes (p := cutB xss.length e (allB xss.length)) (j := j) (by rw [HCU.out]; simpa using hkk))
          go_wp2_with (at_builtin; refine wpList_push _ rfl _ _ 25 rfl (B + 1) 2 _ _ 8 Tryd.underlying25 infoI rfl _ _ _ rfl ho5 _ rfl rfl (by unfold maxLen; omega) (by omega) (by omega) ?_; intro g' c' w6 ho6 hg)
          go_roundw
          case rel => exact ⟨j + 1, m + 1, by omega, by omega, by go_num, Lib.hid (by rw [HS.out, List.length_append, HM.out]; rfl), by rw [HS.out]; simpa [ints] using ho6, hbr5.grown hg (by omega) fun b hb' => (owns_lt ho5 hb').1⟩
          case measure => simp [intOf]; omega
        · have hd : ¬ (k0 : Int) < k1 := by omega
          have HS := Lib.hid (upTo_no (p := cutB xss.length e (allB xss.length)) (j := j) (by rw [HCU.out]; simpa using hkk))
          go_wp2_with fail
          go_roundw
          case rel => exact ⟨j + 1, m, by omega, by omega, by go_num, Lib.hid (by rw [HS.out]; exact HM.out), by rw [HS.out]; exact ho5, hbr5⟩
          case measure => simp [intOf]; omega
      · obtain rfl : j = xss.length := by omega
        have HE : Hid (upTo xss.length (cutB xss.length e (allB xss.length)) = rs) := Lib.hid HRS.out.symm
        have HEM : Hid (rs.length = m) := Lib.hid (by rw [← HE.out]; exact HM.out)
        go_wp2_with fail
        go_ret
        exact ⟨_, rfl, by rw [hB, HEM.out, ← HE.out]; exact owns_base ho (by omega), by rw [hB]; exact u2.trans (hbWr.mono (by omega))⟩

theorem both_CutVertices (xss : List (List Int)) : ∃ rs : List Int, 1 + rs.length ≤ 1000000000 ∧
    (∀ (w : World) (g : Value), Tab w → RdSS g xss w → Calls Tryd.prog 32 #[.agg #[g]] w (SRes w rs)) ∧
    (∀ (w : World) (g : Value), Tab w → RdSS g xss w → Calls Tryd.prog 33 #[.agg #[g]] w (SRes w rs)) := by
  cases hok : okB xss with
  | true =>
    obtain ⟨e, hA, hx⟩ := (okB_iff xss).1 hok
    have hn := hA.le
    have hl := rowB_length xss.length (cutB xss.length e (allB xss.length))
    have hP : CutsP xss _ := .inr ⟨e, hA, hx, rfl⟩
    exact ⟨_, by omega, fun w g _ hr => specCuts g xss w hr _ hP, fun w g ht hr => implCuts g xss w ht hr _ hP⟩
  | false => exact ⟨[], by simp, fun w g _ hr => specCuts g xss w hr _ (.inl ⟨hok, rfl⟩), fun w g ht hr => implCuts g xss w ht hr _ (.inl ⟨hok, rfl⟩)⟩
end Go.Proofs.YtcjbobponlpkaaaDoor
