/-
  'SplitEdge' of the program.
-/
import Derived.Test.YtikcooagdaghnaaDoorSplit
namespace Go.Proofs.YtikcooagdaghnaaDoor
open Go.RowKit

set_option maxHeartbeats 4000000 in
theorem implSplitEdge (g : Value) (xss : List (List Int)) (u v : Int) (w : World) (ht : Tab w) (hr : RdSS g xss w) (rows : List (List Int)) (ok : Bool) (h : SplP xss u v rows ok) :
    Calls Tryd.prog 33 #[.agg #[g], .int .i64 u, .int .i64 v] w (GRes w rows ok) := by
  obtain ⟨a, c, rfl⟩ := hr.shape
  obtain ⟨B, hB⟩ : ∃ B, w.heap.size = B := ⟨_, rfl⟩
  have hTB : 0 < B := by rw [← hB]; exact ht.lt
  have u1 : Below B w (w.alloc (.cells #[.slice a xss.length c] 26)) := by subst hB; exact below_alloc' _ _
  have VG : VC 26 B #[.slice a xss.length c] (w.alloc (.cells #[.slice a xss.length c] 26)) := VC.new hB
  have hz1 : (w.alloc (.cells #[.slice a xss.length c] 26)).heap.size = B + 1 := by simp [hB]
  have VR : VC 26 (B + 1) #[.slice none 0 0] ((w.alloc (.cells #[.slice a xss.length c] 26)).alloc (.cells #[.slice none 0 0] 26)) := VC.new hz1
  have u2 := u1.alloc (by omega) (.cells #[.slice none 0 0] 26)
  replace VG := VG.upd (Upd.alloc _ (.cells #[.slice none 0 0] 26)) (by omega)
  have hz2 : ((w.alloc (.cells #[.slice a xss.length c] 26)).alloc (.cells #[.slice none 0 0] 26)).heap.size = B + 2 := by simp [hB]
  have H := Lib.hid h
  clear h u1 hz1
  have hcg := VG.cell
  go_enter Tryd.func33, Tryd.ntmps33
  go_wp2_with fail
  generalize (w.alloc (.cells #[.slice a xss.length c] 26)).alloc (.cells #[.slice none 0 0] 26) = W at *
  refine (implEdgeIn _ xss u v W (hr.below u2 hB)).mono ?_
  rintro e1 w1 ⟨rfl, hb1⟩
  replace VG := VG.upd (Upd.of_below hb1) (by omega)
  replace VR := VR.upd (Upd.of_below hb1) (by omega)
  have hb := u2.trans (hb1.mono (by omega))
  have hzw1 : B + 2 ≤ w1.heap.size := by have := hb1.size; omega
  clear hb1 hcg u2
  have hcg := VG.cell
  have hcr := VR.cell
  have hfr := VR.free
  have HCE0 := Lib.hid (VR.set (.slice none 0 0)).cell
  have HB0 := Lib.hid (hb.setCell (p := ⟨B + 1, 0, none⟩) (by simp) (.slice none 0 0))
  have hno : ¬ OkD xss u v → Hid (rows = [] ∧ ok = false) := fun hn => by
    rcases H.out with ⟨_, h2⟩ | ⟨_, _, _, _, _, h1, _⟩
    · exact Lib.hid h2
    · exact (hn h1).elim
  have HNO := Lib.hid hno
  clear hno
  cases hed : edgeB xss u v with
  | false =>
    obtain ⟨rfl, rfl⟩ := (HNO.out (fun h => by have := h.1; rw [hed] at this; cases this)).out
    clear hed
    go_wp2_with fail
    refine bodyPost_ret (v := .tuple #[.agg #[.slice none 0 0], .bool false]) (by simp [results, Tryd.results33, go_sem, HCE0.out]) rfl ?_
    exact GRes.nothing _ _ (by rw [hB]; exact HB0.out)
  | true =>
    have HED := Lib.hid hed
    clear hed
    by_cases h16 : xss.length = 16
    · have hd : ((xss.length : Int) == 16) = true := by simp [h16]
      obtain ⟨rfl, rfl⟩ := (HNO.out (fun h => h.2 h16)).out
      clear h16
      go_wp2_with fail
      refine bodyPost_ret (v := .tuple #[.agg #[.slice none 0 0], .bool false]) (by simp [results, Tryd.results33, go_sem, HCE0.out]) rfl ?_
      exact GRes.nothing _ _ (by rw [hB]; exact HB0.out)
    have hd : ((xss.length : Int) == 16) = false := by simp; omega
    obtain ⟨e, k, l, hT, hkl, rfl, rfl⟩ : ∃ e k l, Two xss u v xss.length e k l ∧ k ≠ l ∧ rows = rowsB (xss.length + 1) (hung xss.length (minus e k l) (duo u v)) ∧ ok = true := by
      rcases H.out with ⟨h1, _⟩ | ⟨e, k, l, hT, hkl, _, h4, h5⟩
      · exact (h1 ⟨HED.out, h16⟩).elim
      · exact ⟨e, k, l, hT, hkl, h4, h5⟩
    obtain ⟨hA, hx, -, rfl, rfl, hk, hl⟩ := hT
    have hn16 := hA.le
    have HX := Lib.hid hx
    have HDU := Lib.hid (hung_duo xss.length (minus e k l) hkl)
    have HPA := Lib.hid ((partS_NB (n := xss.length + 1) (by omega) (grown xss.length e) (u := k) (v := l) (by omega) (by omega)).trans (by rw [minus_grown]))
    have hrX : ∀ W', Below w1.heap.size w1 W' → RdSS (.slice a xss.length c) (rowsB xss.length e) W' := fun W' hb' => by
      have := hr.below (hb.trans (hb'.mono (by omega))) hB
      rwa [HX.out, rowsB_length] at this
    have HRX := Lib.hid hrX
    clear h16 hx HNO H HCE0 HB0 hrX hkl
    go_wp2_with fail
    refine wp_region_take [4] [0, 5, 6] 8 5 #[true, false, false, false, true, true, true, false, false] (by kernel_rfl) (by kernel_rfl) (by kernel_rfl) (by kernel_rfl) (fun _ _ d _ _ h => by cases d <;> exact h) ?_
    simp only [pickOps, List.filterMap_cons, List.filterMap_nil, List.getElem?_cons_succ, List.getElem?_cons_zero]
    repeat quiet_step (fail)
    simp only [wpQuiet_nil_eq]
    obtain ⟨S1, hS1⟩ : ∃ S, w1.heap.size = S := ⟨_, rfl⟩
    refine wpAnyG_2 1 2 (by kernel_rfl) rfl rfl ?_ ?_
    focus
      unfold wpNext
      go_wp2_with fail
      refine (netsOf_any _ xss.length e hn16 w1.drew (HRX.out _ (below_drewN' w1 1))).mono ?_
      rintro e1 w2 ⟨u, rfl, hN, hb2⟩
      obtain ⟨ua, uc, rfl⟩ := owns_shape hN
      have HB2 := Lib.hid (below_drew hb2)
      clear hb2
      go_wp2_with fail
      refine ⟨fun _ => over_of_below HB2.out, ?_⟩
      refine wpAnyG_1 2 (by kernel_rfl) rfl ?_
      unfold wpNext
      go_wp2_with fail
      have HB3 := Lib.hid (HB2.out.alloc HB2.out.size (.cells #[.int .u32 0] 84))
      obtain ⟨C, hC⟩ : ∃ C, w2.heap.size = C := ⟨_, rfl⟩
      have VN : VC 84 C #[.int .u32 0] (w2.alloc (.cells #[.int .u32 0] 84)) := VC.new hC
      have hNo : (w2.alloc (.cells #[.int .u32 0] 84)).ownsRow S1 84 1 (.slice ua xss.length uc) xss.length (sets (NB xss.length e)) := by rw [← hS1]; exact hN.alloc _
      have hr1 := row_one VN
      have hz3 : S1 ≤ (w2.alloc (.cells #[.int .u32 0] 84)).heap.size := by rw [← hS1]; exact HB3.out.size
      first | rw [hC] | skip
      generalize w2.alloc (.cells #[.int .u32 0] 84) = w3 at *
      refine ⟨fun _ => over_of_below HB3.out, ?_⟩
      clear HB2 hN
    rotate_left
    focus
      unfold wpNext
      go_wp2_with fail
      have HB2 := Lib.hid (below_drewN' w1 1 |>.alloc (Nat.le_refl _) (.cells #[.int .u32 0] 84))
      have hBd : Below w1.heap.size w1 (w1.alloc (.cells #[.int .u32 0] 84)).drew := ((Below.refl _ _).alloc (Nat.le_refl _) _).drew
      have VN0 : VC 84 S1 #[.int .u32 0] (w1.alloc (.cells #[.int .u32 0] 84)).drew := (VC.new hS1).upd (Upd.drew _) (by omega)
      obtain ⟨C, hC⟩ : ∃ C, w1.heap.size = C := ⟨_, rfl⟩
      have hzd : (w1.alloc (.cells #[.int .u32 0] 84)).drew.heap.size = S1 + 1 := by simp [hS1]
      have HBD := Lib.hid hBd
      clear HB2 hBd
      generalize (w1.alloc (.cells #[.int .u32 0] 84)).drew = wd at *
      refine ⟨fun _ => over_of_below HBD.out, ?_⟩
      refine wpAnyG_1 1 (by kernel_rfl) rfl ?_
      unfold wpNext
      go_wp2_with fail
      refine (netsOf_any _ xss.length e hn16 wd (HRX.out _ HBD.out)).mono ?_
      rintro e1 w3 ⟨u, rfl, hN, hb2⟩
      obtain ⟨ua, uc, rfl⟩ := owns_shape hN
      have HB3 := Lib.hid (HBD.out.trans (hb2.mono (by omega)))
      have hr1 := row_one (VN0.upd (Upd.of_below hb2) (by omega))
      have hNo : w3.ownsRow S1 84 1 (.slice ua xss.length uc) xss.length (sets (NB xss.length e)) := owns_base hN (by omega)
      have hz3 : S1 ≤ w3.heap.size := by rw [← hS1]; exact HB3.out.size
      clear hb2 hN
      go_wp2_with fail
      refine ⟨fun _ => over_of_below HB3.out, ?_⟩
    all_goals
      refine wpAnyG_1 3 (by kernel_rfl) rfl ?_
      unfold wpNext
      refine wpList_extend w3 rfl _ _ 71 rfl S1 84 _ 4 Tryd.underlying71 infoV rfl _ xss.length _ rfl hNo _ 1 _ rfl hr1 (by intro u hu; rw [List.mem_singleton.1 hu]; rfl) (by unfold maxLen; omega) (by omega) hz3 ?_
      intro a4 c4 w4 ho4 hg4
      have hb4 : Below S1 w1 w4 := by have := HB3.out; rw [hS1] at this; exact this.grown hg4 hz3 (fun y hy => (owns_lt hNo hy).1)
      have hN4 : NS S1 w1 (.slice a4 (xss.length + 1) c4) (NB (xss.length + 1) (grown xss.length e)) w4 := ⟨by rw [NB_length, ← NB_grown]; simpa [sets] using ho4, NB_small (by omega) _, hb4⟩
      have HB4 := Lib.hid hb4
      clear hb4 ho4 hg4 hNo hr1 HB3
      go_wp2_with fail
      refine ⟨fun _ => over_of_below (by rw [hS1]; exact HB4.out), ?_⟩
      refine wpAnyG_1 7 (by kernel_rfl) rfl ?_
      unfold wpNext
      go_wp2_with fail
      refine ⟨fun _ => over_of_below (by rw [hS1]; exact HB4.out), ?_⟩
      refine wpAnyG_gate [] rfl (by simp) (by kernel_rfl) ?_
      simp only [pickOps, List.filterMap_cons, List.filterMap_nil, List.getElem?_cons_succ, List.getElem?_cons_zero]
      go_wp2_with fail
      clear HB4
      have hsz4 := hN4.bel.size
      have HJ := Lib.hid (hN4.part (by omega) k l (k : Int) (l : Int) rfl rfl (by simp; omega) (by simp; omega) (by simp; omega))
      clear hN4
      refine HJ.out.mono ?_
      rintro e1 w5 ⟨rfl, hN5⟩
      rw [HPA.out] at hN5
      have hsz5 := hN5.bel.size
      have HJ2 := Lib.hid (hN5.join (by omega) k xss.length (k : Int) (xss.length : Int) rfl rfl (by simp; omega) (by simp) (by simp; omega))
      clear hN5 HJ
      go_wp2_with fail
      refine HJ2.out.mono ?_
      rintro e1 w6 ⟨rfl, hN6, -⟩
      rw [joinS_NB _ (by omega) (by omega)] at hN6
      have hsz6 := hN6.bel.size
      have HJ3 := Lib.hid (hN6.join (by omega) l xss.length (l : Int) (xss.length : Int) rfl rfl (by simp; omega) (by simp) (by simp; omega))
      clear hN6 HJ2
      go_wp2_with fail
      refine HJ3.out.mono ?_
      rintro e1 w7 ⟨rfl, hN, -⟩
      rw [joinS_NB _ (by omega) (by omega), ← HDU.out] at hN
      have hsz7 := hN.bel.size
      have VR2 := VR.belowAt hN.bel (by omega)
      have hb5 := hb.trans (hN.bel.mono (by omega))
      have HGR := Lib.hid (hN.graph (ht.keep hb hTB) (by omega) (by simp; omega))
      clear hcg hcr hfr HJ3
      go_wp2_with fail
      refine HGR.out.mono ?_
      rintro e1 w8 ⟨u6, us, rfl, hG6, hb6⟩
      rw [rowsOf_NB (by omega)] at hG6
      obtain ⟨uua, uuc, rfl⟩ := owns_shape hG6.outer
      have HF := Lib.hid (GRes.put (b := B + 1) hB hb5 (by omega) (by omega) hG6 hb6 true)
      replace VR2 := VR2.upd (Upd.of_below hb6) (by omega)
      have HCE := Lib.hid (VR2.set (.slice uua us.length uuc)).cell
      clear hG6 hb6 hN HGR hb5
      have hcr := VR2.cell
      have hfr := VR2.free
      go_wp2_with fail
      refine bodyPost_ret (v := .tuple #[.agg #[.slice uua us.length uuc], .bool true]) (by simp [results, Tryd.results33, go_sem, HCE.out]) rfl ?_
      exact HF.out

theorem both_SplitEdge (xss : List (List Int)) (u v : Int) : ∃ rows ok, 1 + total rows ≤ 1000000000 ∧ rows.length ≤ 1000000000 ∧
    (∀ (w : World) (g : Value), Tab w → RdSS g xss w → Calls Tryd.prog 32 #[.agg #[g], .int .i64 u, .int .i64 v] w (GRes w rows ok)) ∧
    (∀ (w : World) (g : Value), Tab w → RdSS g xss w → Calls Tryd.prog 33 #[.agg #[g], .int .i64 u, .int .i64 v] w (GRes w rows ok)) := by
  by_cases h : OkD xss u v
  · obtain ⟨e, k, l, hT, hkl, _⟩ := two_edge h.1
    have hn := hT.adj.le
    have ht := total_rowsB (xss.length + 1) (hung xss.length (minus e k l) (duo u v)) (by omega)
    have hP : SplP xss u v _ true := .inr ⟨e, k, l, hT, hkl, h, rfl, rfl⟩
    exact ⟨_, true, by omega, by simp; omega, fun w g _ hr => specSplitEdge g xss u v w hr _ _ hP, fun w g ht hr => implSplitEdge g xss u v w ht hr _ _ hP⟩
  · exact ⟨[], false, by simp [total], by simp, fun w g _ hr => specSplitEdge g xss u v w hr _ _ (.inl ⟨h, rfl, rfl⟩), fun w g ht hr => implSplitEdge g xss u v w ht hr _ _ (.inl ⟨h, rfl, rfl⟩)⟩
end Go.Proofs.YtikcooagdaghnaaDoor
