/-
  'ApexOf' of the reference and of the program.
-/
import Derived.Test.YtikcooagdaghnaaDoorVertex
namespace Go.Proofs.YtikcooagdaghnaaDoor
open Go.RowKit

/-- The numbers below n. -/
def allN (n : Nat) : List Int := (List.range n).map fun (i : Nat) => (i : Int)
@[simp] theorem allN_length (n : Nat) : (allN n).length = n := by simp [allN]
theorem setP_allN (n : Nat) : SetP n (allN n) := by
  have := setP_rowB n (fun _ => true)
  rwa [rowB_all] at this

theorem ok_size' {xss : List (List Int)} (h : okB xss = true) : 1 ≤ xss.length ∧ xss.length ≤ 16 := by
  have : OkP xss := by unfold okB at h; simpa using h
  exact this.1

/-- What 'ApexOf' gives. -/
def ApexP (xss : List (List Int)) (rows : List (List Int)) (ok : Bool) : Prop :=
  ((okB xss = false ∨ xss.length = 16) ∧ rows = [] ∧ ok = false) ∨ (okB xss = true ∧ xss.length ≠ 16 ∧ ∃ e, Adj xss.length e ∧ xss = rowsB xss.length e ∧ rows = rowsB (xss.length + 1) (hung xss.length e (allN xss.length)) ∧ ok = true)
theorem ApexP.vertex {xss rows : List (List Int)} {ok : Bool} (h : ApexP xss rows ok) :
    (¬ OkV xss (allN xss.length) ∧ rows = [] ∧ ok = false) ∨ ∃ e, Adj xss.length e ∧ xss = rowsB xss.length e ∧ OkV xss (allN xss.length) ∧ rows = rowsB (xss.length + 1) (hung xss.length e (allN xss.length)) ∧ ok = true := by
  rcases h with ⟨h1, h2, h3⟩ | ⟨h1, h2, e, hA, hx, hr, hk⟩
  · refine .inl ⟨fun h => ?_, h2, h3⟩
    rcases h1 with h1 | h1
    · rw [h.1] at h1; cases h1
    · exact h.2.2 h1
  · exact .inr ⟨e, hA, hx, ⟨h1, setP_allN _, h2⟩, hr, hk⟩

set_option maxHeartbeats 4000000 in
theorem specApex (g : Value) (xss : List (List Int)) (w : World) (hr : RdSS g xss w) (rows : List (List Int)) (ok : Bool) (h : ApexP xss rows ok) :
    Calls Tryd.prog 28 #[.agg #[g]] w (GRes w rows ok) := by
  obtain ⟨a, c, rfl⟩ := hr.shape
  obtain ⟨B, hB⟩ : ∃ B, w.heap.size = B := ⟨_, rfl⟩
  have u1 : Below B w (w.alloc (.cells #[.slice a xss.length c] 26)) := by subst hB; exact below_alloc' _ _
  have VG : VC 26 B #[.slice a xss.length c] (w.alloc (.cells #[.slice a xss.length c] 26)) := VC.new hB
  have hz1 : (w.alloc (.cells #[.slice a xss.length c] 26)).heap.size = B + 1 := by simp [hB]
  have VR : VC 26 (B + 1) #[.slice none 0 0] ((w.alloc (.cells #[.slice a xss.length c] 26)).alloc (.cells #[.slice none 0 0] 26)) := VC.new hz1
  have u2 := u1.alloc (by omega) (.cells #[.slice none 0 0] 26)
  replace VG := VG.upd (Upd.alloc _ (.cells #[.slice none 0 0] 26)) (by omega)
  have hz2 : ((w.alloc (.cells #[.slice a xss.length c] 26)).alloc (.cells #[.slice none 0 0] 26)).heap.size = B + 2 := by simp [hB]
  have H := Lib.hid h
  have hno : (okB xss = false ∨ xss.length = 16) → rows = [] ∧ ok = false := fun hn => by
    rcases H.out with ⟨_, h2⟩ | ⟨h1, h2, _⟩
    · exact h2
    · rcases hn with hn | hn
      · rw [h1] at hn; cases hn
      · exact (h2 hn).elim
  have HNO := Lib.hid hno
  clear h u1 hz1 hno
  have hcg := VG.cell
  go_enter Tryd.func28, Tryd.ntmps28
  go_wp2_with fail
  generalize (w.alloc (.cells #[.slice a xss.length c] 26)).alloc (.cells #[.slice none 0 0] 26) = W at *
  refine (specOk _ xss W (hr.below u2 hB)).mono ?_
  rintro e1 w1 ⟨rfl, hb1⟩
  replace VG := VG.upd (Upd.of_below hb1) (by omega)
  replace VR := VR.upd (Upd.of_below hb1) (by omega)
  have hb := u2.trans (hb1.mono (by omega))
  have hzw1 : B + 2 ≤ w1.heap.size := by have := hb1.size; omega
  clear hb1 u2 hcg
  have hcg := VG.cell
  have hcr := VR.cell
  have hfr := VR.free
  cases hok : okB xss with
  | false =>
    obtain ⟨rfl, rfl⟩ := HNO.out (.inl hok)
    have HCE := Lib.hid (VR.set (.slice none 0 0)).cell
    have HB := Lib.hid (hb.setCell (p := ⟨B + 1, 0, none⟩) (by simp) (.slice none 0 0))
    clear hok
    go_wp2_with fail
    refine bodyPost_ret (v := .tuple #[.agg #[.slice none 0 0], .bool false]) (by simp [results, Tryd.results28, go_sem, HCE.out]) rfl ?_
    exact GRes.nothing _ _ (by rw [hB]; exact HB.out)
  | true =>
    have hn16 := ok_size' hok
    clear hok
    go_wp2_with fail
    refine (size_any a xss.length c w1).mono ?_
    rintro e1 w2 ⟨rfl, hb2⟩
    replace VG := VG.upd (Upd.of_below hb2) (by omega)
    replace VR := VR.upd (Upd.of_below hb2) (by omega)
    replace hb := hb.trans (hb2.mono (by omega))
    have hzw2 : B + 2 ≤ w2.heap.size := by have := hb2.size; omega
    clear hb2 hcg hcr hfr
    have hcg := VG.cell
    have hcr := VR.cell
    have hfr := VR.free
    by_cases h16 : xss.length = 16
    · obtain ⟨rfl, rfl⟩ := HNO.out (.inr h16)
      have hge : (16 : Int) ≤ xss.length := by omega
      have HCE := Lib.hid (VR.set (.slice none 0 0)).cell
      have HB := Lib.hid (hb.setCell (p := ⟨B + 1, 0, none⟩) (by simp) (.slice none 0 0))
      clear h16
      go_wp2_with fail
      refine bodyPost_ret (v := .tuple #[.agg #[.slice none 0 0], .bool false]) (by simp [results, Tryd.results28, go_sem, HCE.out]) rfl ?_
      exact GRes.nothing _ _ (by rw [hB]; exact HB.out)
    have hge : ¬ (16 : Int) ≤ xss.length := by omega
    have HV := Lib.hid H.out.vertex
    clear hcr hfr
    go_wp2_with fail
    refine wp_region_take [] [0, 1] 4 7 #[true, true, false, false, false, false, false, false, false] (by kernel_rfl) (by kernel_rfl) (by kernel_rfl) (by kernel_rfl) (fun _ _ d _ _ h => by cases d <;> exact h) ?_
    simp only [pickOps, List.filterMap_cons, List.filterMap_nil, List.getElem?_cons_succ, List.getElem?_cons_zero]
    repeat quiet_step (fail)
    simp only [wpQuiet_nil_eq]
    refine wpAnyG_1 2 (by kernel_rfl) rfl ?_
    unfold wpNext
    go_wp2_with fail
    refine (size_any a xss.length c w2.drew).mono ?_
    rintro e1 w3 ⟨rfl, hb3⟩
    have HB3 := Lib.hid (below_drew hb3)
    clear hb3
    go_wp2_with fail
    refine ⟨fun _ => over_of_below HB3.out, ?_⟩
    refine wpAnyG_1 3 (by kernel_rfl) rfl ?_
    unfold wpNext
    go_wp2_with fail
    refine (all_any xss.length (by omega) w3).mono ?_
    rintro e1 w4 ⟨ul, rfl, hL, hb4⟩
    obtain ⟨la, lc, rfl⟩ := owns_shape hL
    have HB4 := Lib.hid (HB3.out.trans (hb4.mono HB3.out.size))
    have hRL : RdS (.slice la ((List.range xss.length).map fun (i : Nat) => (i : Int)).length lc) (allN xss.length) w4 := Row.of_owns hL
    have hLl : ((List.range xss.length).map fun (i : Nat) => (i : Int)).length = xss.length := by simp
    rw [hLl] at hRL ⊢
    have HRL := Lib.hid hRL
    clear hb4 hL hLl hRL
    go_wp2_with fail
    refine ⟨fun _ => over_of_below HB4.out, ?_⟩
    refine wpAnyG_1 4 (by kernel_rfl) rfl ?_
    unfold wpNext
    have HAV := Lib.hid (specAddedVertex (.slice a xss.length c) xss (.slice la xss.length lc) (allN xss.length) w4 (hr.below (hb.trans (HB4.out.mono (by omega))) hB) (by have := HRL.out; simpa using this) rows ok HV.out)
    clear hcg
    go_wp2_with fail
    refine HAV.out.mono ?_
    rintro e1 w5 ⟨u5, us, rfl, hG5, hb5⟩
    obtain ⟨ua, uc, rfl⟩ := owns_shape hG5.outer
    have hb15 := HB4.out.trans (hb5.mono HB4.out.size)
    have HF := Lib.hid (GRes.put (b := B + 1) hB hb (by omega) (by have := VR.lt; omega) (hG5.rebase HB4.out.size) hb15 ok)
    replace VR := VR.upd (Upd.of_below hb15) (by omega)
    have HCE := Lib.hid (VR.set (.slice ua us.length uc)).cell
    clear hG5 hb5 hb15 HAV VG
    have hcr := VR.cell
    have hfr := VR.free
    go_wp2_with fail
    refine ⟨fun h => by simp at h, ?_⟩
    refine wpAnyG_mid [5, 6] 2 #[true, true, true, true, true, true, true, false, false] rfl (by kernel_rfl) (by kernel_rfl) (by kernel_rfl) (fun _ _ d _ _ h => by cases d <;> exact h) (fun h => by simp at h) ?_
    simp only [pickOps, List.filterMap_cons, List.filterMap_nil, List.getElem?_cons_succ, List.getElem?_cons_zero]
    repeat quiet_step (fail)
    simp only [wpQuiet_nil_eq]
    refine wpAnyG_tail [7, 8] rfl (.inl (by kernel_rfl)) (by kernel_rfl) ?_
    simp only [pickOps, List.filterMap_cons, List.filterMap_nil, List.getElem?_cons_succ, List.getElem?_cons_zero]
    go_wp2_with fail
    refine bodyPost_ret (v := .tuple #[.agg #[.slice ua us.length uc], .bool ok]) (by simp [results, Tryd.results28, go_sem, HCE.out]) rfl ?_
    exact HF.out

set_option maxHeartbeats 4000000 in
theorem implApex (g : Value) (xss : List (List Int)) (w : World) (ht : Tab w) (hr : RdSS g xss w) (rows : List (List Int)) (ok : Bool) (h : ApexP xss rows ok) :
    Calls Tryd.prog 29 #[.agg #[g]] w (GRes w rows ok) := by
  obtain ⟨a, c, rfl⟩ := hr.shape
  obtain ⟨B, hB⟩ : ∃ B, w.heap.size = B := ⟨_, rfl⟩
  have hTB : 0 < B := by rw [← hB]; exact ht.lt
  have u1 : Below B w (w.alloc (.cells #[.slice a xss.length c] 26)) := by subst hB; exact below_alloc' _ _
  have VG : VC 26 B #[.slice a xss.length c] (w.alloc (.cells #[.slice a xss.length c] 26)) := VC.new hB
  have hz1 : (w.alloc (.cells #[.slice a xss.length c] 26)).heap.size = B + 1 := by simp [hB]
  have VR : VC 26 (B + 1) #[.slice none 0 0] ((w.alloc (.cells #[.slice a xss.length c] 26)).alloc (.cells #[.slice none 0 0] 26)) := VC.new hz1
  have u2 := u1.alloc (by omega) (.cells #[.slice none 0 0] 26)
  replace VG := VG.upd (Upd.alloc _ (.cells #[.slice none 0 0] 26)) (by omega)
  have hz2 : ((w.alloc (.cells #[.slice a xss.length c] 26)).alloc (.cells #[.slice none 0 0] 26)).heap.size = B + 2 := by simp [hB]
  have H := Lib.hid h
  clear h u1 hz1
  have hcg := VG.cell
  go_enter Tryd.func29, Tryd.ntmps29
  go_wp2_with fail
  generalize (w.alloc (.cells #[.slice a xss.length c] 26)).alloc (.cells #[.slice none 0 0] 26) = W at *
  refine (implOk _ xss W (hr.below u2 hB)).mono ?_
  rintro e1 w2 ⟨rfl, hb1⟩
  replace VG := VG.upd (Upd.of_below hb1) (by omega)
  replace VR := VR.upd (Upd.of_below hb1) (by omega)
  have hb := u2.trans (hb1.mono (by omega))
  have hzw2 : B + 2 ≤ w2.heap.size := by have := hb1.size; omega
  clear hb1 u2 hcg
  have hcg := VG.cell
  have hcr := VR.cell
  have hfr := VR.free
  cases hok : okB xss with
  | false =>
    obtain ⟨rfl, rfl⟩ : rows = [] ∧ ok = false := by
      rcases H.out with ⟨_, h2⟩ | ⟨h1, _⟩
      · exact h2
      · rw [hok] at h1; cases h1
    have HCE := Lib.hid (VR.set (.slice none 0 0)).cell
    have HB := Lib.hid (hb.setCell (p := ⟨B + 1, 0, none⟩) (by simp) (.slice none 0 0))
    clear hok
    go_wp2_with fail
    refine bodyPost_ret (v := .tuple #[.agg #[.slice none 0 0], .bool false]) (by simp [results, Tryd.results29, go_sem, HCE.out]) rfl ?_
    exact GRes.nothing _ _ (by rw [hB]; exact HB.out)
  | true =>
    have hn16 := ok_size' hok
    obtain ⟨e, hA, hx⟩ := (okB_iff xss).1 hok
    have HX := Lib.hid hx
    have HV := Lib.hid H.out.vertex
    have hrX : ∀ W', Below w2.heap.size w2 W' → RdSS (.slice a xss.length c) (rowsB xss.length e) W' := fun W' hb' => by
      have := hr.below (hb.trans (hb'.mono (by omega))) hB
      rwa [HX.out, rowsB_length] at this
    have HRX := Lib.hid hrX
    clear hok hcr hfr hx hrX
    go_wp2_with fail
    refine wp_region_take [] [0, 1] 5 8 #[true, true, false, false, false, false, false, false, false, false] (by kernel_rfl) (by kernel_rfl) (by kernel_rfl) (by kernel_rfl) (fun _ _ d _ _ h => by cases d <;> exact h) ?_
    simp only [pickOps, List.filterMap_cons, List.filterMap_nil, List.getElem?_cons_succ, List.getElem?_cons_zero]
    repeat quiet_step (fail)
    simp only [wpQuiet_nil_eq]
    refine wpAnyG_1 2 (by kernel_rfl) rfl ?_
    unfold wpNext
    go_wp2_with fail
    refine (netsOf_any _ xss.length e hn16.2 w2.drew (HRX.out _ (below_drewN' w2 1))).mono ?_
    rintro e1 w3 ⟨u3, rfl, hN3, hb3⟩
    obtain ⟨a3, c3, rfl⟩ := owns_shape hN3
    have HB3 := Lib.hid (below_drew hb3)
    clear hb3 hN3
    go_wp2_with fail
    refine ⟨fun _ => over_of_below HB3.out, ?_⟩
    refine wpAnyG_1 3 (by kernel_rfl) rfl ?_
    unfold wpNext
    go_wp2_with fail
    refine (all_nets a3 xss.length c3 hn16.2 w3).mono ?_
    rintro e1 w3' ⟨rfl, rfl⟩
    obtain ⟨z, HZ⟩ : ∃ z : Nat, Hid (maskB xss.length (fun _ => true) = z) := ⟨_, Lib.hid rfl⟩
    rw [HZ.out]
    go_wp2_with fail
    refine ⟨fun _ => over_of_below HB3.out, ?_⟩
    refine wpAnyG_1 4 (by kernel_rfl) rfl ?_
    unfold wpNext
    have HNU := Lib.hid (numbers_any z (by rw [← HZ.out]; exact maskB_small (by omega) _) w3 ((ht.keep hb hTB).below HB3.out))
    go_wp2_with fail
    refine HNU.out.mono ?_
    rintro e1 w4 ⟨ul, rfl, hL, hb4⟩
    have hnz : nums z = allN xss.length := by rw [← HZ.out, nums_maskB (by omega), rowB_all]; rfl
    rw [hnz] at hL
    obtain ⟨la, lc, rfl⟩ := owns_shape hL
    have HB4 := Lib.hid (HB3.out.trans (hb4.mono HB3.out.size))
    have hRL : RdS (.slice la (allN xss.length).length lc) (allN xss.length) w4 := Row.of_owns hL
    rw [allN_length] at hRL ⊢
    have HRL := Lib.hid hRL
    clear hb4 hL hnz HNU hRL
    go_wp2_with fail
    refine ⟨fun _ => over_of_below HB4.out, ?_⟩
    refine wpAnyG_1 5 (by kernel_rfl) rfl ?_
    unfold wpNext
    have HAV := Lib.hid (implAddedVertex (.slice a xss.length c) xss (.slice la xss.length lc) (allN xss.length) w4 ((ht.keep hb hTB).below HB4.out) (hr.below (hb.trans (HB4.out.mono (by omega))) hB) (by have := HRL.out; simpa using this) rows ok HV.out)
    clear hcg
    go_wp2_with fail
    refine HAV.out.mono ?_
    rintro e1 w5 ⟨u5, us, rfl, hG5, hb5⟩
    obtain ⟨ua, uc, rfl⟩ := owns_shape hG5.outer
    have hb15 := HB4.out.trans (hb5.mono HB4.out.size)
    have HF := Lib.hid (GRes.put (b := B + 1) hB hb (by omega) (by have := VR.lt; omega) (hG5.rebase HB4.out.size) hb15 ok)
    replace VR := VR.upd (Upd.of_below hb15) (by omega)
    have HCE := Lib.hid (VR.set (.slice ua us.length uc)).cell
    clear hG5 hb5 hb15 HAV VG
    have hcr := VR.cell
    have hfr := VR.free
    go_wp2_with fail
    refine ⟨fun h => by simp at h, ?_⟩
    refine wpAnyG_mid [6, 7] 2 #[true, true, true, true, true, true, true, true, false, false] rfl (by kernel_rfl) (by kernel_rfl) (by kernel_rfl) (fun _ _ d _ _ h => by cases d <;> exact h) (fun h => by simp at h) ?_
    simp only [pickOps, List.filterMap_cons, List.filterMap_nil, List.getElem?_cons_succ, List.getElem?_cons_zero]
    repeat quiet_step (fail)
    simp only [wpQuiet_nil_eq]
    refine wpAnyG_tail [8, 9] rfl (.inl (by kernel_rfl)) (by kernel_rfl) ?_
    simp only [pickOps, List.filterMap_cons, List.filterMap_nil, List.getElem?_cons_succ, List.getElem?_cons_zero]
    go_wp2_with fail
    refine bodyPost_ret (v := .tuple #[.agg #[.slice ua us.length uc], .bool ok]) (by simp [results, Tryd.results29, go_sem, HCE.out]) rfl ?_
    exact HF.out

theorem both_ApexOf (xss : List (List Int)) : ∃ rows ok, 1 + total rows ≤ 1000000000 ∧ rows.length ≤ 1000000000 ∧
    (∀ (w : World) (g : Value), Tab w → RdSS g xss w → Calls Tryd.prog 28 #[.agg #[g]] w (GRes w rows ok)) ∧
    (∀ (w : World) (g : Value), Tab w → RdSS g xss w → Calls Tryd.prog 29 #[.agg #[g]] w (GRes w rows ok)) := by
  by_cases h : okB xss = true ∧ xss.length ≠ 16
  · obtain ⟨e, hA, hx⟩ := (okB_iff xss).1 h.1
    have hn := hA.le
    have ht := total_rowsB (xss.length + 1) (hung xss.length e (allN xss.length)) (by omega)
    have hP : ApexP xss _ true := .inr ⟨h.1, h.2, e, hA, hx, rfl, rfl⟩
    exact ⟨_, true, by omega, by simp; omega, fun w g _ hr => specApex g xss w hr _ _ hP, fun w g ht hr => implApex g xss w ht hr _ _ hP⟩
  · have h' : okB xss = false ∨ xss.length = 16 := by
      by_cases h1 : okB xss = true
      · by_cases h2 : xss.length = 16
        · exact .inr h2
        · exact (h ⟨h1, h2⟩).elim
      · exact .inl (by simpa using h1)
    exact ⟨[], false, by simp [total], by simp, fun w g _ hr => specApex g xss w hr _ _ (.inl ⟨h', rfl, rfl⟩), fun w g ht hr => implApex g xss w ht hr _ _ (.inl ⟨h', rfl, rfl⟩)⟩
end Go.Proofs.YtikcooagdaghnaaDoor
