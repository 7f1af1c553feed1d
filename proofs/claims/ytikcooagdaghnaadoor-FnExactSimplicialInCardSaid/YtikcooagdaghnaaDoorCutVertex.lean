/-
  'CutVertex' of the reference and of the program.
-/
import Derived.Test.YtikcooagdaghnaaDoorInduced3
import Derived.Test.YtikcooagdaghnaaDoorApex
namespace Go.Proofs.YtikcooagdaghnaaDoor
open Go.RowKit

/-- The numbers below n but one. -/
def cutL (n k : Nat) : List Int := rowB n fun b => !decide (b = k)
theorem cutL_length (n k : Nat) : (cutL n k).length ≤ n := rowB_length _ _
theorem cutL_in (n k : Nat) : InP n (cutL n k) := (setP_rowB n _).inP
theorem cutL_without (n k : Nat) : without (allN n) (k : Int) = cutL n k := by
  have h : allN n = rowB n (fun _ => true) := by rw [rowB_all]; rfl
  rw [h, without_rowB]
  rfl
/-- What 'CutVertex' asks. -/
def OkX (xss : List (List Int)) (v : Int) : Prop := vertexB xss v = true ∧ xss.length ≠ 1
instance (xss : List (List Int)) (v : Int) : Decidable (OkX xss v) := by unfold OkX; infer_instance
def CutP (xss : List (List Int)) (v : Int) (rows : List (List Int)) (ok : Bool) : Prop :=
  (¬ OkX xss v ∧ rows = [] ∧ ok = false) ∨ ∃ (e : Nat → Nat → Bool) (k : Nat), Adj xss.length e ∧ xss = rowsB xss.length e ∧ v = k ∧ k < xss.length ∧ OkX xss v ∧ rows = rowsB (cutL xss.length k).length (ofList e (cutL xss.length k)) ∧ ok = true

set_option maxHeartbeats 2000000 in
theorem specCutVertex (g : Value) (xss : List (List Int)) (v : Int) (w : World) (hr : RdSS g xss w) (rows : List (List Int)) (ok : Bool) (h : CutP xss v rows ok) :
    Calls Tryd.prog 30 #[.agg #[g], .int .i64 v] w (GRes w rows ok) := by
  obtain ⟨a, c, rfl⟩ := hr.shape
  obtain ⟨B, hB⟩ : ∃ B, w.heap.size = B := ⟨_, rfl⟩
  have u1 : Below B w (w.alloc (.cells #[.slice a xss.length c] 26)) := by subst hB; exact below_alloc' _ _
  have VG : VC 26 B #[.slice a xss.length c] (w.alloc (.cells #[.slice a xss.length c] 26)) := VC.new hB
  have hz1 : (w.alloc (.cells #[.slice a xss.length c] 26)).heap.size = B + 1 := by simp [hB]
  have VR : VC 26 (B + 1) #[.slice none 0 0] ((w.alloc (.cells #[.slice a xss.length c] 26)).alloc (.cells #[.slice none 0 0] 26)) := VC.new hz1
  have u2 := u1.alloc (by omega) (.cells #[.slice none 0 0] 26)
  replace VG := VG.upd (Upd.alloc _ (.cells #[.slice none 0 0] 26)) (by omega)
  have hz2 : ((w.alloc (.cells #[.slice a xss.length c] 26)).alloc (.cells #[.slice none 0 0] 26)).heap.size = B + 2 := by simp [hB]
  have H := Lib.hid h
  clear h u1 hz1
  have hcg := VG.cell
  go_enter Tryd.func30, Tryd.ntmps30
  go_wp2_with fail
  generalize (w.alloc (.cells #[.slice a xss.length c] 26)).alloc (.cells #[.slice none 0 0] 26) = W at *
  refine (specOk _ xss W (hr.below u2 hB)).mono ?_
  rintro e1 w1 ⟨rfl, hb1⟩
  replace VG := VG.upd (Upd.of_below hb1) (by omega)
  replace VR := VR.upd (Upd.of_below hb1) (by omega)
  have hb := u2.trans (hb1.mono (by omega))
  have hzw1 : B + 2 ≤ w1.heap.size := by have := hb1.size; omega
  clear hb1 hcg u2
  have hcg := VG.cell
  have hcr := VR.cell
  have hfr := VR.free
  have HCE0 := Lib.hid (VR.set (.slice none 0 0)).cell
  have HB0 := Lib.hid (hb.setCell (p := ⟨B + 1, 0, none⟩) (by simp) (.slice none 0 0))
  have hno : ¬ OkX xss v → Hid (rows = [] ∧ ok = false) := fun hn => by
    rcases H.out with ⟨_, h2⟩ | ⟨_, _, _, _, _, _, h1, _⟩
    · exact Lib.hid h2
    · exact (hn h1).elim
  have HNO := Lib.hid hno
  clear hno
  cases hok : okB xss with
  | false =>
    obtain ⟨rfl, rfl⟩ := (HNO.out (fun h => by have := h.1; unfold vertexB at this; rw [hok] at this; cases this)).out
    clear hok
    go_wp2_with fail
    refine bodyPost_ret (v := .tuple #[.agg #[.slice none 0 0], .bool false]) (by simp [results, Tryd.results30, go_sem, HCE0.out]) rfl ?_
    exact GRes.nothing _ _ (by rw [hB]; exact HB0.out)
  | true =>
    have hn := ok_size hok
    have HK := Lib.hid hok
    clear hok
    go_wp2_with fail
    refine (there_any _ xss v (by omega) w1 (hr.below hb hB)).mono ?_
    rintro e1 w2 ⟨rfl, hb1⟩
    replace VG := VG.upd (Upd.of_below hb1) (by omega)
    replace VR := VR.upd (Upd.of_below hb1) (by omega)
    replace hb := hb.trans (hb1.mono (by omega))
    have hzw2 : B + 2 ≤ w2.heap.size := by have := hb1.size; omega
    clear hb1 hcg hcr hfr HCE0 HB0
    have hcg := VG.cell
    have hcr := VR.cell
    have hfr := VR.free
    have HCE0 := Lib.hid (VR.set (.slice none 0 0)).cell
    have HB0 := Lib.hid (hb.setCell (p := ⟨B + 1, 0, none⟩) (by simp) (.slice none 0 0))
    cases hin : inN xss.length v with
    | false =>
      obtain ⟨rfl, rfl⟩ := (HNO.out (fun h => by have := h.1; unfold vertexB at this; rw [hin, Bool.and_false] at this; cases this)).out
      clear hin
      go_wp2_with fail
      refine bodyPost_ret (v := .tuple #[.agg #[.slice none 0 0], .bool false]) (by simp [results, Tryd.results30, go_sem, HCE0.out]) rfl ?_
      exact GRes.nothing _ _ (by rw [hB]; exact HB0.out)
    | true =>
      have HIN := Lib.hid hin
      clear hin
      go_wp2_with fail
      refine (size_rd _ xss w2 (hr.below hb hB)).mono ?_
      rintro e1 w3 ⟨rfl, hb1⟩
      replace VG := VG.upd (Upd.of_below hb1) (by omega)
      replace VR := VR.upd (Upd.of_below hb1) (by omega)
      replace hb := hb.trans (hb1.mono (by omega))
      have hzw3 : B + 2 ≤ w3.heap.size := by have := hb1.size; omega
      clear hb1 hcg hcr hfr HCE0 HB0
      have hcg := VG.cell
      have hcr := VR.cell
      have hfr := VR.free
      have HCE0 := Lib.hid (VR.set (.slice none 0 0)).cell
      have HB0 := Lib.hid (hb.setCell (p := ⟨B + 1, 0, none⟩) (by simp) (.slice none 0 0))
      by_cases h1 : xss.length = 1
      · have hd : ((xss.length : Int) == 1) = true := by rw [beq_iff_eq]; omega
        obtain ⟨rfl, rfl⟩ := (HNO.out (fun h => h.2 h1)).out
        clear h1
        go_wp2_with fail
        refine bodyPost_ret (v := .tuple #[.agg #[.slice none 0 0], .bool false]) (by simp [results, Tryd.results30, go_sem, HCE0.out]) rfl ?_
        exact GRes.nothing _ _ (by rw [hB]; exact HB0.out)
      have hd : ((xss.length : Int) == 1) = false := by rw [beq_eq_false_iff_ne]; omega
      have HOK : Hid (OkX xss v) := Lib.hid ⟨by unfold vertexB; rw [HK.out, HIN.out]; rfl, h1⟩
      clear h1
      obtain ⟨e, k, hA, hx, rfl, hk, rfl, rfl⟩ : ∃ e k, Adj xss.length e ∧ xss = rowsB xss.length e ∧ v = (k : Nat) ∧ k < xss.length ∧ rows = rowsB (cutL xss.length k).length (ofList e (cutL xss.length k)) ∧ ok = true := by
        rcases H.out with ⟨h1, _⟩ | ⟨e, k, hA, hx, h2, h3, _, h4, h5⟩
        · exact (h1 HOK.out).elim
        · exact ⟨e, k, hA, hx, h2, h3, h4, h5⟩
      have hn16 := hA.le
      have hl16 := cutL_length xss.length k
      have HA := Lib.hid (And.intro hA (cutL_in xss.length k))
      have hrX : ∀ W', Below (B + 2) w3 W' → RdSS (.slice a xss.length c) (rowsB xss.length e) W' := fun W' hb' => by
        have := hr.below (hb.trans (hb'.mono (by omega))) hB
        rwa [hx, rowsB_length] at this
      have HRX := Lib.hid hrX
      clear hx hrX HNO H HCE0 HB0 HOK
      clear hcr hfr
      go_wp2_with fail
      refine wp_region_ord [4] [0, 1] [2, 3, 5] [6, 7, 8] (by kernel_rfl) (by kernel_rfl) (fun _ _ d _ _ h => by cases d <;> exact h) ?_
      simp only [pickOps, List.filterMap_cons, List.filterMap_nil, List.getElem?_cons_succ, List.getElem?_cons_zero]
      repeat quiet_step (fail)
      refine wpSegs_cons ?_
      go_wp2_with fail
      refine (size_any a xss.length c w3.drew).mono ?_
      rintro e1 w4 ⟨rfl, hb4⟩
      have HB4 := Lib.hid (below_drew hb4)
      clear hb4
      go_wp2_with fail
      refine ⟨HB4.out, ?_⟩
      refine wpSegs_cons ?_
      go_wp2_with fail
      refine (all_any xss.length (by omega) w4).mono ?_
      rintro e1 w5 ⟨ul, rfl, hL, hb5⟩
      obtain ⟨la, lc, rfl⟩ := owns_shape hL
      have HB5 := Lib.hid (HB4.out.trans (hb5.mono HB4.out.size))
      have hRL : RdS (.slice la ((List.range xss.length).map fun (i : Nat) => (i : Int)).length lc) (allN xss.length) w5 := Row.of_owns hL
      have hLl : ((List.range xss.length).map fun (i : Nat) => (i : Int)).length = xss.length := by simp
      rw [hLl] at hRL ⊢
      have HWO := Lib.hid (without_any (.slice la xss.length lc) (allN xss.length) k (by simp; omega) w5 (by simpa using hRL))
      rw [cutL_without] at HWO
      clear hb5 hL hLl hRL
      go_wp2_with fail
      refine ⟨HB5.out, ?_⟩
      refine wpSegs_cons ?_
      go_wp2_with fail
      refine HWO.out.mono ?_
      rintro e1 w6 ⟨uw, rfl, hL6, hb6⟩
      obtain ⟨wa, wc, rfl⟩ := owns_shape hL6
      have hb16 := HB5.out.trans (hb6.mono HB5.out.size)
      have HB6 := Lib.hid hb16
      have HO := Lib.hid (l2Of_any _ xss.length e hn16 (.slice wa (cutL xss.length k).length wc) (cutL xss.length k) HA.out.2 (by omega) w6 (HRX.out w6 (hb16.mono (by omega))) (Row.of_owns hL6))
      clear hb6 hL6 HWO hb16 hcg
      go_wp2_with fail
      refine ⟨HB6.out, ?_⟩
      simp only [wpSegs_nil_eq]
      go_wp2_with fail
      refine HO.out.mono ?_
      rintro e1 w7 ⟨u7, us, rfl, hG7, hb7⟩
      obtain ⟨ua, uc, rfl⟩ := owns_shape hG7.outer
      have hb17 := HB6.out.trans (hb7.mono HB6.out.size)
      have HF := Lib.hid (GRes.put (b := B + 1) hB hb (by omega) (by have := VR.lt; omega) (hG7.rebase HB6.out.size) hb17 true)
      replace VR := VR.upd (Upd.of_below hb17) (by omega)
      have HCE := Lib.hid (VR.set (.slice ua us.length uc)).cell
      clear hG7 hb7 hb17 HO VG
      have hcr := VR.cell
      have hfr := VR.free
      go_wp2_with fail
      refine bodyPost_ret (v := .tuple #[.agg #[.slice ua us.length uc], .bool true]) (by simp [results, Tryd.results30, go_sem, HCE.out]) rfl ?_
      exact HF.out

set_option maxHeartbeats 2000000 in
theorem implCutVertex (g : Value) (xss : List (List Int)) (v : Int) (w : World) (ht : Tab w) (hr : RdSS g xss w) (rows : List (List Int)) (ok : Bool) (h : CutP xss v rows ok) :
    Calls Tryd.prog 31 #[.agg #[g], .int .i64 v] w (GRes w rows ok) := by
  obtain ⟨a, c, rfl⟩ := hr.shape
  obtain ⟨B, hB⟩ : ∃ B, w.heap.size = B := ⟨_, rfl⟩
  have hTB : 0 < B := by rw [← hB]; exact ht.lt
  have u1 : Below B w (w.alloc (.cells #[.slice a xss.length c] 26)) := by subst hB; exact below_alloc' _ _
  have VG : VC 26 B #[.slice a xss.length c] (w.alloc (.cells #[.slice a xss.length c] 26)) := VC.new hB
  have hz1 : (w.alloc (.cells #[.slice a xss.length c] 26)).heap.size = B + 1 := by simp [hB]
  have VR : VC 26 (B + 1) #[.slice none 0 0] ((w.alloc (.cells #[.slice a xss.length c] 26)).alloc (.cells #[.slice none 0 0] 26)) := VC.new hz1
  have u2 := u1.alloc (by omega) (.cells #[.slice none 0 0] 26)
  replace VG := VG.upd (Upd.alloc _ (.cells #[.slice none 0 0] 26)) (by omega)
  have hz2 : ((w.alloc (.cells #[.slice a xss.length c] 26)).alloc (.cells #[.slice none 0 0] 26)).heap.size = B + 2 := by simp [hB]
  have H := Lib.hid h
  clear h u1 hz1
  have hcg := VG.cell
  go_enter Tryd.func31, Tryd.ntmps31
  go_wp2_with fail
  generalize (w.alloc (.cells #[.slice a xss.length c] 26)).alloc (.cells #[.slice none 0 0] 26) = W at *
  refine (isVertex_any _ xss v W (hr.below u2 hB)).mono ?_
  rintro e1 w3 ⟨rfl, hb1⟩
  replace VG := VG.upd (Upd.of_below hb1) (by omega)
  replace VR := VR.upd (Upd.of_below hb1) (by omega)
  have hb := u2.trans (hb1.mono (by omega))
  have hzw3 : B + 2 ≤ w3.heap.size := by have := hb1.size; omega
  clear hb1 hcg u2
  have hcg := VG.cell
  have hcr := VR.cell
  have hfr := VR.free
  have HCE0 := Lib.hid (VR.set (.slice none 0 0)).cell
  have HB0 := Lib.hid (hb.setCell (p := ⟨B + 1, 0, none⟩) (by simp) (.slice none 0 0))
  have hno : ¬ OkX xss v → Hid (rows = [] ∧ ok = false) := fun hn => by
    rcases H.out with ⟨_, h2⟩ | ⟨_, _, _, _, _, _, h1, _⟩
    · exact Lib.hid h2
    · exact (hn h1).elim
  have HNO := Lib.hid hno
  clear hno
  cases hok : vertexB xss v with
  | false =>
    obtain ⟨rfl, rfl⟩ := (HNO.out (fun h => by have := h.1; rw [hok] at this; cases this)).out
    clear hok
    go_wp2_with fail
    refine bodyPost_ret (v := .tuple #[.agg #[.slice none 0 0], .bool false]) (by simp [results, Tryd.results31, go_sem, HCE0.out]) rfl ?_
    exact GRes.nothing _ _ (by rw [hB]; exact HB0.out)
  | true =>
    have HK := Lib.hid hok
    clear hok
    by_cases h1 : xss.length = 1
    · have hd : ((xss.length : Int) == 1) = true := by rw [beq_iff_eq]; omega
      obtain ⟨rfl, rfl⟩ := (HNO.out (fun h => h.2 h1)).out
      clear h1
      go_wp2_with fail
      refine bodyPost_ret (v := .tuple #[.agg #[.slice none 0 0], .bool false]) (by simp [results, Tryd.results31, go_sem, HCE0.out]) rfl ?_
      exact GRes.nothing _ _ (by rw [hB]; exact HB0.out)
    have hd : ((xss.length : Int) == 1) = false := by rw [beq_eq_false_iff_ne]; omega
    have HOK : Hid (OkX xss v) := Lib.hid ⟨HK.out, h1⟩
    clear h1
    obtain ⟨e, k, hA, hx, rfl, hk, rfl, rfl⟩ : ∃ e k, Adj xss.length e ∧ xss = rowsB xss.length e ∧ v = (k : Nat) ∧ k < xss.length ∧ rows = rowsB (cutL xss.length k).length (ofList e (cutL xss.length k)) ∧ ok = true := by
      rcases H.out with ⟨h1, _⟩ | ⟨e, k, hA, hx, h2, h3, _, h4, h5⟩
      · exact (h1 HOK.out).elim
      · exact ⟨e, k, hA, hx, h2, h3, h4, h5⟩
    have hn16 := hA.le
    have hl16 := cutL_length xss.length k
    have HA := Lib.hid (And.intro hA (cutL_in xss.length k))
    have hrX : ∀ W', Below (B + 2) w3 W' → RdSS (.slice a xss.length c) (rowsB xss.length e) W' := fun W' hb' => by
      have := hr.below (hb.trans (hb'.mono (by omega))) hB
      rwa [hx, rowsB_length] at this
    have HRX := Lib.hid hrX
    clear hx hrX HNO H HCE0 HB0 HOK
    have HN := Lib.hid (netsOf_any _ xss.length e hn16 w3 (HRX.out w3 (Below.refl _ _)))
    clear hcr hfr
    go_wp2_with fail
    refine HN.out.mono ?_
    rintro e1 w4 ⟨u4, rfl, hN4, hb4⟩
    obtain ⟨na, nc, rfl⟩ := owns_shape hN4
    obtain ⟨z1, HZ1⟩ : ∃ z : Int, Hid (z = (maskB xss.length (fun _ => true) : Nat)) := ⟨_, Lib.hid rfl⟩
    obtain ⟨z2, HZ2⟩ : ∃ z : Int, Hid (z = ((2 ^ k : Nat) : Int)) := ⟨_, Lib.hid rfl⟩
    obtain ⟨z3, HZ3⟩ : ∃ z : Nat, Hid (z = maskB xss.length (fun b => !decide (b = k))) := ⟨_, Lib.hid rfl⟩
    have hb1 : bits BinOp.andNot IntKind.u32 z1 z2 = (z3 : Int) := by
      rw [HZ1.out, HZ2.out, HZ3.out, maskB_andNot (by omega) _ (pow_small (by omega))]
      congr 1
      refine maskB_ext fun i hi => ?_
      rw [Nat.testBit_two_pow]
      simp [eq_comm]
    have HAL := Lib.hid (all_netsAt (.slice na xss.length nc) xss.length hn16 z1 HZ1.out ⟨_, _, rfl⟩ w4)
    have hb04 := hb.trans (hb4.mono (by omega))
    have HT4 := Lib.hid (ht.keep hb04 hTB)
    have HLI := Lib.hid (list_any z3 (by rw [HZ3.out]; exact maskB_small (by omega) _) w4 HT4.out)
    have hNr := Row.of_owns hN4
    have hll : (bitsOf z3).length = (cutL xss.length k).length := by
      have : (nums z3).length = (bitsOf z3).length := by simp [nums]
      rw [← this, HZ3.out, nums_maskB (by omega)]
      rfl
    have hle : (bitsOf z3).map (fun (i : Nat) => Value.int .i64 i) = ints (cutL xss.length k) := by
      rw [← ints_nums, HZ3.out, nums_maskB (by omega)]
      rfl
    rw [hll, hle] at HLI
    replace VR := VR.upd (Upd.of_below hb4) (by omega)
    have hz4 := hb4.size
    clear hcg HN hN4 hll hle hb4 VG hb
    go_wp2_with fail
    refine HAL.out.mono ?_
    rintro e1 w' ⟨rfl, rfl⟩
    go_wp2_with fail
    refine (one_at _ k rfl (by omega) z2 HZ2.out _).mono ?_
    rintro e1 w' ⟨rfl, rfl⟩
    go_wp2_with fail
    refine HLI.out.mono ?_
    rintro e1 w5 ⟨u5, rfl, hL5, hb5⟩
    obtain ⟨la, lc, rfl⟩ := owns_shape hL5
    have HD := Lib.hid (induced_any (.slice na xss.length nc) xss.length e hn16 (.slice la (cutL xss.length k).length lc) (cutL xss.length k) HA.out.2 (by omega) w5 (hNr.below hb5) (Row.of_owns hL5))
    clear HLI hL5 hNr
    go_wp2_with fail
    refine HD.out.mono ?_
    rintro e1 w6 ⟨u6, rfl, hN6⟩
    rw [NB_ofList HA.out.1 HA.out.2] at hN6
    obtain ⟨da, dc, rfl⟩ := owns_shape hN6.own
    rw [NB_length] at hN6 ⊢
    have hz5 := hb5.size
    have hb6 := hb04.trans ((hb5.trans (hN6.bel.mono hz5)).mono (by omega))
    have hz6 := hN6.bel.size
    have HT5 := Lib.hid (HT4.out.below hb5)
    have HGR := Lib.hid (hN6.graph HT5.out (by omega) (by simp; omega))
    replace VR := (VR.upd (Upd.of_below hb5) (by omega)).upd (Upd.of_below hN6.bel) (by omega)
    clear hN6 HD hb5
    go_wp2_with fail
    refine HGR.out.mono ?_
    rintro e1 w7 ⟨u7, us, rfl, hG7, hb7⟩
    rw [rowsOf_NB (by omega)] at hG7
    obtain ⟨uua, uuc, rfl⟩ := owns_shape hG7.outer
    have HF := Lib.hid (GRes.put (b := B + 1) hB hb6 (by omega) (by have := VR.lt; omega) hG7 hb7 true)
    replace VR := VR.upd (Upd.of_below hb7) (by omega)
    have HCE := Lib.hid (VR.set (.slice uua us.length uuc)).cell
    clear hG7 hb7 HGR hb6
    have hcr := VR.cell
    have hfr := VR.free
    go_wp2_with fail
    refine bodyPost_ret (v := .tuple #[.agg #[.slice uua us.length uuc], .bool true]) (by simp [results, Tryd.results31, go_sem, HCE.out]) rfl ?_
    exact HF.out

theorem both_CutVertex (xss : List (List Int)) (v : Int) : ∃ rows ok, 1 + total rows ≤ 1000000000 ∧ rows.length ≤ 1000000000 ∧
    (∀ (w : World) (g : Value), Tab w → RdSS g xss w → Calls Tryd.prog 30 #[.agg #[g], .int .i64 v] w (GRes w rows ok)) ∧
    (∀ (w : World) (g : Value), Tab w → RdSS g xss w → Calls Tryd.prog 31 #[.agg #[g], .int .i64 v] w (GRes w rows ok)) := by
  by_cases h : OkX xss v
  · have h1 := h.1
    unfold vertexB inN at h1
    rw [Bool.and_eq_true] at h1
    obtain ⟨e, hA, hx⟩ := (okB_iff xss).1 h1.1
    have hv : 0 ≤ v ∧ v < xss.length := by simpa using h1.2
    obtain ⟨k, rfl⟩ := Int.eq_ofNat_of_zero_le hv.1
    have hn := hA.le
    have hl := cutL_length xss.length k
    have ht := total_rowsB (cutL xss.length k).length (ofList e (cutL xss.length k)) (by omega)
    have hP : CutP xss k _ true := .inr ⟨e, k, hA, hx, rfl, by omega, h, rfl, rfl⟩
    exact ⟨_, true, by omega, by simp; omega, fun w g _ hr => specCutVertex g xss k w hr _ _ hP, fun w g ht hr => implCutVertex g xss k w ht hr _ _ hP⟩
  · exact ⟨[], false, by simp [total], by simp, fun w g _ hr => specCutVertex g xss v w hr _ _ (.inl ⟨h, rfl, rfl⟩), fun w g ht hr => implCutVertex g xss v w ht hr _ _ (.inl ⟨h, rfl, rfl⟩)⟩
end Go.Proofs.YtikcooagdaghnaaDoor
