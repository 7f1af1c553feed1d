/-
  'Induced' of the reference and of the program.
-/
import Derived.Test.YtikcooagdaghnaaDoorInduced2
namespace Go.Proofs.YtikcooagdaghnaaDoor
open Go.RowKit

/-- The graph on the vertices of a list. -/
def ofList (e : Nat → Nat → Bool) (xs : List Int) : Nat → Nat → Bool := sym fun a b => e (atL xs b) (atL xs a)
theorem InP.lt {n : Nat} {xs : List Int} (h : InP n xs) {i : Nat} (hi : i < xs.length) : atL xs i < n := by
  obtain ⟨k, hk, hkn⟩ := h.at (i := i) (List.getElem?_eq_getElem hi)
  have : atL xs i = k := atL_eq (by rw [List.getElem?_eq_getElem hi, hk])
  omega
theorem NB_ofList {n : Nat} {e : Nat → Nat → Bool} (hA : Adj n e) {xs : List Int} (hin : InP n xs) : NB xs.length (fun a b => e (atL xs a) (atL xs b)) = NB xs.length (ofList e xs) := by
  refine NB_ext fun a b ha hb => ?_
  have h1 := hin.lt ha
  have h2 := hin.lt hb
  unfold ofList sym
  rcases Nat.lt_trichotomy a b with h | h | h
  · have h3 : ¬ b < a := by omega
    simp [h, h3, hA.sym _ _ h1 h2]
  · subst h
    simp [hA.irr _ h1]
  · have h3 : ¬ a < b := by omega
    simp [h, h3]
theorem SetP.inP {n : Nat} {xs : List Int} (h : SetP n xs) : InP n xs := fun x hx => h.1 x hx

/-- What 'Induced' asks. -/
def OkN (xss : List (List Int)) (xs : List Int) : Prop := okB xss = true ∧ SetP xss.length xs ∧ xs.length ≠ 0
def IndP (xss : List (List Int)) (xs : List Int) (rows : List (List Int)) (ok : Bool) : Prop :=
  (¬ OkN xss xs ∧ rows = [] ∧ ok = false) ∨ ∃ e, Adj xss.length e ∧ xss = rowsB xss.length e ∧ OkN xss xs ∧ rows = rowsB xs.length (ofList e xs) ∧ ok = true

set_option maxHeartbeats 2000000 in
theorem specInduced (v : Value) (xss : List (List Int)) (v2 : Value) (xs : List Int) (w : World) (hr : RdSS v xss w) (hs : RdS v2 xs w) (rows : List (List Int)) (ok : Bool) (h : IndP xss xs rows ok) :
    Calls Tryd.prog 23 #[.agg #[v], v2] w (GRes w rows ok) := by
  obtain ⟨a, c, rfl⟩ := hr.shape
  have hxl := hs.len
  unfold maxLen at hxl
  obtain ⟨a2, c2, rfl, -, -, -⟩ := id hs
  obtain ⟨B, hB⟩ : ∃ B, w.heap.size = B := ⟨_, rfl⟩
  have u1 : Below B w (w.alloc (.cells #[.slice a xss.length c] 26)) := by subst hB; exact below_alloc' _ _
  have VG : VC 26 B #[.slice a xss.length c] (w.alloc (.cells #[.slice a xss.length c] 26)) := VC.new hB
  have hz1 : (w.alloc (.cells #[.slice a xss.length c] 26)).heap.size = B + 1 := by simp [hB]
  have VR : VC 26 (B + 1) #[.slice none 0 0] ((w.alloc (.cells #[.slice a xss.length c] 26)).alloc (.cells #[.slice none 0 0] 26)) := VC.new hz1
  have u2 := u1.alloc (by omega) (.cells #[.slice none 0 0] 26)
  replace VG := VG.upd (Upd.alloc _ (.cells #[.slice none 0 0] 26)) (by omega)
  have hz2 : ((w.alloc (.cells #[.slice a xss.length c] 26)).alloc (.cells #[.slice none 0 0] 26)).heap.size = B + 2 := by simp [hB]
  have H := Lib.hid h
  clear h u1 hz1
  have hcg := VG.cell
  go_enter Tryd.func23, Tryd.ntmps23
  go_wp2_with fail
  generalize (w.alloc (.cells #[.slice a xss.length c] 26)).alloc (.cells #[.slice none 0 0] 26) = W at *
  refine (specSetOk _ xss _ xs W (hr.below u2 hB) (RdS.below hs u2 hB)).mono ?_
  rintro e1 w1 ⟨rfl, hb1⟩
  replace VG := VG.upd (Upd.of_below hb1) (by omega)
  replace VR := VR.upd (Upd.of_below hb1) (by omega)
  have hb := u2.trans (hb1.mono (by omega))
  have hzw1 : B + 2 ≤ w1.heap.size := by have := hb1.size; omega
  clear hb1 hcg u2
  have hcg := VG.cell
  have hcr := VR.cell
  have hfr := VR.free
  have hno : ¬ OkN xss xs → Hid (rows = [] ∧ ok = false) := fun hn => by
    rcases H.out with ⟨_, h2⟩ | ⟨_, _, _, h1, _⟩
    · exact Lib.hid h2
    · exact (hn h1).elim
  have HNO := Lib.hid hno
  clear hno
  have HCE0 := Lib.hid (VR.set (.slice none 0 0)).cell
  have HB0 := Lib.hid (hb.setCell (p := ⟨B + 1, 0, none⟩) (by simp) (.slice none 0 0))
  cases hok : (okB xss && decide (SetP xss.length xs)) with
  | false =>
    obtain ⟨rfl, rfl⟩ := (HNO.out (fun h => by rw [h.1] at hok; simp [h.2.1] at hok)).out
    clear hok
    go_wp2_with fail
    refine bodyPost_ret (v := .tuple #[.agg #[.slice none 0 0], .bool false]) (by simp [results, Tryd.results23, go_sem, HCE0.out]) rfl ?_
    exact GRes.nothing _ _ (by rw [hB]; exact HB0.out)
  | true =>
    have hok2 : okB xss = true ∧ SetP xss.length xs := by simpa using hok
    clear hok
    by_cases h0 : xs.length = 0
    · have hd : ((xs.length : Int) == 0) = true := by simp [h0]
      obtain ⟨rfl, rfl⟩ := (HNO.out (fun h => h.2.2 h0)).out
      clear h0
      go_wp2_with fail
      refine bodyPost_ret (v := .tuple #[.agg #[.slice none 0 0], .bool false]) (by simp [results, Tryd.results23, go_sem, HCE0.out]) rfl ?_
      exact GRes.nothing _ _ (by rw [hB]; exact HB0.out)
    have hd : ((xs.length : Int) == 0) = false := by rw [beq_eq_false_iff_ne]; omega
    obtain ⟨e, hA, hx, hset, rfl, rfl⟩ : ∃ e, Adj xss.length e ∧ xss = rowsB xss.length e ∧ SetP xss.length xs ∧ rows = rowsB xs.length (ofList e xs) ∧ ok = true := by
      rcases H.out with ⟨h1, _⟩ | ⟨e, hA, hx, _, h3, h4⟩
      · exact (h1 ⟨hok2.1, hok2.2, h0⟩).elim
      · exact ⟨e, hA, hx, hok2.2, h3, h4⟩
    have hn16 := hA.le
    have hxl16 := hset.length
    have hr' := hr.below hb hB
    rw [hx, rowsB_length] at hr'
    have HO := Lib.hid (l2Of_any _ xss.length e hn16 (.slice a2 xs.length c2) xs hset.inP (by omega) w1 hr' (RdS.below hs hb hB))
    clear hx hset hr' HNO H HCE0 HB0 hok2 h0
    go_wp2_with fail
    refine HO.out.mono ?_
    rintro e1 w5 ⟨u5, us, rfl, hG5, hb5⟩
    obtain ⟨ua, uc, rfl⟩ := owns_shape hG5.outer
    have HF := Lib.hid (GRes.put (b := B + 1) hB hb (by omega) (by have := VR.lt; omega) hG5 hb5 true)
    replace VR := VR.upd (Upd.of_below hb5) (by omega)
    have HCE := Lib.hid (VR.set (.slice ua us.length uc)).cell
    clear hG5 hb5 HO VG hcg hcr hfr
    have hcr := VR.cell
    have hfr := VR.free
    go_wp2_with fail
    refine bodyPost_ret (v := .tuple #[.agg #[.slice ua us.length uc], .bool true]) (by simp [results, Tryd.results23, go_sem, HCE.out]) rfl ?_
    exact HF.out

set_option maxHeartbeats 2000000 in
theorem implInduced (v : Value) (xss : List (List Int)) (v2 : Value) (xs : List Int) (w : World) (ht : Tab w) (hr : RdSS v xss w) (hs : RdS v2 xs w) (rows : List (List Int)) (ok : Bool) (h : IndP xss xs rows ok) :
    Calls Tryd.prog 25 #[.agg #[v], v2] w (GRes w rows ok) := by
  obtain ⟨a, c, rfl⟩ := hr.shape
  have hxl := hs.len
  unfold maxLen at hxl
  obtain ⟨a2, c2, rfl, -, -, -⟩ := id hs
  obtain ⟨B, hB⟩ : ∃ B, w.heap.size = B := ⟨_, rfl⟩
  have hTB : 0 < B := by rw [← hB]; exact ht.lt
  have u1 : Below B w (w.alloc (.cells #[.slice a xss.length c] 26)) := by subst hB; exact below_alloc' _ _
  have VG : VC 26 B #[.slice a xss.length c] (w.alloc (.cells #[.slice a xss.length c] 26)) := VC.new hB
  have hz1 : (w.alloc (.cells #[.slice a xss.length c] 26)).heap.size = B + 1 := by simp [hB]
  have VR : VC 26 (B + 1) #[.slice none 0 0] ((w.alloc (.cells #[.slice a xss.length c] 26)).alloc (.cells #[.slice none 0 0] 26)) := VC.new hz1
  have u2 := u1.alloc (by omega) (.cells #[.slice none 0 0] 26)
  replace VG := VG.upd (Upd.alloc _ (.cells #[.slice none 0 0] 26)) (by omega)
  have hz2 : ((w.alloc (.cells #[.slice a xss.length c] 26)).alloc (.cells #[.slice none 0 0] 26)).heap.size = B + 2 := by simp [hB]
  have H := Lib.hid h
  clear h u1 hz1
  have hcg := VG.cell
  go_enter Tryd.func25, Tryd.ntmps25
  go_wp2_with fail
  generalize (w.alloc (.cells #[.slice a xss.length c] 26)).alloc (.cells #[.slice none 0 0] 26) = W at *
  refine (implSetOk _ xss _ xs W (hr.below u2 hB) (RdS.below hs u2 hB)).mono ?_
  rintro e1 w1 ⟨rfl, hb1⟩
  replace VG := VG.upd (Upd.of_below hb1) (by omega)
  replace VR := VR.upd (Upd.of_below hb1) (by omega)
  have hb := u2.trans (hb1.mono (by omega))
  have hzw1 : B + 2 ≤ w1.heap.size := by have := hb1.size; omega
  clear hb1 hcg u2
  have hcg := VG.cell
  have hcr := VR.cell
  have hfr := VR.free
  have hno : ¬ OkN xss xs → Hid (rows = [] ∧ ok = false) := fun hn => by
    rcases H.out with ⟨_, h2⟩ | ⟨_, _, _, h1, _⟩
    · exact Lib.hid h2
    · exact (hn h1).elim
  have HNO := Lib.hid hno
  clear hno
  have HCE0 := Lib.hid (VR.set (.slice none 0 0)).cell
  have HB0 := Lib.hid (hb.setCell (p := ⟨B + 1, 0, none⟩) (by simp) (.slice none 0 0))
  cases hok : (okB xss && decide (SetP xss.length xs)) with
  | false =>
    obtain ⟨rfl, rfl⟩ := (HNO.out (fun h => by rw [h.1] at hok; simp [h.2.1] at hok)).out
    clear hok
    go_wp2_with fail
    refine bodyPost_ret (v := .tuple #[.agg #[.slice none 0 0], .bool false]) (by simp [results, Tryd.results25, go_sem, HCE0.out]) rfl ?_
    exact GRes.nothing _ _ (by rw [hB]; exact HB0.out)
  | true =>
    have hok2 : okB xss = true ∧ SetP xss.length xs := by simpa using hok
    clear hok
    by_cases h0 : xs.length = 0
    · have hd : ((xs.length : Int) == 0) = true := by simp [h0]
      obtain ⟨rfl, rfl⟩ := (HNO.out (fun h => h.2.2 h0)).out
      clear h0
      go_wp2_with fail
      refine bodyPost_ret (v := .tuple #[.agg #[.slice none 0 0], .bool false]) (by simp [results, Tryd.results25, go_sem, HCE0.out]) rfl ?_
      exact GRes.nothing _ _ (by rw [hB]; exact HB0.out)
    have hd : ((xs.length : Int) == 0) = false := by rw [beq_eq_false_iff_ne]; omega
    obtain ⟨e, hA, hx, hset, rfl, rfl⟩ : ∃ e, Adj xss.length e ∧ xss = rowsB xss.length e ∧ SetP xss.length xs ∧ rows = rowsB xs.length (ofList e xs) ∧ ok = true := by
      rcases H.out with ⟨h1, _⟩ | ⟨e, hA, hx, _, h3, h4⟩
      · exact (h1 ⟨hok2.1, hok2.2, h0⟩).elim
      · exact ⟨e, hA, hx, hok2.2, h3, h4⟩
    have hn16 := hA.le
    have hxl16 := hset.length
    have HA := Lib.hid (And.intro hA hset.inP)
    have hr' := hr.below hb hB
    rw [hx, rowsB_length] at hr'
    have HN := Lib.hid (netsOf_any _ xss.length e hn16 w1 hr')
    clear hx hset hr' HNO H HCE0 HB0 hok2 h0
    go_wp2_with fail
    refine HN.out.mono ?_
    rintro e1 w2 ⟨u2, rfl, hN2, hb2⟩
    obtain ⟨na, nc, rfl⟩ := owns_shape hN2
    have HW := Lib.hid (narrow_any (.slice a2 xs.length c2) xs w2 (RdS.below hs (hb.trans (hb2.mono (by omega))) hB) (by omega))
    have hN2r := Row.of_owns hN2
    clear hcg HN hN2
    go_wp2_with fail
    refine HW.out.mono ?_
    rintro e1 w3 ⟨u3, rfl, hL3, hb3⟩
    obtain ⟨la, lc, rfl⟩ := owns_shape hL3
    have hb23 := hb2.trans (hb3.mono hb2.size)
    have HD := Lib.hid (induced_any (.slice na xss.length nc) xss.length e hn16 (.slice la xs.length lc) xs HA.out.2 (by omega) w3 (hN2r.below hb3) (Row.of_owns hL3))
    clear HW hL3 hN2r hb3 hb2
    go_wp2_with fail
    refine HD.out.mono ?_
    rintro e1 w4 ⟨u4, rfl, hN4⟩
    rw [NB_ofList HA.out.1 HA.out.2] at hN4
    obtain ⟨da, dc, rfl⟩ := owns_shape hN4.own
    rw [NB_length] at hN4 ⊢
    have hz3 := hb23.size
    have hb4 := hb.trans ((hb23.trans (hN4.bel.mono hz3)).mono (by omega))
    have hz4 := hN4.bel.size
    have HT3 := Lib.hid (ht.keep (hb.trans (hb23.mono (by omega))) hTB)
    have HGR := Lib.hid (hN4.graph HT3.out (by omega) (by simp; omega))
    replace VR := (VR.upd (Upd.of_below hb23) (by omega)).upd (Upd.of_below hN4.bel) (by omega)
    clear hN4 HD hb23
    go_wp2_with fail
    refine HGR.out.mono ?_
    rintro e1 w6 ⟨u6, us, rfl, hG6, hb6⟩
    rw [rowsOf_NB (by omega)] at hG6
    obtain ⟨uua, uuc, rfl⟩ := owns_shape hG6.outer
    have HF := Lib.hid (GRes.put (b := B + 1) hB hb4 (by omega) (by have := VR.lt; omega) hG6 hb6 true)
    replace VR := VR.upd (Upd.of_below hb6) (by omega)
    have HCE := Lib.hid (VR.set (.slice uua us.length uuc)).cell
    clear hG6 hb6 HGR hb4 hcr hfr
    have hcr := VR.cell
    have hfr := VR.free
    go_wp2_with fail
    refine bodyPost_ret (v := .tuple #[.agg #[.slice uua us.length uuc], .bool true]) (by simp [results, Tryd.results25, go_sem, HCE.out]) rfl ?_
    exact HF.out

theorem both_Induced (xss : List (List Int)) (xs : List Int) : ∃ rows ok, 1 + total rows ≤ 1000000000 ∧ rows.length ≤ 1000000000 ∧
    (∀ (w : World) (v v2 : Value), Tab w → RdSS v xss w → RdS v2 xs w → Calls Tryd.prog 23 #[.agg #[v], v2] w (GRes w rows ok)) ∧
    (∀ (w : World) (v v2 : Value), Tab w → RdSS v xss w → RdS v2 xs w → Calls Tryd.prog 25 #[.agg #[v], v2] w (GRes w rows ok)) := by
  by_cases h : OkN xss xs
  · obtain ⟨e, hA, hx⟩ := (okB_iff xss).1 h.1
    have hn := hA.le
    have hl := h.2.1.length
    have ht := total_rowsB xs.length (ofList e xs) (by omega)
    have hP : IndP xss xs _ true := .inr ⟨e, hA, hx, h, rfl, rfl⟩
    exact ⟨_, true, by omega, by simp; omega, fun w v v2 _ hr hs => specInduced v xss v2 xs w hr hs _ _ hP, fun w v v2 ht hr hs => implInduced v xss v2 xs w ht hr hs _ _ hP⟩
  · exact ⟨[], false, by simp [total], by simp, fun w v v2 _ hr hs => specInduced v xss v2 xs w hr hs _ _ (.inl ⟨h, rfl, rfl⟩), fun w v v2 ht hr hs => implInduced v xss v2 xs w ht hr hs _ _ (.inl ⟨h, rfl, rfl⟩)⟩
end Go.Proofs.YtikcooagdaghnaaDoor
