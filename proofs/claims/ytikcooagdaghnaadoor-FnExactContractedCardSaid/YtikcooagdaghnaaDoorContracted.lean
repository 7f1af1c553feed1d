/-
  'Contracted' of the reference.
-/
import Derived.Test.YtikcooagdaghnaaDoorSplit2
namespace Go.Proofs.YtikcooagdaghnaaDoor
open Go.RowKit

/-- One vertex is joined to these. -/
def linked (e : Nat → Nat → Bool) (p : Nat) (ys : List Int) : Nat → Nat → Bool := ys.foldl (fun f x => plus f p x.toNat) e
theorem linked_snoc (e : Nat → Nat → Bool) (p : Nat) (ys : List Int) (q : Nat) : linked e p (ys ++ [(q : Int)]) = plus (linked e p ys) p q := by
  unfold linked
  rw [List.foldl_append]
  simp
/-- The neighbours of p and the vertex q are put together: p's new neighbours. -/
def nearL (n : Nat) (e : Nat → Nat → Bool) (p q : Nat) : List Int := rowB n fun b => e q b && !decide (b = p)
theorem nearL_without (n : Nat) (e : Nat → Nat → Bool) (p q : Nat) : without (rowB n (e q)) (p : Int) = nearL n e p q := without_rowB n (e q) p
theorem adj_plus {n : Nat} {f : Nat → Nat → Bool} (h : Adj n f) {p q : Nat} (hpq : p ≠ q) : Adj n (plus f p q) := by
  refine ⟨h.pos, h.le, fun x hx => ?_, fun x y hx hy => ?_⟩
  · unfold plus
    rw [h.irr x hx]
    by_cases h1 : x = p
    · have h2 : ¬ x = q := fun h2 => hpq (h1.symm.trans h2)
      simp [h2]
    · simp [h1]
  · unfold plus
    rw [h.sym x y hx hy, Bool.or_assoc, Bool.or_assoc]
    congr 1
    rw [Bool.or_comm]
    congr 1
    · exact Bool.and_comm _ _
    · exact Bool.and_comm _ _
theorem adj_linked {n p : Nat} : ∀ (ys : List Int) (e : Nat → Nat → Bool), Adj n e → (∀ x ∈ ys, x.toNat ≠ p) → Adj n (linked e p ys)
  | [], _, h, _ => h
  | y :: ys, e, h, hy => adj_linked ys (plus e p y.toNat) (adj_plus h (hy y (by simp)).symm) fun x hx => hy x (by simp [hx])
theorem adj_near {n : Nat} {e : Nat → Nat → Bool} (h : Adj n e) (p q : Nat) : Adj n (linked e p (nearL n e p q)) :=
  adj_linked _ e h fun x hx => by
    obtain ⟨i, -, hi, rfl⟩ := mem_rowB.1 hx
    intro h
    rw [Int.toNat_natCast] at h
    simp [h] at hi
theorem min_nat (k l lo : Nat) (h : min k l = lo) (w : World) : Calls Tryd.prog 89 #[.int .i64 (k : Int), .int .i64 (l : Int)] w fun e w' => e = .returned (.int .i64 (lo : Int)) ∧ w = w' := by
  have e : (if (k : Int) < l then (k : Int) else l) = (lo : Int) := by split <;> omega
  rw [← e]
  exact min_any k l w
theorem max_nat (k l hi : Nat) (h : max k l = hi) (w : World) : Calls Tryd.prog 90 #[.int .i64 (k : Int), .int .i64 (l : Int)] w fun e w' => e = .returned (.int .i64 (hi : Int)) ∧ w = w' := by
  have e : (if (l : Int) < k then (k : Int) else l) = (hi : Int) := by split <;> omega
  rw [← e]
  exact max_any k l w

/-- What 'Contracted' gives. -/
def conE (n : Nat) (e : Nat → Nat → Bool) (lo hi : Nat) : Nat → Nat → Bool := ofList (linked e lo (nearL n e lo hi)) (cutL n hi)
def ConP (xss : List (List Int)) (u v : Int) (rows : List (List Int)) (ok : Bool) : Prop :=
  (edgeB xss u v = false ∧ rows = [] ∧ ok = false) ∨ ∃ e k l, Two xss u v xss.length e k l ∧ k ≠ l ∧ edgeB xss u v = true ∧ rows = rowsB (cutL xss.length (max k l)).length (conE xss.length e (min k l) (max k l)) ∧ ok = true

set_option maxHeartbeats 4000000 in
theorem specContracted (g : Value) (xss : List (List Int)) (u v : Int) (w : World) (hr : RdSS g xss w) (rows : List (List Int)) (ok : Bool) (h : ConP xss u v rows ok) :
    Calls Tryd.prog 34 #[.agg #[g], .int .i64 u, .int .i64 v] w (GRes w rows ok) := by
  obtain ⟨a, c, rfl⟩ := hr.shape
  obtain ⟨B, hB⟩ : ∃ B, w.heap.size = B := ⟨_, rfl⟩
  have u1 : Below B w (w.alloc (.cells #[.slice a xss.length c] 26)) := by subst hB; exact below_alloc' _ _
  have VG : VC 26 B #[.slice a xss.length c] (w.alloc (.cells #[.slice a xss.length c] 26)) := VC.new hB
  have hz1 : (w.alloc (.cells #[.slice a xss.length c] 26)).heap.size = B + 1 := by simp [hB]
  have VR : VC 26 (B + 1) #[.slice none 0 0] ((w.alloc (.cells #[.slice a xss.length c] 26)).alloc (.cells #[.slice none 0 0] 26)) := VC.new hz1
  have u2 := u1.alloc (by omega) (.cells #[.slice none 0 0] 26)
  replace VG := VG.upd (Upd.alloc _ (.cells #[.slice none 0 0] 26)) (by omega)
  have hz2 : ((w.alloc (.cells #[.slice a xss.length c] 26)).alloc (.cells #[.slice none 0 0] 26)).heap.size = B + 2 := by simp [hB]
  have H := Lib.hid h
  clear h u1 hz1
  have hcg := VG.cell
  go_enter Tryd.func34, Tryd.ntmps34
  go_wp2_with fail
  generalize (w.alloc (.cells #[.slice a xss.length c] 26)).alloc (.cells #[.slice none 0 0] 26) = W at *
  have VG0 := VG
  refine (specEdgeIn _ xss u v W (hr.below u2 hB)).mono ?_
  rintro e1 w1 ⟨rfl, hb1⟩
  replace VG := VG.upd (Upd.of_below hb1) (by omega)
  replace VR := VR.upd (Upd.of_below hb1) (by omega)
  have hbW : Below (B + 1) W w1 := hb1.mono (by omega)
  have hzw1 : B + 2 ≤ w1.heap.size := by have := hb1.size; omega
  clear hb1 hcg
  have hcg := VG.cell
  have hcr := VR.cell
  have hfr := VR.free
  have HCE0 := Lib.hid (VR.set (.slice none 0 0)).cell
  have HB0 := Lib.hid ((u2.trans (hbW.mono (by omega))).setCell (p := ⟨B + 1, 0, none⟩) (by simp) (.slice none 0 0))
  cases hed : edgeB xss u v with
  | false =>
    obtain ⟨rfl, rfl⟩ : rows = [] ∧ ok = false := by
      rcases H.out with ⟨_, h2⟩ | ⟨_, _, _, _, _, h1, _⟩
      · exact h2
      · rw [hed] at h1; cases h1
    clear hed
    go_wp2_with fail
    refine bodyPost_ret (v := .tuple #[.agg #[.slice none 0 0], .bool false]) (by simp [results, Tryd.results34, go_sem, HCE0.out]) rfl ?_
    exact GRes.nothing _ _ (by rw [hB]; exact HB0.out)
  | true =>
    obtain ⟨e, k, l, hT, hkl, rfl, rfl⟩ : ∃ e k l, Two xss u v xss.length e k l ∧ k ≠ l ∧ rows = rowsB (cutL xss.length (max k l)).length (conE xss.length e (min k l) (max k l)) ∧ ok = true := by
      rcases H.out with ⟨h1, _⟩ | ⟨e, k, l, hT, hkl, _, h4, h5⟩
      · rw [hed] at h1; cases h1
      · exact ⟨e, k, l, hT, hkl, h4, h5⟩
    obtain ⟨hA, hx, -, rfl, rfl, hk, hl⟩ := hT
    obtain ⟨lo, hlo⟩ : ∃ z, min k l = z := ⟨_, rfl⟩
    obtain ⟨hi, hhi⟩ : ∃ z, max k l = z := ⟨_, rfl⟩
    rw [hlo, hhi]
    have hlon : lo < xss.length := by omega
    have hhin : hi < xss.length := by omega
    have HLH := Lib.hid (And.intro hlo hhi)
    have hn16 := hA.le
    have HA := Lib.hid hA
    have hshort : ∀ ys ∈ xss, ys.length ≤ 1000000 := by
      intro ys hys
      rw [hx] at hys
      obtain ⟨z, _, rfl⟩ := List.mem_map.1 hys
      have := rowB_length xss.length (e z)
      omega
    have HCG := Lib.hid (copyGraph_any (.slice a xss.length c) xss (by omega) hshort w1 (hr.below (u2.trans (hbW.mono (by omega))) hB))
    have hrX : ∀ W', Below (B + 1) W W' → RdSS (.slice a xss.length c) (rowsB xss.length e) W' := fun W' hb' => by
      have := hr.below (u2.trans (hb'.mono (by omega))) hB
      rwa [hx, rowsB_length] at this
    have HRX := Lib.hid hrX
    have HX := Lib.hid hx
    have hRl := rowB_length xss.length (e hi)
    clear hed hshort hx hrX hlo hhi H HCE0 HB0 hA
    go_wp2_with fail
    refine (min_nat k l lo HLH.out.1 w1).mono ?_
    rintro e1 w' ⟨rfl, rfl⟩
    go_wp2_with fail
    refine (max_nat k l hi HLH.out.2 w1).mono ?_
    rintro e1 w' ⟨rfl, rfl⟩
    go_wp2_with fail
    refine HCG.out.mono ?_
    rintro e1 w3 ⟨u3, vs3, rfl, hO, hb3⟩
    have hvl : vs3.length = xss.length := by rw [hO.len]; simp
    obtain ⟨a3, c3, rfl⟩ := owns_shape hO.outer
    rw [hvl] at hO ⊢
    obtain ⟨C, hC⟩ : ∃ C, w3.heap.size = C := ⟨_, rfl⟩
    have hz3 : B + 2 ≤ C := by have := hb3.size; omega
    have VO : VC 26 C #[.slice a3 xss.length c3] (w3.alloc (.cells #[.slice a3 xss.length c3] 26)) := VC.new hC
    have u4 := Upd.alloc w3 (.cells #[.slice a3 xss.length c3] 26)
    replace VR := (VR.upd (Upd.of_below hb3) (by omega)).upd u4 (by omega)
    replace hbW := (hbW.trans (hb3.mono (by omega))).alloc (by omega) (.cells #[.slice a3 xss.length c3] 26)
    replace hO := (hO.rebase (base' := B + 2) (by omega)).below (below_alloc' w3 (.cells #[.slice a3 xss.length c3] 26))
    have hS : SG W (B + 1) C a3 xss.length c3 vs3 (NB xss.length (linked e lo (without ((rowB xss.length (e hi)).take 0) lo))) (w3.alloc (.cells #[.slice a3 xss.length c3] 26)) :=
      ⟨VR, VO, by rw [rowsOf_NB (by omega), show linked e lo (without ((rowB xss.length (e hi)).take 0) lo) = e from by simp [linked, without]]; have h := hO; rw [show xss.map ints = (rowsB xss.length e).map ints from congrArg _ HX.out] at h; exact h, hbW, by omega, by simp⟩
    clear VR VO hO hbW hb3 u4 HCG hcg hcr hfr VG hvl
    have hco := hS.var.cell
    have hcg := (VG0.belowAt hS.bel (by omega)).cell
    go_wp2_with fail
    generalize w3.alloc (.cells #[.slice a3 xss.length c3] 26) = W4 at *
    clear hco hcg
    go_loopw [11] (fun i wr => ∃ (j : Nat) (vs : List Value), j ≤ (rowB xss.length (e hi)).length ∧ i = .int .i64 j ∧ SG W (B + 1) C a3 xss.length c3 vs (NB xss.length (linked e lo (without ((rowB xss.length (e hi)).take j) lo))) wr) (fun i _ => (rowB xss.length (e hi)).length - (intOf i).toNat)
    case atStart => exact ⟨0, _, Nat.zero_le _, rfl, hS⟩
    case round =>
      clear hS
      obtain ⟨j, vs, hj, rfl, hS⟩ := hrel
      have hcg := (VG0.belowAt hS.bel (by omega)).cell
      obtain ⟨vsr, hGr⟩ := (HRX.out wr hS.bel).ex
      obtain ⟨rb, ro, r, x, rfl, hc, hxr, -, HXX⟩ := hGr.intsAt (k := hi) (by simpa using hhin)
      obtain rfl : rowB xss.length (e hi) = x := by have h := HXX.out; rw [rowsB_at e hhin] at h; exact Option.some.inj h
      obtain ⟨ra, rc, rfl, -, -, -⟩ := id hxr
      clear hGr HXX
      by_cases hlt : j < (rowB xss.length (e hi)).length
      · obtain ⟨yb, yo, y, rfl, hcy, HY⟩ := hxr.intAt hlt
        obtain ⟨q, hq, -, rfl⟩ := mem_rowB.1 (List.mem_of_getElem? HY.out)
        have HS := Lib.hid (without_snoc (lo : Int) HY.out)
        by_cases hql : (q : Int) = lo
        · have hd : ((q : Int) != (lo : Int)) = false := by rw [hql]; simp
          have HQ := Lib.hid hql
          clear hql hxr
          go_wp2_with fail
          go_roundw
          case rel => exact ⟨j + 1, vs, by omega, by go_num, by rw [HS.out, if_pos HQ.out, List.append_nil]; exact hS⟩
          case measure => simp [intOf]; omega
        · have hd : ((q : Int) != (lo : Int)) = true := by simpa using hql
          have HQ := Lib.hid hql
          have hco := hS.var.cell
          have HSd := Lib.hid (hS.below (below_drewN' wr 1))
          clear hql hxr hS
          go_wp2_with fail
          refine wp_region_ord [1, 2, 4, 7] [0, 3, 5, 6, 8, 9] [] [10, 11] (by kernel_rfl) (by kernel_rfl) (fun _ _ d _ _ h => by cases d <;> exact h) ?_
          simp only [pickOps, List.filterMap_cons, List.filterMap_nil, List.getElem?_cons_succ, List.getElem?_cons_zero]
          repeat quiet_step (fail)
          simp only [wpQuiet_nil_eq, wpSegs_nil_eq]
          go_wp2_with fail
          refine (HSd.out.link lo q _ _ rfl rfl hlon hq (by omega)).mono ?_
          rintro e1 w6 ⟨rfl, vs6, hS6⟩
          rw [joinS_NB _ hlon hq, ← linked_snoc] at hS6
          have hcC6 := hS6.var.cell
          have hfC6 := hS6.var.free
          clear hco
          go_wp2_with fail
          go_roundw
          case rel => exact ⟨j + 1, vs6, by omega, by go_num, by rw [HS.out, if_neg HQ.out]; exact hS6.store⟩
          case measure => simp [intOf]; omega
      · obtain rfl : j = (rowB xss.length (e hi)).length := by omega
        rw [List.take_length, nearL_without] at hS
        have hco := hS.var.cell
        have hn1 := cutL_length xss.length hi
        have hOr : RdSS (.slice a3 xss.length c3) (rowsB xss.length (linked e lo (nearL xss.length e lo hi))) wr := ⟨_, by have := hS.own.rd; rwa [rowsOf_NB (by omega)] at this⟩
        have HOR := Lib.hid hOr
        clear hxr hOr
        go_wp2_with fail
        refine wp_region_ord [4] [0, 1] [2, 3, 5] [6, 7, 8] (by kernel_rfl) (by kernel_rfl) (fun _ _ d _ _ h => by cases d <;> exact h) ?_
        simp only [pickOps, List.filterMap_cons, List.filterMap_nil, List.getElem?_cons_succ, List.getElem?_cons_zero]
        repeat quiet_step (fail)
        refine wpSegs_cons ?_
        go_wp2_with fail
        refine (size_any (some ⟨rb, ro, none⟩) xss.length c wr.drew).mono ?_
        rintro e1 w4 ⟨rfl, hb4⟩
        have HB4 := Lib.hid (below_drew hb4)
        clear hb4
        go_wp2_with fail
        refine ⟨HB4.out, ?_⟩
        refine wpSegs_cons ?_
        go_wp2_with fail
        refine (all_any xss.length (by omega) w4).mono ?_
        rintro e1 w5 ⟨ul, rfl, hL, hb5⟩
        obtain ⟨la, lc, rfl⟩ := owns_shape hL
        have HB5 := Lib.hid (HB4.out.trans (hb5.mono HB4.out.size))
        have hRL : RdS (.slice la ((List.range xss.length).map fun (i : Nat) => (i : Int)).length lc) (allN xss.length) w5 := Row.of_owns hL
        have hLl : ((List.range xss.length).map fun (i : Nat) => (i : Int)).length = xss.length := by simp
        rw [hLl] at hRL ⊢
        have HWO := Lib.hid (without_any (.slice la xss.length lc) (allN xss.length) hi (by simp; omega) w5 (by simpa using hRL))
        rw [cutL_without] at HWO
        clear hb5 hL hLl hRL
        go_wp2_with fail
        refine ⟨HB5.out, ?_⟩
        refine wpSegs_cons ?_
        go_wp2_with fail
        refine HWO.out.mono ?_
        rintro e1 w6 ⟨uw, rfl, hL6, hb6⟩
        obtain ⟨wa, wc, rfl⟩ := owns_shape hL6
        have hb16 := HB5.out.trans (hb6.mono HB5.out.size)
        have HB6 := Lib.hid hb16
        have HO := Lib.hid (l2Of_any _ xss.length _ hn16 (.slice wa (cutL xss.length hi).length wc) (cutL xss.length hi) (cutL_in _ _) (by omega) w6 (HOR.out.below hb16 rfl) (Row.of_owns hL6))
        clear hb6 hL6 HWO hb16 hcg hco
        go_wp2_with fail
        refine ⟨HB6.out, ?_⟩
        simp only [wpSegs_nil_eq]
        go_wp2_with fail
        refine HO.out.mono ?_
        rintro e1 w7 ⟨u7, us, rfl, hG7, hb7⟩
        obtain ⟨ua, uc, rfl⟩ := owns_shape hG7.outer
        have hb17 := HB6.out.trans (hb7.mono HB6.out.size)
        have hzr : B + 2 ≤ wr.heap.size := by have := hS.bel.size; omega
        have HF := Lib.hid (GRes.put (b := B + 1) hB (u2.trans (hS.bel.mono (by omega))) (by omega) (by omega) (hG7.rebase HB6.out.size) hb17 true)
        have VR : VC 26 (B + 1) #[.slice none 0 0] w7 := VC.upd hS.res (Upd.of_below hb17) (by omega)
        have HCE := Lib.hid (VR.set (.slice ua us.length uc)).cell
        clear hG7 hb7 hb17 HO hS
        have hcr := VR.cell
        have hfr := VR.free
        go_wp2_with fail
        refine bodyPost_ret (v := .tuple #[.agg #[.slice ua us.length uc], .bool true]) (by simp [results, Tryd.results34, go_sem, HCE.out]) rfl ?_
        rw [HLH.out.1, HLH.out.2]
        exact HF.out
end Go.Proofs.YtikcooagdaghnaaDoor
