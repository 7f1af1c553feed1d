/-
  'Contracted' of the program.
-/
import Derived.Test.YtikcooagdaghnaaDoorContracted
namespace Go.Proofs.YtikcooagdaghnaaDoor
open Go.RowKit

theorem linked_succ {e : Nat → Nat → Bool} {p : Nat} {ys : List Int} {j q : Nat} (h : ys[j]? = some (q : Int)) : linked e p (ys.take (j + 1)) = plus (linked e p (ys.take j)) p q := by
  rw [take_snoc h, linked_snoc]

set_option maxHeartbeats 4000000 in
theorem implContracted (g : Value) (xss : List (List Int)) (u v : Int) (w : World) (ht : Tab w) (hr : RdSS g xss w) (rows : List (List Int)) (ok : Bool) (h : ConP xss u v rows ok) :
    Calls Tryd.prog 35 #[.agg #[g], .int .i64 u, .int .i64 v] w (GRes w rows ok) := by
  obtain ⟨a, c, rfl⟩ := hr.shape
  obtain ⟨B, hB⟩ : ∃ B, w.heap.size = B := ⟨_, rfl⟩
  have hTB : 0 < B := by rw [← hB]; exact ht.lt
  have u1 : Below B w (w.alloc (.cells #[.slice a xss.length c] 26)) := by subst hB; exact below_alloc' _ _
  have VG : VC 26 B #[.slice a xss.length c] (w.alloc (.cells #[.slice a xss.length c] 26)) := VC.new hB
  have hz1 : (w.alloc (.cells #[.slice a xss.length c] 26)).heap.size = B + 1 := by simp [hB]
  have VR : VC 26 (B + 1) #[.slice none 0 0] ((w.alloc (.cells #[.slice a xss.length c] 26)).alloc (.cells #[.slice none 0 0] 26)) := VC.new hz1
  have u2 := u1.alloc (by omega) (.cells #[.slice none 0 0] 26)
  replace VG := VG.upd (Upd.alloc _ (.cells #[.slice none 0 0] 26)) (by omega)
  have hz2 : ((w.alloc (.cells #[.slice a xss.length c] 26)).alloc (.cells #[.slice none 0 0] 26)).heap.size = B + 2 := by simp [hB]
  have H := Lib.hid h
  clear h u1 hz1
  have hcg := VG.cell
  go_enter Tryd.func35, Tryd.ntmps35
  go_wp2_with fail
  generalize (w.alloc (.cells #[.slice a xss.length c] 26)).alloc (.cells #[.slice none 0 0] 26) = W at *
  refine (isPair_any _ xss u v W (hr.below u2 hB)).mono ?_
  rintro e1 w1 ⟨rfl, hb1⟩
  replace VG := VG.upd (Upd.of_below hb1) (by omega)
  replace VR := VR.upd (Upd.of_below hb1) (by omega)
  have hb := u2.trans (hb1.mono (by omega))
  have hzw1 : B + 2 ≤ w1.heap.size := by have := hb1.size; omega
  clear hb1 hcg u2
  have hcg := VG.cell
  have hcr := VR.cell
  have hfr := VR.free
  have HCE0 := Lib.hid (VR.set (.slice none 0 0)).cell
  have HB0 := Lib.hid (hb.setCell (p := ⟨B + 1, 0, none⟩) (by simp) (.slice none 0 0))
  have hno : edgeB xss u v = false → Hid (rows = [] ∧ ok = false) := fun hn => by
    rcases H.out with ⟨_, h2⟩ | ⟨_, _, _, _, _, h1, _⟩
    · exact Lib.hid h2
    · rw [hn] at h1; cases h1
  have HNO := Lib.hid hno
  clear hno
  cases hp : (vertexB xss u && vertexB xss v) with
  | false =>
    obtain ⟨rfl, rfl⟩ := (HNO.out (by
      cases hed : edgeB xss u v with
      | false => rfl
      | true => obtain ⟨_, _, _, _, _, h1, h2, _⟩ := two_edge hed; rw [h1, h2] at hp; cases hp)).out
    clear hp
    go_wp2_with fail
    refine bodyPost_ret (v := .tuple #[.agg #[.slice none 0 0], .bool false]) (by simp [results, Tryd.results35, go_sem, HCE0.out]) rfl ?_
    exact GRes.nothing _ _ (by rw [hB]; exact HB0.out)
  | true =>
    clear hp
    have HEI := Lib.hid (implEdgeIn (.slice a xss.length c) xss u v w1 (hr.below hb hB))
    go_wp2_with fail
    refine (HEI.out).mono ?_
    rintro e1 w2 ⟨rfl, hb1⟩
    replace VG := VG.upd (Upd.of_below hb1) (by omega)
    replace VR := VR.upd (Upd.of_below hb1) (by omega)
    replace hb := hb.trans (hb1.mono (by omega))
    have hzw2 : B + 2 ≤ w2.heap.size := by have := hb1.size; omega
    clear hb1 hcg hcr hfr HCE0 HB0
    have hcg := VG.cell
    have hcr := VR.cell
    have hfr := VR.free
    have HCE0 := Lib.hid (VR.set (.slice none 0 0)).cell
    have HB0 := Lib.hid (hb.setCell (p := ⟨B + 1, 0, none⟩) (by simp) (.slice none 0 0))
    cases hed : edgeB xss u v with
    | false =>
      obtain ⟨rfl, rfl⟩ := (HNO.out hed).out
      clear hed
      go_wp2_with fail
      refine bodyPost_ret (v := .tuple #[.agg #[.slice none 0 0], .bool false]) (by simp [results, Tryd.results35, go_sem, HCE0.out]) rfl ?_
      exact GRes.nothing _ _ (by rw [hB]; exact HB0.out)
    | true =>
      obtain ⟨e, k, l, hT, hkl, rfl, rfl⟩ : ∃ e k l, Two xss u v xss.length e k l ∧ k ≠ l ∧ rows = rowsB (cutL xss.length (max k l)).length (conE xss.length e (min k l) (max k l)) ∧ ok = true := by
        rcases H.out with ⟨h1, _⟩ | ⟨e, k, l, hT, hkl, _, h4, h5⟩
        · rw [hed] at h1; cases h1
        · exact ⟨e, k, l, hT, hkl, h4, h5⟩
      obtain ⟨hA, hx, -, rfl, rfl, hk, hl⟩ := hT
      obtain ⟨lo, hlo⟩ : ∃ z, min k l = z := ⟨_, rfl⟩
      obtain ⟨hi, hhi⟩ : ∃ z, max k l = z := ⟨_, rfl⟩
      have hlon : lo < xss.length := by omega
      have hhin : hi < xss.length := by omega
      have HLH := Lib.hid (And.intro hlo hhi)
      have hn16 := hA.le
      have HA := Lib.hid (And.intro (adj_near hA lo hi) (cutL_in xss.length hi))
      have hrX : ∀ W', Below (B + 1) w2 W' → RdSS (.slice a xss.length c) (rowsB xss.length e) W' := fun W' hb' => by
        have := hr.below (hb.trans (hb'.mono (by omega))) hB
        rwa [hx, rowsB_length] at this
      have HN := Lib.hid (netsOf_any _ xss.length e hn16 w2 (hrX w2 (Below.refl _ _)))
      have hn1 := cutL_length xss.length hi
      clear hed hx hrX  H HCE0 HB0 hA HNO HEI
      have hdj : (lo = k ∧ hi = l ∧ lo < hi) ∨ (lo = l ∧ hi = k ∧ lo < hi) := by omega
      have hdd : lo < hi → (lo : Int) < hi ∧ ¬ (hi : Int) < lo := by omega
      clear hlo hhi
      rcases hdj with ⟨rfl, rfl, hd⟩ | ⟨rfl, rfl, hd⟩
      all_goals
        obtain ⟨hd1, hd2⟩ := hdd hd
        clear hdd
        go_wp2_with fail
        refine HN.out.mono ?_
        rintro e1 w3 ⟨u3, rfl, hN3, hb3⟩
        obtain ⟨g3, nc, rfl⟩ := owns_head hN3 (by omega)
        obtain ⟨S1, hS1⟩ : ∃ S, w2.heap.size = S := ⟨_, rfl⟩
        rw [hS1] at hN3
        have hg3 := owns_lt hN3 (b := g3) rfl
        have hNS : NS S1 w2 (.slice (some ⟨g3, 0, none⟩) xss.length nc) (NB xss.length (linked e lo ((nearL xss.length e lo hi).take 0))) w3 := ⟨by rw [NB_length]; exact hN3, NB_small (by omega) _, by rw [← hS1]; exact hb3⟩
        have hcz : w3.cell? ⟨g3, hi, none⟩ = some (.int .u32 ((maskB xss.length (e hi) : Nat) : Int)) := by
          rw [hN3.cellAt hi (by omega), sets_at (by simpa using hhin), NB_getD e hhin]
        obtain ⟨z1, HZ1⟩ : ∃ z : Int, Hid (((maskB xss.length (e hi) : Nat) : Int) = z) := ⟨_, Lib.hid rfl⟩
        rw [HZ1.out] at hcz
        obtain ⟨z2, HZ2⟩ : ∃ z : Int, Hid (z = ((2 ^ lo : Nat) : Int)) := ⟨_, Lib.hid rfl⟩
        obtain ⟨z3, HZ3⟩ : ∃ z : Nat, Hid (z = maskB xss.length (fun b => e hi b && !decide (b = lo))) := ⟨_, Lib.hid rfl⟩
        have hb1 : bits BinOp.andNot IntKind.u32 z1 z2 = (z3 : Int) := by
          rw [← HZ1.out, HZ2.out, HZ3.out, maskB_andNot (by omega) _ (pow_small (by omega))]
          congr 1
          refine maskB_ext fun i hi => ?_
          rw [Nat.testBit_two_pow]
          simp [eq_comm]
        have hb03 := hb.trans (hb3.mono (by omega))
        have HT3 := Lib.hid (ht.keep hb03 hTB)
        have HLI := Lib.hid (list_any z3 (by rw [HZ3.out]; exact maskB_small (by omega) _) w3.drew (HT3.out.below (below_drewN' w3 1)))
        have hll : (bitsOf z3).length = (nearL xss.length e lo hi).length := by
          have : (nums z3).length = (bitsOf z3).length := by simp [nums]
          rw [← this, HZ3.out, nums_maskB (by omega)]
          rfl
        have hle : (bitsOf z3).map (fun (i : Nat) => Value.int .i64 i) = ints (nearL xss.length e lo hi) := by
          rw [← ints_nums, HZ3.out, nums_maskB (by omega)]
          rfl
        rw [hll, hle] at HLI
        have hNd := Lib.hid (And.intro hNS (below_drewN' w3 1))
        have hz3 := hb3.size
        clear hcg HN hll hle VG hcr hfr hNS
        go_wp2_with fail
        refine wp_region_ord [0, 1, 2, 4, 9] [3] [5] [6, 7, 8] (by kernel_rfl) (by kernel_rfl) (fun _ _ d _ _ h => by cases d <;> exact h) ?_
        simp only [pickOps, List.filterMap_cons, List.filterMap_nil, List.getElem?_cons_succ, List.getElem?_cons_zero]
        repeat quiet_step (fail)
        refine wpSegs_cons ?_
        go_wp2_with fail
        refine (one_at _ lo rfl (by omega) z2 HZ2.out _).mono ?_
        rintro e1 w' ⟨rfl, rfl⟩
        go_wp2_with fail
        refine ⟨below_drewN' w3 1, ?_⟩
        simp only [wpSegs_nil_eq]
        go_wp2_with fail
        refine HLI.out.mono ?_
        rintro e1 w4 ⟨u4, rfl, hL4, hb4⟩
        obtain ⟨la, lc, rfl⟩ := owns_shape hL4
        obtain ⟨C, hC⟩ : ∃ C, w3.drew.heap.size = C := ⟨_, rfl⟩
        have hC3 : w3.heap.size = C := by rw [← hC]; rfl
        rw [hC] at hL4 hb4
        have hb34 : Below C w3 w4 := (hNd.out.2.mono (by omega)).trans hb4
        have hNS : NS S1 w2 (.slice (some ⟨g3, 0, none⟩) xss.length nc) (NB xss.length (linked e lo ((nearL xss.length e lo hi).take 0))) w4 := by
          refine ⟨by rw [NB_length]; exact owns_below hN3 (by rw [hC3]; exact hb34), NB_small (by omega) _, ?_⟩
          exact hNd.out.1.bel.trans (hb34.mono (by omega))
        have hgC : g3 < C := by omega
        have hnl : (nearL xss.length e lo hi).length ≤ xss.length := rowB_length _ _
        have hBS : B + 2 ≤ S1 := by omega
        clear hb34 hb4 HLI hN3 hcz hC hNd hg3
        go_wp2_with fail
        clear hb03
        go_loopw [43] (fun i wr => ∃ j : Nat, j ≤ (nearL xss.length e lo hi).length ∧ i = .int .i64 j ∧ NS S1 w2 (.slice (some ⟨g3, 0, none⟩) xss.length nc) (NB xss.length (linked e lo ((nearL xss.length e lo hi).take j))) wr ∧ wr.ownsRow C 3 1 (.slice la (nearL xss.length e lo hi).length lc) (nearL xss.length e lo hi).length (ints (nearL xss.length e lo hi))) (fun i _ => (nearL xss.length e lo hi).length - (intOf i).toNat)
        case atStart => exact ⟨0, Nat.zero_le _, rfl, hNS, hL4⟩
        case round =>
          clear hNS hL4
          obtain ⟨j, hj, rfl, hN, hL⟩ := hrel
          have hsz := hN.bel.size
          by_cases hlt : j < (nearL xss.length e lo hi).length
          · obtain ⟨yb, yo, y, rfl, hcy, HY⟩ := Row.intAt (Row.of_owns hL) hlt
            obtain ⟨q, hq, -, rfl⟩ := mem_rowB.1 (List.mem_of_getElem? HY.out)
            have HS := Lib.hid (linked_succ (e := e) (p := lo) HY.out)
            have HJ := Lib.hid (hN.join (by omega) lo q (lo : Int) (q : Int) rfl rfl (by simpa using hlon) (by simpa using hq) (by simp; omega))
            clear hN
            go_wp2_with fail
            refine HJ.out.mono ?_
            rintro e1 w5 ⟨rfl, hN5, hg5⟩
            rw [joinS_NB _ hlon hq, ← HS.out] at hN5
            have hL5 := owns_keep hL fun b hb hlt => hg5.block b hlt (fun h => by have h1 := (owns_lt hL hb).1; have : b = g3 := Option.some.inj h; omega)
            clear HJ hg5 hL
            go_wp2_with fail
            go_roundw
            case rel => exact ⟨j + 1, by omega, by go_num, hN5, hL5⟩
            case measure => simp [intOf]; omega
          · obtain rfl : j = (nearL xss.length e lo hi).length := by omega
            rw [List.take_length] at hN
            have VR2 := VR.belowAt hN.bel (by omega)
            have hbr := hb.trans (hN.bel.mono (by omega))
            have HTr := Lib.hid (ht.keep hbr hTB)
            have hNr := Row.of_owns hN.own
            rw [NB_length] at hNr
            obtain ⟨z4, HZ4⟩ : ∃ z : Int, Hid (z = (maskB xss.length (fun _ => true) : Nat)) := ⟨_, Lib.hid rfl⟩
            obtain ⟨z5, HZ5⟩ : ∃ z : Int, Hid (z = ((2 ^ hi : Nat) : Int)) := ⟨_, Lib.hid rfl⟩
            obtain ⟨z6, HZ6⟩ : ∃ z : Nat, Hid (z = maskB xss.length (fun b => !decide (b = hi))) := ⟨_, Lib.hid rfl⟩
            have hb2 : bits BinOp.andNot IntKind.u32 z4 z5 = (z6 : Int) := by
              rw [HZ4.out, HZ5.out, HZ6.out, maskB_andNot (by omega) _ (pow_small (by omega))]
              congr 1
              refine maskB_ext fun i hi => ?_
              rw [Nat.testBit_two_pow]
              simp [eq_comm]
            have HAL := Lib.hid (all_netsAt (.slice (some ⟨g3, 0, none⟩) xss.length nc) xss.length hn16 z4 HZ4.out ⟨_, _, rfl⟩ wr)
            have HLI := Lib.hid (list_any z6 (by rw [HZ6.out]; exact maskB_small (by omega) _) wr HTr.out)
            have hll : (bitsOf z6).length = (cutL xss.length hi).length := by
              have : (nums z6).length = (bitsOf z6).length := by simp [nums]
              rw [← this, HZ6.out, nums_maskB (by omega)]
              rfl
            have hle : (bitsOf z6).map (fun (i : Nat) => Value.int .i64 i) = ints (cutL xss.length hi) := by
              rw [← ints_nums, HZ6.out, nums_maskB (by omega)]
              rfl
            rw [hll, hle] at HLI
            clear hll hle hL hN hb VR
            go_wp2_with fail
            refine HAL.out.mono ?_
            rintro e1 w' ⟨rfl, rfl⟩
            go_wp2_with fail
            refine (one_at _ hi rfl (by omega) z5 HZ5.out _).mono ?_
            rintro e1 w' ⟨rfl, rfl⟩
            go_wp2_with fail
            refine HLI.out.mono ?_
            rintro e1 w5 ⟨u5, rfl, hL5, hb5⟩
            obtain ⟨la, lc, rfl⟩ := owns_shape hL5
            have HD := Lib.hid (induced_any (.slice (some ⟨g3, 0, none⟩) xss.length nc) xss.length _ hn16 (.slice la (cutL xss.length hi).length lc) (cutL xss.length hi) HA.out.2 (by omega) w5 (hNr.below hb5) (Row.of_owns hL5))
            clear HLI hL5 hNr
            go_wp2_with fail
            refine HD.out.mono ?_
            rintro e1 w6 ⟨u6, rfl, hN6⟩
            rw [NB_ofList HA.out.1 HA.out.2] at hN6
            obtain ⟨da, dc, rfl⟩ := owns_shape hN6.own
            rw [NB_length] at hN6 ⊢
            have hz5 := hb5.size
            have hb6 := hbr.trans ((hb5.trans (hN6.bel.mono hz5)).mono (by omega))
            have hz6 := hN6.bel.size
            have HT5 := Lib.hid (HTr.out.below hb5)
            have HGR := Lib.hid (hN6.graph HT5.out (by omega) (by simp; omega))
            replace VR2 := (VR2.upd (Upd.of_below hb5) (by omega)).upd (Upd.of_below hN6.bel) (by omega)
            clear hN6 HD hb5
            go_wp2_with fail
            refine HGR.out.mono ?_
            rintro e1 w7 ⟨u7, us, rfl, hG7, hb7⟩
            rw [rowsOf_NB (by omega)] at hG7
            obtain ⟨uua, uuc, rfl⟩ := owns_shape hG7.outer
            have HF := Lib.hid (GRes.put (b := B + 1) hB hb6 (by omega) (by omega) hG7 hb7 true)
            replace VR2 := VR2.upd (Upd.of_below hb7) (by omega)
            have HCE := Lib.hid (VR2.set (.slice uua us.length uuc)).cell
            clear hG7 hb7 HGR hb6
            have hcr := VR2.cell
            have hfr := VR2.free
            go_wp2_with fail
            refine bodyPost_ret (v := .tuple #[.agg #[.slice uua us.length uuc], .bool true]) (by simp [results, Tryd.results35, go_sem, HCE.out]) rfl ?_
            rw [HLH.out.1, HLH.out.2]
            exact HF.out

theorem both_Contracted (xss : List (List Int)) (u v : Int) : ∃ rows ok, 1 + total rows ≤ 1000000000 ∧ rows.length ≤ 1000000000 ∧
    (∀ (w : World) (g : Value), Tab w → RdSS g xss w → Calls Tryd.prog 34 #[.agg #[g], .int .i64 u, .int .i64 v] w (GRes w rows ok)) ∧
    (∀ (w : World) (g : Value), Tab w → RdSS g xss w → Calls Tryd.prog 35 #[.agg #[g], .int .i64 u, .int .i64 v] w (GRes w rows ok)) := by
  cases h : edgeB xss u v with
  | true =>
    obtain ⟨e, k, l, hT, hkl, _⟩ := two_edge h
    have hn := hT.adj.le
    have hl := cutL_length xss.length (max k l)
    have ht := total_rowsB (cutL xss.length (max k l)).length (conE xss.length e (min k l) (max k l)) (by omega)
    have hP : ConP xss u v _ true := .inr ⟨e, k, l, hT, hkl, h, rfl, rfl⟩
    exact ⟨_, true, by omega, by simp; omega, fun w g _ hr => specContracted g xss u v w hr _ _ hP, fun w g ht hr => implContracted g xss u v w ht hr _ _ hP⟩
  | false => exact ⟨[], false, by simp [total], by simp, fun w g _ hr => specContracted g xss u v w hr _ _ (.inl ⟨h, rfl, rfl⟩), fun w g ht hr => implContracted g xss u v w ht hr _ _ (.inl ⟨h, rfl, rfl⟩)⟩
end Go.Proofs.YtikcooagdaghnaaDoor
