/-
  'CutEdge' of the reference and of the program.
-/
import Derived.Test.YtikcooagdaghnaaDoorAddEdge
namespace Go.Proofs.YtikcooagdaghnaaDoor
open Go.RowKit

/-- One edge less. -/
def minus (e : Nat → Nat → Bool) (u v : Nat) : Nat → Nat → Bool := fun a b => e a b && !(decide (a = u) && decide (b = v)) && !(decide (a = v) && decide (b = u))
def without (xs : List Int) (x : Int) : List Int := xs.filter fun y => y != x
theorem without_rowB (n : Nat) (p : Nat → Bool) (x : Nat) : without (rowB n p) (x : Int) = rowB n (fun b => p b && !decide (b = x)) := by
  unfold without rowB
  rw [List.filter_map, List.filter_filter]
  congr 1
  apply List.filter_congr
  intro i _
  rw [Bool.and_comm]
  congr 1
  rw [Bool.eq_iff_iff]
  simp
  omega
theorem without_snoc {xs : List Int} {k : Nat} {y : Int} (x : Int) (h : xs[k]? = some y) : without (xs.take (k + 1)) x = without (xs.take k) x ++ if y = x then [] else [y] := by
  unfold without
  rw [take_snoc h, List.filter_append]
  by_cases e : y = x <;> simp [e]
theorem without_length (xs : List Int) (x : Int) : (without xs x).length ≤ xs.length := List.length_filter_le _ _
theorem rows_minus (n : Nat) (e : Nat → Nat → Bool) {u v : Nat} (hu : u < n) (hv : v < n) (huv : u ≠ v) :
    ((rowsB n e).set u (rowB n fun b => e u b && !decide (b = v))).set v (rowB n fun b => e v b && !decide (b = u)) = rowsB n (minus e u v) := by
  apply List.ext_getElem (by simp)
  intro i h1 h2
  have hi : i < n := by simpa using h2
  rw [List.getElem_set, List.getElem_set]
  have hr : (rowsB n (minus e u v))[i] = rowB n (minus e u v i) := by simp [rowsB]
  rw [hr]
  by_cases hiv : v = i
  · subst hiv
    rw [if_pos rfl]
    refine rowB_ext fun b _ => ?_
    have : ¬ v = u := fun h => huv h.symm
    simp [minus, this]
  · rw [if_neg hiv]
    by_cases hiu : u = i
    · subst hiu
      rw [if_pos rfl]
      refine rowB_ext fun b _ => ?_
      simp [minus, huv]
    · rw [if_neg hiu]
      have : (rowsB n e)[i]'(by simpa using hi) = rowB n (e i) := by simp [rowsB]
      rw [this]
      refine rowB_ext fun b _ => ?_
      have h3 : ¬ i = u := fun h => hiu h.symm
      have h4 : ¬ i = v := fun h => hiv h.symm
      simp [minus, h3, h4]

set_option maxHeartbeats 1000000 in
theorem without_any (v : Value) (xs : List Int) (x : Int) (hn : xs.length ≤ 1000000) (w : World) (hr : RdS v xs w) :
    Calls Tryd.prog 64 #[v, .int .i64 x] w (SRes w (without xs x)) := by
  obtain ⟨a, c, rfl, -, -, -⟩ := id hr
  obtain ⟨B, hB⟩ : ∃ B, w.heap.size = B := ⟨_, rfl⟩
  have ho0 : (w.alloc (.cells #[] 2)).ownsRow B 2 1 (.slice (some ⟨B, 0, none⟩) 0 0) 0 [] := by subst hB; exact World.ownsRow_lit w #[] 0 (Nat.le_refl _) (by simp [maxLen]) rfl
  have hb0 : Below B w (w.alloc (.cells #[] 2)) := by subst hB; exact (Below.refl _ _).alloc (Nat.le_refl _) _
  go_enter Tryd.func64, Tryd.ntmps64
  go_wp2_with fail
  go_loopw [6, 5] (fun i u wr => ∃ (j m : Nat), j ≤ xs.length ∧ m ≤ j ∧ i = .int .i64 j ∧ Hid ((without (xs.take j) x).length = m) ∧ wr.ownsRow B 2 1 u m (ints (without (xs.take j) x)) ∧ Below B w wr) (fun i _ _ => xs.length - (intOf i).toNat)
  case atStart => exact ⟨0, 0, Nat.zero_le _, Nat.le_refl _, rfl, Lib.hid rfl, by simpa [ints, without] using ho0, hb0⟩
  case round =>
    obtain ⟨j, m, hj, hm, rfl, HM, ho, hb⟩ := hrel
    have hsz := hb.size
    by_cases hlt : j < xs.length
    · obtain ⟨b, o, y, rfl, hc, HY⟩ := (RdS.below hr hb hB).intAt hlt
      have HS := Lib.hid (without_snoc x HY.out)
      by_cases hyx : y = x
      · have hd : (y != x) = false := by simp [hyx]
        have HYX := Lib.hid hyx
        clear hyx
        go_wp2_with fail
        go_roundw
        case rel => exact ⟨j + 1, m, by omega, by omega, by go_num, Lib.hid (by rw [HS.out, if_pos HYX.out, List.append_nil]; exact HM.out), by rw [HS.out, if_pos HYX.out, List.append_nil]; exact ho, hb⟩
        case measure => simp [intOf]; omega
      · have hd : (y != x) = true := by simpa using hyx
        have HYX := Lib.hid hyx
        clear hyx
        go_wp2_with (at_builtin; refine wpList_push _ rfl _ _ 33 rfl B 2 _ _ 8 Tryd.underlying33 infoI rfl _ _ _ rfl ho _ rfl rfl (by unfold maxLen; omega) (by omega) (by omega) ?_; intro g' c' w2 ho2 hg)
        go_roundw
        case rel => exact ⟨j + 1, m + 1, by omega, by omega, by go_num, Lib.hid (by rw [HS.out, if_neg HYX.out, List.length_append, HM.out]; rfl), by rw [HS.out, if_neg HYX.out]; simpa [ints] using ho2, hb.grown hg (by omega) fun b hb' => (owns_lt ho hb').1⟩
        case measure => simp [intOf]; omega
    · obtain rfl : j = xs.length := by omega
      rw [List.take_length] at ho HM
      go_wp2_with fail
      go_ret
      exact ⟨_, rfl, by rw [hB, HM.out]; exact ho, by rw [hB]; exact hb⟩

/-- What 'CutEdge' asks. -/
def OkC (xss : List (List Int)) (u v : Int) : Prop := vertexB xss u = true ∧ vertexB xss v = true ∧ edgeB xss u v = true
instance (xss : List (List Int)) (u v : Int) : Decidable (OkC xss u v) := by unfold OkC; infer_instance

set_option maxHeartbeats 8000000 in
theorem specCutEdge (g : Value) (xss : List (List Int)) (u v : Int) (w : World) (hr : RdSS g xss w) (rows : List (List Int)) (ok : Bool)
    (h : (¬ OkC xss u v ∧ rows = [] ∧ ok = false) ∨ ∃ e a b, Two xss u v xss.length e a b ∧ a ≠ b ∧ OkC xss u v ∧ rows = rowsB xss.length (minus e a b) ∧ ok = true) :
    Calls Tryd.prog 15 #[.agg #[g], .int .i64 u, .int .i64 v] w (GRes w rows ok) := by
  obtain ⟨a, c, rfl⟩ := hr.shape
  obtain ⟨B, hB⟩ : ∃ B, w.heap.size = B := ⟨_, rfl⟩
  have u1 : Below B w (w.alloc (.cells #[.slice a xss.length c] 26)) := by subst hB; exact below_alloc' _ _
  have VG : VC 26 B #[.slice a xss.length c] (w.alloc (.cells #[.slice a xss.length c] 26)) := VC.new hB
  have hz1 : (w.alloc (.cells #[.slice a xss.length c] 26)).heap.size = B + 1 := by simp [hB]
  have VR : VC 26 (B + 1) #[.slice none 0 0] ((w.alloc (.cells #[.slice a xss.length c] 26)).alloc (.cells #[.slice none 0 0] 26)) := VC.new hz1
  have u2 := u1.alloc (by omega) (.cells #[.slice none 0 0] 26)
  replace VG := VG.upd (Upd.alloc _ (.cells #[.slice none 0 0] 26)) (by omega)
  have hz2 : ((w.alloc (.cells #[.slice a xss.length c] 26)).alloc (.cells #[.slice none 0 0] 26)).heap.size = B + 2 := by simp [hB]
  have H := Lib.hid h
  have hno : ¬ OkC xss u v → rows = [] ∧ ok = false := fun hn => by
    rcases H.out with ⟨_, h2⟩ | ⟨_, _, _, _, _, h1, _⟩
    · exact h2
    · exact (hn h1).elim
  have HNO := Lib.hid hno
  clear h u1 hz1 hno
  have hcg := VG.cell
  go_enter Tryd.func15, Tryd.ntmps15
  go_wp2_with fail
  generalize (w.alloc (.cells #[.slice a xss.length c] 26)).alloc (.cells #[.slice none 0 0] 26) = W at *
  refine (l2Pair_any _ xss u v W (hr.below u2 hB)).mono ?_
  rintro e1 w1 ⟨rfl, hb1⟩
  replace VG := VG.upd (Upd.of_below hb1) (by omega)
  replace VR := VR.upd (Upd.of_below hb1) (by omega)
  have hb := u2.trans (hb1.mono (by omega))
  have hzw1 : B + 2 ≤ w1.heap.size := by have := hb1.size; omega
  clear hb1 u2 hcg
  have hcg := VG.cell
  have hcr := VR.cell
  have hfr := VR.free
  cases hp : (okB xss && inN xss.length u && inN xss.length v && (u != v)) with
  | false =>
    obtain ⟨rfl, rfl⟩ := HNO.out fun h => by
      obtain ⟨e, k, l, hT⟩ := two_of h.1 h.2.1
      have h3 := h.2.2
      rw [edgeB_two hT] at h3
      obtain ⟨h1, h2, _⟩ := h
      unfold vertexB at h1 h2
      rw [Bool.and_eq_true] at h1 h2
      rw [h1.1, h1.2, h2.2] at hp
      simp at hp
      have hkl : k = l := by have := hT.ua; have := hT.vb; omega
      rw [hkl, hT.adj.irr l hT.bn] at h3
      cases h3
    have HCE := Lib.hid (VR.set (.slice none 0 0)).cell
    have HB := Lib.hid (hb.setCell (p := ⟨B + 1, 0, none⟩) (by simp) (.slice none 0 0))
    clear hp
    go_wp2_with fail
    refine bodyPost_ret (v := .tuple #[.agg #[.slice none 0 0], .bool false]) (by simp [results, Tryd.results15, go_sem, HCE.out]) rfl ?_
    exact GRes.nothing _ _ (by rw [hB]; exact HB.out)
  | true =>
    have hp2 : ((okB xss = true ∧ inN xss.length u = true) ∧ inN xss.length v = true) ∧ u ≠ v := by simpa using hp
    obtain ⟨⟨⟨hok, hu⟩, hv⟩, huv⟩ := hp2
    have hn16 := ok_size hok
    obtain ⟨e, k, l, hT⟩ := two_of (xss := xss) (u := u) (v := v) (by unfold vertexB; rw [hok, hu]; rfl) (by unfold vertexB; rw [hok, hv]; rfl)
    obtain ⟨hA, hx, -, rfl, rfl, hk, hl⟩ := id hT
    have HX := Lib.hid hx
    have HT := Lib.hid hT
    have hE := Lib.hid (edge_any (.slice a xss.length c) xss k (l : Int) hk w1 (hr.below hb hB))
    have hEc : (xss.getD k []).contains (l : Int) = e k l := by rw [HX.out, rowsB_getD e hk, contains_rowB]; simp [hl]
    have HEC := Lib.hid hEc
    have hkl : k ≠ l := fun h => huv (by rw [h])
    have HKL := Lib.hid hkl
    have HP := Lib.hid (And.intro hok (And.intro hu hv))
    clear hp hok hu hv huv hx hT hEc hkl
    go_wp2_with fail
    refine hE.out.mono ?_
    rintro e1 w2 ⟨rfl, hb2⟩
    rw [HEC.out]
    replace VG := VG.upd (Upd.of_below hb2) (by omega)
    replace VR := VR.upd (Upd.of_below hb2) (by omega)
    replace hb := hb.trans (hb2.mono (by omega))
    have hzw2 : B + 2 ≤ w2.heap.size := by have := hb2.size; omega
    clear hb2 hcg hcr hfr hE
    have hcg := VG.cell
    have hcr := VR.cell
    have hfr := VR.free
    cases hekl : e k l with
    | false =>
      obtain ⟨rfl, rfl⟩ := HNO.out fun h => by have h4 := h.2.2; rw [edgeB_two HT.out, hekl] at h4; cases h4
      have HCE := Lib.hid (VR.set (.slice none 0 0)).cell
      have HB := Lib.hid (hb.setCell (p := ⟨B + 1, 0, none⟩) (by simp) (.slice none 0 0))
      clear hekl
      go_wp2_with fail
      refine bodyPost_ret (v := .tuple #[.agg #[.slice none 0 0], .bool false]) (by simp [results, Tryd.results15, go_sem, HCE.out]) rfl ?_
      exact GRes.nothing _ _ (by rw [hB]; exact HB.out)
    | true =>
      have hOk : OkC xss (k : Int) (l : Int) := by
        obtain ⟨h1, h2, h3⟩ := HP.out
        exact ⟨by unfold vertexB; rw [h1, h2]; rfl, by unfold vertexB; rw [h1, h3]; rfl, by rw [edgeB_two HT.out]; exact hekl⟩
      obtain ⟨rfl, rfl⟩ : rows = rowsB xss.length (minus e k l) ∧ ok = true := by
        rcases H.out with ⟨h1, _⟩ | ⟨e', a', b', hT', _, _, h3, h4⟩
        · exact (h1 hOk).elim
        · obtain ⟨_, hx', _, hua, hvb, _, _⟩ := hT'
          have e1 : a' = k := by omega
          have e2 : b' = l := by omega
          subst e1; subst e2
          refine ⟨h3.trans ?_, h4⟩
          refine rowsB_ext fun p q hp hq => ?_
          have : e' p q = e p q := by
            have h5 := congrArg (fun z => (z.getD p []).contains (q : Int)) (hx'.symm.trans HX.out)
            simp only [rowsB_getD _ hp, contains_rowB, hq, decide_true, Bool.true_and] at h5
            exact h5
          unfold minus
          rw [this]
      have hshort : ∀ ys ∈ xss, ys.length ≤ 1000000 := by
        intro ys hys
        rw [HX.out] at hys
        obtain ⟨z, _, rfl⟩ := List.mem_map.1 hys
        have := rowB_length xss.length (e z)
        omega
      have HCG := Lib.hid (copyGraph_any (.slice a xss.length c) xss (by omega) hshort w2 (hr.below hb hB))
      clear hekl hOk hshort
      go_wp2_with fail
      refine HCG.out.mono ?_
      rintro e1 w3 ⟨u3, vs3, rfl, hO, hb3⟩
      have hvl : vs3.length = xss.length := by rw [hO.len]; simp
      obtain ⟨g3, c3, rfl⟩ := owns_head hO.outer (by rw [hvl]; omega)
      rw [hvl] at hO ⊢
      obtain ⟨S2, hS2⟩ : ∃ S, w2.heap.size = S := ⟨_, rfl⟩
      rw [hS2] at hO hb3 hzw2
      obtain ⟨C, hC⟩ : ∃ S, w3.heap.size = S := ⟨_, rfl⟩
      have hz3 : S2 ≤ C := by have := hb3.size; omega
      have hg3 : g3 < C := by have := (owns_lt hO.outer (b := g3) rfl).2; omega
      have VO : VC 26 C #[.slice (some ⟨g3, 0, none⟩) xss.length c3] (w3.alloc (.cells #[.slice (some ⟨g3, 0, none⟩) xss.length c3] 26)) := VC.new hC
      have u4 := Upd.alloc w3 (.cells #[.slice (some ⟨g3, 0, none⟩) xss.length c3] 26)
      replace VR := (VR.belowAt hb3 (by omega)).upd u4 (by omega)
      replace hb := (hb.trans (hb3.mono (by omega))).alloc (by omega) (.cells #[.slice (some ⟨g3, 0, none⟩) xss.length c3] 26)
      replace hO := hO.below (below_alloc' w3 (.cells #[.slice (some ⟨g3, 0, none⟩) xss.length c3] 26))
      have hz4 : (w3.alloc (.cells #[.slice (some ⟨g3, 0, none⟩) xss.length c3] 26)).heap.size = C + 1 := by simp [hC]
      rw [HX.out] at hO
      rw [← HX.out] at hO
      have HVL := Lib.hid hvl
      clear hb3 hcg hcr hfr HCG u4 VG hvl
      have hco := VO.cell
      obtain ⟨b1, o1, r1, x1, e1, hc1, hx1, -, HX1⟩ := hO.rd.intsAt (show k < xss.length from hk)
      obtain ⟨rfl, rfl⟩ : g3 = b1 ∧ o1 = 0 := by simpa [eq_comm] using e1
      simp only [Nat.zero_add] at hc1
      have hx1e : x1 = rowB xss.length (e k) := by have h := HX1.out; rw [HX.out] at h; rw [rowsB_at e (by simpa using hk)] at h; simpa [eq_comm] using h
      have hl1 : x1.length ≤ 1000000 := by rw [hx1e]; have := rowB_length xss.length (e k); omega
      have HX1E := Lib.hid hx1e
      clear e1 hx1e
      generalize hW4 : w3.alloc (.cells #[.slice (some ⟨g3, 0, none⟩) xss.length c3] 26) = W4 at *
      have HW4 := Lib.hid hW4
      clear hW4
      go_wp2_with fail
      rw [HW4.out]
      refine wp_region_ord [0, 2, 3, 5, 8] [1, 4, 6, 7] [9] [10, 11] (by kernel_rfl) (by kernel_rfl) (fun _ _ d _ _ h => by cases d <;> exact h) ?_
      simp only [pickOps, List.filterMap_cons, List.filterMap_nil, List.getElem?_cons_succ, List.getElem?_cons_zero]
      repeat quiet_step (fail)
      refine wpSegs_cons ?_
      go_wp2_with fail
      refine (without_any r1 x1 (l : Int) hl1 W4.drew (by exact hx1)).mono ?_
      rintro e1 w5 ⟨u5, rfl, hN5, hb5⟩
      replace hb5 := below_drew hb5
      obtain ⟨a5, c5, rfl⟩ := owns_shape hN5
      have HB5 := Lib.hid hb5
      have hO5 := hO.below hb5
      have hout := hO5.outer
      rw [HVL.out] at hout
      have hf5 := hout.frozenAt k
      have hxc : ∃ y, w5.cell? ⟨g3, k, none⟩ = some y := ⟨vs3[k]'(by rw [HVL.out]; exact hk), by rw [hout.cellAt k (by omega)]; exact List.getElem?_eq_getElem _⟩
      obtain ⟨y5, hxc⟩ := hxc
      have hst := hout.stored k (.slice a5 (without x1 (l : Int)).length c5)
      have HG6 := Lib.hid (hO.set (cs := ints (without x1 (l : Int))) k hb5 (by simpa using owns_base hN5 (by simp [hz4]; omega)) (.inr fun j hj => by have := (owns_lt hN5 hj).1; simpa using this) (by rw [HVL.out]; exact hst.1) hst.2)
      have VO5 := VO.upd (Upd.of_below hb5) (by omega)
      have VR5 := VR.upd (Upd.of_below hb5) (by omega)
      have hb6 := hb.trans (hb5.mono (by omega))
      have hz5 := hb5.size
      clear hb5 hO5 hout hst hN5 hco hc1 hx1 VO VR hb hO
      go_wp2_with fail
      refine ⟨by have h := HB5.out; first | exact h | (rw [hz4] at h; exact h), ?_⟩
      simp only [wpSegs_nil_eq]
      have VO6 := VO5.other (p := ⟨g3, k, none⟩) (by simp; omega) (.slice a5 (without x1 (l : Int)).length c5)
      have VR6 := VR5.other (p := ⟨g3, k, none⟩) (by have := (owns_lt HG6.out.outer (b := g3) rfl).1; simp; omega) (.slice a5 (without x1 (l : Int)).length c5)
      have hb7 := hb6.setCell (p := ⟨g3, k, none⟩) (by have := (owns_lt HG6.out.outer (b := g3) rfl).1; simp; omega) (.slice a5 (without x1 (l : Int)).length c5)
      have hz6 : (w5.setCell ⟨g3, k, none⟩ (.slice a5 (without x1 (l : Int)).length c5)).heap.size = w5.heap.size := by simp [World.setCell]
      have hco6 := VO6.cell
      have hlt6 := VO6.lt
      have hG6 := HG6.out
      rw [← List.map_set] at hG6
      obtain ⟨b1, o1, r2, x2, e1, hc2, hx2, -, HX2⟩ := hG6.rd.intsAt (show l < (xss.set k (without x1 (l : Int))).length by simpa using hl)
      obtain ⟨rfl, rfl⟩ : g3 = b1 ∧ o1 = 0 := by simpa [eq_comm] using e1
      simp only [Nat.zero_add] at hc2
      have hx2e : x2 = rowB xss.length (e l) := by have h := HX2.out; rw [List.getElem?_set_ne HKL.out, HX.out, rowsB_at e (by simpa using hl)] at h; simpa [eq_comm] using h
      have hl2 : x2.length ≤ 1000000 := by rw [hx2e]; have := rowB_length xss.length (e l); omega
      have HX2E := Lib.hid hx2e
      have hvl6 : (vs3.set k (.slice a5 (without x1 (l : Int)).length c5)).length = xss.length := by rw [List.length_set]; exact HVL.out
      have HVL6 := Lib.hid hvl6
      generalize hvs6 : vs3.set k (.slice a5 (without x1 (l : Int)).length c5) = vs6 at *
      clear e1 hx2e hvl6 HG6 hvs6
      generalize hW6 : w5.setCell ⟨g3, k, none⟩ (.slice a5 (without x1 (l : Int)).length c5) = W6 at *
      have HW6 := Lib.hid hW6
      clear hW6
      go_wp2_with fail
      rw [HW6.out]
      refine wp_region_ord [0, 2, 3, 5, 8] [1, 4, 6, 7] [9] [10, 11] (by kernel_rfl) (by kernel_rfl) (fun _ _ d _ _ h => by cases d <;> exact h) ?_
      simp only [pickOps, List.filterMap_cons, List.filterMap_nil, List.getElem?_cons_succ, List.getElem?_cons_zero]
      repeat quiet_step (fail)
      refine wpSegs_cons ?_
      go_wp2_with fail
      refine (without_any r2 x2 (k : Int) hl2 W6.drew (by exact hx2)).mono ?_
      rintro e1 w7 ⟨u7, rfl, hN7, hb8⟩
      replace hb8 := below_drew hb8
      obtain ⟨a7, c7, rfl⟩ := owns_shape hN7
      have HB8 := Lib.hid hb8
      have hO7 := hG6.below hb8
      have hout := hO7.outer
      rw [HVL6.out] at hout
      have hf7 := hout.frozenAt l
      have hxc7 : ∃ y, w7.cell? ⟨g3, l, none⟩ = some y := ⟨vs6[l]'(by rw [HVL6.out]; exact hl), by rw [hout.cellAt l (by omega)]; exact List.getElem?_eq_getElem _⟩
      obtain ⟨y7, hxc7⟩ := hxc7
      have hst := hout.stored l (.slice a7 (without x2 (k : Int)).length c7)
      have hS2W : S2 ≤ W6.heap.size := by have := (owns_lt hG6.outer (b := g3) rfl); omega
      have HG8 := Lib.hid (hG6.set (cs := ints (without x2 (k : Int))) l hb8 (by simpa using owns_base hN7 (by simpa using hS2W)) (.inr fun j hj => by have := (owns_lt hN7 hj).1; simpa using this) (by rw [HVL6.out]; exact hst.1) hst.2)
      have VO7 := VO6.upd (Upd.of_below hb8) (by omega)
      have VR7 := VR6.upd (Upd.of_below hb8) (by omega)
      have hb9 := hb7.trans (hb8.mono (by have := VR6.lt; omega))
      have hgS : S2 ≤ g3 := (owns_lt hG6.outer (b := g3) rfl).1
      clear hb8 hO7 hout hst hN7 hco6 hc2 hx2 hf5 hxc
      go_wp2_with fail
      refine ⟨by have h := HB8.out; first | exact h | (rw [hz6] at h; exact h), ?_⟩
      simp only [wpSegs_nil_eq]
      have VO8 := VO7.other (p := ⟨g3, l, none⟩) (by simp; omega) (.slice a7 (without x2 (k : Int)).length c7)
      have VR8 := VR7.other (p := ⟨g3, l, none⟩) (by simp; omega) (.slice a7 (without x2 (k : Int)).length c7)
      have hb10 := hb9.setCell (p := ⟨g3, l, none⟩) (by simp; omega) (.slice a7 (without x2 (k : Int)).length c7)
      have hco8 := VO8.cell
      have hcr8 := VR8.cell
      have hfr8 := VR8.free
      have hG8 := HG8.out
      have hfinal : (xss.set k (without x1 (l : Int))).set l (without x2 (k : Int)) = rowsB xss.length (minus e k l) := by
        rw [HX1E.out, HX2E.out, without_rowB, without_rowB]
        conv => lhs; arg 1; arg 1; rw [HX.out]
        exact rows_minus xss.length e hk hl HKL.out
      rw [← List.map_set, hfinal] at hG8
      have HF := Lib.hid (GRes.fin (b := B + 1) hB hb10 (by omega) hG8 (by omega) true)
      have HCE := Lib.hid (VR8.set (.slice (some ⟨g3, 0, none⟩) xss.length c3)).cell
      go_wp2_with fail
      refine bodyPost_ret (v := .tuple #[.agg #[.slice (some ⟨g3, 0, none⟩) xss.length c3], .bool true]) (by simp [results, Tryd.results15, go_sem, HCE.out]) rfl ?_
      exact HF.out

/-! ### The program -/
def partS (ms : List Nat) (u v : Nat) : List Nat :=
  let ns := ms.set u (ms.getD u 0 &&& (4294967295 - 2 ^ v))
  ns.set v (ns.getD v 0 &&& (4294967295 - 2 ^ u))
@[simp] theorem partS_length (ms : List Nat) (u v : Nat) : (partS ms u v).length = ms.length := by simp [partS]
theorem and_small {a b : Nat} (ha : a < 4294967296) : a &&& b < 4294967296 := by
  have := Nat.and_le_left (n := a) (m := b)
  omega
theorem Small.part {ms : List Nat} (h : Small ms) (u v : Nat) : Small (partS ms u v) := by
  have h1 := h.set u (and_small (b := 4294967295 - 2 ^ v) (h.getD u))
  exact h1.set v (and_small (h1.getD v))
theorem testBit_flip_pow {v : Nat} (hv : v < 32) (i : Nat) : (4294967295 - 2 ^ v).testBit i = (decide (i < 32) && !decide (i = v)) := by
  rw [testBit_flip (pow_small hv), Nat.testBit_two_pow]
  congr 2
  rw [Bool.eq_iff_iff]; simp [eq_comm]
theorem partS_NB {n : Nat} (hn : n ≤ 32) (e : Nat → Nat → Bool) {u v : Nat} (hu : u < n) (hv : v < n) : partS (NB n e) u v = NB n (minus e u v) := by
  refine eq_NB (by simp) fun a b ha => ?_
  unfold partS
  simp only
  rw [getD_set _ _ _ _ (by simpa using hv), getD_set _ _ _ _ (by simpa using hu), getD_set _ _ _ _ (by simpa using hu), NB_getD e hu, NB_getD e hv, NB_getD e ha]
  by_cases hb : b < n
  · have hb32 : b < 32 := by omega
    by_cases h1 : a = v
    · subst h1
      by_cases h2 : a = u
      · subst h2
        simp [Nat.testBit_and, testBit_maskB, testBit_flip_pow (show a < 32 by omega), hb, hb32, minus]
      · simp [Nat.testBit_and, testBit_maskB, testBit_flip_pow (show u < 32 by omega), hb, hb32, minus, h2]
    · by_cases h2 : a = u
      · subst h2
        simp [Nat.testBit_and, testBit_maskB, testBit_flip_pow (show v < 32 by omega), hb, hb32, minus, h1]
      · simp [testBit_maskB, hb, minus, h1, h2]
  · by_cases h1 : a = v
    · subst h1
      by_cases h2 : a = u
      · subst h2
        simp [Nat.testBit_and, testBit_maskB, hb]
      · simp [Nat.testBit_and, testBit_maskB, hb, h2]
    · by_cases h2 : a = u
      · subst h2
        simp [Nat.testBit_and, testBit_maskB, hb, h1]
      · simp [testBit_maskB, hb, h1, h2]

set_option maxHeartbeats 1000000 in
theorem part_any (base : Nat) (g n cap : Nat) (ms : List Nat) (hn : ms.length = n) (hs : Small ms) (u v : Nat) (hu : u < n) (hv : v < n) (hun : u < 32) (hvn : v < 32) (w : World)
    (ho : w.ownsRow base 84 1 (.slice (some ⟨g, 0, none⟩) n cap) n (sets ms)) :
    Calls Tryd.prog 69 #[.slice (some ⟨g, 0, none⟩) n cap, .int .i64 u, .int .i64 v] w fun e w' => e = .returned (.tuple #[]) ∧
      w'.ownsRow base 84 1 (.slice (some ⟨g, 0, none⟩) n cap) n (sets (partS ms u v)) ∧ w.grownBy w' (some g) := by
  have hf : w.frozen? ⟨g, u, none⟩ = false := ho.frozenAt u
  have hx : w.cell? ⟨g, u, none⟩ = some (.int .u32 ((ms.getD u 0 : Nat) : Int)) := by rw [ho.cellAt u (by omega), sets_at (by omega)]
  have hb : bits BinOp.andNot IntKind.u32 ((ms.getD u 0 : Nat) : Int) ((2 ^ v : Nat) : Int) = ((ms.getD u 0 &&& (4294967295 - 2 ^ v) : Nat) : Int) := u32_andNot_nat _ _ (hs.getD u) (pow_small hvn)
  have hst := ho.stored u (.int .u32 ((ms.getD u 0 &&& (4294967295 - 2 ^ v) : Nat) : Int))
  rw [← sets_set] at hst
  have hs1 := hs.set u (and_small (b := 4294967295 - 2 ^ v) (hs.getD u))
  have hn1 : (ms.set u (ms.getD u 0 &&& (4294967295 - 2 ^ v))).length = n := by simpa using hn
  have hJ : partS ms u v = (ms.set u (ms.getD u 0 &&& (4294967295 - 2 ^ v))).set v ((ms.set u (ms.getD u 0 &&& (4294967295 - 2 ^ v))).getD v 0 &&& (4294967295 - 2 ^ u)) := rfl
  rw [hJ]
  clear hJ
  generalize ms.set u (ms.getD u 0 &&& (4294967295 - 2 ^ v)) = ns at *
  generalize ms.getD u 0 &&& (4294967295 - 2 ^ v) = y at *
  generalize ms.getD u 0 = x at *
  have hp : ((2 : Int) ^ v) = ((2 ^ v : Nat) : Int) := by simp
  rw [← hp] at hb
  clear hp
  go_enter Tryd.func69, Tryd.ntmps69
  go_wp2_with fail
  refine wp_region_ord [0, 1, 2, 4] [3] [5] [6, 7, 8] (by kernel_rfl) (by kernel_rfl) (fun _ _ d _ _ h => by cases d <;> exact h) ?_
  simp only [pickOps, List.filterMap_cons, List.filterMap_nil, List.getElem?_cons_succ, List.getElem?_cons_zero]
  repeat quiet_step (fail)
  refine wpSegs_cons ?_
  go_wp2_with (go_at_call 87; refine (one_any _ v rfl hvn _).mono ?_; rintro e w' ⟨rfl, rfl⟩)
  refine ⟨(Below.refl _ _).drew, wpSegs_nil ?_⟩
  go_wp2_with fail
  have hg1 := grown_drew hst.2
  have ho1 := hst.1.drew
  clear hst hf hx hb ho hs
  generalize World.drew _ = w1 at *
  have hf : w1.frozen? ⟨g, v, none⟩ = false := ho1.frozenAt v
  have hx : w1.cell? ⟨g, v, none⟩ = some (.int .u32 ((ns.getD v 0 : Nat) : Int)) := by rw [ho1.cellAt v (by omega), sets_at (by omega)]
  have hb : bits BinOp.andNot IntKind.u32 ((ns.getD v 0 : Nat) : Int) ((2 ^ u : Nat) : Int) = ((ns.getD v 0 &&& (4294967295 - 2 ^ u) : Nat) : Int) := u32_andNot_nat _ _ (hs1.getD v) (pow_small hun)
  have hst := ho1.stored v (.int .u32 ((ns.getD v 0 &&& (4294967295 - 2 ^ u) : Nat) : Int))
  rw [← sets_set] at hst
  have HY : ∃ y2, Hid (ns.getD v 0 &&& (4294967295 - 2 ^ u) = y2) := ⟨_, Lib.hid rfl⟩
  obtain ⟨y2, HY⟩ := HY
  rw [HY.out] at hb hst
  have HX : ∃ x2, Hid (ns.getD v 0 = x2) := ⟨_, Lib.hid rfl⟩
  obtain ⟨x2, HX⟩ := HX
  rw [HX.out] at hb hx
  have hp : ((2 : Int) ^ u) = ((2 ^ u : Nat) : Int) := by simp
  rw [← hp] at hb
  clear hp
  refine wp_region_ord [0, 1, 2, 4] [3] [5] [6, 7, 8] (by kernel_rfl) (by kernel_rfl) (fun _ _ d _ _ h => by cases d <;> exact h) ?_
  simp only [pickOps, List.filterMap_cons, List.filterMap_nil, List.getElem?_cons_succ, List.getElem?_cons_zero]
  repeat quiet_step (fail)
  refine wpSegs_cons ?_
  go_wp2_with (go_at_call 87; refine (one_any _ u rfl hun _).mono ?_; rintro e w' ⟨rfl, rfl⟩)
  refine ⟨(Below.refl _ _).drew, wpSegs_nil ?_⟩
  go_wp2_with fail
  go_end0
  exact ⟨rfl, by rw [HY.out]; exact hst.1.drew, grown_trans hg1 (grown_drew hst.2)⟩

theorem NS.part {B : Nat} {w0 : World} {v : Value} {ms : List Nat} {wr : World} (h : NS B w0 v ms wr) (hB : B ≤ wr.heap.size) (i j : Nat) (I J : Int) (hI : I = i) (hJ : J = j) (hi : i < ms.length) (hj : j < ms.length) (hn : ms.length ≤ 32) :
    Calls Tryd.prog 69 #[v, .int .i64 I, .int .i64 J] wr fun e w' => e = .returned (.tuple #[]) ∧ NS B w0 v (partS ms i j) w' := by
  subst hI; subst hJ
  obtain ⟨g, cap, rfl⟩ := owns_head h.own (by omega)
  refine (part_any B g ms.length cap ms rfl h.small i j hi hj (by omega) (by omega) wr h.own).mono ?_
  rintro e w' ⟨rfl, ho, hg⟩
  exact ⟨rfl, ⟨by rw [partS_length]; exact ho, h.small.part _ _, h.bel.trans (below_of_grown hg hB fun k hk => by have := (owns_lt h.own (b := g) rfl).1; have : g = k := Option.some.inj hk; omega)⟩⟩

set_option maxHeartbeats 4000000 in
theorem implCutEdge (g : Value) (xss : List (List Int)) (u v : Int) (w : World) (ht : Tab w) (hr : RdSS g xss w) (rows : List (List Int)) (ok : Bool)
    (h : (¬ OkC xss u v ∧ rows = [] ∧ ok = false) ∨ ∃ e a b, Two xss u v xss.length e a b ∧ a ≠ b ∧ OkC xss u v ∧ rows = rowsB xss.length (minus e a b) ∧ ok = true) :
    Calls Tryd.prog 17 #[.agg #[g], .int .i64 u, .int .i64 v] w (GRes w rows ok) := by
  obtain ⟨a, c, rfl⟩ := hr.shape
  obtain ⟨B, hB⟩ : ∃ B, w.heap.size = B := ⟨_, rfl⟩
  have hTB : 0 < B := by rw [← hB]; exact ht.lt
  have u1 : Below B w (w.alloc (.cells #[.slice a xss.length c] 26)) := by subst hB; exact below_alloc' _ _
  have VG : VC 26 B #[.slice a xss.length c] (w.alloc (.cells #[.slice a xss.length c] 26)) := VC.new hB
  have hz1 : (w.alloc (.cells #[.slice a xss.length c] 26)).heap.size = B + 1 := by simp [hB]
  have VR : VC 26 (B + 1) #[.slice none 0 0] ((w.alloc (.cells #[.slice a xss.length c] 26)).alloc (.cells #[.slice none 0 0] 26)) := VC.new hz1
  have u2 := u1.alloc (by omega) (.cells #[.slice none 0 0] 26)
  replace VG := VG.upd (Upd.alloc _ (.cells #[.slice none 0 0] 26)) (by omega)
  have hz2 : ((w.alloc (.cells #[.slice a xss.length c] 26)).alloc (.cells #[.slice none 0 0] 26)).heap.size = B + 2 := by simp [hB]
  have H := Lib.hid h
  have hno : ¬ OkC xss u v → rows = [] ∧ ok = false := fun hn => by
    rcases H.out with ⟨_, h2⟩ | ⟨_, _, _, _, _, h1, _⟩
    · exact h2
    · exact (hn h1).elim
  have HNO := Lib.hid hno
  clear h u1 hz1 hno
  have hcg := VG.cell
  go_enter Tryd.func17, Tryd.ntmps17
  go_wp2_with fail
  generalize (w.alloc (.cells #[.slice a xss.length c] 26)).alloc (.cells #[.slice none 0 0] 26) = W at *
  refine (isPair_any _ xss u v W (hr.below u2 hB)).mono ?_
  rintro e1 w1 ⟨rfl, hb1⟩
  replace VG := VG.upd (Upd.of_below hb1) (by omega)
  replace VR := VR.upd (Upd.of_below hb1) (by omega)
  have hb := u2.trans (hb1.mono (by omega))
  have hzw1 : B + 2 ≤ w1.heap.size := by have := hb1.size; omega
  clear hb1 u2 hcg
  have hcg := VG.cell
  have hcr := VR.cell
  have hfr := VR.free
  have HCE0 := Lib.hid (VR.set (.slice none 0 0)).cell
  have HB0 := Lib.hid (hb.setCell (p := ⟨B + 1, 0, none⟩) (by simp) (.slice none 0 0))
  cases hp : (vertexB xss u && vertexB xss v) with
  | false =>
    obtain ⟨rfl, rfl⟩ := HNO.out fun h => by rw [h.1, h.2.1] at hp; cases hp
    clear hp
    go_wp2_with fail
    refine bodyPost_ret (v := .tuple #[.agg #[.slice none 0 0], .bool false]) (by simp [results, Tryd.results17, go_sem, HCE0.out]) rfl ?_
    exact GRes.nothing _ _ (by rw [hB]; exact HB0.out)
  | true =>
    rw [Bool.and_eq_true] at hp
    have HP := Lib.hid hp
    clear hp
    have HEI := Lib.hid (implEdgeIn (.slice a xss.length c) xss u v w1 (hr.below hb hB))
    go_wp2_with fail
    refine HEI.out.mono ?_
    rintro e1 w2 ⟨rfl, hb2⟩
    replace VG := VG.upd (Upd.of_below hb2) (by omega)
    replace VR := VR.upd (Upd.of_below hb2) (by omega)
    replace hb := hb.trans (hb2.mono (by omega))
    have hzw2 : B + 2 ≤ w2.heap.size := by have := hb2.size; omega
    clear hb2 hcg hcr hfr HEI HCE0 HB0
    have hcg := VG.cell
    have hcr := VR.cell
    have hfr := VR.free
    cases hed : edgeB xss u v with
    | false =>
      obtain ⟨rfl, rfl⟩ := HNO.out fun h => by rw [h.2.2] at hed; cases hed
      have HCE := Lib.hid (VR.set (.slice none 0 0)).cell
      have HB := Lib.hid (hb.setCell (p := ⟨B + 1, 0, none⟩) (by simp) (.slice none 0 0))
      clear hed
      go_wp2_with fail
      refine bodyPost_ret (v := .tuple #[.agg #[.slice none 0 0], .bool false]) (by simp [results, Tryd.results17, go_sem, HCE.out]) rfl ?_
      exact GRes.nothing _ _ (by rw [hB]; exact HB.out)
    | true =>
      obtain ⟨e, k, l, hT, rfl, rfl⟩ : ∃ e a b, Two xss u v xss.length e a b ∧ rows = rowsB xss.length (minus e a b) ∧ ok = true := by
        rcases H.out with ⟨h1, _⟩ | ⟨e', a', b', hT', _, _, h3, h4⟩
        · exact (h1 ⟨HP.out.1, HP.out.2, hed⟩).elim
        · exact ⟨e', a', b', hT', h3, h4⟩
      obtain ⟨hA, hx, -, rfl, rfl, hk, hl⟩ := hT
      have hn16 := hA.le
      have HX := Lib.hid hx
      have hr' := hr.below hb hB
      rw [HX.out, rowsB_length] at hr'
      have HNO2 := Lib.hid (netsOf_any _ xss.length e hn16 w2 hr')
      clear hed hx hr'
      go_wp2_with fail
      refine HNO2.out.mono ?_
      rintro e1 w3 ⟨u3, rfl, hN3, hb3⟩
      obtain ⟨a3, c3, rfl⟩ := owns_shape hN3
      obtain ⟨S2, hS2⟩ : ∃ S, w2.heap.size = S := ⟨_, rfl⟩
      rw [hS2] at hN3 hb3 hzw2
      have hN : NS S2 w2 (.slice a3 xss.length c3) (NB xss.length e) w3 := ⟨by rw [NB_length]; exact hN3, NB_small (by omega) _, hb3⟩
      have hz3 := hb3.size
      have HJ := Lib.hid (hN.part (by omega) k l (k : Int) (l : Int) rfl rfl (by simpa using hk) (by simpa using hl) (by simp; omega))
      have HT2 := Lib.hid (ht.keep hb hTB)
      clear hN hN3 hb3 HNO2 hcg hcr hfr
      go_wp2_with fail
      refine HJ.out.mono ?_
      rintro e1 w4 ⟨rfl, hN4⟩
      rw [partS_NB (by omega) _ hk hl] at hN4
      have HGR := Lib.hid (hN4.graph HT2.out (by omega) (by simp; omega))
      have VR2 := VR.belowAt hN4.bel (by omega)
      have hb4 := hb.trans (hN4.bel.mono (by omega))
      have hz4 := hN4.bel.size
      clear hN4 HJ
      go_wp2_with fail
      refine HGR.out.mono ?_
      rintro e1 w6 ⟨u6, us, rfl, hG6, hb6⟩
      rw [rowsOf_NB (by omega)] at hG6
      obtain ⟨uua, uuc, rfl⟩ := owns_shape hG6.outer
      have HF := Lib.hid (GRes.put (b := B + 1) hB hb4 (by omega) (by omega) hG6 hb6 true)
      replace VR2 := VR2.upd (Upd.of_below hb6) (by omega)
      have HCE := Lib.hid (VR2.set (.slice uua us.length uuc)).cell
      clear hG6 hb6 HGR hb4
      have hcr := VR2.cell
      have hfr := VR2.free
      go_wp2_with fail
      refine bodyPost_ret (v := .tuple #[.agg #[.slice uua us.length uuc], .bool true]) (by simp [results, Tryd.results17, go_sem, HCE.out]) rfl ?_
      exact HF.out

theorem both_CutEdge (xss : List (List Int)) (u v : Int) : ∃ rows ok, 1 + total rows ≤ 1000000000 ∧ rows.length ≤ 1000000000 ∧
    (∀ (w : World) (g : Value), Tab w → RdSS g xss w → Calls Tryd.prog 15 #[.agg #[g], .int .i64 u, .int .i64 v] w (GRes w rows ok)) ∧
    (∀ (w : World) (g : Value), Tab w → RdSS g xss w → Calls Tryd.prog 17 #[.agg #[g], .int .i64 u, .int .i64 v] w (GRes w rows ok)) := by
  by_cases h : OkC xss u v
  · obtain ⟨e, a, b, hT⟩ := two_of h.1 h.2.1
    have hn := hT.adj.le
    have hab : a ≠ b := fun hab => by
      have h3 := h.2.2
      rw [edgeB_two hT, hab, hT.adj.irr b hT.bn] at h3
      cases h3
    have ht := total_rowsB xss.length (minus e a b) (by omega)
    exact ⟨_, true, by omega, by simp; omega, fun w g _ hr => specCutEdge g xss u v w hr _ _ (.inr ⟨e, a, b, hT, hab, h, rfl, rfl⟩), fun w g ht hr => implCutEdge g xss u v w ht hr _ _ (.inr ⟨e, a, b, hT, hab, h, rfl, rfl⟩)⟩
  · exact ⟨[], false, by simp [total], by simp, fun w g _ hr => specCutEdge g xss u v w hr _ _ (.inl ⟨h, rfl, rfl⟩), fun w g ht hr => implCutEdge g xss u v w ht hr _ _ (.inl ⟨h, rfl, rfl⟩)⟩
end Go.Proofs.YtikcooagdaghnaaDoor
