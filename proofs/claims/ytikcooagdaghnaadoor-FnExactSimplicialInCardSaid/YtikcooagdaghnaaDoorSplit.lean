/-
  'SplitEdge' of the reference and of the program.
-/
import Derived.Test.YtikcooagdaghnaaDoorCutVertex
namespace Go.Proofs.YtikcooagdaghnaaDoor
open Go.RowKit

theorem edge_out {xss : List (List Int)} {u v : Int} (h : okB xss = true) (hu : inN xss.length u = true) (hv : inN xss.length v = false) : (xss.getD u.toNat []).contains v = false := by
  obtain ⟨e, hA, hx⟩ := (okB_iff xss).1 h
  obtain ⟨a, rfl, ha⟩ := inN_nat hu
  rw [Int.toNat_natCast, hx, rowsB_getD e ha]
  cases hc : (rowB xss.length (e a)).contains v with
  | false => rfl
  | true =>
    obtain ⟨i, hi, -, rfl⟩ := mem_rowB.1 (List.contains_iff_mem.1 hc)
    have : inN xss.length (i : Int) = true := by rw [inN_iff]; omega
    rw [this] at hv
    cases hv

set_option maxHeartbeats 2000000 in
theorem specEdgeIn (v : Value) (xss : List (List Int)) (x y : Int) (w : World) (hr : RdSS v xss w) :
    Calls Tryd.prog 40 #[.agg #[v], .int .i64 x, .int .i64 y] w fun e w' => e = .returned (.bool (edgeB xss x y)) ∧ Below w.heap.size w w' := by
  obtain ⟨a, c, rfl⟩ := hr.shape
  obtain ⟨B, hB⟩ : ∃ B, w.heap.size = B := ⟨_, rfl⟩
  have hb0 : Below B w (w.alloc (.cells #[.slice a xss.length c] 26)) := by subst hB; exact below_alloc' _ _
  have hV0 : VC 26 B #[.slice a xss.length c] (w.alloc (.cells #[.slice a xss.length c] 26)) := VC.new hB
  have hsz : (w.alloc (.cells #[.slice a xss.length c] 26)).heap.size = B + 1 := by simp [hB]
  have hc0 := hV0.cell
  go_enter Tryd.func40, Tryd.ntmps40
  go_wp2_with fail
  generalize w.alloc (.cells #[.slice a xss.length c] 26) = W at *
  refine (specOk _ xss W (hr.below hb0 hB)).mono ?_
  rintro e w1 ⟨rfl, hb1⟩
  have hV1 := hV0.upd (Upd.of_below hb1) (by omega)
  have hb01 := hb0.trans (hb1.mono (by omega))
  clear hb1 hc0 hV0
  have hc1 := hV1.cell
  cases hok : okB xss with
  | false =>
    go_wp2_with fail
    go_ret
    exact ⟨ret_bool (by simp [edgeB, hok]), by rw [hB]; exact hb01⟩
  | true =>
    have hn := ok_size hok
    go_wp2_with fail
    refine (there_any _ xss x (by omega) w1 (hr.below hb01 hB)).mono ?_
    rintro e w2 ⟨rfl, hb2⟩
    have hV2 := hV1.upd (Upd.of_below hb2) (by omega)
    have hb02 := hb01.trans (hb2.mono (by have := hV1.lt; omega))
    clear hb2 hc1 hV1
    have hc2 := hV2.cell
    cases hx : inN xss.length x with
    | false =>
      go_wp2_with fail
      go_ret
      exact ⟨ret_bool (by simp [edgeB, hok, hx]), by rw [hB]; exact hb02⟩
    | true =>
      go_wp2_with fail
      refine (there_any _ xss y (by omega) w2 (hr.below hb02 hB)).mono ?_
      rintro e w3 ⟨rfl, hb3⟩
      have hV3 := hV2.upd (Upd.of_below hb3) (by omega)
      have hb03 := hb02.trans (hb3.mono (by have := hV2.lt; omega))
      clear hb3 hc2 hV2
      have hc3 := hV3.cell
      cases hy : inN xss.length y with
      | false =>
        have ho := edge_out hok hx hy
        go_wp2_with fail
        go_ret
        exact ⟨ret_bool (by unfold edgeB; rw [ho, Bool.and_false]), by rw [hB]; exact hb03⟩
      | true =>
        obtain ⟨k, rfl, hk⟩ := inN_nat hx
        have HE := Lib.hid (edge_any (.slice a xss.length c) xss k y hk w3 (hr.below hb03 hB))
        obtain ⟨b, HBB⟩ : ∃ b : Bool, Hid ((xss.getD k []).contains y = b) := ⟨_, Lib.hid rfl⟩
        rw [HBB.out] at HE
        go_wp2_with fail
        refine HE.out.mono ?_
        rintro e w4 ⟨rfl, hb4⟩
        have hb04 := hb03.trans (hb4.mono (by have := hV3.lt; omega))
        clear hb4 hc3 HE
        go_wp2_with fail
        go_ret
        exact ⟨ret_bool (by unfold edgeB; rw [hok, hx, Int.toNat_natCast, HBB.out]; rfl), by rw [hB]; exact hb04⟩

/-- The lesser, and the greater, of two numbers. -/
def duo (u v : Int) : List Int := [if u < v then u else v, if v < u then u else v]
theorem min_any (u v : Int) (w : World) : Calls Tryd.prog 89 #[.int .i64 u, .int .i64 v] w fun e w' => e = .returned (.int .i64 (if u < v then u else v)) ∧ w = w' := by
  by_cases h : u < v
  · have hi : (if u < v then u else v) = u := if_pos h
    have HI := Lib.hid hi
    clear hi
    go_enter Tryd.func89, Tryd.ntmps89
    go_wp2_with fail
    go_ret
    exact ⟨rfl, rfl⟩
  · have hi : (if u < v then u else v) = v := if_neg h
    have HI := Lib.hid hi
    clear hi
    go_enter Tryd.func89, Tryd.ntmps89
    go_wp2_with fail
    go_ret
    exact ⟨rfl, rfl⟩
theorem max_any (u v : Int) (w : World) : Calls Tryd.prog 90 #[.int .i64 u, .int .i64 v] w fun e w' => e = .returned (.int .i64 (if v < u then u else v)) ∧ w = w' := by
  by_cases h : v < u
  · have hi : (if v < u then u else v) = u := if_pos h
    have HI := Lib.hid hi
    clear hi
    go_enter Tryd.func90, Tryd.ntmps90
    go_wp2_with fail
    go_ret
    exact ⟨rfl, rfl⟩
  · have hi : (if v < u then u else v) = v := if_neg h
    have HI := Lib.hid hi
    clear hi
    go_enter Tryd.func90, Tryd.ntmps90
    go_wp2_with fail
    go_ret
    exact ⟨rfl, rfl⟩

theorem adj_minus {n : Nat} {e : Nat → Nat → Bool} (h : Adj n e) (u v : Nat) : Adj n (minus e u v) := by
  refine ⟨h.pos, h.le, fun x hx => by unfold minus; rw [h.irr x hx]; rfl, fun x y hx hy => ?_⟩
  unfold minus
  rw [h.sym x y hx hy, Bool.and_assoc, Bool.and_assoc]
  congr 1
  rw [Bool.and_comm]
  congr 2
  · exact Bool.and_comm _ _
  · exact Bool.and_comm _ _
theorem duo_set {n k l : Nat} (hk : k < n) (hl : l < n) (h : k ≠ l) : SetP n (duo (k : Int) (l : Int)) := by
  unfold duo SetP
  rcases Nat.lt_or_gt_of_ne h with h1 | h1
  · have e1 : (k : Int) < l := by omega
    have e2 : ¬ (l : Int) < k := by omega
    rw [if_pos e1, if_neg e2]
    refine ⟨fun x hx => ?_, by simpa using h1⟩
    rcases List.mem_cons.1 hx with rfl | hx
    · omega
    · rw [List.mem_singleton.1 hx]; omega
  · have e1 : ¬ (k : Int) < l := by omega
    have e2 : (l : Int) < k := by omega
    rw [if_neg e1, if_pos e2]
    refine ⟨fun x hx => ?_, by simpa using h1⟩
    rcases List.mem_cons.1 hx with rfl | hx
    · omega
    · rw [List.mem_singleton.1 hx]; omega
/-- The order of the two is no matter. -/
theorem hung_duo (n : Nat) (f : Nat → Nat → Bool) {k l : Nat} (h : k ≠ l) : hung n f (duo (k : Int) (l : Int)) = plus (plus (grown n f) k n) l n := by
  unfold duo hung
  rcases Nat.lt_or_gt_of_ne h with h1 | h1
  · have e1 : (k : Int) < l := by omega
    have e2 : ¬ (l : Int) < k := by omega
    rw [if_pos e1, if_neg e2]
    simp
  · have e1 : ¬ (k : Int) < l := by omega
    have e2 : (l : Int) < k := by omega
    rw [if_neg e1, if_pos e2]
    simp only [List.foldl_cons, List.foldl_nil, Int.toNat_natCast]
    funext a b
    unfold plus
    ac_rfl
theorem minus_grown (n : Nat) (e : Nat → Nat → Bool) (u v : Nat) : minus (grown n e) u v = grown n (minus e u v) := by
  funext a b
  simp only [minus, grown]
  ac_rfl

/-- What 'SplitEdge' asks. -/
def OkD (xss : List (List Int)) (u v : Int) : Prop := edgeB xss u v = true ∧ xss.length ≠ 16
instance (xss : List (List Int)) (u v : Int) : Decidable (OkD xss u v) := by unfold OkD; infer_instance
theorem two_edge {xss : List (List Int)} {u v : Int} (h : edgeB xss u v = true) : ∃ e k l, Two xss u v xss.length e k l ∧ k ≠ l ∧ OkC xss u v := by
  have h0 := h
  unfold edgeB at h
  rw [Bool.and_eq_true, Bool.and_eq_true] at h
  obtain ⟨⟨h1, h2⟩, h3⟩ := h
  have h4 : inN xss.length v = true := by
    cases hv : inN xss.length v with
    | true => rfl
    | false => rw [edge_out h1 h2 hv] at h3; cases h3
  have hu : vertexB xss u = true := by unfold vertexB; rw [h1, h2]; rfl
  have hv : vertexB xss v = true := by unfold vertexB; rw [h1, h4]; rfl
  obtain ⟨e, k, l, hT⟩ := two_of hu hv
  have he := edgeB_two hT
  refine ⟨e, k, l, hT, fun hkl => ?_, hu, hv, h0⟩
  rw [h0, hkl, hT.adj.irr l hT.bn] at he
  cases he
def SplP (xss : List (List Int)) (u v : Int) (rows : List (List Int)) (ok : Bool) : Prop :=
  (¬ OkD xss u v ∧ rows = [] ∧ ok = false) ∨ ∃ e k l, Two xss u v xss.length e k l ∧ k ≠ l ∧ OkD xss u v ∧ rows = rowsB (xss.length + 1) (hung xss.length (minus e k l) (duo u v)) ∧ ok = true

set_option maxHeartbeats 4000000 in
theorem specSplitEdge (g : Value) (xss : List (List Int)) (u v : Int) (w : World) (hr : RdSS g xss w) (rows : List (List Int)) (ok : Bool) (h : SplP xss u v rows ok) :
    Calls Tryd.prog 32 #[.agg #[g], .int .i64 u, .int .i64 v] w (GRes w rows ok) := by
  obtain ⟨a, c, rfl⟩ := hr.shape
  obtain ⟨B, hB⟩ : ∃ B, w.heap.size = B := ⟨_, rfl⟩
  have u1 : Below B w (w.alloc (.cells #[.slice a xss.length c] 26)) := by subst hB; exact below_alloc' _ _
  have VG : VC 26 B #[.slice a xss.length c] (w.alloc (.cells #[.slice a xss.length c] 26)) := VC.new hB
  have hz1 : (w.alloc (.cells #[.slice a xss.length c] 26)).heap.size = B + 1 := by simp [hB]
  have VR : VC 26 (B + 1) #[.slice none 0 0] ((w.alloc (.cells #[.slice a xss.length c] 26)).alloc (.cells #[.slice none 0 0] 26)) := VC.new hz1
  have u2 := u1.alloc (by omega) (.cells #[.slice none 0 0] 26)
  replace VG := VG.upd (Upd.alloc _ (.cells #[.slice none 0 0] 26)) (by omega)
  have hz2 : ((w.alloc (.cells #[.slice a xss.length c] 26)).alloc (.cells #[.slice none 0 0] 26)).heap.size = B + 2 := by simp [hB]
  have H := Lib.hid h
  clear h u1 hz1
  have hcg := VG.cell
  go_enter Tryd.func32, Tryd.ntmps32
  go_wp2_with fail
  generalize (w.alloc (.cells #[.slice a xss.length c] 26)).alloc (.cells #[.slice none 0 0] 26) = W at *
  refine (size_rd _ xss W (hr.below u2 hB)).mono ?_
  rintro e1 w1 ⟨rfl, hb1⟩
  replace VG := VG.upd (Upd.of_below hb1) (by omega)
  replace VR := VR.upd (Upd.of_below hb1) (by omega)
  have hb := u2.trans (hb1.mono (by omega))
  have hzw1 : B + 2 ≤ w1.heap.size := by have := hb1.size; omega
  clear hb1 hcg u2
  have hcg := VG.cell
  have hcr := VR.cell
  have hfr := VR.free
  have HCE0 := Lib.hid (VR.set (.slice none 0 0)).cell
  have HB0 := Lib.hid (hb.setCell (p := ⟨B + 1, 0, none⟩) (by simp) (.slice none 0 0))
  go_wp2_with fail
  refine (specEdgeIn _ xss u v w1 (hr.below hb hB)).mono ?_
  rintro e1 w2 ⟨rfl, hb1⟩
  replace VG := VG.upd (Upd.of_below hb1) (by omega)
  replace VR := VR.upd (Upd.of_below hb1) (by omega)
  replace hb := hb.trans (hb1.mono (by omega))
  have hzw2 : B + 2 ≤ w2.heap.size := by have := hb1.size; omega
  clear hb1 hcg hcr hfr HCE0 HB0
  have hcg := VG.cell
  have hcr := VR.cell
  have hfr := VR.free
  have HCE0 := Lib.hid (VR.set (.slice none 0 0)).cell
  have HB0 := Lib.hid (hb.setCell (p := ⟨B + 1, 0, none⟩) (by simp) (.slice none 0 0))
  have hno : ¬ OkD xss u v → Hid (rows = [] ∧ ok = false) := fun hn => by
    rcases H.out with ⟨_, h2⟩ | ⟨_, _, _, _, _, h1, _⟩
    · exact Lib.hid h2
    · exact (hn h1).elim
  have HNO := Lib.hid hno
  clear hno
  cases hed : edgeB xss u v with
  | false =>
    obtain ⟨rfl, rfl⟩ := (HNO.out (fun h => by have := h.1; rw [hed] at this; cases this)).out
    clear hed
    go_wp2_with fail
    refine bodyPost_ret (v := .tuple #[.agg #[.slice none 0 0], .bool false]) (by simp [results, Tryd.results32, go_sem, HCE0.out]) rfl ?_
    exact GRes.nothing _ _ (by rw [hB]; exact HB0.out)
  | true =>
    have HED := Lib.hid hed
    have hle : xss.length ≤ 16 := by
      have h := hed
      unfold edgeB at h
      rw [Bool.and_eq_true, Bool.and_eq_true] at h
      exact (ok_size h.1.1).2
    clear hed
    by_cases h16 : xss.length = 16
    · have hd : (16 : Int) ≤ (xss.length : Int) := by omega
      obtain ⟨rfl, rfl⟩ := (HNO.out (fun h => h.2 h16)).out
      clear h16
      go_wp2_with fail
      refine bodyPost_ret (v := .tuple #[.agg #[.slice none 0 0], .bool false]) (by simp [results, Tryd.results32, go_sem, HCE0.out]) rfl ?_
      exact GRes.nothing _ _ (by rw [hB]; exact HB0.out)
    have hd : ¬ (16 : Int) ≤ (xss.length : Int) := by omega
    have HOK : Hid (OkD xss u v) := Lib.hid ⟨HED.out, h16⟩
    obtain ⟨e, k, l, hT, hkl, rfl, rfl⟩ : ∃ e k l, Two xss u v xss.length e k l ∧ k ≠ l ∧ rows = rowsB (xss.length + 1) (hung xss.length (minus e k l) (duo u v)) ∧ ok = true := by
      rcases H.out with ⟨h1, _⟩ | ⟨e, k, l, hT, hkl, _, h4, h5⟩
      · exact (h1 HOK.out).elim
      · exact ⟨e, k, l, hT, hkl, h4, h5⟩
    have hCE := specCutEdge (.slice a xss.length c) xss u v w2 (hr.below hb hB) _ _ (.inr ⟨e, k, l, hT, hkl, (two_edge HED.out).elim fun _ h => h.elim fun _ h => h.elim fun _ h => h.2.2, rfl, rfl⟩)
    have HC := Lib.hid hCE
    have HV : Hid (Adj xss.length (minus e k l) ∧ SetP xss.length (duo u v)) := Lib.hid ⟨adj_minus hT.adj k l, by rw [hT.ua, hT.vb]; exact duo_set hT.an hT.bn hkl⟩
    clear hCE hT HNO H HCE0 HB0 HOK HED hkl
    go_wp2_with fail
    refine HC.out.mono ?_
    rintro e1 w3 ⟨u3, vs3, rfl, hG3, hb3⟩
    have hvl : vs3.length = xss.length := by rw [hG3.len]; simp
    obtain ⟨a3, c3, rfl⟩ := owns_shape hG3.outer
    rw [hvl] at hG3 ⊢
    obtain ⟨C, hC⟩ : ∃ C, w3.heap.size = C := ⟨_, rfl⟩
    have hz3 : B + 2 ≤ C := by have := hb3.size; omega
    have VO : VC 26 C #[.slice a3 xss.length c3] (w3.alloc (.cells #[.slice a3 xss.length c3] 26)) := VC.new hC
    have u4 := Upd.alloc w3 (.cells #[.slice a3 xss.length c3] 26)
    replace VR := (VR.belowAt hb3 (by omega)).upd u4 (by omega)
    replace hb := (hb.trans (hb3.mono (by omega))).alloc (by omega) (.cells #[.slice a3 xss.length c3] 26)
    have hrd3 : RdSS (.slice a3 xss.length c3) (rowsB xss.length (minus e k l)) (w3.alloc (.cells #[.slice a3 xss.length c3] 26)) := ⟨_, (hG3.below (below_alloc' w3 (.cells #[.slice a3 xss.length c3] 26))).rd⟩
    have hz4 : (w3.alloc (.cells #[.slice a3 xss.length c3] 26)).heap.size = C + 1 := by simp [hC]
    clear hG3 hb3 hvl u4 HC hcg hcr hfr VG
    have hco := VO.cell
    go_wp2_with fail
    generalize w3.alloc (.cells #[.slice a3 xss.length c3] 26) = W4 at *
    refine wp_region_take [1, 2, 4, 5] [0] 8 8 #[true, true, true, false, true, true, false, false, false, false, false, false, false] (by kernel_rfl) (by kernel_rfl) (by kernel_rfl) (by kernel_rfl) (fun _ _ d _ _ h => by cases d <;> exact h) ?_
    simp only [pickOps, List.filterMap_cons, List.filterMap_nil, List.getElem?_cons_succ, List.getElem?_cons_zero]
    repeat quiet_step (fail)
    simp only [wpQuiet_nil_eq]
    refine wpAnyG_1 3 (by kernel_rfl) rfl ?_
    unfold wpNext
    go_wp2_with fail
    refine (min_any u v W4.drew).mono ?_
    rintro e1 w' ⟨rfl, rfl⟩
    obtain ⟨lo, HLO⟩ : ∃ z : Int, Hid ((if u < v then u else v) = z) := ⟨_, Lib.hid rfl⟩
    rw [HLO.out]
    go_wp2_with fail
    refine ⟨fun _ => over_of_below (below_drewN' W4 1), ?_⟩
    refine wpAnyG_1 6 (by kernel_rfl) rfl ?_
    unfold wpNext
    go_wp2_with fail
    refine (max_any u v W4.drew).mono ?_
    rintro e1 w' ⟨rfl, rfl⟩
    obtain ⟨hi, HHI⟩ : ∃ z : Int, Hid ((if v < u then u else v) = z) := ⟨_, Lib.hid rfl⟩
    rw [HHI.out]
    go_wp2_with fail
    refine ⟨fun _ => over_of_below (below_drewN' W4 1), ?_⟩
    refine wpAnyG_1 7 (by kernel_rfl) rfl ?_
    unfold wpNext
    go_wp2_with fail
    have HBD : Hid (Below W4.heap.size W4 (W4.alloc (.cells #[.int .i64 lo, .int .i64 hi] 2)).drew) := Lib.hid ((Below.refl _ _).alloc (Nat.le_refl _) _).drew
    have hou := (World.ownsRow_lit (base := C + 1) (e := 2) (size := 1) W4 #[.int .i64 lo, .int .i64 hi] 2 (by omega) (by simp [maxLen]) rfl).drew
    rw [hz4] at hou
    have HRL : Hid (RdS (.slice (some ⟨C + 1, 0, none⟩) 2 2) (duo u v) (W4.alloc (.cells #[.int .i64 lo, .int .i64 hi] 2)).drew) := Lib.hid (by unfold duo; rw [HLO.out, HHI.out]; exact Row.of_owns hou)
    clear hou
    generalize (W4.alloc (.cells #[.int .i64 lo, .int .i64 hi] 2)).drew = W5 at *
    refine ⟨fun _ => over_of_below HBD.out, ?_⟩
    refine wpAnyG_1 8 (by kernel_rfl) rfl ?_
    unfold wpNext
    have HAV := Lib.hid (specAddedVertex (.slice a3 xss.length c3) (rowsB xss.length (minus e k l)) (.slice (some ⟨C + 1, 0, none⟩) 2 2) (duo u v) W5 (hrd3.below HBD.out rfl) HRL.out (rowsB (xss.length + 1) (hung xss.length (minus e k l) (duo u v))) true
      (.inr ⟨minus e k l, by rw [rowsB_length]; exact HV.out.1, by rw [rowsB_length], ⟨okB_adj HV.out.1, by rw [rowsB_length]; exact HV.out.2, by rw [rowsB_length]; exact h16⟩, by rw [rowsB_length], rfl⟩))
    clear hco h16
    go_wp2_with fail
    refine HAV.out.mono ?_
    rintro e1 w6 ⟨u6, us, rfl, hG6, hb6⟩
    obtain ⟨ua, uc, rfl⟩ := owns_shape hG6.outer
    have hb16 := HBD.out.trans (hb6.mono HBD.out.size)
    have HF := Lib.hid (GRes.put (b := B + 1) hB hb (by omega) (by have := VR.lt; omega) (hG6.rebase HBD.out.size) hb16 true)
    replace VR := VR.upd (Upd.of_below hb16) (by omega)
    have HCE := Lib.hid (VR.set (.slice ua us.length uc)).cell
    clear hG6 hb6 hb16 HAV VO
    have hcr := VR.cell
    have hfr := VR.free
    go_wp2_with fail
    refine ⟨fun h => by simp at h, ?_⟩
    refine wpAnyG_mid [9, 10] 2 #[true, true, true, true, true, true, true, true, true, true, true, false, false] rfl (by kernel_rfl) (by kernel_rfl) (by kernel_rfl) (fun _ _ d _ _ h => by cases d <;> exact h) (fun h => by simp at h) ?_
    simp only [pickOps, List.filterMap_cons, List.filterMap_nil, List.getElem?_cons_succ, List.getElem?_cons_zero]
    repeat quiet_step (fail)
    simp only [wpQuiet_nil_eq]
    refine wpAnyG_tail [11, 12] rfl (.inl (by kernel_rfl)) (by kernel_rfl) ?_
    simp only [pickOps, List.filterMap_cons, List.filterMap_nil, List.getElem?_cons_succ, List.getElem?_cons_zero]
    go_wp2_with fail
    refine bodyPost_ret (v := .tuple #[.agg #[.slice ua us.length uc], .bool true]) (by simp [results, Tryd.results32, go_sem, HCE.out]) rfl ?_
    exact HF.out
end Go.Proofs.YtikcooagdaghnaaDoor
