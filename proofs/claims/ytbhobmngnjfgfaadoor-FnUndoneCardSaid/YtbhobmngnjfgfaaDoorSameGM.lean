import Derived.Test.YtbhobmngnjfgfaaDoorGq09
/-
  'SameGraph' of the reference and of the program.
-/

namespace Go.Proofs.YtbhobmngnjfgfaaDoor
open Go.RowKit

set_option maxHeartbeats 400000 in
theorem sameI_any (v1 v2 : Value) (xs ys : List Int) (w : World) (h1 : Row w 1 v1 xs.length (ints xs)) (h2 : Row w 1 v2 ys.length (ints ys)) :
    Calls Tryd.prog 213 #[v1, v2] w fun e w' => e = .returned (.bool (decide (xs = ys))) ∧ Below w.heap.size w w' := by
  have hl := h1.len
  have hl2 := h2.len
  unfold maxLen at hl hl2
  obtain ⟨a1, c1, rfl, -, -, -⟩ := id h1
  obtain ⟨a2, c2, rfl, -, -, -⟩ := id h2
  by_cases hlen : xs.length = ys.length
  · have hb : ((xs.length : Int) != ys.length) = false := by simp [hlen]
    have HL := Lib.hid hlen
    clear hlen
    go_enter Tryd.func213, Tryd.ntmps213
    go_wp2_with fail
    go_loopw [5] (fun i wr => ∃ k : Nat, k ≤ xs.length ∧ i = .int .i64 k ∧ xs.take k = ys.take k ∧ Below w.heap.size w wr) (fun i _ => xs.length - (intOf i).toNat)
    case atStart => exact ⟨0, Nat.zero_le _, rfl, rfl, Below.refl _ _⟩
    case round =>
      obtain ⟨k, hk, rfl, heq, hbel⟩ := hrel
      have HE := Lib.hid heq
      clear heq
      by_cases hlt : k < xs.length
      · have hlt2 : k < ys.length := by have := HL.out; omega
        obtain ⟨b, o, x, rfl, hc, HX⟩ := (h1.below hbel).intAt hlt
        obtain ⟨b', o', y, rfl, hc', HY⟩ := (h2.below hbel).intAt hlt2
        by_cases hxy : x = y
        · have hn : (x != y) = false := by simp [hxy]
          have HXY := Lib.hid hxy
          clear hxy
          go_wp2_with fail
          refine wp_region_ord [0, 1, 2, 4, 5, 6] [3, 7, 8] [] [] (by kernel_rfl) (by kernel_rfl) (fun _ _ d _ _ h => by cases d <;> exact h) ?_
          simp only [pickOps, List.filterMap_cons, List.filterMap_nil, List.getElem?_cons_succ, List.getElem?_cons_zero]
          repeat quiet_step (fail)
          simp only [wpQuiet_nil_eq, wpSegs_nil_eq]
          go_wp2_with fail
          go_roundw
          case rel => exact ⟨k + 1, by omega, by go_num, by rw [take_snoc HX.out, take_snoc HY.out, HE.out, HXY.out], hbel.drew⟩
          case measure => simp [intOf]; omega
        · have hn : (x != y) = true := by simpa using hxy
          go_wp2_with fail
          refine wp_region_ord [0, 1, 2, 4, 5, 6] [3, 7, 8] [] [] (by kernel_rfl) (by kernel_rfl) (fun _ _ d _ _ h => by cases d <;> exact h) ?_
          simp only [pickOps, List.filterMap_cons, List.filterMap_nil, List.getElem?_cons_succ, List.getElem?_cons_zero]
          repeat quiet_step (fail)
          simp only [wpQuiet_nil_eq, wpSegs_nil_eq]
          go_wp2_with fail
          go_ret
          refine ⟨ret_bool (by rw [Bool.eq_iff_iff]; simp; intro e; subst e; have h1 := HX.out; rw [HY.out] at h1; exact hxy (Option.some.inj h1).symm), hbel.drew⟩
      · go_wp2_with fail
        go_ret
        refine ⟨ret_bool (by rw [Bool.eq_iff_iff]; simp; have := HE.out; rwa [List.take_of_length_le (by omega), List.take_of_length_le (by have := HL.out; omega)] at this), hbel⟩
  · have hb : ((xs.length : Int) != ys.length) = true := by simp; omega
    go_enter Tryd.func213, Tryd.ntmps213
    go_wp2_with fail
    go_ret
    exact ⟨ret_bool (by rw [Bool.eq_iff_iff]; simp; intro e; subst e; exact hlen rfl), Below.refl _ _⟩
set_option maxHeartbeats 400000 in
theorem equalI_any (v1 v2 : Value) (xs ys : List Int) (w : World) (h1 : Row w 1 v1 xs.length (ints xs)) (h2 : Row w 1 v2 ys.length (ints ys)) :
    Calls Tryd.prog 135 #[v1, v2] w fun e w' => e = .returned (.bool (decide (xs = ys))) ∧ Below w.heap.size w w' := by
  have hl := h1.len
  have hl2 := h2.len
  unfold maxLen at hl hl2
  obtain ⟨a1, c1, rfl, -, -, -⟩ := id h1
  obtain ⟨a2, c2, rfl, -, -, -⟩ := id h2
  by_cases hlen : xs.length = ys.length
  · have hb : ((xs.length : Int) != ys.length) = false := by simp [hlen]
    have HL := Lib.hid hlen
    clear hlen
    go_enter Tryd.func135, Tryd.ntmps135
    go_wp2_with fail
    go_loopw [13] (fun i wr => ∃ k : Nat, k ≤ xs.length ∧ i = .int .i64 k ∧ xs.take k = ys.take k ∧ Below w.heap.size w wr) (fun i _ => xs.length - (intOf i).toNat)
    case atStart => exact ⟨0, Nat.zero_le _, rfl, rfl, Below.refl _ _⟩
    case round =>
      obtain ⟨k, hk, rfl, heq, hbel⟩ := hrel
      have HE := Lib.hid heq
      clear heq
      by_cases hlt : k < xs.length
      · have hlt2 : k < ys.length := by have := HL.out; omega
        obtain ⟨b, o, x, rfl, hc, HX⟩ := (h1.below hbel).intAt hlt
        obtain ⟨b', o', y, rfl, hc', HY⟩ := (h2.below hbel).intAt hlt2
        by_cases hxy : x = y
        · have hn : (x != y) = false := by simp [hxy]
          have HXY := Lib.hid hxy
          clear hxy
          go_wp2_with fail
          refine wp_region_ord [0, 1, 2, 4, 5, 6] [3, 7, 8] [] [] (by kernel_rfl) (by kernel_rfl) (fun _ _ d _ _ h => by cases d <;> exact h) ?_
          simp only [pickOps, List.filterMap_cons, List.filterMap_nil, List.getElem?_cons_succ, List.getElem?_cons_zero]
          repeat quiet_step (fail)
          simp only [wpQuiet_nil_eq, wpSegs_nil_eq]
          go_wp2_with fail
          go_roundw
          case rel => exact ⟨k + 1, by omega, by go_num, by rw [take_snoc HX.out, take_snoc HY.out, HE.out, HXY.out], hbel.drew⟩
          case measure => simp [intOf]; omega
        · have hn : (x != y) = true := by simpa using hxy
          go_wp2_with fail
          refine wp_region_ord [0, 1, 2, 4, 5, 6] [3, 7, 8] [] [] (by kernel_rfl) (by kernel_rfl) (fun _ _ d _ _ h => by cases d <;> exact h) ?_
          simp only [pickOps, List.filterMap_cons, List.filterMap_nil, List.getElem?_cons_succ, List.getElem?_cons_zero]
          repeat quiet_step (fail)
          simp only [wpQuiet_nil_eq, wpSegs_nil_eq]
          go_wp2_with fail
          go_ret
          refine ⟨ret_bool (by rw [Bool.eq_iff_iff]; simp; intro e; subst e; have h1 := HX.out; rw [HY.out] at h1; exact hxy (Option.some.inj h1).symm), hbel.drew⟩
      · go_wp2_with fail
        go_ret
        refine ⟨ret_bool (by rw [Bool.eq_iff_iff]; simp; have := HE.out; rwa [List.take_of_length_le (by omega), List.take_of_length_le (by have := HL.out; omega)] at this), hbel⟩
  · have hb : ((xs.length : Int) != ys.length) = true := by simp; omega
    go_enter Tryd.func135, Tryd.ntmps135
    go_wp2_with fail
    go_ret
    exact ⟨ret_bool (by rw [Bool.eq_iff_iff]; simp; intro e; subst e; exact hlen rfl), Below.refl _ _⟩

theorem map_take {xss yss : List (List Int)} {k : Nat} (h : xss.take k = yss.take k) {xs ys : List Int} (hx : xss[k]? = some xs) (hy : yss[k]? = some ys) (he : xs = ys) : xss.take (k + 1) = yss.take (k + 1) := by
  rw [take_snoc hx, take_snoc hy, h, he]

theorem RdSS.rowAtL' {xss : List (List Int)} {w : World} {a : Option Addr} {n c : Nat} (h : RdSS (.slice a n c) xss w) {j : Nat} (hj : j < xss.length) :
    ∃ b o ra rc xs, a = some ⟨b, o, none⟩ ∧ w.cell? ⟨b, o + j, none⟩ = some (.slice ra xs.length rc) ∧ Row w 1 (.slice ra xs.length rc) xs.length (ints xs) ∧ Hid (xss[j]? = some xs) := by
  obtain ⟨vsr, hG⟩ := h.ex
  obtain ⟨rb, ro, r, xs, rfl, hc, hxr, -, HXX⟩ := hG.intsAt (k := j) hj
  obtain ⟨ra, rc, rfl, -, -, -⟩ := id hxr
  exact ⟨rb, ro, ra, rc, xs, rfl, hc, hxr, HXX⟩

set_option maxHeartbeats 2000000 in
theorem equalFunc_any (v1 v2 : Value) (xss yss : List (List Int)) (w : World) (h1 : RdSS v1 xss w) (h2 : RdSS v2 yss w) (b : Bool) (hb : decide (xss = yss) = b) :
    Calls Tryd.prog 134 #[v1, v2, .func (.func 135) #[] #[]] w fun e w' => e = .returned (.bool b) ∧ Below w.heap.size w w' := by
  obtain ⟨a1, c1, rfl⟩ := h1.shape
  obtain ⟨a2, c2, rfl⟩ := h2.shape
  have hl1 : xss.length ≤ maxLen := (let ⟨_, h⟩ := h1.ex; by have := h.outer.len; have := h.len; simp at *; omega)
  unfold maxLen at hl1
  obtain ⟨B, hB⟩ : ∃ B, w.heap.size = B := ⟨_, rfl⟩
  have HB := Lib.hid hb
  clear hb
  by_cases hlen : xss.length = yss.length
  case neg =>
    have hd : ((xss.length : Int) != yss.length) = true := by rw [bne_iff_ne]; omega
    have HF : Hid (b = false) := Lib.hid (by rw [← HB.out]; exact decide_eq_false fun h => hlen (by rw [h]))
    clear hlen
    go_enter Tryd.func134, Tryd.ntmps134
    go_wp2_with fail
    go_ret
    exact ⟨ret_bool HF.out.symm, Below.refl _ _⟩
  case pos =>
    have hd : ((xss.length : Int) != yss.length) = false := by simp [hlen]
    have HL := Lib.hid hlen
    have hbr : Below B w w := Below.refl _ _
    clear hlen
    go_enter Tryd.func134, Tryd.ntmps134
    go_wp2_with fail
    go_loopw [17] (fun i wr => ∃ k : Nat, k ≤ xss.length ∧ i = .int .i64 k ∧ Hid (xss.take k = yss.take k) ∧ Below B w wr) (fun i _ => xss.length - (intOf i).toNat)
    case atStart => exact ⟨0, Nat.zero_le _, rfl, Lib.hid (by simp), hbr⟩
    case round =>
      clear hbr
      obtain ⟨k, hk, rfl, HK, hb⟩ := hrel
      have hsz := hb.size
      by_cases hlt : k < xss.length
      · have hlt2 : k < yss.length := by have := HL.out; omega
        obtain ⟨b1, o1, r1, q1, xs, rfl, hc1, hx1, HX⟩ := RdSS.rowAtL' (h1.below hb hB) hlt
        obtain ⟨b2, o2, r2, q2, ys, rfl, hc2, hy1, HY⟩ := RdSS.rowAtL' (h2.below hb hB) hlt2
        obtain ⟨q, hq⟩ : ∃ q, decide (xs = ys) = q := ⟨_, rfl⟩
        have HC := Lib.hid (equalI_any _ _ xs ys wr hx1 hy1)
        rw [hq] at HC
        have HQ := Lib.hid hq
        clear hq hx1 hy1
        go_wp2_with fail
        refine HC.out.mono ?_
        rintro e1 w1 ⟨rfl, hb1⟩
        have hb2 := hb.trans (hb1.mono (by omega))
        clear hb1 hb HC hc1 hc2
        cases q with
        | true =>
          have HN := Lib.hid (map_take HK.out HX.out HY.out (of_decide_eq_true HQ.out))
          go_wp2_with fail
          go_roundw
          case rel => exact ⟨k + 1, by omega, by go_num, HN, hb2⟩
          case measure => simp [intOf]; omega
        | false =>
          have HF : Hid (b = false) := Lib.hid (by
            rw [← HB.out]
            refine decide_eq_false fun h => of_decide_eq_false HQ.out ?_
            subst h
            have := HX.out.symm.trans HY.out
            exact Option.some.inj this)
          go_wp2_with fail
          go_ret
          exact ⟨ret_bool HF.out.symm, by rw [hB]; exact hb2⟩
      · obtain rfl : k = xss.length := by omega
        have HF : Hid (b = true) := Lib.hid (by
          rw [← HB.out]
          have h := HK.out
          rw [List.take_length, HL.out, List.take_length] at h
          exact decide_eq_true h)
        go_wp2_with fail
        go_ret
        exact ⟨ret_bool HF.out.symm, by rw [hB]; exact hb⟩

def sameB (xss yss : List (List Int)) : Bool := okB xss && (okB yss && decide (xss = yss))

set_option maxHeartbeats 1000000 in
theorem implSame (v1 v2 : Value) (xss yss : List (List Int)) (w : World) (h1 : RdSS v1 xss w) (h2 : RdSS v2 yss w) (b : Bool) (hb : sameB xss yss = b) :
    Calls Tryd.prog 57 #[.agg #[v1], .agg #[v2]] w fun e w' => e = .returned (.bool b) ∧ Below w.heap.size w w' := by
  obtain ⟨a1, c1, rfl⟩ := h1.shape
  obtain ⟨a2, c2, rfl⟩ := h2.shape
  obtain ⟨B, hB⟩ : ∃ B, w.heap.size = B := ⟨_, rfl⟩
  obtain ⟨W0, hW0⟩ : ∃ W0, W0 = (w.alloc (.cells #[.slice a1 xss.length c1] 56)).alloc (.cells #[.slice a2 yss.length c2] 56) := ⟨_, rfl⟩
  have u0 : Below B w W0 := by rw [hW0]; exact ((Below.refl _ _ : Below B w w).alloc (by omega) _).alloc (by simp; omega) _
  have V1 : VC 56 B #[.slice a1 xss.length c1] W0 := by rw [hW0]; exact (VC.new hB).upd (Upd.alloc _ _) (by omega)
  have V2 : VC 56 (B + 1) #[.slice a2 yss.length c2] W0 := by rw [hW0]; exact VC.new (by simp [hB])
  have hg1 := V1.cell
  have hg2 := V2.cell
  have hz0 : W0.heap.size = B + 2 := by rw [hW0]; simp [hB]
  obtain ⟨q1, hq1⟩ : ∃ q, okB xss = q := ⟨_, rfl⟩
  obtain ⟨q2, hq2⟩ : ∃ q, okB yss = q := ⟨_, rfl⟩
  obtain ⟨q3, hq3⟩ : ∃ q, decide (xss = yss) = q := ⟨_, rfl⟩
  have HB : Hid (b = (q1 && (q2 && q3))) := Lib.hid (by rw [← hb]; unfold sameB; rw [hq1, hq2, hq3])
  have C1 := Lib.hid (implOk _ xss W0 (h1.below u0 hB))
  rw [hq1] at C1
  have HQ3 := Lib.hid hq3
  have HQ2 := Lib.hid hq2
  clear hb hq1 hq2 hq3
  go_enter Tryd.func57, Tryd.ntmps57
  go_wp2_with fail
  rw [← hW0]
  clear hW0
  refine C1.out.mono ?_
  rintro e1 w1 ⟨rfl, hb1⟩
  have hb01 := u0.trans (hb1.mono (by omega))
  have V1' := V1.belowAt hb1 (by omega)
  have V2' := V2.belowAt hb1 (by omega)
  have hz1 : B + 2 ≤ w1.heap.size := by have := hb1.size; omega
  clear hg1 hg2 hb1 C1
  cases q1 with
  | false =>
    go_wp2_with fail
    go_ret
    exact ⟨ret_bool (by rw [HB.out]; rfl), by rw [hB]; exact hb01⟩
  | true =>
    have C2 := Lib.hid (implOk _ yss w1 (h2.below hb01 hB))
    rw [HQ2.out] at C2
    have hg2 := V2'.cell
    go_wp2_with fail
    refine C2.out.mono ?_
    rintro e1 w2 ⟨rfl, hb2⟩
    have hb02 := hb01.trans (hb2.mono (by omega))
    have hg1 := (V1'.belowAt hb2 (by omega)).cell
    have hg2' := (V2'.belowAt hb2 (by omega)).cell
    have hz2 : B + 2 ≤ w2.heap.size := by have := hb2.size; omega
    clear hb2 C2 hg2
    cases q2 with
    | false =>
      go_wp2_with fail
      go_ret
      exact ⟨ret_bool (by rw [HB.out]; rfl), by rw [hB]; exact hb02⟩
    | true =>
      have C3 := Lib.hid (equalFunc_any _ _ xss yss w2 (h1.below hb02 hB) (h2.below hb02 hB) q3 HQ3.out)
      go_wp2_with fail
      refine C3.out.mono ?_
      rintro e1 w3 ⟨rfl, hb3⟩
      have hb03 := hb02.trans (hb3.mono (by omega))
      clear hb3
      go_wp2_with fail
      go_ret
      exact ⟨ret_bool (by rw [HB.out]; rfl), by rw [hB]; exact hb03⟩

end Go.Proofs.YtbhobmngnjfgfaaDoor
