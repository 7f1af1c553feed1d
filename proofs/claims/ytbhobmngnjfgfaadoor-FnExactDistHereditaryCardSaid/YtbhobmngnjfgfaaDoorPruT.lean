/-
  'l1Same', 'l18Goes' of the reference.
-/
import Derived.Test.YtbhobmngnjfgfaaDoorPruS
import Derived.Test.YtbhobmngnjfgfaaDoorSameG
namespace Go.Proofs.YtbhobmngnjfgfaaDoor
open Go.RowKit

theorem cast_zero (m : Nat) : ((m : Int) == 0) = decide (m = 0) := by
  rw [Bool.eq_iff_iff, beq_iff_eq, decide_eq_true_eq]
  omega
/-- A graph that is valid, as it is read. -/
structure Gr (n : Nat) (e : Nat → Nat → Bool) (xss : List (List Int)) : Prop where
  adj : Adj n e
  len : xss.length = n
  at' : ∀ u, u < n → xss[u]? = some (rowB n (e u))
theorem RdSS.rowIs {a : Option Addr} {k c : Nat} {xss : List (List Int)} {w : World} (hr : RdSS (.slice a k c) xss w) {v : Nat} {xs : List Int} (hx : xss[v]? = some xs) :
    ∃ rb ro ra rc, a = some ⟨rb, ro, none⟩ ∧ w.cell? ⟨rb, ro + v, none⟩ = some (.slice ra xs.length rc) ∧ RdS (.slice ra xs.length rc) xs w := by
  obtain ⟨vs, hG⟩ := hr.ex
  obtain ⟨rb, ro, rv, ys, rfl, hcr, hyr, -, HYY⟩ := hG.intsAt (k := v) (List.getElem?_eq_some_iff.1 hx).1
  obtain rfl : ys = xs := by have h1 := HYY.out; rw [hx] at h1; exact (Option.some.inj h1).symm
  obtain ⟨ra, rc, rfl, -, -, -⟩ := id hyr
  exact ⟨rb, ro, ra, rc, rfl, hcr, hyr⟩

set_option maxHeartbeats 2000000 in
theorem goesAlone (g : Value) (n : Nat) (e : Nat → Nat → Bool) (S : Nat → Bool) (xss : List (List Int)) (hg : Gr n e xss) (v : Nat) (hv : v < n) (vl : Value) (w : World) (hr : RdSS g xss w) (hl : RdS vl (rowB n S) w) :
    Calls Tryd.prog 198 #[.agg #[g], vl, .agg #[.int .i64 v, .int .i64 (-1), .int .i64 1]] w fun e' w' => e' = .returned (.bool (aloneB n e S v)) ∧ Below w.heap.size w w' := by
  obtain ⟨a, c, rfl⟩ := hr.shape
  obtain ⟨B, hB⟩ : ∃ B, w.heap.size = B := ⟨_, rfl⟩
  obtain ⟨W0, hW0⟩ : ∃ W0, W0 = (w.alloc (.cells #[.slice a xss.length c] 56)).alloc (.cells #[.int .i64 v, .int .i64 (-1), .int .i64 1] 175) := ⟨_, rfl⟩
  have u0 : Below B w W0 := by rw [hW0]; exact ((Below.refl _ _ : Below B w w).alloc (by omega) _).alloc (by simp; omega) _
  have VG : VC 56 B #[.slice a xss.length c] W0 := by rw [hW0]; exact (VC.new hB).upd (Upd.alloc _ _) (by omega)
  have VP : VC 175 (B + 1) #[.int .i64 v, .int .i64 (-1), .int .i64 1] W0 := by rw [hW0]; exact VC.new (by simp [hB])
  have hz0 : W0.heap.size = B + 2 := by rw [hW0]; simp [hB]
  have hrl : (rowB n (e v)).length ≤ 1000000 := by have := rowB_length n (e v); have := hg.adj.le; omega
  have CN := Lib.hid (near_any _ xss vl (rowB n S) (rowB n (e v)) v (-1) (hg.at' v hv) hrl W0 (hr.below u0 hB) (RdS.below hl u0 hB))
  obtain ⟨la, lc, rfl, -, -, -⟩ := id hl
  have hcg := VG.cell
  obtain ⟨p0, p1, p2⟩ := VP.at3
  obtain ⟨q, hq⟩ : ∃ q, aloneB n e S v = q := ⟨_, rfl⟩
  have hq2 := near_alone (n := n) (e := e) (S := S) (v := v)
  rw [← cast_zero, hq] at hq2
  rw [nearL_all] at CN
  rw [hq]
  obtain ⟨L, hL⟩ : ∃ L, (rowB n fun u => e v u && S u) = L := ⟨_, rfl⟩
  rw [hL] at hq2 CN
  clear hL hq hrl hr hl hg
  go_enter Tryd.func198, Tryd.ntmps198
  go_wp2_with fail
  rw [← hW0]
  clear hW0
  refine CN.out.mono ?_
  rintro e1 w1 ⟨u, rfl, ho, hb1⟩
  obtain ⟨ua, uc, rfl⟩ := owns_shape ho
  have hb01 := u0.trans (hb1.mono (by omega))
  have VP1 := VP.belowAt hb1 (by omega)
  clear hcg p0 p1 p2 CN VG VP ho
  obtain ⟨p0, p1, p2⟩ := VP1.at3
  go_wp2_with fail
  go_ret
  exact ⟨rfl, by rw [hB]; exact hb01⟩

set_option maxHeartbeats 4000000 in
theorem goesWith (g : Value) (n : Nat) (e : Nat → Nat → Bool) (S : Nat → Bool) (xss : List (List Int)) (hg : Gr n e xss) (v : Nat) (hv : v < n) (vl : Value) (b k : Nat) (hb : b < n) (hSb : S b = true) (hk : k = 2 ∨ k = 3 ∨ k = 4) (K : Int) (hK : K = k) (w : World) (hr : RdSS g xss w) (hl : RdS vl (rowB n S) w) :
    Calls Tryd.prog 198 #[.agg #[g], vl, .agg #[.int .i64 v, .int .i64 b, .int .i64 K]] w fun e' w' => e' = .returned (.bool (goB n e S v b k)) ∧ Below w.heap.size w w' := by
  obtain ⟨a, c, rfl⟩ := hr.shape
  obtain ⟨B, hB⟩ : ∃ B, w.heap.size = B := ⟨_, rfl⟩
  obtain ⟨W0, hW0⟩ : ∃ W0, W0 = (w.alloc (.cells #[.slice a xss.length c] 56)).alloc (.cells #[.int .i64 v, .int .i64 b, .int .i64 K] 175) := ⟨_, rfl⟩
  have u0 : Below B w W0 := by rw [hW0]; exact ((Below.refl _ _ : Below B w w).alloc (by omega) _).alloc (by simp; omega) _
  have VG : VC 56 B #[.slice a xss.length c] W0 := by rw [hW0]; exact (VC.new hB).upd (Upd.alloc _ _) (by omega)
  have VP : VC 175 (B + 1) #[.int .i64 v, .int .i64 b, .int .i64 K] W0 := by rw [hW0]; exact VC.new (by simp [hB])
  have hz0 : W0.heap.size = B + 2 := by rw [hW0]; simp [hB]
  have hn16 := hg.adj.le
  have hrl : ∀ u, (rowB n (e u)).length ≤ 1000000 := fun u => by have := rowB_length n (e u); omega
  have hxl := hg.len
  have CN := Lib.hid (near_any _ xss vl (rowB n S) (rowB n (e v)) v b (hg.at' v hv) (hrl v) W0 (hr.below u0 hB) (RdS.below hl u0 hB))
  have CM : Hid (∀ W, Below B w W → Calls Tryd.prog 212 #[.agg #[.slice a xss.length c], vl, .int .i64 b, .int .i64 v] W (SRes W (rowB n fun u => e b u && S u && decide (u ≠ v)))) :=
    Lib.hid fun W hW => by rw [← nearL_but]; exact near_any _ xss vl (rowB n S) (rowB n (e b)) b v (hg.at' b hb) (hrl b) W (hr.below hW hB) (RdS.below hl hW hB)
  have CH : Hid (∀ W, Below B w W → Calls Tryd.prog 161 #[vl, .int .i64 b] W fun e' w' => e' = .returned (.bool true) ∧ W = w') := Lib.hid fun W hW => by
    refine (has_any vl (rowB n S) b W (RdS.below hl hW hB)).mono ?_
    rintro e' w' ⟨rfl, rfl⟩
    exact ⟨ret_bool (by rw [contains_rowB]; simp [hb, hSb]), rfl⟩
  have HROW : Hid (∀ W, Below B w W → ∃ rb ro ra rc, a = some ⟨rb, ro, none⟩ ∧ W.cell? ⟨rb, ro + v, none⟩ = some (.slice ra (rowB n (e v)).length rc) ∧ RdS (.slice ra (rowB n (e v)).length rc) (rowB n (e v)) W) := Lib.hid fun W hW => (hr.below hW hB).rowIs (hg.at' v hv)
  have HCO : Hid ((rowB n (e v)).contains (b : Int) = e v b) := Lib.hid (by rw [contains_rowB]; simp [hb])
  obtain ⟨la, lc, rfl, -, -, -⟩ := id hl
  have hcg := VG.cell
  obtain ⟨p0, p1, p2⟩ := VP.at3
  obtain ⟨qp, hqp⟩ : ∃ q, penB n e S v b = q := ⟨_, rfl⟩
  obtain ⟨qt, hqt⟩ : ∃ q, twinB n e S v b = q := ⟨_, rfl⟩
  obtain ⟨qe, hqe⟩ : ∃ q, e v b = q := ⟨_, rfl⟩
  have hpen := near_pen (n := n) (e := e) (S := S) (v := v) (b := b)
  rw [← cast_zero, hqp] at hpen
  have htw := near_twin (n := n) (e := e) (S := S) (v := v) (b := b)
  rw [hqt] at htw
  rw [nearL_but] at CN
  rw [hqe] at HCO
  have HGO : Hid (goB n e S v b k = (decide (b ≠ v) && (if k = 2 then qe && qp else if k = 3 then !qe && qt else qe && qt))) := Lib.hid (by unfold goB; rw [hSb, hqp, hqt, hqe, Bool.and_true])
  obtain ⟨L1, hL1⟩ : ∃ L, (rowB n fun u => e v u && S u && decide (u ≠ b)) = L := ⟨_, rfl⟩
  obtain ⟨L2, hL2⟩ : ∃ L, (rowB n fun u => e b u && S u && decide (u ≠ v)) = L := ⟨_, rfl⟩
  rw [hL1] at hpen htw CN
  rw [hL2] at htw CM
  obtain ⟨R, hR⟩ : ∃ R, rowB n (e v) = R := ⟨_, rfl⟩
  rw [hR] at HROW HCO
  have HTW := Lib.hid htw
  have hk1 : (K == 1) = false := by rw [beq_eq_false_iff_ne]; omega
  have hvx : v < xss.length := by omega
  have HKK := Lib.hid hK
  clear hxl hK
  clear hL1 hL2 hqp hqt hqe hrl hr hl hg htw hR hSb
  go_enter Tryd.func198, Tryd.ntmps198
  go_wp2_with fail
  rw [← hW0]
  clear hW0
  refine CN.out.mono ?_
  rintro e1 w1 ⟨u, rfl, ho, hb1⟩
  obtain ⟨ua, uc, rfl⟩ := owns_shape ho
  have hb01 := u0.trans (hb1.mono (by omega))
  have hRu : RdS (.slice ua L1.length uc) L1 w1 := Row.of_owns ho
  have HRU := Lib.hid hRu
  have VP1 := VP.belowAt hb1 (by omega)
  have VG1 := VG.belowAt hb1 (by omega)
  have hz1 : B + 2 ≤ w1.heap.size := by have := hb1.size; omega
  clear hcg p0 p1 p2 CN VG VP ho hRu hb1 u0
  obtain ⟨p0, p1, p2⟩ := VP1.at3
  have hcg := VG1.cell
  by_cases hbv : b = v
  · have hd : ((b : Int) == (v : Int)) = true := by rw [beq_iff_eq]; omega
    have HBV := Lib.hid hbv
    clear hbv
    go_wp2_with fail
    go_ret
    exact ⟨ret_bool (by rw [HGO.out]; simp [HBV.out]), by rw [hB]; exact hb01⟩
  · have hd : ((b : Int) == (v : Int)) = false := by rw [beq_eq_false_iff_ne]; omega
    have HBV : Hid (decide (b ≠ v) = true) := Lib.hid (by simpa using hbv)
    clear hbv
    go_wp2_with fail
    refine (CH.out w1 hb01).mono ?_
    rintro e1 w' ⟨rfl, rfl⟩
    obtain ⟨rb, ro, ra, rc, rfl, hcr, hrr⟩ := HROW.out w1 hb01
    have HC := Lib.hid (has_any _ R b w1.drew (RdS.below hrr (B := w1.heap.size) ((Below.refl _ _).drew) rfl))
    rw [HCO.out] at HC
    clear CH hrr HROW
    go_wp2_with fail
    refine wp_region_ord [0, 2, 6] [1, 3, 4, 5, 7] [] [8, 9] (by kernel_rfl) (by kernel_rfl) (fun _ _ d _ _ h => by cases d <;> exact h) ?_
    simp only [pickOps, List.filterMap_cons, List.filterMap_nil, List.getElem?_cons_succ, List.getElem?_cons_zero]
    repeat quiet_step (fail)
    simp only [wpQuiet_nil_eq, wpSegs_nil_eq]
    go_wp2_with fail
    refine HC.out.mono ?_
    rintro e1 w' ⟨rfl, rfl⟩
    have hb01d : Below B w w1.drew := hb01.drew
    have hcg' : w1.drew.cell? ⟨B, 0, none⟩ = some (.slice (some ⟨rb, ro, none⟩) xss.length c) := hcg
    have p0' : w1.drew.cell? ⟨B + 1, 0, none⟩ = some (.int .i64 v) := p0
    have p1' : w1.drew.cell? ⟨B + 1, 1, none⟩ = some (.int .i64 b) := p1
    have p2' : w1.drew.cell? ⟨B + 1, 2, none⟩ = some (.int .i64 K) := p2
    have HRU2 : Hid (RdS (.slice ua L1.length uc) L1 w1.drew) := Lib.hid (RdS.below HRU.out (B := w1.heap.size) ((Below.refl _ _).drew) rfl)
    have hzd : w1.drew.heap.size = w1.heap.size := rfl
    clear p0 p1 p2 hcg HC HRU hb01 VP1 VG1 hcr HCO
    generalize w1.drew = W1 at *
    rcases hk with rfl | rfl | rfl
    · obtain rfl : K = 2 := by have := HKK.out; omega
      have HG : Hid (goB n e S v b 2 = (qe && qp)) := Lib.hid (by rw [HGO.out, HBV.out, if_pos rfl, Bool.true_and])
      clear HGO HBV
      cases qe with
      | false =>
        go_wp2_with fail
        go_ret
        exact ⟨ret_bool (by rw [HG.out]; rfl), by rw [hB]; exact hb01d⟩
      | true =>
        go_wp2_with fail
        go_ret
        exact ⟨ret_bool (by rw [HG.out, Bool.true_and]), by rw [hB]; exact hb01d⟩
    · obtain rfl : K = 3 := by have := HKK.out; omega
      have HG : Hid (goB n e S v b 3 = (!qe && qt)) := Lib.hid (by rw [HGO.out, HBV.out, if_neg (by decide), if_pos rfl, Bool.true_and])
      clear HGO HBV
      cases qe with
      | true =>
        go_wp2_with fail
        go_ret
        exact ⟨ret_bool (by rw [HG.out]; rfl), by rw [hB]; exact hb01d⟩
      | false =>
        go_wp2_with fail
        refine (CM.out W1 hb01d).mono ?_
        rintro e1 w2 ⟨u2, rfl, ho2, hb2⟩
        obtain ⟨va, vc, rfl⟩ := owns_shape ho2
        have hb02 := hb01d.trans (hb2.mono (by omega))
        have HS := Lib.hid (sameI_any _ _ L1 L2 w2 (RdS.below HRU2.out hb2 rfl) (Row.of_owns ho2))
        rw [HTW.out] at HS
        clear ho2 hb2
        go_wp2_with fail
        refine HS.out.mono ?_
        rintro e1 w3 ⟨rfl, hb3⟩
        have hb03 := hb02.trans (hb3.mono (by have := hb02.size; omega))
        clear hb3 HS
        go_wp2_with fail
        go_ret
        exact ⟨ret_bool (by rw [HG.out]; simp), by rw [hB]; exact hb03⟩
    · obtain rfl : K = 4 := by have := HKK.out; omega
      have HG : Hid (goB n e S v b 4 = (qe && qt)) := Lib.hid (by rw [HGO.out, HBV.out, if_neg (by decide), if_neg (by decide), Bool.true_and])
      clear HGO HBV
      cases qe with
      | false =>
        go_wp2_with fail
        go_ret
        exact ⟨ret_bool (by rw [HG.out]; rfl), by rw [hB]; exact hb01d⟩
      | true =>
        go_wp2_with fail
        refine (CM.out W1 hb01d).mono ?_
        rintro e1 w2 ⟨u2, rfl, ho2, hb2⟩
        obtain ⟨va, vc, rfl⟩ := owns_shape ho2
        have hb02 := hb01d.trans (hb2.mono (by omega))
        have HS := Lib.hid (sameI_any _ _ L1 L2 w2 (RdS.below HRU2.out hb2 rfl) (Row.of_owns ho2))
        rw [HTW.out] at HS
        clear ho2 hb2
        go_wp2_with fail
        refine HS.out.mono ?_
        rintro e1 w3 ⟨rfl, hb3⟩
        have hb03 := hb02.trans (hb3.mono (by have := hb02.size; omega))
        clear hb3 HS
        go_wp2_with fail
        go_ret
        exact ⟨ret_bool (by rw [HG.out]; simp), by rw [hB]; exact hb03⟩
end Go.Proofs.YtbhobmngnjfgfaaDoor
