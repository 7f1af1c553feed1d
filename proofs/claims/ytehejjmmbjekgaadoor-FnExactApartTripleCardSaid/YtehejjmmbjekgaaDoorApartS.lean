/-
  'l14Way' and 'ApartTriple' of the reference; both.
-/
import Derived.Test.YtehejjmmbjekgaaDoorWayM
namespace Go.Proofs.YtehejjmmbjekgaaDoor
open Go.RowKit

set_option maxHeartbeats 4000000 in
theorem way_any (g : Value) (n : Nat) (e : Nat → Nat → Bool) (hn : n ≤ 16) (x y q : Nat) (hx : x < n) (hy : y < n) (hq : q < n) (w : World) (hr : RdSS g (rowsB n e) w) (b : Bool) (hb : offWay n e x y q = b) :
    Calls Tryd.prog 108 #[.agg #[g], .int .i64 x, .int .i64 y, .int .i64 q] w fun r w' => r = .returned (.bool b) ∧ Below w.heap.size w w' := by
  obtain ⟨a, c, rfl⟩ := hr.shape
  rw [rowsB_length] at hr ⊢
  obtain ⟨B, hB⟩ : ∃ B, w.heap.size = B := ⟨_, rfl⟩
  obtain ⟨W0, hW0⟩ : ∃ W0, W0 = w.alloc (.cells #[.slice a n c] 24) := ⟨_, rfl⟩
  have hz0 : W0.heap.size = B + 1 := by simp [hW0, hB]
  have u0 : Below B w W0 := by rw [hW0, ← hB]; exact below_alloc' _ _
  have VG0 : VC 24 B #[.slice a n c] W0 := by rw [hW0]; exact VC.new hB
  have hcg := VG0.cell
  have HR : Hid (∀ W, Below B w W → RdSS (.slice a n c) (rowsB n e) W) := Lib.hid fun W h => hr.below h hB
  have hd0 : Below (B + 1) W0 W0.drew := (Below.refl _ _).drew
  have HIN := Lib.hid (inside_any (.slice a n c) n e hn q hq W0.drew (HR.out _ (u0.trans (hd0.mono (by omega)))))
  have HBB := Lib.hid hb
  clear hb
  go_enter Tryd.func108, Tryd.ntmps108
  go_wp2_with fail
  rw [← hW0]
  clear hW0
  refine wp_region_ord [2, 4, 5] [0, 1] [3] [6, 7, 8, 9] (by kernel_rfl) (by kernel_rfl) (fun _ _ d _ _ h => by cases d <;> exact h) ?_
  simp only [pickOps, List.filterMap_cons, List.filterMap_nil, List.getElem?_cons_succ, List.getElem?_cons_zero]
  repeat quiet_step (fail)
  simp only [wpQuiet_nil_eq]
  refine wpSegs_cons ?_
  go_wp2_with fail
  refine HIN.out.mono ?_
  rintro e1 w1 ⟨u, rfl, hL1, hb1⟩
  obtain ⟨la, lc, rfl⟩ := owns_shape hL1
  have hRL := Row.of_owns hL1
  have hz1 : W0.drew.heap.size = B + 1 := hz0
  rw [hz1] at hb1
  have hb01 := u0.trans ((hd0.trans hb1).mono (by omega))
  have HP := Lib.hid (path_any (.slice a n c) n e hn (.slice la (rowB n (offB e q)).length lc) (offB e q) x y hx hy w1 (HR.out _ hb01) hRL b (by rw [← HBB.out]; rfl))
  have HB1 : Hid (Below W0.heap.size W0 w1) := Lib.hid (by rw [hz0]; exact hd0.trans hb1)
  clear hcg HIN hL1
  go_wp2_with fail
  refine ⟨by first | exact HB1.out | exact hz0 ▸ HB1.out, wpSegs_nil ?_⟩
  go_wp2_with fail
  refine HP.out.mono ?_
  rintro e1 w2 ⟨pa, pl, pc, rfl, HL, hb2⟩
  have hb02 := hb01.trans (hb2.mono (by have := hb01.size; omega))
  go_wp2_with fail
  go_ret
  exact ⟨ret_bool HL.out.1, by rw [hB]; exact hb02⟩

theorem way_over {n : Nat} {e : Nat → Nat → Bool} (hn : n ≤ 16) (g : Value) (x y q : Nat) (hx : x < n) (hy : y < n) (hq : q < n) (w : World) (hr : RdSS g (rowsB n e) w) (b : Bool) (hb : offWay n e x y q = b) (m : More) :
    Calls Tryd.prog 108 #[.agg #[g], .int .i64 x, .int .i64 y, .int .i64 q] (over w m) fun r w' => r = .returned (.bool b) ∧ Below (over w m).heap.size (over w m) w' :=
  way_any g n e hn x y q hx hy hq _ (hr.below (below_over w m) rfl) b hb
theorem has_at {n : Nat} {e : Nat → Nat → Bool} {x y : Nat} (hy : y < n) (v : Value) (q : Bool) (hq : e x y = q) {w : World} (hr : Row w 1 v (rowB n (e x)).length (ints (rowB n (e x)))) :
    Calls Tryd.prog 102 #[v, .int .i64 y] w fun r w' => r = .returned (.bool q) ∧ w = w' := by
  refine (has_any v (rowB n (e x)) (y : Int) _ hr).mono ?_
  rintro r w' ⟨rfl, rfl⟩
  exact ⟨ret_bool (by rw [has_row hy]; exact hq), rfl⟩

set_option maxHeartbeats 8000000 in
set_option maxRecDepth 100000 in
theorem specApartTriple (g : Value) (xss : List (List Int)) (w : World) (hr : RdSS g xss w) (rs : List Int) (ok : Bool) (h : ApartRP xss rs ok) :
    Calls Tryd.prog 49 #[.agg #[g]] w (SBRes w rs ok) := by
  obtain ⟨a, c, rfl⟩ := hr.shape
  obtain ⟨B, hB⟩ : ∃ B, w.heap.size = B := ⟨_, rfl⟩
  have u1 : Below B w (w.alloc (.cells #[.slice a xss.length c] 24)) := by subst hB; exact below_alloc' _ _
  have VG0 : VC 24 B #[.slice a xss.length c] (w.alloc (.cells #[.slice a xss.length c] 24)) := VC.new hB
  have hz0 : (w.alloc (.cells #[.slice a xss.length c] 24)).heap.size = B + 1 := by simp [hB]
  have H := Lib.hid h
  have hcg := VG0.cell
  clear h
  go_enter Tryd.func49, Tryd.ntmps49
  go_wp2_with fail
  generalize w.alloc (.cells #[.slice a xss.length c] 24) = W at *
  refine (specOk _ xss W (hr.below u1 hB)).mono ?_
  rintro e1 w1 ⟨rfl, hb1⟩
  have VG1 := VG0.upd (Upd.of_below hb1) (by omega)
  have hb := u1.trans (hb1.mono (by omega))
  have hz1 : B + 1 ≤ w1.heap.size := by have := hb1.size; omega
  clear hb1 hcg u1
  have hcg := VG1.cell
  cases hok : okB xss with
  | false =>
    obtain ⟨rfl, rfl⟩ : rs = [] ∧ ok = false := by
      rcases H.out with ⟨_, h⟩ | ⟨e, hA, hx, _⟩
      · exact h
      · rw [hx, okB_adj hA] at hok; cases hok
    have ho0 := World.ownsRow_lit (base := B) (e := 2) (size := 1) w1 #[] 0 (by omega) (by simp [maxLen]) rfl
    clear hok
    go_wp2_with fail
    refine bodyPost_ret (v := .tuple #[.slice (some ⟨w1.heap.size, 0, none⟩) 0 0, .bool false]) (by simp [results, Tryd.results49, go_sem]) rfl ?_
    exact ⟨_, rfl, by rw [hB]; simpa [ints] using ho0, by rw [hB]; exact hb.alloc (by omega) _⟩
  | true =>
    obtain ⟨e, hA, hx, hcase⟩ : ∃ e, Adj xss.length e ∧ xss = rowsB xss.length e ∧ ApartC xss.length e rs ok := by
      rcases H.out with ⟨h, _⟩ | h
      · rw [hok] at h; cases h
      · exact h
    have hn16 := hA.le
    have HC := Lib.hid hcase
    have hr1 := hr.below hb hB
    rw [hx, rowsB_length] at hr1
    clear hok hx hcase H hA hr
    generalize xss.length = n at *
    have HA0 : Hid (A1 n e 0) := Lib.hid A1.start
    obtain ⟨C, hC⟩ : ∃ C, w1.heap.size = C := ⟨_, rfl⟩
    have hcl : Below C w1 w1 := Below.refl _ _
    have HRB : Hid (∀ W', Below C w1 W' → RdSS (.slice a n c) (rowsB n e) W') := Lib.hid fun W' hbW => hr1.below (hC ▸ hbW) rfl
    clear hr1
    go_wp2_with fail
    go_loopw [5] (fun i wr => ∃ x : Nat, x ≤ n ∧ i = .int .i64 x ∧ Hid (A1 n e x) ∧ Below C w1 wr) (fun i _ => n - (intOf i).toNat)
    case atStart => exact ⟨0, Nat.zero_le _, rfl, HA0, hcl⟩
    case round =>
      clear hcl HA0 hcg
      obtain ⟨x, hx, rfl, HA1, hbr⟩ := hrel
      by_cases hlx : x < n
      · have HA2 : Hid (A2 n e x (x + 1)) := Lib.hid A2.start
        go_wp2_with fail
        go_loopw [6] (fun t wr => ∃ y : Nat, x < y ∧ y ≤ n ∧ t = .int .i64 y ∧ Hid (A2 n e x y) ∧ Below C w1 wr) (fun t _ => n - (intOf t).toNat)
        case atStart => exact ⟨x + 1, by omega, by omega, by go_num, HA2, hbr⟩
        case round =>
          clear hbr HA2
          obtain ⟨y, hxy, hy, rfl, HA2, hbr⟩ := hrel
          by_cases hly : y < n
          · have HA3 : Hid (A3 n e x y (y + 1)) := Lib.hid A3.start
            go_wp2_with fail
            go_loopw [7] (fun t wr => ∃ z : Nat, y < z ∧ z ≤ n ∧ t = .int .i64 z ∧ Hid (A3 n e x y z) ∧ Below C w1 wr) (fun t _ => n - (intOf t).toNat)
            case atStart => exact ⟨y + 1, by omega, by omega, by go_num, HA3, hbr⟩
            case round =>
              clear hbr HA3
              obtain ⟨z, hyz, hz, rfl, HA3, hbr⟩ := hrel
              have hszr := hbr.size
              have hcg := (VG1.belowAt hbr (by omega)).cell
              obtain ⟨sb, so, r1, rfl, hc1, hr1⟩ := RdSS.at3 (HRB.out wr hbr) hlx
              obtain ⟨a1, c1, rfl, -, -, -⟩ := id hr1
              by_cases hlz : z < n
              · obtain ⟨q0, HQ0⟩ : ∃ q, Hid (e x y = q) := ⟨_, Lib.hid rfl⟩
                have HH0 := Lib.hid (has_at hly (.slice a1 (rowB n (e x)).length c1) q0 HQ0.out hr1)
                cases q0 with
                | true =>
                  have HN := Lib.hid (HA2.out.skip HQ0.out)
                  go_wp2_with fail
                  refine HH0.out.mono ?_
                  rintro e1 w' ⟨rfl, rfl⟩
                  go_wp2_with fail
                  go_roundw
                  case rel => exact ⟨y + 1, by omega, by omega, by go_num, HN, hbr⟩
                  case measure => simp [intOf]; omega
                | false =>
                  obtain ⟨sb', so', r2, e8, hc2, hr2⟩ := RdSS.at3 (HRB.out wr hbr) hly
                  obtain ⟨rfl, rfl⟩ : sb = sb' ∧ so = so' := by simpa using e8
                  obtain ⟨a2, c2, rfl, -, -, -⟩ := id hr2
                  obtain ⟨q1, HQ1⟩ : ∃ q, Hid (e x z = q) := ⟨_, Lib.hid rfl⟩
                  obtain ⟨q2, HQ2⟩ : ∃ q, Hid (e y z = q) := ⟨_, Lib.hid rfl⟩
                  obtain ⟨b1, HB1⟩ : ∃ b1, Hid (offWay n e x y z = b1) := ⟨_, Lib.hid rfl⟩
                  obtain ⟨b2, HB2⟩ : ∃ b2, Hid (offWay n e x z y = b2) := ⟨_, Lib.hid rfl⟩
                  obtain ⟨b3, HB3⟩ : ∃ b3, Hid (offWay n e y z x = b3) := ⟨_, Lib.hid rfl⟩
                  have HH1 := Lib.hid (has_at hlz (.slice a1 (rowB n (e x)).length c1) q1 HQ1.out hr1)
                  have HH2 := Lib.hid (has_at hlz (.slice a2 (rowB n (e y)).length c2) q2 HQ2.out hr2)
                  have HW1 : Hid (∀ W, Below C w1 W → _) := Lib.hid fun W (h : Below C w1 W) => way_any _ n e hn16 x y z hlx hly hlz W (HRB.out W h) b1 HB1.out
                  have HW2 : Hid (∀ W, Below C w1 W → _) := Lib.hid fun W (h : Below C w1 W) => way_any _ n e hn16 x z y hlx hlz hly W (HRB.out W h) b2 HB2.out
                  have HW3 : Hid (∀ W, Below C w1 W → _) := Lib.hid fun W (h : Below C w1 W) => way_any _ n e hn16 y z x hly hlz hlx W (HRB.out W h) b3 HB3.out
                  have HVG : Hid (∀ W, Below C w1 W → W.cell? ⟨B, 0, none⟩ = some (.slice (some ⟨sb, so, none⟩) n c)) := Lib.hid fun W h => (VG1.belowAt h (by omega)).cell
                  have hno : ∀ (hn : ¬ Apart n e x y z), Hid (A3 n e x y (z + 1)) := fun hn => Lib.hid (HA3.out.succ hn)
                  have HNO := Lib.hid hno
                  clear e8 hr1 hr2 hno
                  go_wp2_with fail
                  refine HH0.out.mono ?_
                  rintro e1 w' ⟨rfl, rfl⟩
                  go_wp2_with fail
                  refine HH1.out.mono ?_
                  rintro e1 w' ⟨rfl, rfl⟩
                  cases q1 with
                  | true =>
                    have HN := Lib.hid (HNO.out fun h => by have h2 := h.st.2.1; rw [HQ1.out] at h2; cases h2).out
                    go_wp2_with fail
                    go_roundw
                    case rel => exact ⟨z + 1, by omega, by omega, by go_num, HN, hbr⟩
                    case measure => simp [intOf]; omega
                  | false =>
                    go_wp2_with fail
                    refine HH2.out.mono ?_
                    rintro e1 w' ⟨rfl, rfl⟩
                    cases q2 with
                    | true =>
                      have HN := Lib.hid (HNO.out fun h => by have h2 := h.st.2.2; rw [HQ2.out] at h2; cases h2).out
                      go_wp2_with fail
                      go_roundw
                      case rel => exact ⟨z + 1, by omega, by omega, by go_num, HN, hbr⟩
                      case measure => simp [intOf]; omega
                    | false =>
                      go_wp2_with fail
                      refine (HW1.out wr hbr).mono ?_
                      rintro e1 v1 ⟨rfl, hv1⟩
                      have hbr1 := hbr.trans (hv1.mono (by have := hbr.size; omega))
                      clear hcg hv1
                      have hcg := HVG.out _ hbr1
                      cases b1 with
                      | false =>
                        have HN := Lib.hid (HNO.out fun h => by have h2 := h.way1; rw [HB1.out] at h2; cases h2).out
                        go_wp2_with fail
                        go_roundw
                        case rel => exact ⟨z + 1, by omega, by omega, by go_num, HN, hbr1⟩
                        case measure => simp [intOf]; omega
                      | true =>
                        go_wp2_with fail
                        refine (HW2.out v1 hbr1).mono ?_
                        rintro e1 v2 ⟨rfl, hv2⟩
                        have hbr2 := hbr1.trans (hv2.mono (by have := hbr1.size; omega))
                        clear hcg hv2
                        have hcg := HVG.out _ hbr2
                        cases b2 with
                        | false =>
                          have HN := Lib.hid (HNO.out fun h => by have h2 := h.way2; rw [HB2.out] at h2; cases h2).out
                          go_wp2_with fail
                          go_roundw
                          case rel => exact ⟨z + 1, by omega, by omega, by go_num, HN, hbr2⟩
                          case measure => simp [intOf]; omega
                        | true =>
                          go_wp2_with fail
                          refine (HW3.out v2 hbr2).mono ?_
                          rintro e1 v3 ⟨rfl, hv3⟩
                          have hbr3 := hbr2.trans (hv3.mono (by have := hbr2.size; omega))
                          clear hcg hv3
                          have hcg := HVG.out _ hbr3
                          cases b3 with
                          | false =>
                            have HN := Lib.hid (HNO.out fun h => by have h2 := h.way3; rw [HB3.out] at h2; cases h2).out
                            go_wp2_with fail
                            go_roundw
                            case rel => exact ⟨z + 1, by omega, by omega, by go_num, HN, hbr3⟩
                            case measure => simp [intOf]; omega
                          | true =>
                            have HIA := Lib.hid (A_found HA1.out HA2.out HA3.out ⟨hxy, hyz, hlz, ⟨HQ0.out, HQ1.out, HQ2.out⟩, HB1.out, HB2.out, HB3.out⟩)
                            have HRES : Hid (rs = [(x : Int), (y : Int), (z : Int)] ∧ ok = true) := Lib.hid (by
                              rcases HC.out with ⟨x', y', z', h1, h2, h3⟩ | ⟨h1, _, _⟩
                              · obtain ⟨rfl, rfl, rfl⟩ := HIA.out.unique h1
                                exact ⟨h2, h3⟩
                              · exact (h1 x y z HIA.out.fits).elim)
                            obtain rfl : ok = true := HRES.out.2
                            have hbe := hb.trans (hbr3.mono (by omega))
                            have hse := hbe.size
                            have ho3 := World.ownsRow_lit (base := B) (e := 2) (size := 1) v3 #[.int .i64 (x : Int), .int .i64 (y : Int), .int .i64 (z : Int)] 3 (by omega) (by simp [maxLen]) rfl
                            go_wp2_with fail
                            refine bodyPost_ret (v := .tuple #[.slice (some ⟨v3.heap.size, 0, none⟩) 3 3, .bool true]) (by simp [results, Tryd.results49, go_sem]) rfl ?_
                            exact ⟨_, rfl, by rw [hB, HRES.out.1]; simpa [ints] using ho3, by rw [hB]; exact hbe.alloc (by omega) _⟩
              · obtain rfl : z = n := by omega
                have HN := Lib.hid (HA2.out.succ HA3.out)
                go_wp2_with fail
                go_roundw
                case rel => exact ⟨y + 1, by omega, by omega, by go_num, HN, hbr⟩
                case measure => simp [intOf]; omega
          · obtain rfl : y = n := by omega
            have HN := Lib.hid (HA1.out.succ HA2.out)
            go_wp2_with fail
            go_roundw
            case rel => exact ⟨x + 1, by omega, by go_num, HN, hbr⟩
            case measure => simp [intOf]; omega
      · obtain rfl : x = n := by omega
        have hres : rs = [] ∧ ok = false := by
          rcases HC.out with ⟨x', y', z', h1, _, _⟩ | ⟨_, h2, h3⟩
          · exact (HA1.out x' y' z' (by have := h1.fits.xy; have := h1.fits.yz; have := h1.fits.zn; omega) h1.fits).elim
          · exact ⟨h2, h3⟩
        obtain ⟨rfl, rfl⟩ := hres
        have hbe := hb.trans (hbr.mono (by omega))
        have hszr := hbe.size
        have ho0 := World.ownsRow_lit (base := B) (e := 2) (size := 1) wr #[] 0 (by omega) (by simp [maxLen]) rfl
        go_wp2_with fail
        refine bodyPost_ret (v := .tuple #[.slice (some ⟨wr.heap.size, 0, none⟩) 0 0, .bool false]) (by simp [results, Tryd.results49, go_sem]) rfl ?_
        exact ⟨_, rfl, by rw [hB]; simpa [ints] using ho0, by rw [hB]; exact hbe.alloc (by omega) _⟩

theorem both_ApartTriple (xss : List (List Int)) : ∃ (rs : List Int) (ok : Bool), 1 + rs.length ≤ 1000000000 ∧
    (∀ (w : World) (g : Value), Tab w → RdSS g xss w → Calls Tryd.prog 49 #[.agg #[g]] w (SBRes w rs ok)) ∧
    (∀ (w : World) (g : Value), Tab w → RdSS g xss w → Calls Tryd.prog 50 #[.agg #[g]] w (SBRes w rs ok)) := by
  have hP : ∃ rs ok, rs.length ≤ 3 ∧ ApartRP xss rs ok := by
    cases hok : okB xss with
    | false => exact ⟨[], false, by simp, .inl ⟨hok, rfl, rfl⟩⟩
    | true =>
      obtain ⟨e, hA, hx⟩ := (okB_iff xss).1 hok
      obtain ⟨rs, ok, hl, hC⟩ := apartC_has hA
      exact ⟨rs, ok, hl, .inr ⟨e, hA, hx, hC⟩⟩
  obtain ⟨rs, ok, hl, hP⟩ := hP
  exact ⟨rs, ok, by omega, fun w g _ hr => specApartTriple g xss w hr rs ok hP, fun w g ht hr => implApartTriple g xss w ht hr rs ok hP⟩
end Go.Proofs.YtehejjmmbjekgaaDoor
