/-
  'ClawOf' of the reference; both.
-/
import Derived.Test.YtehejjmmbjekgaaDoorClawI
namespace Go.Proofs.YtehejjmmbjekgaaDoor
open Go.RowKit

theorem row_has {n : Nat} {e : Nat → Nat → Bool} {x y : Nat} (hy : y < n) : (rowB n (e x)).contains (y : Int) = e x y := by
  rw [Bool.eq_iff_iff, List.contains_iff_mem, nat_mem_rowB]
  exact ⟨fun h => h.2, fun h => ⟨hy, h⟩⟩
theorem has_over {n : Nat} {e : Nat → Nat → Bool} {x y : Nat} (hy : y < n) (v : Value) (q : Bool) (hq : e x y = q) (Y : Int) (hY : Y = y) {w : World} (hr : Row w 1 v (rowB n (e x)).length (ints (rowB n (e x)))) (m : More) :
    Calls Tryd.prog 102 #[v, .int .i64 Y] (over w m) fun r w' => r = .returned (.bool q) ∧ Below (over w m).heap.size (over w m) w' := by
  subst hY
  refine (has_any v (rowB n (e x)) (y : Int) _ (Row.below hr (below_over w m))).mono ?_
  rintro r w' ⟨rfl, rfl⟩
  exact ⟨ret_bool (by rw [row_has hy]; exact hq), Below.refl _ _⟩
theorem RdSS.at3 {n : Nat} {e : Nat → Nat → Bool} {w : World} {a : Option Addr} {c : Nat} (h : RdSS (.slice a n c) (rowsB n e) w) {j : Nat} (hj : j < n) :
    ∃ b o r, a = some ⟨b, o, none⟩ ∧ w.cell? ⟨b, o + j, none⟩ = some r ∧ Row w 1 r (rowB n (e j)).length (ints (rowB n (e j))) := by
  obtain ⟨vsr, hG⟩ := h.ex
  obtain ⟨rb, ro, r, xs, rfl, hc, hxr, -, HXX⟩ := hG.intsAt (k := j) (by simpa using hj)
  obtain rfl : rowB n (e j) = xs := by have h := HXX.out; rw [rowsB_at e hj] at h; exact Option.some.inj h
  exact ⟨rb, ro, r, rfl, hc, hxr⟩

set_option maxHeartbeats 8000000 in
set_option maxRecDepth 100000 in
theorem specClawOf (g : Value) (xss : List (List Int)) (w : World) (hr : RdSS g xss w) (rs : List Int) (ok : Bool) (h : ClawRP xss rs ok) :
    Calls Tryd.prog 46 #[.agg #[g]] w (SBRes w rs ok) := by
  obtain ⟨a, c, rfl⟩ := hr.shape
  obtain ⟨B, hB⟩ : ∃ B, w.heap.size = B := ⟨_, rfl⟩
  have u1 : Below B w (w.alloc (.cells #[.slice a xss.length c] 24)) := by subst hB; exact below_alloc' _ _
  have VG0 : VC 24 B #[.slice a xss.length c] (w.alloc (.cells #[.slice a xss.length c] 24)) := VC.new hB
  have hz0 : (w.alloc (.cells #[.slice a xss.length c] 24)).heap.size = B + 1 := by simp [hB]
  have H := Lib.hid h
  have hcg := VG0.cell
  clear h
  go_enter Tryd.func46, Tryd.ntmps46
  go_wp2_with fail
  generalize w.alloc (.cells #[.slice a xss.length c] 24) = W at *
  refine (specOk _ xss W (hr.below u1 hB)).mono ?_
  rintro e1 w1 ⟨rfl, hb1⟩
  have VG1 := VG0.upd (Upd.of_below hb1) (by omega)
  have hb := u1.trans (hb1.mono (by omega))
  have hz1 : B + 1 ≤ w1.heap.size := by have := hb1.size; omega
  clear hb1 hcg u1
  have hcg := VG1.cell
  cases hok : okB xss with
  | false =>
    obtain ⟨rfl, rfl⟩ : rs = [] ∧ ok = false := by
      rcases H.out with ⟨_, h⟩ | ⟨e, hA, hx, _⟩
      · exact h
      · rw [hx, okB_adj hA] at hok; cases hok
    have ho0 := World.ownsRow_lit (base := B) (e := 2) (size := 1) w1 #[] 0 (by omega) (by simp [maxLen]) rfl
    clear hok
    go_wp2_with fail
    refine bodyPost_ret (v := .tuple #[.slice (some ⟨w1.heap.size, 0, none⟩) 0 0, .bool false]) (by simp [results, Tryd.results46, go_sem]) rfl ?_
    exact ⟨_, rfl, by rw [hB]; simpa [ints] using ho0, by rw [hB]; exact hb.alloc (by omega) _⟩
  | true =>
    obtain ⟨e, hA, hx, hcase⟩ : ∃ e, Adj xss.length e ∧ xss = rowsB xss.length e ∧ ClawC xss.length e rs ok := by
      rcases H.out with ⟨h, _⟩ | h
      · rw [hok] at h; cases h
      · exact h
    have hn16 := hA.le
    have HC := Lib.hid hcase
    have hr1 := hr.below hb hB
    rw [hx, rowsB_length] at hr1
    have HF0 : Hid (∀ u, u < 0 → ∀ t, ¬ Claw xss.length e u t) := Lib.hid fun u h => by omega
    clear hok hx hcase H hA hcg hr
    generalize xss.length = n at *
    obtain ⟨C, hC⟩ : ∃ C, w1.heap.size = C := ⟨_, rfl⟩
    have hcl : Below C w1 w1 := Below.refl _ _
    have hRB : ∀ W', Below C w1 W' → RdSS (.slice a n c) (rowsB n e) W' := fun W' hbW => hr1.below (hC ▸ hbW) rfl
    have HRB := Lib.hid hRB
    clear hRB hr1
    go_wp2_with fail
    go_loopw [4] (fun i wr => ∃ v : Nat, v ≤ n ∧ i = .int .i64 v ∧ Hid (∀ u, u < v → ∀ t, ¬ Claw n e u t) ∧ Below C w1 wr) (fun i _ => n - (intOf i).toNat)
    case atStart => exact ⟨0, Nat.zero_le _, rfl, HF0, hcl⟩
    case round =>
      clear hcl
      obtain ⟨v, hv, rfl, HFS, hbr⟩ := hrel
      have hcg := (VG1.belowAt hbr (by omega)).cell
      by_cases hlt : v < n
      · obtain ⟨rb, ro, rv, rfl, hcv, hxr⟩ := RdSS.at3 (HRB.out wr hbr) hlt
        obtain ⟨va, vc, rfl, -, -, -⟩ := id hxr
        have hrl := rowB_length n (e v)
        have HRow : Hid (∀ W', Below C w1 W' → Below wr.heap.size wr W' → Row W' 1 (.slice va (rowB n (e v)).length vc) (rowB n (e v)).length (ints (rowB n (e v)))) := Lib.hid fun W' _ h => hxr.below h
        have HN1 : Hid (N1 n e v 0) := Lib.hid N1.start
        have hcl2 : Below wr.heap.size wr wr := Below.refl _ _
        go_wp2_with fail
        clear hcv
        generalize hw9 : wr = w9 at *
        obtain ⟨D, hD⟩ : ∃ D, w9.heap.size = D := ⟨_, rfl⟩
        rw [hD] at HRow hcl2
        have hCD : C ≤ D := by have := hbr.size; omega
        go_loopw [6] (fun t wr => ∃ i : Nat, i ≤ (rowB n (e v)).length ∧ t = .int .i64 i ∧ Hid (N1 n e v i) ∧ Below D w9 wr) (fun t _ => (rowB n (e v)).length - (intOf t).toNat)
        case atStart => exact ⟨0, Nat.zero_le _, rfl, HN1, hcl2⟩
        case round =>
          clear hcl2 HN1 hcg
          obtain ⟨i, hi, rfl, HN1, hb9⟩ := hrel
          by_cases hli : i < (rowB n (e v)).length
          · obtain ⟨x, hx⟩ : ∃ x : Nat, (rowB n (e v))[i]? = some (x : Int) := by
              obtain ⟨q, -, -, hq⟩ := row_at (List.getElem?_eq_getElem hli)
              exact ⟨q, by rw [List.getElem?_eq_getElem hli, hq]⟩
            have HX := Lib.hid hx
            have HN2 : Hid (N2 n e v x (i + 1)) := Lib.hid (N2.start hx)
            clear hx
            go_wp2_with fail
            go_loopw [7] (fun t wr => ∃ k : Nat, i < k ∧ k ≤ (rowB n (e v)).length ∧ t = .int .i64 k ∧ Hid (N2 n e v x k) ∧ Below D w9 wr) (fun t _ => (rowB n (e v)).length - (intOf t).toNat)
            case atStart => exact ⟨i + 1, by omega, by omega, by go_num, HN2, hb9⟩
            case round =>
              clear HN2 hb9
              obtain ⟨k, hik, hk, rfl, HN2, hb9⟩ := hrel
              by_cases hlk : k < (rowB n (e v)).length
              · obtain ⟨y, hy⟩ : ∃ y : Nat, (rowB n (e v))[k]? = some (y : Int) := by
                  obtain ⟨q, -, -, hq⟩ := row_at (List.getElem?_eq_getElem hlk)
                  exact ⟨q, by rw [List.getElem?_eq_getElem hlk, hq]⟩
                have HY := Lib.hid hy
                have HN3 : Hid (N3 n e v x y (k + 1)) := Lib.hid (N3.start hy)
                clear hy
                go_wp2_with fail
                go_loopw [8] (fun t wr => ∃ m : Nat, k < m ∧ m ≤ (rowB n (e v)).length ∧ t = .int .i64 m ∧ Hid (N3 n e v x y m) ∧ Below D w9 wr) (fun t _ => (rowB n (e v)).length - (intOf t).toNat)
                case atStart => exact ⟨k + 1, by omega, by omega, by go_num, HN3, hb9⟩
                case round =>
                  clear HN3 hb9
                  obtain ⟨m, hkm, hm, rfl, HN3, hb9⟩ := hrel
                  by_cases hlm : m < (rowB n (e v)).length
                  · have hb1r := hbr.trans (hb9.mono hCD)
                    have hR := HRow.out wr hb1r hb9
                    obtain ⟨qb, qo, x', rfl, hcx, HX'⟩ := Row.intAt hR hli
                    obtain rfl : x' = (x : Int) := by have h := HX'.out; rw [HX.out] at h; exact (Option.some.inj h).symm
                    obtain ⟨qb', qo', y', e5, hcy, HY'⟩ := Row.intAt hR hlk
                    obtain ⟨rfl, rfl⟩ : qb = qb' ∧ qo = qo' := by simpa using e5
                    obtain rfl : y' = (y : Int) := by have h := HY'.out; rw [HY.out] at h; exact (Option.some.inj h).symm
                    obtain ⟨qb', qo', z', e6, hcz, HZ'⟩ := Row.intAt hR hlm
                    obtain ⟨rfl, rfl⟩ : qb = qb' ∧ qo = qo' := by simpa using e6
                    obtain ⟨z, hzn, hez, rfl⟩ := row_at HZ'.out
                    obtain ⟨x2, hxn, hex, ex2⟩ := row_at HX.out
                    obtain rfl : x = x2 := by omega
                    obtain ⟨y2, hyn, hey, ey2⟩ := row_at HY.out
                    obtain rfl : y = y2 := by omega
                    have hcg := (VG1.belowAt hb1r (by omega)).cell
                    obtain ⟨sb, so, r1, e7, hc1, hr1⟩ := RdSS.at3 (HRB.out wr hb1r) hxn
                    obtain ⟨rfl, rfl⟩ : rb = sb ∧ ro = so := by simpa using e7
                    obtain ⟨sb, so, r2, e8, hc2, hr2⟩ := RdSS.at3 (HRB.out wr hb1r) hyn
                    obtain ⟨rfl, rfl⟩ : rb = sb ∧ ro = so := by simpa using e8
                    obtain ⟨q1, HQ1⟩ : ∃ q, Hid (e x y = q) := ⟨_, Lib.hid rfl⟩
                    obtain ⟨q2, HQ2⟩ : ∃ q, Hid (e x z = q) := ⟨_, Lib.hid rfl⟩
                    obtain ⟨q3, HQ3⟩ : ∃ q, Hid (e y z = q) := ⟨_, Lib.hid rfl⟩
                    obtain ⟨a1, c1, rfl, -, -, -⟩ := id hr1
                    obtain ⟨a2, c2, rfl, -, -, -⟩ := id hr2
                    have HO1 : Hid (∀ m : More, _) := Lib.hid fun m => has_over hyn (.slice a1 (rowB n (e x)).length c1) q1 HQ1.out (y : Int) rfl hr1 m
                    have HO2 : Hid (∀ m : More, _) := Lib.hid fun m => has_over hzn (.slice a1 (rowB n (e x)).length c1) q2 HQ2.out (z : Int) rfl hr1 m
                    have HO3 : Hid (∀ m : More, _) := Lib.hid fun m => has_over hzn (.slice a2 (rowB n (e y)).length c2) q3 HQ3.out (z : Int) rfl hr2 m
                    have HZ := Lib.hid HZ'.out
                    clear hR HX' HY' HZ' e5 e6 e7 e8 hez hex hey ex2 ey2 hr1 hr2
                    cases q1 with
                    | true =>
                      have HNS : Hid (N3 n e v x y (m + 1)) := Lib.hid (HN3.out.succ HZ.out fun h => by have := h.1; rw [HQ1.out] at this; cases this)
                      go_wp2_with fail
                      refine wp_region_calm (by kernel_rfl) (by kernel_rfl) ?_
                      repeat (first | go_big_quiet_step ((first | (go_at_call 102; with_reducible exact calls_over (HO1.out _)) | (go_at_call 102; with_reducible exact calls_over (HO2.out _)) | (go_at_call 102; with_reducible exact calls_over (HO3.out _)))) | quiet_step ((first | (go_at_call 102; with_reducible exact calls_over (HO1.out _)) | (go_at_call 102; with_reducible exact calls_over (HO2.out _)) | (go_at_call 102; with_reducible exact calls_over (HO3.out _)))))
                      refine wpQuiet_nil ?_
                      intro W' hbW'
                      have hb10 : Below D w9 W' := hb9.trans (hbW'.mono (by have := hb9.size; omega))
                      have hcg2 := (VG1.belowAt (hbr.trans (hb10.mono hCD)) (by omega)).cell
                      clear hcg hb9 hc1 hc2 hcx hcy hcz
                      go_wp2_with fail
                      go_roundw
                      case rel => exact ⟨m + 1, by omega, by omega, by go_num, HNS, hb10⟩
                      case measure => simp [intOf]; omega
                    | false =>
                      cases q2 with
                      | true =>
                        have HNS : Hid (N3 n e v x y (m + 1)) := Lib.hid (HN3.out.succ HZ.out fun h => by have := h.2.1; rw [HQ2.out] at this; cases this)
                        go_wp2_with fail
                        refine wp_region_calm (by kernel_rfl) (by kernel_rfl) ?_
                        repeat (first | go_big_quiet_step ((first | (go_at_call 102; with_reducible exact calls_over (HO1.out _)) | (go_at_call 102; with_reducible exact calls_over (HO2.out _)) | (go_at_call 102; with_reducible exact calls_over (HO3.out _)))) | quiet_step ((first | (go_at_call 102; with_reducible exact calls_over (HO1.out _)) | (go_at_call 102; with_reducible exact calls_over (HO2.out _)) | (go_at_call 102; with_reducible exact calls_over (HO3.out _)))))
                        refine wpQuiet_nil ?_
                        intro W' hbW'
                        have hb10 : Below D w9 W' := hb9.trans (hbW'.mono (by have := hb9.size; omega))
                        have hcg2 := (VG1.belowAt (hbr.trans (hb10.mono hCD)) (by omega)).cell
                        clear hcg hb9 hc1 hc2 hcx hcy hcz
                        go_wp2_with fail
                        go_roundw
                        case rel => exact ⟨m + 1, by omega, by omega, by go_num, HNS, hb10⟩
                        case measure => simp [intOf]; omega
                      | false =>
                        cases q3 with
                        | true =>
                          have HNS : Hid (N3 n e v x y (m + 1)) := Lib.hid (HN3.out.succ HZ.out fun h => by have := h.2.2; rw [HQ3.out] at this; cases this)
                          go_wp2_with fail
                          refine wp_region_calm (by kernel_rfl) (by kernel_rfl) ?_
                          repeat (first | go_big_quiet_step ((first | (go_at_call 102; with_reducible exact calls_over (HO1.out _)) | (go_at_call 102; with_reducible exact calls_over (HO2.out _)) | (go_at_call 102; with_reducible exact calls_over (HO3.out _)))) | quiet_step ((first | (go_at_call 102; with_reducible exact calls_over (HO1.out _)) | (go_at_call 102; with_reducible exact calls_over (HO2.out _)) | (go_at_call 102; with_reducible exact calls_over (HO3.out _)))))
                          refine wpQuiet_nil ?_
                          intro W' hbW'
                          have hb10 : Below D w9 W' := hb9.trans (hbW'.mono (by have := hb9.size; omega))
                          have hcg2 := (VG1.belowAt (hbr.trans (hb10.mono hCD)) (by omega)).cell
                          clear hcg hb9 hc1 hc2 hcx hcy hcz
                          go_wp2_with fail
                          go_roundw
                          case rel => exact ⟨m + 1, by omega, by omega, by go_num, HNS, hb10⟩
                          case measure => simp [intOf]; omega
                        | false =>
                          have HFO := Lib.hid (claw_found hlt HFS.out HX.out HY.out HZ.out hik hkm HN1.out HN2.out HN3.out ⟨HQ1.out, HQ2.out, HQ3.out⟩)
                          have HRES : Hid (rs = [(v : Int), (x : Int), (y : Int), (z : Int)] ∧ ok = true) := Lib.hid (by
                            obtain ⟨s, hIC, hrow⟩ := HFO.out
                            rcases HC.out with ⟨v', s', h1, h2, h3⟩ | ⟨h1, _, _⟩
                            · obtain ⟨rfl, rfl⟩ := hIC.unique hn16 h1
                              exact ⟨by rw [h2, hrow], h3⟩
                            · exact (h1 v hlt s hIC.fits).elim)
                          go_wp2_with fail
                          refine wp_region_calm (by kernel_rfl) (by kernel_rfl) ?_
                          repeat (first | go_big_quiet_step ((first | (go_at_call 102; with_reducible exact calls_over (HO1.out _)) | (go_at_call 102; with_reducible exact calls_over (HO2.out _)) | (go_at_call 102; with_reducible exact calls_over (HO3.out _)))) | quiet_step ((first | (go_at_call 102; with_reducible exact calls_over (HO1.out _)) | (go_at_call 102; with_reducible exact calls_over (HO2.out _)) | (go_at_call 102; with_reducible exact calls_over (HO3.out _)))))
                          refine wpQuiet_nil ?_
                          intro W' hbW'
                          have hb10 : Below D w9 W' := hb9.trans (hbW'.mono (by have := hb9.size; omega))
                          have hcg2 := (VG1.belowAt (hbr.trans (hb10.mono hCD)) (by omega)).cell
                          clear hcg hb9 hc1 hc2 hcx hcy hcz
                          go_wp2_with fail
                          have hbf := hbr.trans (hb10.mono hCD)
                          have hR2 := HRow.out W' hbf hb10
                          obtain ⟨qb2, qo2, x', e5, hcx, HX'⟩ := Row.intAt hR2 hli
                          obtain ⟨rfl, rfl⟩ : qb = qb2 ∧ qo = qo2 := by simpa using e5
                          obtain rfl : x' = (x : Int) := by have h := HX'.out; rw [HX.out] at h; exact (Option.some.inj h).symm
                          obtain ⟨qb2, qo2, y', e5, hcy, HY'⟩ := Row.intAt hR2 hlk
                          obtain ⟨rfl, rfl⟩ : qb = qb2 ∧ qo = qo2 := by simpa using e5
                          obtain rfl : y' = (y : Int) := by have h := HY'.out; rw [HY.out] at h; exact (Option.some.inj h).symm
                          obtain ⟨qb2, qo2, z', e5, hcz, HZ'⟩ := Row.intAt hR2 hlm
                          obtain ⟨rfl, rfl⟩ : qb = qb2 ∧ qo = qo2 := by simpa using e5
                          obtain rfl : z' = (z : Int) := by have h := HZ'.out; rw [HZ.out] at h; exact (Option.some.inj h).symm
                          have hBf : B ≤ W'.heap.size := by have := hbf.size; omega
                          have hbe := hb.trans (hbf.mono (by omega))
                          have ho0 := World.ownsRow_lit (base := B) (e := 2) (size := 1) W'.drew #[.int .i64 (v : Int), .int .i64 (x : Int), .int .i64 (y : Int), .int .i64 (z : Int)] 4 (by simpa using hBf) (by simp [maxLen]) rfl
                          have HB0 := Lib.hid (hbe.drew.alloc (by simpa using hBf) (.cells #[.int .i64 (v : Int), .int .i64 (x : Int), .int .i64 (y : Int), .int .i64 (z : Int)] 2))
                          have HO0 := Lib.hid ho0
                          obtain ⟨hrs, rfl⟩ := HRES.out
                          have HRS := Lib.hid hrs
                          clear hrs hR2 e5 HX' HY' HZ' hbe ho0 hbf
                          refine wp_region_ord [0, 1, 2, 3, 5, 6, 7, 9, 10, 11] [4, 8, 12] [] [13, 14, 15] (by kernel_rfl) (by kernel_rfl) (fun _ _ d _ _ h => by cases d <;> exact h) ?_
                          simp only [pickOps, List.filterMap_cons, List.filterMap_nil, List.getElem?_cons_succ, List.getElem?_cons_zero]
                          repeat quiet_step (fail)
                          simp only [wpQuiet_nil_eq, wpSegs_nil_eq]
                          go_wp2_with fail
                          refine bodyPost_ret (v := .tuple #[.slice (some ⟨W'.drew.heap.size, 0, none⟩) 4 4, .bool true]) (by simp [results, Tryd.results46, go_sem]) rfl ?_
                          exact ⟨_, rfl, by rw [hB, HRS.out]; exact HO0.out, by rw [hB]; exact HB0.out⟩
                  · obtain rfl : m = (rowB n (e v)).length := by omega
                    have HNS : Hid (N2 n e v x (k + 1)) := Lib.hid (HN2.out.succ HY.out HN3.out)
                    go_wp2_with fail
                    go_roundw
                    case rel => exact ⟨k + 1, by omega, by omega, by go_num, HNS, hb9⟩
                    case measure => simp [intOf]; omega
              · obtain rfl : k = (rowB n (e v)).length := by omega
                have HNS : Hid (N1 n e v (i + 1)) := Lib.hid (HN1.out.succ HX.out HN2.out)
                go_wp2_with fail
                go_roundw
                case rel => exact ⟨i + 1, by omega, by go_num, HNS, hb9⟩
                case measure => simp [intOf]; omega
          · obtain rfl : i = (rowB n (e v)).length := by omega
            have HNS : Hid (∀ u, u < v + 1 → ∀ t, ¬ Claw n e u t) := Lib.hid fun u hu t => (by
              by_cases h : u = v
              · subst h; exact HN1.out.done t
              · exact HFS.out u (by omega) t)
            have hbn := hbr.trans (hb9.mono hCD)
            go_wp2_with fail
            go_roundw
            case rel => exact ⟨v + 1, by omega, by go_num, HNS, hbn⟩
            case measure => simp [intOf]; omega
      · obtain rfl : v = n := by omega
        have hres : rs = [] ∧ ok = false := by
          rcases HC.out with ⟨v', s', h1, _, _⟩ | ⟨_, h2, h3⟩
          · exact (HFS.out v' h1.lt s' h1.fits).elim
          · exact ⟨h2, h3⟩
        obtain ⟨rfl, rfl⟩ := hres
        have hbe := hb.trans (hbr.mono (by omega))
        have hBw : B ≤ wr.heap.size := by have := hbr.size; omega
        have ho0 := World.ownsRow_lit (base := B) (e := 2) (size := 1) wr #[] 0 hBw (by simp [maxLen]) rfl
        go_wp2_with fail
        refine bodyPost_ret (v := .tuple #[.slice (some ⟨wr.heap.size, 0, none⟩) 0 0, .bool false]) (by simp [results, Tryd.results46, go_sem]) rfl ?_
        exact ⟨_, rfl, by rw [hB]; simpa [ints] using ho0, by rw [hB]; exact hbe.alloc hBw _⟩

theorem clawRP_has (xss : List (List Int)) : ∃ (rs : List Int) (ok : Bool), 1 + rs.length ≤ 1000000000 ∧ ClawRP xss rs ok := by
  cases hok : okB xss with
  | false => exact ⟨[], false, by simp, .inl ⟨hok, rfl, rfl⟩⟩
  | true =>
    obtain ⟨e, hA, hx⟩ := (okB_iff xss).1 hok
    generalize hn : xss.length = n at *
    have hn16 := hA.le
    have key : ∀ k, k ≤ n → (∃ v s, IsClaw n e v s) ∨ ∀ u, u < k → ∀ t, ¬ Claw n e u t := by
      intro k
      induction k with
      | zero => intro _; exact .inr fun u h => by omega
      | succ k ih =>
        intro hk
        rcases ih (by omega) with h | h
        · exact .inl h
        · cases hany : (combos n 3 0 0).any (fitI n e k) with
          | false =>
            exact .inr fun u hu t => (by
              by_cases h2 : u = k
              · subst h2; exact claw_no hA hany t
              · exact h u (by omega) t)
          | true =>
            cases hf : (combos n 3 0 0).find? (fitI n e k) with
            | some s => exact .inl ⟨k, s, claw_yes hA (by omega) h hf⟩
            | none =>
              rw [List.find?_eq_none] at hf
              rw [List.any_eq_true] at hany
              obtain ⟨y, hy, hfy⟩ := hany
              exact (hf y hy hfy).elim
    have hE : ∀ rs ok, ClawC n e rs ok → ClawRP xss rs ok := fun rs ok h => .inr ⟨e, by rw [hn]; exact hA, by rw [hn]; exact hx, by rw [hn]; exact h⟩
    rcases key n (Nat.le_refl _) with ⟨v, s, h⟩ | h
    · have hl := rowB_length n s.testBit
      exact ⟨_, true, by simp; omega, hE _ _ (.inl ⟨v, s, h, rfl, rfl⟩)⟩
    · exact ⟨[], false, by simp, hE _ _ (.inr ⟨h, rfl, rfl⟩)⟩
theorem both_ClawOf (xss : List (List Int)) : ∃ (rs : List Int) (ok : Bool), 1 + rs.length ≤ 1000000000 ∧
    (∀ (w : World) (g : Value), Tab w → RdSS g xss w → Calls Tryd.prog 46 #[.agg #[g]] w (SBRes w rs ok)) ∧
    (∀ (w : World) (g : Value), Tab w → RdSS g xss w → Calls Tryd.prog 47 #[.agg #[g]] w (SBRes w rs ok)) := by
  obtain ⟨rs, ok, hl, hP⟩ := clawRP_has xss
  exact ⟨rs, ok, hl, fun w g _ hr => specClawOf g xss w hr rs ok hP, fun w g ht hr => implClawOf g xss w ht hr rs ok hP⟩
end Go.Proofs.YtehejjmmbjekgaaDoor
