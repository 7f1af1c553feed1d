/-
  'GraphOfIntervals' of the reference and of the program; both.
-/
import Derived.Test.YtehejjmmbjekgaaDoorIvI
namespace Go.Proofs.YtehejjmmbjekgaaDoor
open Go.RowKit

def IvPp (L : List (Int × Int)) (rows : List (List Int)) (ok : Bool) : Prop := (okI L = false ∧ rows = [] ∧ ok = false) ∨ (okI L = true ∧ L.length ≤ 16 ∧ rows = rowsB L.length (adjI L) ∧ ok = true)
theorem ivP_has (L : List (Int × Int)) : ∃ rows ok, 1 + total rows ≤ 1000000000 ∧ rows.length ≤ 1000000000 ∧ IvPp L rows ok := by
  cases h : okI L with
  | false => exact ⟨[], false, by simp [total], by simp, .inl ⟨h, rfl, rfl⟩⟩
  | true =>
    have h16 : L.length ≤ 16 := (adj_of_okI h).le
    have := total_rowsB L.length (adjI L) (by omega)
    exact ⟨_, true, by omega, by rw [rowsB_length]; omega, .inr ⟨h, h16, rfl, rfl⟩⟩

set_option maxHeartbeats 1000000 in
theorem specGraphOfIntervals (v : Value) (L : List (Int × Int)) (w : World) (hr : RdV v L w) (rows : List (List Int)) (ok : Bool) (h : IvPp L rows ok) :
    Calls Tryd.prog 18 #[v] w (GRes w rows ok) := by
  obtain ⟨a, c, rfl, -, -, -⟩ := id hr
  obtain ⟨B, hB⟩ : ∃ B, w.heap.size = B := ⟨_, rfl⟩
  have u1 : Below B w (w.alloc (.cells #[.slice none 0 0] 24)) := by subst hB; exact below_alloc' _ _
  have VR0 : VC 24 B #[.slice none 0 0] (w.alloc (.cells #[.slice none 0 0] 24)) := VC.new hB
  have hz0 : (w.alloc (.cells #[.slice none 0 0] 24)).heap.size = B + 1 := by simp [hB]
  have H := Lib.hid h
  obtain ⟨q, hq⟩ : ∃ q, okI L = q := ⟨_, rfl⟩
  have HQ := Lib.hid hq
  have hr1 := RdV.below hr u1 hB
  have hcr := VR0.cell
  have hfr := VR0.free
  clear h
  go_enter Tryd.func18, Tryd.ntmps18
  go_wp2_with fail
  generalize w.alloc (.cells #[.slice none 0 0] 24) = W at *
  refine (all14_any _ L q hq W hr1).mono ?_
  rintro e1 w1 ⟨rfl, hb1⟩
  have VR1 := VR0.belowAt hb1 (by omega)
  have hb := u1.trans (hb1.mono (by omega))
  have hr2 := RdV.below hr hb hB
  have hz1 : B + 1 ≤ w1.heap.size := by have := hb1.size; omega
  clear hcr hfr hb1 hq hr1
  have hcr := VR1.cell
  have hfr := VR1.free
  cases q with
  | false =>
    obtain ⟨rfl, rfl⟩ : rows = [] ∧ ok = false := by
      rcases H.out with ⟨_, h⟩ | ⟨h, _⟩
      · exact h
      · rw [HQ.out] at h; cases h
    have hce := (VR1.set (.slice none 0 0)).cell
    have HB := Lib.hid (hb.setCell (p := ⟨B, 0, none⟩) (by simp) (.slice none 0 0))
    go_wp2_with fail
    refine bodyPost_ret (v := .tuple #[.agg #[.slice none 0 0], .bool false]) (by simp [results, Tryd.results18, go_sem, hce]) rfl ?_
    exact GRes.nothing _ _ (by rw [hB]; exact HB.out)
  | true =>
    obtain ⟨h16, hrows, rfl⟩ : L.length ≤ 16 ∧ rows = rowsB L.length (adjI L) ∧ ok = true := by
      rcases H.out with ⟨h, _⟩ | ⟨_, h⟩
      · rw [HQ.out] at h; cases h
      · exact h
    have HROWS := Lib.hid hrows
    have HC := Lib.hid (graph14_any (.slice a L.length c) L h16 w1 hr2)
    clear hrows hcr hfr hr2
    go_wp2_with fail
    refine HC.out.mono ?_
    rintro e1 w2 ⟨u, vs, rfl, hG, hb2⟩
    obtain ⟨ga, gc, rfl⟩ := owns_shape hG.outer
    have VR5 := VR1.belowAt hb2 (by omega)
    have hcr := VR5.cell
    have hfr := VR5.free
    have HG := Lib.hid hG
    have HB5 := Lib.hid (hb.trans (hb2.mono (by omega)))
    clear hb2 hG HC
    go_wp2_with fail
    have hce := (VR5.set (.slice ga vs.length gc)).cell
    refine bodyPost_ret (v := .tuple #[.agg #[.slice ga vs.length gc], .bool true]) (by simp [results, Tryd.results18, go_sem, hce]) rfl ?_
    refine ⟨_, vs, rfl, ?_, by rw [hB]; exact HB5.out.setCell (Nat.le_refl _) _⟩
    rw [hB, HROWS.out]
    exact (HG.out.other (by simp; omega) _).rebase (by omega)

set_option maxHeartbeats 4000000 in
set_option maxRecDepth 100000 in
theorem implGraphOfIntervals (v : Value) (L : List (Int × Int)) (w : World) (ht : Tab w) (hr : RdV v L w) (rows : List (List Int)) (ok : Bool) (h : IvPp L rows ok) :
    Calls Tryd.prog 20 #[v] w (GRes w rows ok) := by
  obtain ⟨a, c, rfl, -, -, -⟩ := id hr
  have hlen := hr.len
  unfold maxLen at hlen
  have hlc : L.length ≤ c := by obtain ⟨a', c', e0, h1, _⟩ := id hr; simp at e0; omega
  obtain ⟨B, hB⟩ : ∃ B, w.heap.size = B := ⟨_, rfl⟩
  have hTB : 0 < B := by rw [← hB]; exact ht.lt
  have HTAB : Hid (∀ W, Below B w W → Tab W) := Lib.hid fun W h => ht.keep h hTB
  have u1 : Below B w (w.alloc (.cells #[.slice none 0 0] 24)) := by subst hB; exact below_alloc' _ _
  have VR0 : VC 24 B #[.slice none 0 0] (w.alloc (.cells #[.slice none 0 0] 24)) := VC.new hB
  have hz0 : (w.alloc (.cells #[.slice none 0 0] 24)).heap.size = B + 1 := by simp [hB]
  have H := Lib.hid h
  have hcr := VR0.cell
  have hfr := VR0.free
  have hce := (VR0.set (.slice none 0 0)).cell
  have HRD : Hid (∀ W, Below B w W → RdV (.slice a L.length c) L W) := Lib.hid fun W h => RdV.below hr h hB
  have HNO : (okI L = false) → rows = [] ∧ ok = false := fun h0 => by
    rcases H.out with ⟨_, h⟩ | ⟨h, _⟩
    · exact h
    · rw [h0] at h; cases h
  have HNO' := Lib.hid HNO
  have HB0 := Lib.hid (u1.setCell (p := ⟨B, 0, none⟩) (by simp) (.slice none 0 0))
  clear h hr HNO
  by_cases hl1 : L.length < 1
  · have hd : (L.length : Int) < 1 := by omega
    obtain ⟨rfl, rfl⟩ := HNO'.out (by unfold okI; rw [Bool.and_eq_false_iff]; left; simp; omega)
    go_enter Tryd.func20, Tryd.ntmps20
    go_wp2_with fail
    refine bodyPost_ret (v := .tuple #[.agg #[.slice none 0 0], .bool false]) (by simp [results, Tryd.results20, go_sem, hce, hcr]) rfl ?_
    exact GRes.nothing _ _ (by rw [hB]; first | exact HB0.out | exact u1)
  have hd1 : ¬ (L.length : Int) < 1 := by omega
  by_cases hl2 : 16 < L.length
  · have hd : (16 : Int) < L.length := by omega
    obtain ⟨rfl, rfl⟩ := HNO'.out (by unfold okI; rw [Bool.and_eq_false_iff]; left; simp; omega)
    go_enter Tryd.func20, Tryd.ntmps20
    go_wp2_with fail
    refine bodyPost_ret (v := .tuple #[.agg #[.slice none 0 0], .bool false]) (by simp [results, Tryd.results20, go_sem, hce, hcr]) rfl ?_
    exact GRes.nothing _ _ (by rw [hB]; first | exact HB0.out | exact u1)
  have hd2 : ¬ (16 : Int) < L.length := by omega
  have hl16 : L.length ≤ 16 := by omega
  go_enter Tryd.func20, Tryd.ntmps20
  go_wp2_with fail
  generalize w.alloc (.cells #[.slice none 0 0] 24) = W at *
  refine (contF_any_iv (fun p => !rightI p) (.slice a L.length c) L W (HRD.out W u1) (fun p _ W' _ => bad1_any p W')).mono ?_
  rintro e1 w1 ⟨rfl, hb1⟩
  have VR1 := VR0.belowAt hb1 (by omega)
  have hb := u1.trans (hb1.mono (by omega))
  have hz1 : B + 1 ≤ w1.heap.size := by have := hb1.size; omega
  clear hcr hfr hce HB0 hb1 VR0 u1
  have hcr := VR1.cell
  have hfr := VR1.free
  have hce := (VR1.set (.slice none 0 0)).cell
  have HB1 := Lib.hid (hb.setCell (p := ⟨B, 0, none⟩) (by simp) (.slice none 0 0))
  cases hany : L.any (fun p => !rightI p) with
  | true =>
    obtain ⟨rfl, rfl⟩ := HNO'.out (by
      unfold okI
      rw [Bool.and_eq_false_iff]
      right
      rw [List.any_eq_true] at hany
      obtain ⟨p, hp, hpp⟩ := hany
      rw [List.all_eq_false]
      exact ⟨p, hp, by simpa using hpp⟩)
    clear hany
    go_wp2_with fail
    refine bodyPost_ret (v := .tuple #[.agg #[.slice none 0 0], .bool false]) (by simp [results, Tryd.results20, go_sem, hce, hcr]) rfl ?_
    exact GRes.nothing _ _ (by rw [hB]; exact HB1.out)
  | false =>
    have hok : okI L = true := by
      unfold okI
      rw [Bool.and_eq_true]
      refine ⟨by simp; omega, ?_⟩
      rw [List.all_eq_true]
      intro p hp
      rw [List.any_eq_false] at hany
      have := hany p hp
      simpa using this
    obtain ⟨hrows, rfl⟩ : rows = rowsB L.length (adjI L) ∧ ok = true := by
      rcases H.out with ⟨h, _⟩ | ⟨_, _, h⟩
      · rw [hok] at h; cases h
      · exact h
    have HROWS := Lib.hid hrows
    obtain ⟨S, hS⟩ : ∃ S, w1.heap.size = S := ⟨_, rfl⟩
    have HZ0 : Hid (List.replicate L.length (Value.int .u32 0) = sets (NB L.length (tri (meetI L) 0 0))) := Lib.hid (by
      rw [sets_zeros, tri_zero]
      congr 1
      unfold NB
      rw [eq_comm, List.eq_replicate_iff]
      refine ⟨by simp, fun m hm => ?_⟩
      obtain ⟨i, _, rfl⟩ := List.mem_map.1 hm
      exact maskB_zero _)
    clear hany hok hrows H HNO' HB1 hce hcr hfr
    go_wp2_with (at_make; refine wpList_make _ rfl _ _ 94 rfl S 116 (.int .u32 0) 4 Tryd.underlying94 infoV rfl .i64 .i64 _ _ L.length rfl rfl (by omega) (by omega) (by omega) (by unfold maxLen; omega) (by omega) ?_; intro w2 ho2 hb2)
    rw [hS] at ho2 hb2
    try rw [hS]
    rw [HZ0.out] at ho2
    have HS := Lib.hid hS
    have hBS : B + 1 ≤ S := by omega
    clear HZ0 hS hz1
    go_loopw [27] (fun i wr => ∃ k : Nat, k ≤ L.length ∧ i = .int .i64 k ∧ wr.ownsRow S 116 1 (.slice (some ⟨S, 0, none⟩) L.length L.length) L.length (sets (NB L.length (tri (meetI L) k 0))) ∧ Below S w1 wr) (fun i _ => L.length - (intOf i).toNat)
    case atStart => exact ⟨0, Nat.zero_le _, rfl, ho2, hb2⟩
    case round =>
      clear ho2 hb2
      obtain ⟨k, hk, rfl, hO, hbr⟩ := hrel
      generalize hw9 : wr = w9 at *
      clear hw9
      have hbw := hb.trans (hbr.mono (by have := HS.out; omega))
      have hszr : S ≤ w9.heap.size := HS.out ▸ hbr.size
      by_cases hlt : k < L.length
      · obtain ⟨p, hp⟩ : ∃ p, L[k]? = some p := ⟨_, List.getElem?_eq_getElem hlt⟩
        obtain ⟨pb, po, rfl, hc0, hc1⟩ := RdV.at (HRD.out w9 hbw) hp
        obtain ⟨A, hA⟩ : ∃ A, w9.heap.size = A := ⟨_, rfl⟩
        obtain ⟨wa, hwa⟩ : ∃ wa, wa = w9.alloc (.cells #[.int .i64 p.1, .int .i64 p.2] 104) := ⟨_, rfl⟩
        have hba : Below A w9 wa := by rw [hwa, ← hA]; exact below_alloc' _ _
        have VX : VC 104 A #[.int .i64 p.1, .int .i64 p.2] wa := by rw [hwa]; exact VC.new hA
        have hOa := owns_below hO (hA ▸ hba)
        have hbra := hbr.trans (hba.mono (by omega))
        have HP := Lib.hid hp
        have hkc : k ≤ c := by omega
        have hSA : S < A := by have := (owns_lt hO (b := S) rfl).2; omega
        have HAA := Lib.hid hA
        clear hO hba hbr hp hbw
        go_wp2_with fail
        try rw [← hwa]
        try rw [hA]
        clear hwa hA hc0 hc1
        go_wp2_with fail
        go_loopw [36] (fun i wr => ∃ j : Nat, j ≤ k ∧ i = .int .i64 j ∧ VC 104 A #[.int .i64 p.1, .int .i64 p.2] wr ∧ wr.ownsRow S 116 1 (.slice (some ⟨S, 0, none⟩) L.length L.length) L.length (sets (NB L.length (tri (meetI L) k j))) ∧ Below S w1 wr) (fun i _ => k - (intOf i).toNat)
        case atStart => exact ⟨0, Nat.zero_le _, rfl, VX, hOa, hbra⟩
        case round =>
          clear VX hOa hbra
          obtain ⟨j, hj, rfl, VX, hO, hbr⟩ := hrel
          have hbw := hb.trans (hbr.mono (by have := HS.out; omega))
          have hszr : S ≤ wr.heap.size := HS.out ▸ hbr.size
          have hAl := VX.lt
          by_cases hlj : j < k
          · obtain ⟨q, hq⟩ : ∃ q, L[j]? = some q := ⟨L[j]'(by omega), List.getElem?_eq_getElem (by omega)⟩
            obtain ⟨pb', po', e8, hd0, hd1⟩ := RdV.at (HRD.out wr hbw) hq
            obtain ⟨rfl, rfl⟩ : pb = pb' ∧ po = po' := by simpa using e8
            clear e8
            obtain ⟨D, hD⟩ : ∃ D, wr.heap.size = D := ⟨_, rfl⟩
            obtain ⟨wd, hwd⟩ : ∃ wd, wd = wr.alloc (.cells #[.int .i64 q.1, .int .i64 q.2] 104) := ⟨_, rfl⟩
            have hbd : Below D wr wd := by rw [hwd, ← hD]; exact below_alloc' _ _
            have VY : VC 104 D #[.int .i64 q.1, .int .i64 q.2] wd := by rw [hwd]; exact VC.new hD
            have VXd := VX.belowAt hbd (by omega)
            have hOd := owns_below hO (hD ▸ hbd)
            have hbrd := hbr.trans (hbd.mono (by omega))
            have x0 : wd.cell? ⟨A, 0, none⟩ = some (.int .i64 p.1) := by unfold VC at VXd; simp [World.cell?, VXd]
            have x1 : wd.cell? ⟨A, 1, none⟩ = some (.int .i64 p.2) := by unfold VC at VXd; simp [World.cell?, VXd]
            have y0 : wd.cell? ⟨D, 0, none⟩ = some (.int .i64 q.1) := by unfold VC at VY; simp [World.cell?, VY]
            have y1 : wd.cell? ⟨D, 1, none⟩ = some (.int .i64 q.2) := by unfold VC at VY; simp [World.cell?, VY]
            have HM : Hid (meetI L j k = (decide (q.1 ≤ p.2) && decide (p.1 ≤ q.2))) := Lib.hid (by unfold meetI meetP; rw [getD_at hq, getD_at HP.out])
            have xr0 : wr.cell? ⟨A, 0, none⟩ = some (.int .i64 p.1) := by unfold VC at VX; simp [World.cell?, VX]
            have xr1 : wr.cell? ⟨A, 1, none⟩ = some (.int .i64 p.2) := by unfold VC at VX; simp [World.cell?, VX]
            have xa0 : (wr.alloc (.cells #[.int .i64 q.1, .int .i64 q.2] 104)).cell? ⟨A, 0, none⟩ = some (.int .i64 p.1) := hwd ▸ x0
            have xa1 : (wr.alloc (.cells #[.int .i64 q.1, .int .i64 q.2] 104)).cell? ⟨A, 1, none⟩ = some (.int .i64 p.2) := hwd ▸ x1
            clear hO hbr hbd VX VY hq hbw
            by_cases h1 : p.1 ≤ q.2
            case neg =>
              have HNO := Lib.hid (tri_no (meetI L) (k := k) (j := j) (by rw [HM.out]; simp [h1]))
              go_wp2_with fail
              try rw [← hwd]
              try rw [hD]
              clear hwd hD
              go_wp2_with fail
              go_roundw
              case rel => exact ⟨j + 1, by omega, by go_num, VXd, by rw [← HNO.out]; exact hOd, hbrd⟩
              case measure => simp [intOf]; omega
            case pos =>
              by_cases h2 : q.1 ≤ p.2
              case neg =>
                have HNO := Lib.hid (tri_no (meetI L) (k := k) (j := j) (by rw [HM.out]; simp [h2]))
                go_wp2_with fail
                try rw [← hwd]
                try rw [hD]
                clear hwd hD
                go_wp2_with fail
                go_roundw
                case rel => exact ⟨j + 1, by omega, by go_num, VXd, by rw [← HNO.out]; exact hOd, hbrd⟩
                case measure => simp [intOf]; omega
              case pos =>
                have HYE := Lib.hid (tri_yes (meetI L) (k := k) (j := j) (by rw [HM.out]; simp [h1, h2]) hlj)
                have hjo := join_any S S L.length L.length (NB L.length (tri (meetI L) k j)) (NB_length _ _) (NB_small (by omega) _) k j hlt (by omega) (by omega) (by omega) wd hOd
                rw [joinS_NB _ hlt (by omega), plus_comm, HYE.out] at hjo
                have HJO := Lib.hid hjo
                clear hjo
                go_wp2_with fail
                try rw [← hwd]
                try rw [hD]
                clear hwd hD
                go_wp2_with fail
                refine HJO.out.mono ?_
                rintro e1 w4 ⟨rfl, hO4, hg4⟩
                have VX4 := VXd.grown hg4 (by simp; omega)
                have hbr4 : Below S w1 w4 := hbrd.grown hg4 (by have := hbrd.size; have := HS.out; omega) (fun b hb' => by simp at hb'; omega)
                clear hOd hbrd hg4 HJO VXd x0 x1 y0 y1
                go_wp2_with fail
                go_roundw
                case rel => exact ⟨j + 1, by omega, by go_num, VX4, hO4, hbr4⟩
                case measure => simp [intOf]; omega
          · obtain rfl : j = k := by omega
            have HNX := Lib.hid (tri_next (meetI L) j)
            go_wp2_with fail
            go_roundw
            case rel => exact ⟨j + 1, by omega, by go_num, by rw [← HNX.out]; exact hO, hbr⟩
            case measure => simp [intOf]; omega
      · obtain rfl : k = L.length := by omega
        have VRr := VR1.belowAt hbr (by have := HS.out; omega)
        have hql : (NB L.length (adjI L)).length = L.length := NB_length _ _
        rw [adjI_sym] at hO
        have HGR := Lib.hid (graph_any (.slice (some ⟨S, 0, none⟩) L.length L.length) (NB L.length (adjI L)) (NB_small (by omega) _) (by rw [hql]; omega) w9 (HTAB.out w9 hbw) (by rw [hql]; exact Row.of_owns hO))
        clear hO hql
        go_wp2_with fail
        refine HGR.out.mono ?_
        rintro e1 w5 ⟨u5, vs, rfl, hG, hb5⟩
        obtain ⟨ga, gc, rfl⟩ := owns_shape hG.outer
        have VR5 := VRr.belowAt hb5 (by omega)
        have hcr := VR5.cell
        have hfr := VR5.free
        have HG := Lib.hid hG
        have HB5 := Lib.hid (hbw.trans (hb5.mono (by have := hbw.size; omega)))
        clear hb5 hG HGR
        go_wp2_with fail
        have hce := (VR5.set (.slice ga vs.length gc)).cell
        refine bodyPost_ret (v := .tuple #[.agg #[.slice ga vs.length gc], .bool true]) (by simp [results, Tryd.results20, go_sem, hce]) rfl ?_
        refine ⟨_, vs, rfl, ?_, by rw [hB]; exact HB5.out.setCell (Nat.le_refl _) _⟩
        rw [hB, HROWS.out, ← rowsOf_NB (by omega)]
        exact (HG.out.other (by simp; omega) _).rebase (by omega)

theorem both_GraphOfIntervals (L : List (Int × Int)) : ∃ (rows : List (List Int)) (ok : Bool), 1 + total rows ≤ 1000000000 ∧ rows.length ≤ 1000000000 ∧
    (∀ (w : World) (v : Value), Tab w → RdV v L w → Calls Tryd.prog 18 #[v] w (GRes w rows ok)) ∧
    (∀ (w : World) (v : Value), Tab w → RdV v L w → Calls Tryd.prog 20 #[v] w (GRes w rows ok)) := by
  obtain ⟨rows, ok, h1, h2, hP⟩ := ivP_has L
  exact ⟨rows, ok, h1, h2, fun w v _ hr => specGraphOfIntervals v L w hr rows ok hP, fun w v ht hr => implGraphOfIntervals v L w ht hr rows ok hP⟩
end Go.Proofs.YtehejjmmbjekgaaDoor
