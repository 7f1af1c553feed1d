/-
  'QuotientBy' of the reference.
-/
import Derived.Test.YtehejjmmbjekgaaDoorQuoS
namespace Go.Proofs.YtehejjmmbjekgaaDoor
open Go.RowKit

/-- A world in which two cells read as told. -/
structure TwoC (a1 a2 : Addr) (v1 v2 : Value) where
  W : World
  c1 : W.cell? a1 = some v1
  c2 : W.cell? a2 = some v2

set_option maxHeartbeats 8000000 in
set_option maxRecDepth 100000 in
theorem specQuotientBy (g : Value) (xss : List (List Int)) (v2 : Value) (mss : List (List Int)) (w : World) (hr : RdSS g xss w) (hm : RdSS v2 mss w) (rows : List (List Int)) (ok : Bool) (h : QuoP xss mss rows ok) :
    Calls Tryd.prog 33 #[.agg #[g], .agg #[v2]] w (GRes w rows ok) := by
  obtain ⟨a, c, rfl⟩ := hr.shape
  obtain ⟨a2, c2, rfl⟩ := hm.shape
  have hlm : mss.length ≤ maxLen := (let ⟨_, h⟩ := hm.ex; by have := h.outer.len; have := h.len; simp at *; omega)
  unfold maxLen at hlm
  obtain ⟨B, hB⟩ : ∃ B, w.heap.size = B := ⟨_, rfl⟩
  obtain ⟨W0, hW0⟩ : ∃ W0, W0 = w.alloc (.cells #[.slice a xss.length c] 24) := ⟨_, rfl⟩
  obtain ⟨W1, hW1⟩ : ∃ W1, W1 = W0.alloc (.cells #[.slice a2 mss.length c2] 40) := ⟨_, rfl⟩
  obtain ⟨W2, hW2⟩ : ∃ W2, W2 = W1.alloc (.cells #[.slice none 0 0] 24) := ⟨_, rfl⟩
  have hz0 : W0.heap.size = B + 1 := by simp [hW0, hB]
  have hz1 : W1.heap.size = B + 2 := by simp [hW1, hz0]
  have hz2 : W2.heap.size = B + 3 := by simp [hW2, hz1]
  have u0 : Below B w W0 := by rw [hW0, ← hB]; exact below_alloc' _ _
  have u1 : Below (B + 1) W0 W1 := by rw [hW1, ← hz0]; exact below_alloc' _ _
  have u2 : Below (B + 2) W1 W2 := by rw [hW2, ← hz1]; exact below_alloc' _ _
  have VG0 : VC 24 B #[.slice a xss.length c] W0 := by rw [hW0]; exact VC.new hB
  have VM1 : VC 40 (B + 1) #[.slice a2 mss.length c2] W1 := by rw [hW1]; exact VC.new hz0
  have VR2 : VC 24 (B + 2) #[.slice none 0 0] W2 := by rw [hW2]; exact VC.new hz1
  have VG2 := (VG0.belowAt u1 (by omega)).belowAt u2 (by omega)
  have VM2 := VM1.belowAt u2 (by omega)
  have u02 : Below B w W2 := (u0.trans (u1.mono (by omega))).trans (u2.mono (by omega))
  have HRD : Hid (∀ W, Below B w W → RdSS (.slice a xss.length c) xss W ∧ RdSS (.slice a2 mss.length c2) mss W) := Lib.hid fun W h => ⟨hr.below h hB, hm.below h hB⟩
  obtain ⟨q, HQ⟩ : ∃ q : Bool, Hid (q = true ↔ (okB xss = true ∧ mss.length ≤ 16 ∧ Good xss.length mss mss.length)) := by
    by_cases hc : okB xss = true ∧ mss.length ≤ 16 ∧ Good xss.length mss mss.length
    · exact ⟨true, Lib.hid (by simp [hc])⟩
    · exact ⟨false, Lib.hid (by simp only [Bool.false_eq_true, false_iff]; exact hc)⟩
  have H := Lib.hid h
  have hcg := VG2.cell
  have hcm := VM2.cell
  clear VG0 VM1 u0 u1 u2 hr hm h
  go_enter Tryd.func33, Tryd.ntmps33
  go_wp2_with fail
  rw [← hW0, ← hW1, ← hW2]
  clear hW0 hW1 hW2
  refine (modelWord_any _ xss _ mss W2 (HRD.out W2 u02).1 (HRD.out W2 u02).2 q HQ.out).mono ?_
  rintro e1 w1 ⟨u, rfl, hb1⟩
  have VG := VG2.belowAt hb1 (by omega)
  have VM := VM2.belowAt hb1 (by omega)
  have VR := VR2.belowAt hb1 (by omega)
  have hb := u02.trans (hb1.mono (by omega))
  have hzw : B + 3 ≤ w1.heap.size := by have := hb1.size; omega
  clear hcg hcm hb1 VG2 VM2 VR2 u02
  have hcg := VG.cell
  have hcm := VM.cell
  have hcr := VR.cell
  have hfr := VR.free
  have hce := (VR.set (.slice none 0 0)).cell
  by_cases hgo : q = true ∧ 0 < mss.length
  case neg =>
    obtain ⟨rfl, rfl⟩ : rows = [] ∧ ok = false := by
      rcases H.out with ⟨_, h⟩ | ⟨e, _, _, h, _⟩
      · exact h
      · exact (hgo ⟨HQ.out.2 ⟨h.1, h.2.1, h.2.2.1⟩, h.2.2.2.1⟩).elim
    have HB := Lib.hid (hb.setCell (p := ⟨B + 2, 0, none⟩) (by simp) (.slice none 0 0))
    cases q with
    | false =>
      clear hgo
      go_wp2_with fail
      refine bodyPost_ret (v := .tuple #[.agg #[.slice none 0 0], .bool false]) (by simp [results, Tryd.results33, go_sem, hce]) rfl ?_
      exact GRes.nothing _ _ (by rw [hB]; exact HB.out)
    | true =>
      obtain h0 : mss.length = 0 := by
        have : ¬ 0 < mss.length := fun h => hgo ⟨rfl, h⟩
        omega
      rw [h0] at hcm
      clear hgo
      go_wp2_with fail
      refine bodyPost_ret (v := .tuple #[.agg #[.slice none 0 0], .bool false]) (by simp [results, Tryd.results33, go_sem, hce]) rfl ?_
      exact GRes.nothing _ _ (by rw [hB]; exact HB.out)
  case pos =>
    obtain ⟨rfl, hl0⟩ := hgo
    obtain ⟨e, hA, hx⟩ : ∃ e, Adj xss.length e ∧ xss = rowsB xss.length e := (okB_iff xss).1 (HQ.out.1 rfl).1
    have hl16 := (HQ.out.1 rfl).2.1
    have HGD := Lib.hid (HQ.out.1 rfl).2.2
    have HA := Lib.hid hA
    have hROWS : (∀ s ∈ mss, s ≠ []) → rows = rowsB mss.length (quoB xss.length e mss) ∧ ok = true := fun hs => by
      rcases H.out with ⟨hno, _⟩ | ⟨e', hA', hx', _, hrows, hok⟩
      · exact (hno ⟨(HQ.out.1 rfl).1, hl16, HGD.out, hl0, hs⟩).elim
      · refine ⟨?_, hok⟩
        rw [hrows]
        have he : ∀ u v, u < xss.length → v < xss.length → e' u v = e u v := fun u v hu hv => by
          have h1 : rowB xss.length (e' u) = rowB xss.length (e u) := by
            have := congrArg (fun l : List (List Int) => l[u]?) (hx'.symm.trans hx)
            simp only [rowsB_at _ hu, Option.some.injEq] at this
            exact this
          rw [Bool.eq_iff_iff]
          have h2 := congrArg (fun l : List Int => (v : Int) ∈ l) h1
          simp only [nat_mem_rowB, eq_iff_iff] at h2
          exact ⟨fun h => (h2.1 ⟨hv, h⟩).2, fun h => (h2.2 ⟨hv, h⟩).2⟩
        have hq : quoB xss.length e' mss = quoB xss.length e mss := by
          funext i k
          unfold quoB touchM
          congr 1
          rw [Bool.eq_iff_iff, touchB_iff, touchB_iff]
          constructor <;> rintro ⟨u, v, hu, hv, h1, h2⟩
          · exact ⟨u, v, hu, hv, by rw [← he u v hu hv]; exact h1, h2⟩
          · exact ⟨u, v, hu, hv, by rw [he u v hu hv]; exact h1, h2⟩
        rw [hq]
    have hNIL : (∃ s ∈ mss, s = []) → rows = [] ∧ ok = false := fun ⟨s, hs, h0⟩ => by
      rcases H.out with ⟨_, h⟩ | ⟨e', _, _, h, _⟩
      · exact h
      · exact (h.2.2.2.2 s hs h0).elim
    have HROWS := Lib.hid hROWS
    have HNIL := Lib.hid hNIL
    clear hROWS hNIL
    obtain ⟨M, hM⟩ : ∃ M, mss.length = M := ⟨_, rfl⟩
    have HMM := Lib.hid hM
    have HX := Lib.hid hx
    rw [hM] at hcm VM hl0 hl16
    have hne0 : ((M : Int) == 0) = false := by rw [beq_eq_false_iff_ne]; omega
    clear hA hx hlm
    obtain ⟨C, hC⟩ : ∃ C, w1.heap.size = C := ⟨_, rfl⟩
    go_wp2_with (at_make; refine wpList_make _ rfl _ _ 22 rfl C 38 (.slice none 0 0) 24 Tryd.underlying22 infoR rfl .i64 .i64 _ _ M rfl rfl (by omega) (by omega) (by omega) (by unfold maxLen; omega) (by omega) ?_; intro w2 ho2 hb2)
    rw [hC] at ho2 hb2
    first | rw [hC] | skip
    have hG1 := OwnG.nils (e1 := 38) (e2 := 2) (by decide) ho2
    have hz3 : C + 1 ≤ w2.heap.size := by have := (owns_lt ho2 (b := C) rfl).2; omega
    obtain ⟨D, hD⟩ : ∃ D, w2.heap.size = D := ⟨_, rfl⟩
    obtain ⟨w3, hw3⟩ : ∃ w3, w3 = w2.alloc (.cells #[.slice (some ⟨C, 0, none⟩) M M] 24) := ⟨_, rfl⟩
    have hb3 : Below D w2 w3 := by rw [hw3, ← hD]; exact below_alloc' _ _
    have VO3 : VC 24 D #[.slice (some ⟨C, 0, none⟩) M M] w3 := by rw [hw3]; exact VC.new hD
    have hbC : Below C w1 w3 := hb2.trans (hb3.mono (by omega))
    have HZ0 := Lib.hid (QR_zero M (quoB xss.length e mss))
    have hG3 : OwnG w3 C 38 2 (.slice (some ⟨C, 0, none⟩) M M) (List.replicate M (.slice none 0 0)) ((QR M (quoB xss.length e mss) 0 0).map ints) := by
      rw [HZ0.out, List.map_replicate]
      exact hG1.below (hD ▸ hb3)
    have hco := VO3.cell
    have HNE0 : Hid (∀ j s, j < 0 → mss[j]? = some s → s ≠ []) := Lib.hid fun _ _ h => by omega
    clear ho2 hb2 hb3 hG1 HZ0 hcg hcm hcr hfr hce
    go_wp2_with fail
    rw [← hw3]
    clear hw3 hco
    try rw [hD]
    go_wp2_with fail
    try rw [hD]
    go_loopw [9] (fun i wr => ∃ (k : Nat) (us : List Value), k ≤ M ∧ i = .int .i64 k ∧ us.length = M ∧ Hid (∀ j s, j < k → mss[j]? = some s → s ≠ []) ∧ VC 24 D #[.slice (some ⟨C, 0, none⟩) M M] wr ∧
        OwnG wr C 38 2 (.slice (some ⟨C, 0, none⟩) M M) us ((QR M (quoB xss.length e mss) k 0).map ints) ∧ Below C w1 wr) (fun i _ => M - (intOf i).toNat)
    case atStart => exact ⟨0, _, Nat.zero_le _, rfl, by simp, HNE0, VO3, hG3, hbC⟩
    case round =>
      clear VO3 hG3 hbC HNE0
      obtain ⟨k, us, hk, rfl, hul, HNE, VO, hG, hbr⟩ := hrel
      have hszr := hbr.size
      have hbw := hb.trans (hbr.mono (by omega))
      have hcm := (VM.belowAt hbr (by omega)).cell
      by_cases hlt : k < M
      · obtain ⟨mb, mo, ra, rc, s, rfl, hc1, hr1, HS⟩ := RdSS.rowAtL (HRD.out wr hbw).2 (HMM.out ▸ hlt)
        have hsl := hr1.len
        unfold maxLen at hsl
        by_cases hs0 : s.length = 0
        · obtain ⟨rfl, rfl⟩ := HNIL.out ⟨s, List.mem_of_getElem? HS.out, List.length_eq_zero_iff.1 hs0⟩
          have VRr := VR.belowAt hbr (by omega)
          have hcr := VRr.cell
          have hfr := VRr.free
          have hce := (VRr.set (.slice none 0 0)).cell
          have HB := Lib.hid (hbw.setCell (p := ⟨B + 2, 0, none⟩) (by simp) (.slice none 0 0))
          rw [hs0] at hc1
          go_wp2_with fail
          refine bodyPost_ret (v := .tuple #[.agg #[.slice none 0 0], .bool false]) (by simp [results, Tryd.results33, go_sem, hce]) rfl ?_
          exact GRes.nothing _ _ (by rw [hB]; exact HB.out)
        · have hd0 : ((s.length : Int) == 0) = false := by rw [beq_eq_false_iff_ne]; omega
          have HNE2 : Hid (∀ j s, j < k + 1 → mss[j]? = some s → s ≠ []) := Lib.hid fun j t hj ht => by
            by_cases hjk : j = k
            · subst hjk
              rw [HS.out] at ht
              obtain rfl := Option.some.inj ht
              exact fun h => hs0 (by rw [h]; rfl)
            · exact HNE.out j t (by omega) ht
          clear hr1
          go_wp2_with fail
          clear hc1 hcm HNE hsl
          go_loopw [10] (fun i wr => ∃ (j : Nat) (us : List Value), j ≤ M ∧ i = .int .i64 j ∧ us.length = M ∧ VC 24 D #[.slice (some ⟨C, 0, none⟩) M M] wr ∧
              OwnG wr C 38 2 (.slice (some ⟨C, 0, none⟩) M M) us ((QR M (quoB xss.length e mss) k j).map ints) ∧ Below C w1 wr) (fun i _ => M - (intOf i).toNat)
          case atStart => exact ⟨0, us, Nat.zero_le _, rfl, hul, VO, hG, hbr⟩
          case round =>
            clear VO hG hbr hul hszr hbw
            obtain ⟨j, us, hj, rfl, hul, VO, hG, hbr⟩ := hrel
            have hszr := hbr.size
            have hbw := hb.trans (hbr.mono (by omega))
            have hcm := (VM.belowAt hbr (by omega)).cell
            by_cases hlj : j < M
            · obtain ⟨mb', mo', ra', rc', s', e8, hc1, hr1, HS'⟩ := RdSS.rowAtL (HRD.out wr hbw).2 (HMM.out.symm ▸ hlt)
              obtain ⟨rfl, rfl⟩ : mb = mb' ∧ mo = mo' := by simpa using e8
              obtain rfl : s = s' := by have := HS.out; rw [HS'.out] at this; exact (Option.some.inj this).symm
              obtain ⟨mb', mo', rb, rcb, t, e9, hc2, hr2, HT⟩ := RdSS.rowAtL (HRD.out wr hbw).2 (HMM.out.symm ▸ hlj)
              obtain ⟨rfl, rfl⟩ : mb = mb' ∧ mo = mo' := by simpa using e9
              obtain ⟨qb, HQB⟩ : ∃ qb, Hid (touchB xss.length e (inL s) (inL t) = qb) := ⟨_, Lib.hid rfl⟩
              have hrg : RdSS (.slice a xss.length c) (rowsB xss.length e) wr.drew := by rw [← HX.out]; exact (HRD.out wr.drew hbw.drew).1
              have HBT := Lib.hid (between_any (.slice a xss.length c) xss.length e HA.out (.slice ra' s.length rc') (.slice rb t.length rcb) s t wr.drew hrg (Row.below hr1 (below_drewN' wr 1)) (Row.below hr2 (below_drewN' wr 1)) qb HQB.out)
              have HTM : Hid (touchM xss.length e mss k j = qb) := Lib.hid (by unfold touchM; rw [setAt_of HS.out, setAt_of HT.out]; exact HQB.out)
              have VGr := VG.belowAt hbr (by omega)
              have hcg := VGr.cell
              have HG0 := Lib.hid hG
              clear e8 e9 hr1 hr2 hrg HS' hG
              go_wp2_with fail
              refine wp_region_take [1, 3, 6, 8] [0, 2, 4, 5, 7, 9, 10] 11 6 #[true, true, true, true, true, true, true, true, true, true, true, false, false, false, false, false, false] (by kernel_rfl) (by kernel_rfl) (by kernel_rfl) (by kernel_rfl) (fun _ _ d _ _ h => by cases d <;> exact h) ?_
              simp only [pickOps, List.filterMap_cons, List.filterMap_nil, List.getElem?_cons_succ, List.getElem?_cons_zero]
              repeat quiet_step (fail)
              simp only [wpQuiet_nil_eq]
              refine wpAnyG_1 11 (by kernel_rfl) rfl ?_
              unfold wpNext
              go_wp2_with fail
              refine HBT.out.mono ?_
              rintro e1 w5 ⟨u5, rfl, hb5⟩
              have hb5' : Below wr.heap.size wr w5 := ((Below.refl _ _).drew : Below wr.heap.size wr wr.drew).trans hb5
              have hG := HG0.out.below hb5'
              have VO5 := VO.belowAt hb5' (by have := VO.lt; omega)
              have hbr5 := hbr.trans (hb5'.mono (by omega))
              clear hcg hc1 hc2 hcm HBT hb5 hb5' HG0 VO hbr VGr hbw
              go_wp2_with fail
              refine ⟨fun h => by simp at h, ?_⟩
              refine wpAnyG_mid [12, 13, 14] 2 #[true, true, true, true, true, true, true, true, true, true, true, true, true, true, true, false, false] rfl (by kernel_rfl) (by kernel_rfl) (by kernel_rfl) (fun _ _ d _ _ h => by cases d <;> exact h) (fun h => by simp at h) ?_
              simp only [pickOps, List.filterMap_cons, List.filterMap_nil, List.getElem?_cons_succ, List.getElem?_cons_zero]
              repeat quiet_step (fail)
              simp only [wpQuiet_nil_eq]
              refine wpAnyG_tail [15, 16] rfl (.inl (by kernel_rfl)) (by kernel_rfl) ?_
              simp only [pickOps, List.filterMap_cons, List.filterMap_nil, List.getElem?_cons_succ, List.getElem?_cons_zero]
              have hsz5 := hbr5.size
              cases qb with
              | false =>
                have HSK : Hid (QR M (quoB xss.length e mss) k (j + 1) = QR M (quoB xss.length e mss) k j) := Lib.hid (QR_skip (by unfold quoB; rw [HTM.out, Bool.and_false]))
                go_wp2_with fail
                go_roundw
                case rel => exact ⟨j + 1, us, by omega, by go_num, hul, VO5, by rw [HSK.out]; exact hG, hbr5⟩
                case measure => simp [intOf]; omega
              | true =>
                by_cases hkj : k = j
                · subst hkj
                  have HSK : Hid (QR M (quoB xss.length e mss) k (k + 1) = QR M (quoB xss.length e mss) k k) := Lib.hid (QR_skip (by unfold quoB; simp))
                  have hdk : ((k : Int) != (k : Int)) = false := by simp
                  go_wp2_with fail
                  go_roundw
                  case rel => exact ⟨k + 1, us, by omega, by go_num, hul, VO5, by rw [HSK.out]; exact hG, hbr5⟩
                  case measure => simp [intOf]; omega
                · have hdk : ((k : Int) != (j : Int)) = true := by rw [bne_iff_ne]; omega
                  have HYES : Hid (quoB xss.length e mss k j = true) := Lib.hid (by unfold quoB; rw [HTM.out]; simp [hkj])
                  have hku : k < us.length := by omega
                  obtain ⟨u, hu⟩ : ∃ u, us[k]? = some u := ⟨us[k], List.getElem?_eq_getElem hku⟩
                  obtain ⟨row, HROW⟩ : ∃ row : List Int, Hid (row = rowB j (quoB xss.length e mss k)) := ⟨_, Lib.hid rfl⟩
                  have HP : Hid (QR M (quoB xss.length e mss) k (j + 1) = (QR M (quoB xss.length e mss) k j).set k (row ++ [(j : Int)])) := Lib.hid (by rw [HROW.out]; exact QR_put hlt HYES.out)
                  have hrl : row.length ≤ 16 := by rw [HROW.out]; have := rowB_length j (quoB xss.length e mss k); omega
                  have hci : ((QR M (quoB xss.length e mss) k j).map ints)[k]? = some (ints row) := by rw [List.getElem?_map, QR_at hlt, HROW.out]; rfl
                  have hou := hG.rows k u (ints row) hu hci
                  have hout := hG.outer
                  rw [hul] at hout
                  have hcu : w5.cell? ⟨C, k, none⟩ = some u := by rw [hout.cellAt k (by omega)]; exact hu
                  have hco := VO5.cell
                  have hfo : w5.frozen? ⟨C, k, none⟩ = false := hout.frozenAt k
                  obtain ⟨ua, uc, rfl⟩ := owns_shape hou
                  rw [ints_length] at hou
                  obtain ⟨n, hn'⟩ : ∃ n, row.length = n := ⟨_, rfl⟩
                  have HIU := Lib.hid hu
                  have HCI := Lib.hid hci
                  rw [ints_length, hn'] at hcu HIU
                  rw [hn'] at hou hrl
                  have HNR := Lib.hid hn'
                  have hx1 : ∀ x : TwoC ⟨D, 0, none⟩ ⟨C, k, none⟩ (.slice (some ⟨C, 0, none⟩) M M) (.slice ua n uc), x.W.cell? ⟨D, 0, none⟩ = some (.slice (some ⟨C, 0, none⟩) M M) := fun x => x.c1
                  have hx3 : ∀ x : TwoC ⟨D, 0, none⟩ ⟨C, k, none⟩ (.slice (some ⟨C, 0, none⟩) M M) (.slice ua n uc), x.W.cell? ⟨C, k, none⟩ = some (.slice ua n uc) := fun x => x.c2
                  clear hu hci hn' hout
                  go_wp2_with fail
                  refine wp_region_order [0, 2, 3, 5, 8] [1, 4, 6, 7] [9, 10] [11, 12] (fun W => ∃ x : TwoC ⟨D, 0, none⟩ ⟨C, k, none⟩ (.slice (some ⟨C, 0, none⟩) M M) (.slice ua n uc), W = x.W) (by kernel_rfl) (by kernel_rfl) (fun _ _ d _ _ h => by cases d <;> exact h) ⟨⟨w5.drew, hco, hcu⟩, rfl⟩ ?_
                  simp only [pickOps, List.filterMap_cons, List.filterMap_nil, List.getElem?_cons_succ, List.getElem?_cons_zero]
                  repeat quiet_step (exact rfl)
                  try simp only [wpQuiet_nil_eq]
                  refine wpSegs_cons ?_
                  clear hx1 hx3
                  obtain ⟨A, hA'⟩ : ∃ A, w5.heap.size = A := ⟨_, rfl⟩
                  obtain ⟨wq, hwq⟩ : ∃ wq, wq = (w5.alloc (.cells #[.int .i64 (j : Int)] 2)).drew := ⟨_, rfl⟩
                  have hbq : Below A w5 wq := by rw [hwq, ← hA']; exact ((Below.refl _ _).alloc (Nat.le_refl _) _).drew
                  have hone : wq.ownsRow A 2 1 (.slice (some ⟨A, 0, none⟩) 1 1) 1 [.int .i64 (j : Int)] := by rw [hwq, ← hA']; exact (World.ownsRow_lit w5 #[.int .i64 (j : Int)] 1 (Nat.le_refl _) (by simp [maxLen]) rfl).drew
                  have hzq : wq.heap.size = A + 1 := by rw [hwq]; show (w5.alloc _).heap.size = A + 1; simp [hA']
                  have hGq := hG.below (hA' ▸ hbq)
                  have VOq := VO5.belowAt hbq (by have := VO5.lt; omega)
                  have hbwq := hbr5.trans (hbq.mono (by omega))
                  have houq := owns_below hou (hA' ▸ hbq)
                  have hcoq := VOq.cell
                  have hcuq := (hbq.cell (p := ⟨C, k, none⟩) (by have := World.block_lt_of_cell? _ _ hcu; omega)).trans hcu
                  have hGo := hGq.outer
                  rw [hul] at hGo
                  have hq1 : ∀ W, World.cell? W ⟨D, 0, none⟩ = some (.slice (some ⟨C, 0, none⟩) M M) ∧ World.cell? W ⟨C, k, none⟩ = some (.slice ua n uc) → ∃ x : TwoC ⟨D, 0, none⟩ ⟨C, k, none⟩ (.slice (some ⟨C, 0, none⟩) M M) (.slice ua n uc), W = x.W := fun W h => ⟨⟨W, h.1, h.2⟩, rfl⟩
                  have HQ1 := Lib.hid hq1
                  clear hq1 hG VO5 hbr5 hou
                  go_wp2_with fail
                  rw [← hwq]
                  refine ⟨HQ1.out _ ⟨hcoq, hcuq⟩, ?_⟩
                  refine wpSegs_cons ?_
                  first | rw [hA'] | skip
                  have hRq := Row.of_owns hone
                  go_wp2_with (at_builtin; refine wpList_extend_where wq rfl _ _ 38 rfl C 2 (.int .i64 0) 8 Tryd.underlying38 infoI rfl (.slice ua n uc) n (ints row) rfl houq (.slice (some ⟨A, 0, none⟩) 1 1) 1 [.int .i64 (j : Int)] (by omega) rfl hRq (by simp [Value.oneCell']) (by unfold maxLen; omega) (by omega) (by omega) ?_; intro g' c' w6 ho6 hg6 hwh)
                  have hVO6 := VOq.grown hg6 (VOq.unlike houq (by decide))
                  have hne : (Value.slice ua n uc).ownBlock ≠ some C := owns_unlike hGo houq (by decide) rfl
                  have hGo6 := hGo.kept hg6 (.inr (fun h => hne h.symm))
                  have hco6 := hVO6.cell
                  have hcu6 : w6.cell? ⟨C, k, none⟩ = some (.slice ua n uc) := by rw [hGo6.cellAt k (by omega), ← hGo.cellAt k (by omega)]; exact hcuq
                  have hf6 := hGo6.frozenAt k
                  have hb6 : Below C w1 w6 := hbwq.grown hg6 (by omega) (fun y hy => by have := (owns_lt houq hy).1; omega)
                  have hst := hGo6.stored k (.slice (some ⟨g', 0, none⟩) (n + 1) c')
                  have HG6 : Hid (OwnG (w6.setCell ⟨C, k, none⟩ (.slice (some ⟨g', 0, none⟩) (n + 1) c')) C 38 2 (.slice (some ⟨C, 0, none⟩) M M) (us.set k (.slice (some ⟨g', 0, none⟩) (n + 1) c')) ((QR M (quoB xss.length e mss) k (j + 1)).map ints)) := Lib.hid (by
                    have hl1 : (ints row).length = n := by rw [ints_length]; exact HNR.out
                    have hk := OwnG.regrow (w1 := w6) (w2 := w6.setCell ⟨C, k, none⟩ (.slice (some ⟨g', 0, none⟩) (n + 1) c')) (u' := .slice (some ⟨g', 0, none⟩) (n + 1) c') (cs' := ints row ++ [.int .i64 (j : Int)]) k hGq HIU.out HCI.out (by rw [List.length_append, hl1]; exact ho6) hg6 (fun y hy => by
                      rcases hwh with h | h
                      · left; rw [← hy]; simpa [Value.ownBlock] using h
                      · right; simp [Value.ownBlock] at hy; omega) (by rw [hul]; exact hst.1) hst.2
                    rw [HP.out, List.map_set]
                    have e1 : ints (row ++ [(j : Int)]) = ints row ++ [.int .i64 (j : Int)] := ints_snoc _ _
                    rw [e1]
                    exact hk)
                  have HB6 := Lib.hid (hb6.setCell (p := ⟨C, k, none⟩) (by simp) (.slice (some ⟨g', 0, none⟩) (n + 1) c'))
                  have HVO6 := Lib.hid (hVO6.other (p := ⟨C, k, none⟩) (by have := (owns_lt hGo (b := C) rfl); have := VOq.unlike (u := .slice (some ⟨C, 0, none⟩) M M) hGo (by decide); simp [Value.ownBlock] at this ⊢; omega) (.slice (some ⟨g', 0, none⟩) (n + 1) c'))
                  have HUL : Hid ((us.set k (.slice (some ⟨g', 0, none⟩) (n + 1) c')).length = M) := Lib.hid (by simp [hul])
                  refine ⟨HQ1.out _ ⟨hco6, hcu6⟩, wpSegs_nil ?_⟩
                  clear hst hb6 hGo6 hVO6 ho6 hg6 hwh houq hGq VOq hbwq hcoq hcuq HQ1 hco6 hGo
                  go_wp2_with fail
                  go_roundw
                  case rel => exact ⟨j + 1, _, by omega, by go_num, HUL.out, HVO6.out, HG6.out, HB6.out⟩
                  case measure => simp [intOf]; omega
            · obtain rfl : j = M := by omega
              have HN := Lib.hid (QR_next j (quoB xss.length e mss) k)
              go_wp2_with fail
              go_roundw
              case rel => exact ⟨k + 1, us, by omega, by go_num, hul, HNE2, VO, by rw [← HN.out]; exact hG, hbr⟩
              case measure => simp [intOf]; omega
      · obtain rfl : k = M := by omega
        obtain ⟨rfl, rfl⟩ := HROWS.out fun s hs => by
          obtain ⟨j, hj⟩ := List.getElem?_of_mem hs
          exact HNE.out j s (by have := (List.getElem?_eq_some_iff.1 hj).1; have := HMM.out; omega) hj
        have VRr := VR.belowAt hbr (by omega)
        have hco := VO.cell
        have hcr := VRr.cell
        have hfr := VRr.free
        have hce := (VRr.set (.slice (some ⟨C, 0, none⟩) k k)).cell
        rw [QR_end] at hG
        have HG := Lib.hid hG
        have HB := Lib.hid (hbw.setCell (p := ⟨B + 2, 0, none⟩) (by simp) (.slice (some ⟨C, 0, none⟩) k k))
        clear hG
        go_wp2_with fail
        refine bodyPost_ret (v := .tuple #[.agg #[.slice (some ⟨C, 0, none⟩) k k], .bool true]) (by simp [results, Tryd.results33, go_sem, hce]) rfl ?_
        exact ⟨_, us, rfl, by rw [hB]; exact (HG.out.other (by simp; omega) _).rebase (by omega), by rw [hB]; exact HB.out⟩
end Go.Proofs.YtehejjmmbjekgaaDoor
