/-
  'QuotientBy' of the program; both.
-/
import Derived.Test.YtehejjmmbjekgaaDoorQuoJ
import Derived.Deep.DeepCutAuto
namespace Go.Proofs.YtehejjmmbjekgaaDoor
open Go.RowKit

set_option maxHeartbeats 8000000 in
set_option maxRecDepth 100000 in
theorem implQuotientBy (g : Value) (xss : List (List Int)) (v2 : Value) (mss : List (List Int)) (w : World) (ht : Tab w) (hr : RdSS g xss w) (hm : RdSS v2 mss w) (rows : List (List Int)) (ok : Bool) (h : QuoP xss mss rows ok) :
    Calls Tryd.prog 36 #[.agg #[g], .agg #[v2]] w (GRes w rows ok) := by
  obtain ⟨a, c, rfl⟩ := hr.shape
  obtain ⟨a2, c2, rfl⟩ := hm.shape
  obtain ⟨B, hB⟩ : ∃ B, w.heap.size = B := ⟨_, rfl⟩
  have hTB : 0 < B := by rw [← hB]; exact ht.lt
  obtain ⟨W0, hW0⟩ : ∃ W0, W0 = w.alloc (.cells #[.slice a xss.length c] 24) := ⟨_, rfl⟩
  obtain ⟨W1, hW1⟩ : ∃ W1, W1 = W0.alloc (.cells #[.slice a2 mss.length c2] 40) := ⟨_, rfl⟩
  obtain ⟨W2, hW2⟩ : ∃ W2, W2 = W1.alloc (.cells #[.slice none 0 0] 24) := ⟨_, rfl⟩
  have hz0 : W0.heap.size = B + 1 := by simp [hW0, hB]
  have hz1 : W1.heap.size = B + 2 := by simp [hW1, hz0]
  have hz2 : W2.heap.size = B + 3 := by simp [hW2, hz1]
  have u0 : Below B w W0 := by rw [hW0, ← hB]; exact below_alloc' _ _
  have u1 : Below (B + 1) W0 W1 := by rw [hW1, ← hz0]; exact below_alloc' _ _
  have u2 : Below (B + 2) W1 W2 := by rw [hW2, ← hz1]; exact below_alloc' _ _
  have VG0 : VC 24 B #[.slice a xss.length c] W0 := by rw [hW0]; exact VC.new hB
  have VM1 : VC 40 (B + 1) #[.slice a2 mss.length c2] W1 := by rw [hW1]; exact VC.new hz0
  have VR2 : VC 24 (B + 2) #[.slice none 0 0] W2 := by rw [hW2]; exact VC.new hz1
  have VG2 := (VG0.belowAt u1 (by omega)).belowAt u2 (by omega)
  have VM2 := VM1.belowAt u2 (by omega)
  have u02 : Below B w W2 := (u0.trans (u1.mono (by omega))).trans (u2.mono (by omega))
  have HRD : Hid (∀ W, Below B w W → RdSS (.slice a xss.length c) xss W ∧ RdSS (.slice a2 mss.length c2) mss W) := Lib.hid fun W h => ⟨hr.below h hB, hm.below h hB⟩
  have HTAB : Hid (∀ W, Below B w W → Tab W) := Lib.hid fun W h => ht.keep h hTB
  obtain ⟨q, HQ⟩ : ∃ q : Bool, Hid (q = true ↔ (okB xss = true ∧ mss.length ≤ 16 ∧ Good xss.length mss mss.length)) := by
    by_cases hc : okB xss = true ∧ mss.length ≤ 16 ∧ Good xss.length mss mss.length
    · exact ⟨true, Lib.hid (by simp [hc])⟩
    · exact ⟨false, Lib.hid (by simp only [Bool.false_eq_true, false_iff]; exact hc)⟩
  have H := Lib.hid h
  have hcg := VG2.cell
  have hcm := VM2.cell
  clear VG0 VM1 u0 u1 u2 hr hm h
  go_enter Tryd.func36, Tryd.ntmps36
  go_wp2_with fail
  rw [← hW0, ← hW1, ← hW2]
  clear hW0 hW1 hW2
  refine (modelMasks_any _ xss _ mss W2 (HRD.out W2 u02).1 (HRD.out W2 u02).2 q HQ.out).mono ?_
  rintro e1 w1 ⟨u, rfl, HU, hb1⟩
  have VG := VG2.belowAt hb1 (by omega)
  have VR := VR2.belowAt hb1 (by omega)
  have hb := u02.trans (hb1.mono (by omega))
  have hzw : B + 3 ≤ w1.heap.size := by have := hb1.size; omega
  clear hcg hcm hb1 VG2 VM2 VR2 u02
  have hcg := VG.cell
  have hcr := VR.cell
  have hfr := VR.free
  have hce := (VR.set (.slice none 0 0)).cell
  have HB := Lib.hid (hb.setCell (p := ⟨B + 2, 0, none⟩) (by simp) (.slice none 0 0))
  cases q with
  | false =>
    obtain ⟨rfl, rfl⟩ : rows = [] ∧ ok = false := by
      rcases H.out with ⟨_, h⟩ | ⟨e, _, _, h, _⟩
      · exact h
      · have := HQ.out.2 ⟨h.1, h.2.1, h.2.2.1⟩; cases this
    obtain ⟨ua, un, uc, rfl⟩ : ∃ a n c, u = .slice a n c := by
      rcases HU.out with ⟨h, _⟩ | ⟨_, h⟩
      · cases h
      · exact h
    go_wp2_with fail
    refine bodyPost_ret (v := .tuple #[.agg #[.slice none 0 0], .bool false]) (by simp [results, Tryd.results36, go_sem, hce]) rfl ?_
    exact GRes.nothing _ _ (by rw [hB]; exact HB.out)
  | true =>
    have hru : Row w1 1 u mss.length (sets (MS xss.length mss)) := by
      rcases HU.out with ⟨_, h⟩ | ⟨h, _⟩
      · exact h
      · cases h
    obtain ⟨ua, uc, rfl, -, -, -⟩ := id hru
    have hl16 := (HQ.out.1 rfl).2.1
    have HGD := Lib.hid (HQ.out.1 rfl).2.2
    by_cases hl0 : mss.length = 0
    · obtain ⟨rfl, rfl⟩ : rows = [] ∧ ok = false := by
        rcases H.out with ⟨_, h⟩ | ⟨e, _, _, h, _⟩
        · exact h
        · have := h.2.2.2.1; omega
      have hd0 : ((mss.length : Int) == 0) = true := by simp [hl0]
      go_wp2_with fail
      refine bodyPost_ret (v := .tuple #[.agg #[.slice none 0 0], .bool false]) (by simp [results, Tryd.results36, go_sem, hce]) rfl ?_
      exact GRes.nothing _ _ (by rw [hB]; exact HB.out)
    have hd0 : ((mss.length : Int) == 0) = false := by rw [beq_eq_false_iff_ne]; omega
    obtain ⟨q2, hq2⟩ : ∃ q2, (MS xss.length mss).contains 0 = q2 := ⟨_, rfl⟩
    have HCV := Lib.hid (contV_any (.slice ua mss.length uc) (MS xss.length mss) w1 (by rw [MS_length]; exact hru) q2 hq2)
    have HZE : Hid (q2 = true ↔ ∃ s ∈ mss, s = []) := Lib.hid (hq2 ▸ MS_zero HGD.out)
    clear hq2
    cases q2 with
    | true =>
      obtain ⟨rfl, rfl⟩ : rows = [] ∧ ok = false := by
        obtain ⟨s, hs, h0⟩ := HZE.out.1 rfl
        rcases H.out with ⟨_, h⟩ | ⟨e, _, _, h, _⟩
        · exact h
        · exact (h.2.2.2.2 s hs h0).elim
      go_wp2_with fail
      refine HCV.out.mono ?_
      rintro e1 w' ⟨rfl, rfl⟩
      go_wp2_with fail
      refine bodyPost_ret (v := .tuple #[.agg #[.slice none 0 0], .bool false]) (by simp [results, Tryd.results36, go_sem, hce]) rfl ?_
      exact GRes.nothing _ _ (by rw [hB]; exact HB.out)
    | false =>
      obtain ⟨e', hA', hx', hrows, rfl⟩ : ∃ e', Adj xss.length e' ∧ xss = rowsB xss.length e' ∧ rows = rowsB mss.length (quoB xss.length e' mss) ∧ ok = true := by
        rcases H.out with ⟨hno, _⟩ | ⟨e', hA', hx', _, h1, h2⟩
        · exact (hno ⟨(HQ.out.1 rfl).1, hl16, HGD.out, by omega, fun s hs h0 => by have := HZE.out.2 ⟨s, hs, h0⟩; cases this⟩).elim
        · exact ⟨e', hA', hx', h1, h2⟩
      have HROWS := Lib.hid hrows
      have HA := Lib.hid hA'
      have HX := Lib.hid hx'
      obtain ⟨n, hn⟩ : ∃ n, xss.length = n := ⟨_, rfl⟩
      obtain ⟨M, hM⟩ : ∃ M, mss.length = M := ⟨_, rfl⟩
      have hn16 : n ≤ 16 := by rw [← hn]; exact HA.out.le
      have hn1 : 1 ≤ n := by rw [← hn]; exact HA.out.pos
      rw [hn] at HA HX HROWS hru hcg VG
      rw [hM] at HROWS hru hl16 hl0 hd0
      have hrg : Hid (∀ W, Below B w W → RdSS (.slice a n c) (rowsB n e') W) := Lib.hid fun W h => by
        have := (HRD.out W h).1
        rw [hn, HX.out] at this
        exact this
      clear hA' hx' hrows HB hce hfr hcr
      rw [hM]
      go_wp2_with fail
      refine (hM ▸ HCV.out).mono ?_
      rintro e1 w' ⟨rfl, rfl⟩
      go_upto_region 4 with (fail)
      obtain ⟨S, hS⟩ : ∃ S, w1.heap.size = S := ⟨_, rfl⟩
      have hMS : Hid ((MS n mss).length = M) := Lib.hid (by rw [MS_length, hM])
      have HMM := Lib.hid hM
      have HNN := Lib.hid hn
      have HSS := Lib.hid hS
      have hBS : B + 3 ≤ S := by omega
      clear hM hn hS
      go_cut [8, 9] (fun nv ov wx => ∃ (na nc C oc : Nat), nv = .slice (some ⟨na, 0, none⟩) n nc ∧ ov = .slice (some ⟨C, 0, none⟩) M oc ∧ na ≠ C ∧ wx.ownsRow S 116 1 (.slice (some ⟨na, 0, none⟩) n nc) n (sets (NB n e')) ∧ wx.ownsRow S 116 1 (.slice (some ⟨C, 0, none⟩) M oc) M (sets (NB M (tri (touchM n e' mss) 0 0))) ∧ Below S w1 wx)
      case first =>
        have hcl : Below S w1 w1.drew := (Below.refl _ _).drew
        have HSD : Hid (w1.drew.heap.size = S) := Lib.hid HSS.out
        have HN1 : Hid (∀ W, Below S w1 W → Calls Tryd.prog 96 #[.agg #[.slice a n c]] W fun r w' => ∃ u, r = .returned u ∧ w'.ownsRow W.heap.size 116 1 u n (sets (NB n e')) ∧ Below W.heap.size W w') := Lib.hid fun W hW => by
          have h1 := netsOf_any (.slice a n c) n e' hn16 W (hrg.out W (hb.trans (hW.mono (by have := HSS.out; omega))))
          exact h1
        have HZ0 : Hid (List.replicate M (Value.int .u32 0) = sets (NB M (tri (touchM n e' mss) 0 0))) := Lib.hid (by
          rw [sets_zeros, tri_zero]
          congr 1
          unfold NB
          rw [eq_comm, List.eq_replicate_iff]
          refine ⟨by simp, fun m hm => ?_⟩
          obtain ⟨i, _, rfl⟩ := List.mem_map.1 hm
          exact maskB_zero M)
        refine wp_region_take [2, 3] [0] 1 4 #[true, false, true, true, false, false, false] (by kernel_rfl) (by kernel_rfl) (by kernel_rfl) (by kernel_rfl) (fun _ _ d _ _ h => by cases d <;> exact h) ?_
        simp only [pickOps, List.filterMap_cons, List.filterMap_nil, List.getElem?_cons_succ, List.getElem?_cons_zero]
        repeat quiet_step (fail)
        simp only [wpQuiet_nil_eq]
        refine wpAnyG_2 1 4 (by kernel_rfl) rfl rfl ?_ ?_
        · unfold wpNext
          go_wp2_with fail
          refine (HN1.out w1.drew hcl).mono ?_
          rintro e1 w3 ⟨u3, rfl, ho3, hb3⟩
          rw [HSD.out] at ho3 hb3
          obtain ⟨na, nc, rfl⟩ := owns_head ho3 (by omega)
          have hbs3 := hcl.trans hb3
          have hz3 : S ≤ w3.heap.size := HSS.out ▸ hbs3.size
          clear hcg
          go_wp2_with fail
          refine ⟨fun h => by simp at h, ?_⟩
          refine wpAnyG_mid [5] 2 #[true, true, true, true, false, true, false] rfl (by kernel_rfl) (by kernel_rfl) (by kernel_rfl) (fun _ _ d _ _ h => by cases d <;> exact h) (fun h => by simp at h) ?_
          simp only [pickOps, List.filterMap_cons, List.filterMap_nil, List.getElem?_cons_succ, List.getElem?_cons_zero]
          repeat quiet_step (fail)
          simp only [wpQuiet_nil_eq]
          refine wpAnyG_1 4 (by kernel_rfl) rfl ?_
          unfold wpNext
          refine wpList_make _ rfl _ _ 94 rfl S 116 (.int .u32 0) 4 Tryd.underlying94 infoV rfl .i64 .i64 _ _ M rfl rfl (by omega) (by omega) (by omega) (by unfold maxLen; omega) (by first | omega | (rw [HSD.out]; omega)) ?_
          intro w4 ho4 hb4
          refine wpList_nil ?_
          have hna := (owns_lt ho3 (b := na) rfl).2
          have ho34 := owns_below ho3 hb4
          have hbe := hbs3.trans (hb4.mono hz3)
          rw [HZ0.out] at ho4
          have HF := Lib.hid (And.intro ho34 (And.intro ho4 hbe))
          clear ho3 ho34 ho4 hbe hb4 hb3 hbs3
          refine ⟨fun h => by simp at h, ?_⟩
          refine wpAnyG_tail [6] rfl (.inl (by kernel_rfl)) (by kernel_rfl) ?_
          simp only [pickOps, List.filterMap_cons, List.filterMap_nil, List.getElem?_cons_succ, List.getElem?_cons_zero]
          go_wp2_with fail
          go_meet
          exact ⟨na, nc, w3.heap.size, M, rfl, rfl, by omega, HF.out.1, HF.out.2.1, HF.out.2.2⟩
        · unfold wpNext
          refine wpList_make _ rfl _ _ 94 rfl S 116 (.int .u32 0) 4 Tryd.underlying94 infoV rfl .i64 .i64 _ _ M rfl rfl (by omega) (by omega) (by omega) (by unfold maxLen; omega) (by first | omega | (rw [HSD.out]; omega)) ?_
          intro w4 ho4 hb4
          refine wpList_nil ?_
          rw [HSD.out] at ho4 hb4
          have hbs4 := hcl.trans hb4
          rw [HZ0.out] at ho4
          have hz4 := (owns_lt ho4 (b := S) rfl).2
          have HB4 := Lib.hid hbs4
          have HO4 := Lib.hid ho4
          try rw [HSD.out]
          clear hb4 ho4 hbs4 hcg
          refine ⟨fun _ => over_of_below (by rw [HSS.out]; exact HB4.out), ?_⟩
          refine wpAnyG_1 1 (by kernel_rfl) rfl ?_
          unfold wpNext
          go_wp2_with fail
          refine (HN1.out w4 HB4.out).mono ?_
          rintro e1 w3 ⟨u3, rfl, ho3, hb3⟩
          obtain ⟨na, nc, rfl⟩ := owns_head ho3 (by omega)
          have hna := (owns_lt ho3 (b := na) rfl).1
          have HF := Lib.hid (And.intro (owns_base ho3 (show S ≤ w4.heap.size by omega)) (And.intro (owns_below HO4.out hb3) (HB4.out.trans (hb3.mono (show S ≤ w4.heap.size by omega)))))
          clear ho3 hb3
          go_wp2_with fail
          refine ⟨fun h => by simp at h, ?_⟩
          refine wpAnyG_tail [5, 6] rfl (.inl (by kernel_rfl)) (by kernel_rfl) ?_
          simp only [pickOps, List.filterMap_cons, List.filterMap_nil, List.getElem?_cons_succ, List.getElem?_cons_zero]
          go_wp2_with fail
          go_meet
          exact ⟨na, nc, S, M, rfl, rfl, by omega, HF.out.1, HF.out.2.1, HF.out.2.2⟩
      case rest =>
        obtain ⟨na, nc, C, oc, rfl, rfl, hne, hN, hO, hbx⟩ := hcut
        rename_i wx
        have hru2 : Row w1 1 (.slice ua M uc) M (sets (MS n mss)) := HNN.out ▸ hru
        have hucl : M ≤ uc := by obtain ⟨a', c', e0, h1, _⟩ := hru2; simp at e0; omega
        have HRU : Hid (∀ W, Below S w1 W → Row W 1 (.slice ua M uc) M (sets (MS n mss))) := Lib.hid fun W h => hru2.below (HSS.out ▸ h)
        have HSM : Hid (∀ i k, i < M → k < M → touchM n e' mss i k = touchM n e' mss k i) := Lib.hid fun i k _ _ => touchB_comm HA.out _ _
        clear hru hru2 hcg
        go_wp2_with fail
        go_loopw [39] (fun i wr => ∃ k : Nat, k ≤ M ∧ i = .int .i64 k ∧ wr.ownsRow S 116 1 (.slice (some ⟨na, 0, none⟩) n nc) n (sets (NB n e')) ∧ wr.ownsRow S 116 1 (.slice (some ⟨C, 0, none⟩) M oc) M (sets (NB M (tri (touchM n e' mss) k 0))) ∧ Below S w1 wr) (fun i _ => M - (intOf i).toNat)
        case atStart => exact ⟨0, Nat.zero_le _, rfl, hN, hO, hbx⟩
        case round =>
          clear hN hO hbx
          obtain ⟨k, hk, rfl, hN, hO, hbr⟩ := hrel
          have hszr : S ≤ wr.heap.size := HSS.out ▸ hbr.size
          by_cases hlt : k < M
          · obtain ⟨xb, xo, x, rfl, hcx, HX1⟩ := Row.setAt (HRU.out wr hbr) (j := k) (by rw [hMS.out]; exact hlt)
            have hkuc : k ≤ uc := by omega
            go_wp2_with fail
            clear hcx
            go_loopw [48] (fun i wr => ∃ j : Nat, j ≤ k ∧ i = .int .i64 j ∧ wr.ownsRow S 116 1 (.slice (some ⟨na, 0, none⟩) n nc) n (sets (NB n e')) ∧ wr.ownsRow S 116 1 (.slice (some ⟨C, 0, none⟩) M oc) M (sets (NB M (tri (touchM n e' mss) k j))) ∧ Below S w1 wr) (fun i _ => k - (intOf i).toNat)
            case atStart => exact ⟨0, Nat.zero_le _, rfl, hN, hO, hbr⟩
            case round =>
              clear hN hO hbr hszr
              obtain ⟨j, hj, rfl, hN, hO, hbr⟩ := hrel
              have hszr : S ≤ wr.heap.size := HSS.out ▸ hbr.size
              by_cases hlj : j < k
              · obtain ⟨xb', xo', y, e8, hcy, HY1⟩ := Row.setAt (HRU.out wr hbr) (j := j) (by rw [hMS.out]; omega)
                obtain ⟨rfl, rfl⟩ : xb = xb' ∧ xo = xo' := by simpa using e8
                clear e8
                obtain ⟨s, hs⟩ : ∃ s, mss[k]? = some s := ⟨mss[k]'(by have := HMM.out; omega), List.getElem?_eq_getElem (by have := HMM.out; omega)⟩
                obtain ⟨t, hts⟩ : ∃ t, mss[j]? = some t := ⟨mss[j]'(by have := HMM.out; omega), List.getElem?_eq_getElem (by have := HMM.out; omega)⟩
                have hxm : x = maskB n (inL s) := by have h := HX1.out; rw [MS_at hs] at h; exact (Option.some.inj h).symm
                have hym : y = maskB n (inL t) := by have h := HY1.out; rw [MS_at hts] at h; exact (Option.some.inj h).symm
                obtain ⟨b, HBB⟩ : ∃ b, Hid (touchM n e' mss j k = b) := ⟨_, Lib.hid rfl⟩
                have hbb : touchB n e' (inL s) (inL t) = b := by rw [← HBB.out, HSM.out j k (by omega) hlt]; unfold touchM; rw [setAt_of hs, setAt_of hts]
                have HJ := Lib.hid (areJoined_any (.slice (some ⟨na, 0, none⟩) n nc) n e' hn16 (inL s) (inL t) (x : Int) (y : Int) (by rw [hxm]) (by rw [hym]) b hbb wr (HTAB.out wr (hb.trans (hbr.mono (by have := HSS.out; omega)))) (Row.of_owns hN))
                clear hs hts hxm hym hbb HY1
                go_wp2_with fail
                refine HJ.out.mono ?_
                rintro e1 w3 ⟨rfl, hb3⟩
                have hN3 := owns_below hN hb3
                have hO3 := owns_below hO hb3
                have hbr3 := hbr.trans (hb3.mono (by omega))
                clear hN hO hbr hb3 hcy HJ
                cases b with
                | false =>
                  have HNO := Lib.hid (tri_no (touchM n e' mss) HBB.out)
                  go_wp2_with fail
                  go_roundw
                  case rel => exact ⟨j + 1, by omega, by go_num, hN3, by rw [← HNO.out]; exact hO3, hbr3⟩
                  case measure => simp [intOf]; omega
                | true =>
                  have HYE := Lib.hid (tri_yes (touchM n e' mss) HBB.out hlj)
                  have hjo := join_any S C M oc (NB M (tri (touchM n e' mss) k j)) (NB_length _ _) (NB_small (by omega) _) k j hlt (by omega) (by omega) (by omega) w3 hO3
                  rw [joinS_NB _ hlt (by omega), plus_comm, HYE.out] at hjo
                  have HJO := Lib.hid hjo
                  clear hjo
                  go_wp2_with fail
                  refine HJO.out.mono ?_
                  rintro e1 w4 ⟨rfl, hO4, hg4⟩
                  have hN4 := hN3.kept hg4 (.inr (by simp [Value.ownBlock]; omega))
                  have hbr4 : Below S w1 w4 := hbr3.grown hg4 (by have := hbr3.size; have := HSS.out; omega) (fun b hb' => by have := (owns_lt hO3 (b := C) rfl).1; simp at hb'; omega)
                  clear hN3 hO3 hbr3 hg4 HJO
                  go_wp2_with fail
                  go_roundw
                  case rel => exact ⟨j + 1, by omega, by go_num, hN4, hO4, hbr4⟩
                  case measure => simp [intOf]; omega
              · obtain rfl : j = k := by omega
                have HNX := Lib.hid (tri_next (touchM n e' mss) j)
                go_wp2_with fail
                go_roundw
                case rel => exact ⟨j + 1, by omega, by go_num, hN, by rw [← HNX.out]; exact hO, hbr⟩
                case measure => simp [intOf]; omega
          · obtain rfl : k = M := by omega
            have hbw := hb.trans (hbr.mono (by have := HSS.out; omega))
            have VRr := VR.belowAt hbr (by have := HSS.out; omega)
            have hql : (NB k (quoB n e' mss)).length = k := NB_length _ _
            rw [quo_sym HA.out] at hO
            have HGR := Lib.hid (graph_any (.slice (some ⟨C, 0, none⟩) k oc) (NB k (quoB n e' mss)) (NB_small (by omega) _) (by rw [hql]; omega) wr (HTAB.out wr hbw) (by rw [hql]; exact Row.of_owns hO))
            clear hN hO
            go_wp2_with fail
            refine HGR.out.mono ?_
            rintro e1 w5 ⟨u5, vs, rfl, hG, hb5⟩
            obtain ⟨ga, gc, rfl⟩ := owns_shape hG.outer
            have VR5 := VRr.belowAt hb5 (by omega)
            have hcr := VR5.cell
            have hfr := VR5.free
            have HG := Lib.hid hG
            have HB5 := Lib.hid (hbw.trans (hb5.mono (by have := hbw.size; omega)))
            clear hb5 hG HGR
            go_wp2_with fail
            have hce := (VR5.set (.slice ga vs.length gc)).cell
            refine bodyPost_ret (v := .tuple #[.agg #[.slice ga vs.length gc], .bool true]) (by simp [results, Tryd.results36, go_sem, hce]) rfl ?_
            refine ⟨_, vs, rfl, ?_, by rw [hB]; exact HB5.out.setCell (show B ≤ B + 1 + 1 by omega) _⟩
            rw [hB, HROWS.out, ← rowsOf_NB (by omega)]
            exact (HG.out.other (by simp; omega) _).rebase (by omega)

theorem both_QuotientBy (xss mss : List (List Int)) : ∃ (rows : List (List Int)) (ok : Bool), 1 + total rows ≤ 1000000000 ∧ rows.length ≤ 1000000000 ∧
    (∀ (w : World) (g v2 : Value), Tab w → RdSS g xss w → RdSS v2 mss w → Calls Tryd.prog 33 #[.agg #[g], .agg #[v2]] w (GRes w rows ok)) ∧
    (∀ (w : World) (g v2 : Value), Tab w → RdSS g xss w → RdSS v2 mss w → Calls Tryd.prog 36 #[.agg #[g], .agg #[v2]] w (GRes w rows ok)) := by
  obtain ⟨rows, ok, h1, h2, hP⟩ := quoP_has xss mss
  exact ⟨rows, ok, h1, h2, fun w g v2 _ hr hm => specQuotientBy g xss v2 mss w hr hm rows ok hP, fun w g v2 ht hr hm => implQuotientBy g xss v2 mss w ht hr hm rows ok hP⟩
end Go.Proofs.YtehejjmmbjekgaaDoor
