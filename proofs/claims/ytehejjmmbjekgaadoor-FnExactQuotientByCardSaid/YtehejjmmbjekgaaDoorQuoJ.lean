/-
  'modelMasks' and 'QuotientBy' of the program; both.
-/
import Derived.Test.YtehejjmmbjekgaaDoorQuoI
import Derived.Test.YtehejjmmbjekgaaDoorQuoT
namespace Go.Proofs.YtehejjmmbjekgaaDoor
open Go.RowKit

/-- What 'modelMasks' returns. -/
def MMRes (w : World) (q : Bool) (n : Nat) (mss : List (List Int)) (r : Ending) (w' : World) : Prop :=
  ∃ u, r = .returned (.tuple #[u, .bool q]) ∧ Hid ((q = true ∧ Row w' 1 u mss.length (sets (MS n mss))) ∨ (q = false ∧ ∃ a n c, u = .slice a n c)) ∧ Below w.heap.size w w'

set_option maxHeartbeats 4000000 in
set_option maxRecDepth 100000 in
theorem modelMasks_any (g : Value) (xss : List (List Int)) (v2 : Value) (mss : List (List Int)) (w : World) (hr : RdSS g xss w) (hm : RdSS v2 mss w) (q : Bool) (hq : q = true ↔ (okB xss = true ∧ mss.length ≤ 16 ∧ Good xss.length mss mss.length)) :
    Calls Tryd.prog 94 #[.agg #[g], .agg #[v2]] w (MMRes w q xss.length mss) := by
  obtain ⟨a, c, rfl⟩ := hr.shape
  obtain ⟨a2, c2, rfl⟩ := hm.shape
  have hlm : mss.length ≤ maxLen := (let ⟨_, h⟩ := hm.ex; by have := h.outer.len; have := h.len; simp at *; omega)
  unfold maxLen at hlm
  obtain ⟨B, hB⟩ : ∃ B, w.heap.size = B := ⟨_, rfl⟩
  obtain ⟨W0, hW0⟩ : ∃ W0, W0 = w.alloc (.cells #[.slice a xss.length c] 24) := ⟨_, rfl⟩
  obtain ⟨W1, hW1⟩ : ∃ W1, W1 = W0.alloc (.cells #[.slice a2 mss.length c2] 40) := ⟨_, rfl⟩
  have hz0 : W0.heap.size = B + 1 := by simp [hW0, hB]
  have hz1 : W1.heap.size = B + 2 := by simp [hW1, hz0]
  have u0 : Below B w W0 := by rw [hW0, ← hB]; exact below_alloc' _ _
  have u1 : Below (B + 1) W0 W1 := by rw [hW1, ← hz0]; exact below_alloc' _ _
  have VG0 : VC 24 B #[.slice a xss.length c] W0 := by rw [hW0]; exact VC.new hB
  have VG1 := VG0.belowAt u1 (by omega)
  have VM1 : VC 40 (B + 1) #[.slice a2 mss.length c2] W1 := by rw [hW1]; exact VC.new hz0
  have u01 : Below B w W1 := u0.trans (u1.mono (by omega))
  have HQ := Lib.hid hq
  have HRD : Hid (∀ W, Below B w W → RdSS (.slice a xss.length c) xss W ∧ RdSS (.slice a2 mss.length c2) mss W) := Lib.hid fun W h => ⟨hr.below h hB, hm.below h hB⟩
  have hcg := VG1.cell
  have hcm := VM1.cell
  clear VG0 u0 u1 hq hr hm
  go_enter Tryd.func94, Tryd.ntmps94
  go_wp2_with fail
  rw [← hW0, ← hW1]
  clear hW0 hW1
  refine (implOk _ xss W1 (HRD.out W1 u01).1).mono ?_
  rintro e1 w1 ⟨rfl, hb1⟩
  have VG2 := VG1.belowAt hb1 (by omega)
  have VM2 := VM1.belowAt hb1 (by omega)
  have hb := u01.trans (hb1.mono (by omega))
  have hz2 : B + 2 ≤ w1.heap.size := by have := hb1.size; omega
  clear hcg hcm hb1 VG1 VM1
  have hcg := VG2.cell
  have hcm := VM2.cell
  cases hok : okB xss with
  | false =>
    obtain rfl : q = false := by
      cases q with
      | false => rfl
      | true => have := (HQ.out.1 rfl).1; rw [hok] at this; cases this
    clear hok
    go_wp2_with fail
    refine bodyPost_ret (v := .tuple #[.slice none 0 0, .bool false]) (by simp [results, Tryd.results94, go_sem]) rfl ?_
    exact ⟨_, rfl, Lib.hid (.inr ⟨rfl, _, _, _, rfl⟩), by rw [hB]; exact hb⟩
  | true =>
    by_cases hl16 : 16 < mss.length
    · obtain rfl : q = false := by
        cases q with
        | false => rfl
        | true => have := (HQ.out.1 rfl).2.1; omega
      have hd : (16 : Int) < mss.length := by omega
      clear hok
      go_wp2_with fail
      refine bodyPost_ret (v := .tuple #[.slice none 0 0, .bool false]) (by simp [results, Tryd.results94, go_sem]) rfl ?_
      exact ⟨_, rfl, Lib.hid (.inr ⟨rfl, _, _, _, rfl⟩), by rw [hB]; exact hb⟩
    have hd : ¬ (16 : Int) < mss.length := by omega
    have hn16 := (ok_size hok).2
    have hHn : Hid (okB xss = true) := Lib.hid hok
    clear hok
    obtain ⟨n, hn⟩ : ∃ n, xss.length = n := ⟨_, rfl⟩
    rw [hn] at hn16 hcg VG2 ⊢
    obtain ⟨C, hC⟩ : ∃ C, w1.heap.size = C := ⟨_, rfl⟩
    have ho0 : (w1.alloc (.cells #[] 116)).ownsRow C 116 1 (.slice (some ⟨C, 0, none⟩) 0 0) 0 (sets ((MS n mss).take 0)) := by rw [← hC]; exact World.ownsRow_lit w1 #[] 0 (Nat.le_refl _) (by simp [maxLen]) rfl
    have hb0 : Below C w1 (w1.alloc (.cells #[] 116)) := by rw [← hC]; exact below_alloc' _ _
    have HZ0 : Hid ((0 : Int) = (maskB n (unionB mss 0) : Nat)) := Lib.hid (by rw [unionB_zero, maskB_zero]; rfl)
    have HG0 : Hid (Good n mss 0) := Lib.hid Good.zero
    have hcm2 := (VM2.belowAt hb0 (by omega)).cell
    clear hcg
    go_wp2_with fail
    clear hcm
    try rw [hC]
    go_loopw [6, 7, 23] (fun ov sv i wr => ∃ (k : Nat) (z : Int), k ≤ mss.length ∧ i = .int .i64 k ∧ sv = .int .u32 z ∧ Hid (z = (maskB n (unionB mss k) : Nat)) ∧ Hid (Good n mss k) ∧ wr.ownsRow C 116 1 ov k (sets ((MS n mss).take k)) ∧ Below C w1 wr) (fun _ _ i _ => mss.length - (intOf i).toNat)
    case atStart => exact ⟨0, 0, Nat.zero_le _, rfl, rfl, HZ0, HG0, ho0, hb0⟩
    case round =>
      clear ho0 hb0 HZ0 HG0 hcm2
      obtain ⟨k, z, hk, rfl, rfl, HZ, HGD, ho, hbr⟩ := hrel
      have hszr := hbr.size
      have hbw := hb.trans (hbr.mono (by omega))
      by_cases hlt : k < mss.length
      · have VGr := VG2.belowAt hbr (by omega)
        have hcg := VGr.cell
        obtain ⟨mb, mo, ra, rc, s, rfl, hc1, hr1, HS⟩ := RdSS.rowAtL (HRD.out wr hbw).2 hlt
        have HSO := Lib.hid (implSetOk (.slice a n c) xss (.slice ra s.length rc) s wr (hn ▸ (HRD.out wr hbw).1) hr1)
        rw [hHn.out, Bool.true_and, hn] at HSO
        have HRS : Hid (∀ W, Below C w1 W → RdS (.slice ra s.length rc) s W) := Lib.hid fun W h => by
          obtain ⟨mb', mo', ra', rc', s', e8, hc1', hr1', HS'⟩ := RdSS.rowAtL (HRD.out wr hbw).2 hlt
          obtain ⟨vsr, hG⟩ := (HRD.out w1 hb).2.ex
          obtain ⟨vb, vo, u, xs, e9, hcu, hxu, _, HX⟩ := hG.intsAt (k := k) hlt
          obtain ⟨rfl, rfl⟩ : mb = vb ∧ mo = vo := by simpa using e9
          have hlu : mb < C := by have := World.block_lt_of_cell? _ _ hcu; simp at this; omega
          have hcu' := (hbr.cell (p := ⟨mb, mo + k, none⟩) hlu).trans hcu
          rw [hc1] at hcu'
          obtain rfl := Option.some.inj hcu'
          obtain rfl : s = xs := by have := HS.out; rw [HX.out] at this; exact (Option.some.inj this).symm
          exact Row.below hxu (hC.symm ▸ h)
        clear hr1
        go_wp2_with fail
        refine HSO.out.mono ?_
        rintro e1 w3 ⟨rfl, hb3⟩
        have hdr : Below C w1 w3 := hbr.trans (hb3.mono (by omega))
        have ho3 := owns_below ho hb3
        have hrs3 := HRS.out w3 hdr
        have hsz3 := hdr.size
        clear hcg HSO hc1 hb3 hbr VGr ho
        by_cases hsp : SetP n s
        · have hdec : decide (SetP n s) = true := decide_eq_true hsp
          rw [hdec]
          have HMA : Hid (∀ W, Below C w1 W → _) := Lib.hid fun W (h : Below C w1 W) => maskOf_any (.slice ra s.length rc) s n hn16 hsp W (HRS.out W h)
          have HSP := Lib.hid hsp
          obtain ⟨m, HM⟩ : ∃ m : Nat, Hid (maskB n (inL s) = m) := ⟨_, Lib.hid rfl⟩
          obtain ⟨m2, HM2⟩ : ∃ m : Nat, Hid (maskB n (fun i => inL s i && unionB mss k i) = m) := ⟨_, Lib.hid rfl⟩
          obtain ⟨m3, HM3⟩ : ∃ m : Nat, Hid (maskB n (unionB mss (k + 1)) = m) := ⟨_, Lib.hid rfl⟩
          have hba : bits BinOp.and IntKind.u32 (m : Int) z = (m2 : Int) := by rw [← HM.out, HZ.out, ← HM2.out, mask_and (by omega)]
          have hbo : bits BinOp.or IntKind.u32 z (m : Int) = (m3 : Int) := by rw [← HM.out, HZ.out, ← HM3.out, maskB_or (by omega), unionB_succ HS.out]
          rw [HM.out] at HMA
          have HMA0 := Lib.hid (HMA.out w3 hdr)
          clear hsp hdec hrs3
          by_cases h0 : m2 = 0
          · have hd0 : ((m2 : Int) != 0) = false := by simp [h0]
            have HG2 : Hid (Good n mss (k + 1)) := Lib.hid (HGD.out.succ HS.out HSP.out ((apart_mask HSP.out).1 (by rw [HM2.out]; exact h0)))
            have HN : Hid (sets ((MS n mss).take (k + 1)) = sets ((MS n mss).take k) ++ [.int .u32 (m : Int)]) := Lib.hid (by rw [take_snoc (MS_at HS.out), HM.out]; simp [sets])
            clear h0
            go_wp2_with fail
            refine HMA0.out.mono ?_
            rintro e1 w' ⟨rfl, rfl⟩
            go_wp2_with fail
            refine HMA0.out.mono ?_
            rintro e1 w' ⟨rfl, rfl⟩
            go_wp2_with (at_builtin; refine wpList_push _ rfl _ _ 93 rfl C 116 _ _ 4 Tryd.underlying93 infoV rfl _ k (sets ((MS n mss).take k)) rfl ho3 _ rfl rfl (by unfold maxLen; omega) (by omega) (by omega) ?_; intro g' c' w4 ho4 hg4)
            have hb4 : Below C w1 w4 := hdr.grown hg4 (by omega) (fun b hb' => (owns_lt ho3 hb').1)
            refine (HMA.out w4 hb4).mono ?_
            rintro e1 w' ⟨rfl, rfl⟩
            go_wp2_with fail
            have HB4 := Lib.hid hb4
            have HO4 := Lib.hid ho4
            clear hb4 ho4 hg4 ho3 hdr
            go_roundw
            case rel => exact ⟨k + 1, m3, by omega, by go_num, rfl, Lib.hid (by rw [HM3.out]), HG2, by rw [HN.out]; exact HO4.out, HB4.out⟩
            case measure => simp [intOf]; omega
          · have hd0 : ((m2 : Int) != 0) = true := by simpa using h0
            have HF : Hid (q = false) := Lib.hid (by
              cases q with
              | false => rfl
              | true =>
                have hg := (HQ.out.1 rfl).2.2
                rw [hn] at hg
                refine (h0 ?_).elim
                rw [← HM2.out]
                exact (apart_mask HSP.out).2 (hg k s hlt HS.out).2)
            have hbe := hb.trans (hdr.mono (by omega))
            clear h0
            go_wp2_with fail
            refine HMA0.out.mono ?_
            rintro e1 w' ⟨rfl, rfl⟩
            go_wp2_with fail
            refine bodyPost_ret (v := .tuple #[.slice none 0 0, .bool false]) (by simp [results, Tryd.results94, go_sem]) rfl ?_
            exact ⟨_, by rw [HF.out], Lib.hid (.inr ⟨HF.out, _, _, _, rfl⟩), by rw [hB]; exact hbe⟩
        · have HF : Hid (q = false) := Lib.hid (by
            cases q with
            | false => rfl
            | true =>
              have hg := (HQ.out.1 rfl).2.2
              rw [hn] at hg
              exact (Good.not_set HS.out hsp hg).elim)
          have hdec : decide (SetP n s) = false := decide_eq_false hsp
          rw [hdec]
          have hbe := hb.trans (hdr.mono (by omega))
          clear hsp hdec
          go_wp2_with fail
          refine bodyPost_ret (v := .tuple #[.slice none 0 0, .bool false]) (by simp [results, Tryd.results94, go_sem]) rfl ?_
          exact ⟨_, by rw [HF.out], Lib.hid (.inr ⟨HF.out, _, _, _, rfl⟩), by rw [hB]; exact hbe⟩
      · obtain rfl : k = mss.length := by omega
        have HF : Hid (q = true) := Lib.hid (HQ.out.2 ⟨hHn.out, by omega, by rw [hn]; exact HGD.out⟩)
        rw [List.take_of_length_le (by simp)] at ho
        obtain ⟨oa, oc, rfl⟩ := owns_shape ho
        have hlo : (sets (MS n mss)).length = mss.length := by simp [sets]
        go_wp2_with fail
        refine bodyPost_ret (v := .tuple #[.slice oa mss.length oc, .bool true]) (by simp [results, Tryd.results94, go_sem]) rfl ?_
        exact ⟨_, by rw [HF.out], Lib.hid (.inl ⟨HF.out, hn.symm ▸ Row.of_owns ho⟩), by rw [hB]; exact hbw⟩
end Go.Proofs.YtehejjmmbjekgaaDoor
