/-
  'ModelWord' and 'QuotientBy' of the reference.
-/
import Derived.Test.YtehejjmmbjekgaaDoorQuoE
import Derived.Test.YtehejjmmbjekgaaDoorWordT
namespace Go.Proofs.YtehejjmmbjekgaaDoor
open Go.RowKit

theorem RdSS.rowAtL {xss : List (List Int)} {w : World} {a : Option Addr} {c : Nat} (h : RdSS (.slice a xss.length c) xss w) {j : Nat} (hj : j < xss.length) :
    ∃ b o ra rc xs, a = some ⟨b, o, none⟩ ∧ w.cell? ⟨b, o + j, none⟩ = some (.slice ra xs.length rc) ∧ Row w 1 (.slice ra xs.length rc) xs.length (ints xs) ∧ Hid (xss[j]? = some xs) := by
  obtain ⟨vsr, hG⟩ := h.ex
  obtain ⟨rb, ro, r, xs, rfl, hc, hxr, -, HXX⟩ := hG.intsAt (k := j) hj
  obtain ⟨ra, rc, rfl, -, -, -⟩ := id hxr
  exact ⟨rb, ro, ra, rc, xs, rfl, hc, hxr, HXX⟩
theorem gt_get_set {ds : List Int} {n q v : Nat} {d : Int} (hl : ds.length = n) (hq : q < n) : (ds.set q d).getD v 0 = if v = q then d else ds.getD v 0 := by
  simp only [List.getD, List.getElem?_set]
  by_cases h : q = v
  · subst h; simp [hl, hq]
  · have : ¬ v = q := fun h' => h h'.symm
    simp [h, this]
theorem rise_new {n : Nat} {s : List Int} (h : SetP n s) {j : Nat} {q : Int} (hj : s[j]? = some q) : q ∉ s.take j := by
  intro hm
  obtain ⟨i, hi⟩ := List.getElem?_of_mem hm
  have hij : i < j := by have := (List.getElem?_eq_some_iff.1 hi).1; simp at this; omega
  have hi2 : s[i]? = some q := by rw [List.getElem?_take] at hi; simpa [hij] using hi
  obtain ⟨h1, e1⟩ := List.getElem?_eq_some_iff.1 hi2
  obtain ⟨h2, e2⟩ := List.getElem?_eq_some_iff.1 hj
  have := List.pairwise_iff_getElem.1 h.2 i j h1 h2 hij
  omega

set_option maxHeartbeats 4000000 in
theorem modelWord_any (g : Value) (xss : List (List Int)) (v2 : Value) (mss : List (List Int)) (w : World) (hr : RdSS g xss w) (hm : RdSS v2 mss w) (q : Bool) (hq : q = true ↔ (okB xss = true ∧ mss.length ≤ 16 ∧ Good xss.length mss mss.length)) :
    Calls Tryd.prog 91 #[.agg #[g], .agg #[v2]] w fun r w' => ∃ u, r = .returned (.tuple #[u, .bool q]) ∧ Below w.heap.size w w' := by
  obtain ⟨a, c, rfl⟩ := hr.shape
  obtain ⟨a2, c2, rfl⟩ := hm.shape
  have hlm : mss.length ≤ maxLen := (let ⟨_, h⟩ := hm.ex; by have := h.outer.len; have := h.len; simp at *; omega)
  unfold maxLen at hlm
  obtain ⟨B, hB⟩ : ∃ B, w.heap.size = B := ⟨_, rfl⟩
  obtain ⟨W0, hW0⟩ : ∃ W0, W0 = w.alloc (.cells #[.slice a xss.length c] 24) := ⟨_, rfl⟩
  obtain ⟨W1, hW1⟩ : ∃ W1, W1 = W0.alloc (.cells #[.slice a2 mss.length c2] 40) := ⟨_, rfl⟩
  have hz0 : W0.heap.size = B + 1 := by simp [hW0, hB]
  have hz1 : W1.heap.size = B + 2 := by simp [hW1, hz0]
  have u0 : Below B w W0 := by rw [hW0, ← hB]; exact below_alloc' _ _
  have u1 : Below (B + 1) W0 W1 := by rw [hW1, ← hz0]; exact below_alloc' _ _
  have VG0 : VC 24 B #[.slice a xss.length c] W0 := by rw [hW0]; exact VC.new hB
  have VG1 := VG0.belowAt u1 (by omega)
  have VM1 : VC 40 (B + 1) #[.slice a2 mss.length c2] W1 := by rw [hW1]; exact VC.new hz0
  have u01 : Below B w W1 := u0.trans (u1.mono (by omega))
  have HQ := Lib.hid hq
  have HRD : Hid (∀ W, Below B w W → RdSS (.slice a xss.length c) xss W ∧ RdSS (.slice a2 mss.length c2) mss W) := Lib.hid fun W h => ⟨hr.below h hB, hm.below h hB⟩
  have hcg := VG1.cell
  have hcm := VM1.cell
  clear VG0 u0 u1 hq hr hm
  go_enter Tryd.func91, Tryd.ntmps91
  go_wp2_with fail
  rw [← hW0, ← hW1]
  clear hW0 hW1
  refine (specOk _ xss W1 (HRD.out W1 u01).1).mono ?_
  rintro e1 w1 ⟨rfl, hb1⟩
  have VG2 := VG1.belowAt hb1 (by omega)
  have VM2 := VM1.belowAt hb1 (by omega)
  have hb := u01.trans (hb1.mono (by omega))
  have hz2 : B + 2 ≤ w1.heap.size := by have := hb1.size; omega
  clear hcg hcm hb1 VG1 VM1
  have hcg := VG2.cell
  have hcm := VM2.cell
  cases hok : okB xss with
  | false =>
    obtain rfl : q = false := by
      cases q with
      | false => rfl
      | true => have := (HQ.out.1 rfl).1; rw [hok] at this; cases this
    clear hok
    go_wp2_with fail
    refine bodyPost_ret (v := .tuple #[.slice (some ⟨w1.heap.size, 0, none⟩) 0 0, .bool false]) (by simp [results, Tryd.results91, go_sem]) rfl ?_
    exact ⟨_, rfl, by rw [hB]; exact hb.alloc (by omega) _⟩
  | true =>
    by_cases hl16 : 16 < mss.length
    · obtain rfl : q = false := by
        cases q with
        | false => rfl
        | true => have := (HQ.out.1 rfl).2.1; omega
      have hd : (16 : Int) < mss.length := by omega
      clear hok
      go_wp2_with fail
      refine bodyPost_ret (v := .tuple #[.slice (some ⟨w1.heap.size, 0, none⟩) 0 0, .bool false]) (by simp [results, Tryd.results91, go_sem]) rfl ?_
      exact ⟨_, rfl, by rw [hB]; exact hb.alloc (by omega) _⟩
    have hd : ¬ (16 : Int) < mss.length := by omega
    have hn16 := (ok_size hok).2
    have hHn : Hid (okB xss = true) := Lib.hid hok
    clear hok
    obtain ⟨n, hn⟩ : ∃ n, xss.length = n := ⟨_, rfl⟩
    rw [hn] at hn16
    have HNL := Lib.hid hn
    rw [hn] at hcg VG2
    go_wp2_with (at_make; refine wpList_make _ rfl _ _ 38 rfl (B + 2) 2 (.int .i64 0) 8 Tryd.underlying38 infoI rfl .i64 .i64 _ _ n rfl rfl (by omega) (by omega) (by omega) (by unfold maxLen; omega) (by omega) ?_; intro w2 ho2 hb2)
    obtain ⟨C, hC⟩ : ∃ C, w1.heap.size = C := ⟨_, rfl⟩
    rw [hC] at ho2 hb2
    first | rw [hC] | skip
    have ho2' : w2.ownsRow (B + 2) 2 1 (.slice (some ⟨C, 0, none⟩) n n) n (ints (List.replicate n 0)) := by rw [show ints (List.replicate n 0) = List.replicate n (.int .i64 0) by simp [ints]]; exact ho2
    have HG0 : Hid (Good n mss 0) := Lib.hid Good.zero
    have HD0 : Hid (∀ v, v < n → (0 < (List.replicate n (0 : Int)).getD v 0 ↔ unionB mss 0 v = true)) := Lib.hid fun v hv => by simp [unionB, List.getD, hv]
    clear ho2
    go_loopw [7] (fun i wr => ∃ (k : Nat) (ds : List Int), k ≤ mss.length ∧ i = .int .i64 k ∧ ds.length = n ∧ Hid (Good n mss k) ∧ Hid (∀ v, v < n → (0 < ds.getD v 0 ↔ unionB mss k v = true)) ∧ wr.ownsRow (B + 2) 2 1 (.slice (some ⟨C, 0, none⟩) n n) n (ints ds) ∧ Below C w1 wr) (fun i _ => mss.length - (intOf i).toNat)
    case atStart => exact ⟨0, _, Nat.zero_le _, rfl, by simp, HG0, HD0, ho2', hb2⟩
    case round =>
      clear ho2' hb2 HG0 HD0 hcg hcm
      obtain ⟨k, ds, hk, rfl, hdl, HGD, HDS, ho, hbr⟩ := hrel
      have hszr := hbr.size
      have VGr := VG2.belowAt hbr (by omega)
      have VMr := VM2.belowAt hbr (by omega)
      have hcg := VGr.cell
      have hcm := VMr.cell
      have hbw := hb.trans (hbr.mono (by omega))
      by_cases hlt : k < mss.length
      · obtain ⟨mb, mo, ra, rc, s, rfl, hc1, hr1, HS⟩ := RdSS.rowAtL (HRD.out wr hbw).2 hlt
        have HSO := Lib.hid (specSetOk (.slice a n c) xss (.slice ra s.length rc) s wr.drew (hn ▸ (HRD.out wr.drew hbw.drew).1) (Row.below hr1 (below_drewN' wr 1)))
        rw [hHn.out, Bool.true_and, hn] at HSO
        have HR1 := Lib.hid hr1
        clear hr1
        go_wp2_with fail
        refine wp_region_ord [1, 3] [0, 2, 4, 5] [] [6, 7] (by kernel_rfl) (by kernel_rfl) (fun _ _ d _ _ h => by cases d <;> exact h) ?_
        simp only [pickOps, List.filterMap_cons, List.filterMap_nil, List.getElem?_cons_succ, List.getElem?_cons_zero]
        repeat quiet_step (fail)
        simp only [wpQuiet_nil_eq, wpSegs_nil_eq]
        go_wp2_with fail
        refine HSO.out.mono ?_
        rintro e1 w3 ⟨rfl, hb3⟩
        have hz3 : wr.drew.heap.size = wr.heap.size := rfl
        rw [hz3] at hb3
        have hdr : Below C w1 w3 := hbr.drew.trans (hb3.mono (by omega))
        have ho3 := owns_below ho.drew hb3
        clear hcg hcm HSO hc1 hb3 hbr VGr VMr ho
        by_cases hsp : SetP n s
        · have hdec : decide (SetP n s) = true := decide_eq_true hsp
          rw [hdec]
          have HSP := Lib.hid hsp
          have HEM : Hid (∀ v, inL (s.take 0) v = true → unionB mss k v = false) := Lib.hid fun v h => by simp [inL] at h
          have HD1 : Hid (∀ v, v < n → (0 < ds.getD v 0 ↔ (unionB mss k v = true ∨ inL (s.take 0) v = true))) := Lib.hid fun v hv => by rw [HDS.out v hv]; simp [inL]
          clear hsp hdec HDS
          go_wp2_with fail
          go_loopw [8] (fun t wr => ∃ (j : Nat) (ds : List Int), j ≤ s.length ∧ t = .int .i64 j ∧ ds.length = n ∧ Hid (∀ v, inL (s.take j) v = true → unionB mss k v = false) ∧ Hid (∀ v, v < n → (0 < ds.getD v 0 ↔ (unionB mss k v = true ∨ inL (s.take j) v = true))) ∧ wr.ownsRow (B + 2) 2 1 (.slice (some ⟨C, 0, none⟩) n n) n (ints ds) ∧ Below C w1 wr) (fun t _ => s.length - (intOf t).toNat)
          case atStart => exact ⟨0, ds, Nat.zero_le _, rfl, hdl, HEM, HD1, ho3, hdr⟩
          case round =>
            clear ho3 hdr HEM HD1
            obtain ⟨j, ds, hj, rfl, hdl, HEM, HDS, ho, hbr⟩ := hrel
            have hszr := hbr.size
            have hbw := hb.trans (hbr.mono (by omega))
            have VMr := VM2.belowAt hbr (by omega)
            have hcm := VMr.cell
            obtain ⟨mb', mo', ra', rc', s', e8, hc1, hr1, HS'⟩ := RdSS.rowAtL (HRD.out wr hbw).2 hlt
            obtain ⟨rfl, rfl⟩ : mb = mb' ∧ mo = mo' := by simpa using e8
            obtain rfl : s = s' := by have := HS.out; rw [HS'.out] at this; exact (Option.some.inj this).symm
            have hsl := hr1.len
            unfold maxLen at hsl
            clear e8 HS'
            by_cases hlj : j < s.length
            · obtain ⟨yb, yo, y, rfl, hcy, HY⟩ := Row.intAt hr1 hlj
              obtain ⟨q', rfl⟩ := Int.eq_ofNat_of_zero_le (HSP.out.1 y (List.mem_of_getElem? HY.out)).1
              have hqn : q' < n := by have := (HSP.out.1 q' (List.mem_of_getElem? HY.out)).2; omega
              obtain ⟨d, hd2⟩ : ∃ d, ds.getD q' 0 = d := ⟨_, rfl⟩
              have HDD := Lib.hid hd2
              have hcd : wr.cell? ⟨C, q', none⟩ = some (.int .i64 d) := by
                rw [ho.cellAt q' (by omega), ← hd2]
                simp [ints, List.getD, hdl, hqn]
              have hfo := ho.frozenAt q'
              clear hr1 hd2
              by_cases hdp : 0 < d
              · have HF : Hid (q = false) := Lib.hid (by
                  cases q with
                  | false => rfl
                  | true =>
                    have hg := (HQ.out.1 rfl).2.2
                    rw [hn] at hg
                    rcases (HDS.out q' hqn).1 (by rw [HDD.out]; exact hdp) with h | h
                    · exact (Good.not_apart HS.out q' (by unfold inL; rw [decide_eq_true_eq]; exact List.mem_of_getElem? HY.out) h hg).elim
                    · unfold inL at h
                      rw [decide_eq_true_eq] at h
                      exact (rise_new HSP.out HY.out h).elim)
                go_wp2_with fail
                refine bodyPost_ret (v := .tuple #[.slice (some ⟨wr.heap.size, 0, none⟩) 0 0, .bool false]) (by simp [results, Tryd.results91, go_sem]) rfl ?_
                exact ⟨_, by rw [HF.out], by rw [hB]; exact hbw.alloc (by have := hbw.size; omega) _⟩
              · have hst := ho.stored q' (.int .i64 ((k : Int) + 1))
                have hun : unionB mss k q' = false := by
                  cases h : unionB mss k q' with
                  | false => rfl
                  | true => exact (hdp (by rw [← HDD.out]; exact (HDS.out q' hqn).2 (.inl h))).elim
                have HEM2 : Hid (∀ v, inL (s.take (j + 1)) v = true → unionB mss k v = false) := Lib.hid fun v hv => by
                  rw [inL_take_succ HY.out] at hv
                  simp only [Bool.or_eq_true, decide_eq_true_eq] at hv
                  rcases hv with hv | rfl
                  · exact HEM.out v hv
                  · exact hun
                have HDS2 : Hid (∀ v, v < n → (0 < (ds.set q' ((k : Int) + 1)).getD v 0 ↔ (unionB mss k v = true ∨ inL (s.take (j + 1)) v = true))) := Lib.hid fun v hv => by
                  rw [gt_get_set hdl hqn, inL_take_succ HY.out]
                  by_cases hvq : v = q'
                  · subst hvq
                    rw [if_pos rfl]
                    simp
                    try omega
                  · rw [if_neg hvq, HDS.out v hv]
                    simp [hvq]
                have HST : Hid ((wr.setCell ⟨C, q', none⟩ (.int .i64 ((k : Int) + 1))).ownsRow (B + 2) 2 1 (.slice (some ⟨C, 0, none⟩) n n) n (ints (ds.set q' ((k : Int) + 1)))) := Lib.hid (by
                  have h1 := hst.1
                  rw [show ints (ds.set q' ((k : Int) + 1)) = (ints ds).set q' (.int .i64 ((k : Int) + 1)) by simp [ints, List.map_set]]
                  exact h1)
                have hln : (ds.set q' ((k : Int) + 1)).length = n := by simp [hdl]
                have hbs := hbr.setCell (p := ⟨C, q', none⟩) (by simp) (.int .i64 ((k : Int) + 1))
                have HBS := Lib.hid hbs
                clear hst hun hbs ho
                go_wp2_with fail
                go_roundw
                case rel => exact ⟨j + 1, _, by omega, by go_num, hln, HEM2, HDS2, HST.out, HBS.out⟩
                case measure => simp [intOf]; omega
            · obtain rfl : j = s.length := by omega
              have HG2 : Hid (Good n mss (k + 1)) := Lib.hid (HGD.out.succ HS.out HSP.out (by have := HEM.out; rwa [List.take_length] at this))
              have HD2 : Hid (∀ v, v < n → (0 < ds.getD v 0 ↔ unionB mss (k + 1) v = true)) := Lib.hid fun v hv => by
                rw [HDS.out v hv, unionB_succ HS.out, List.take_length, Bool.or_eq_true]
              clear hr1
              go_wp2_with fail
              go_roundw
              case rel => exact ⟨k + 1, _, by omega, by go_num, hdl, HG2, HD2, ho, hbr⟩
              case measure => simp [intOf]; omega
        · have HF : Hid (q = false) := Lib.hid (by
            cases q with
            | false => rfl
            | true =>
              have hg := (HQ.out.1 rfl).2.2
              rw [hn] at hg
              exact (Good.not_set HS.out hsp hg).elim)
          have hdec : decide (SetP n s) = false := decide_eq_false hsp
          rw [hdec]
          have hbe := hb.trans (hdr.mono (by omega))
          clear hsp hdec
          go_wp2_with fail
          refine bodyPost_ret (v := .tuple #[.slice (some ⟨w3.heap.size, 0, none⟩) 0 0, .bool false]) (by simp [results, Tryd.results91, go_sem]) rfl ?_
          exact ⟨_, by rw [HF.out], by rw [hB]; exact hbe.alloc (by have := hbe.size; omega) _⟩
      · obtain rfl : k = mss.length := by omega
        have HF : Hid (q = true) := Lib.hid (HQ.out.2 ⟨hHn.out, by omega, by rw [hn]; exact HGD.out⟩)
        go_wp2_with fail
        refine bodyPost_ret (v := .tuple #[.slice (some ⟨C, 0, none⟩) n n, .bool true]) (by simp [results, Tryd.results91, go_sem]) rfl ?_
        exact ⟨_, by rw [HF.out], by rw [hB]; exact hbw⟩

/-! ### The graph -/
def QR (m : Nat) (f : Nat → Nat → Bool) (i k : Nat) : List (List Int) := (List.range m).map fun a => rowB (if a < i then m else if a = i then k else 0) (f a)
@[simp] theorem QR_length (m : Nat) (f : Nat → Nat → Bool) (i k : Nat) : (QR m f i k).length = m := by simp [QR]
theorem QR_zero (m : Nat) (f : Nat → Nat → Bool) : QR m f 0 0 = List.replicate m [] := by
  unfold QR
  rw [List.eq_replicate_iff]
  refine ⟨by simp, fun b hb => ?_⟩
  obtain ⟨a, _, rfl⟩ := List.mem_map.1 hb
  have h1 : (if a < 0 then m else if a = 0 then 0 else 0) = 0 := by
    rw [if_neg (by omega)]
    split <;> rfl
  rw [h1]
  simp [rowB]
theorem QR_end (m : Nat) (f : Nat → Nat → Bool) : QR m f m 0 = rowsB m f := by
  unfold QR rowsB
  refine List.map_congr_left fun a ha => ?_
  rw [if_pos (List.mem_range.1 ha)]
theorem QR_next (m : Nat) (f : Nat → Nat → Bool) (i : Nat) : QR m f i m = QR m f (i + 1) 0 := by
  unfold QR
  refine List.map_congr_left fun a ha => ?_
  congr 1
  by_cases h1 : a < i
  · rw [if_pos h1, if_pos (by omega)]
  · by_cases h2 : a = i
    · rw [if_neg h1, if_pos h2, if_pos (by omega)]
    · rw [if_neg h1, if_neg h2, if_neg (by omega)]
      split <;> rfl
theorem QR_at {m i k : Nat} {f : Nat → Nat → Bool} (hi : i < m) : (QR m f i k)[i]? = some (rowB k (f i)) := by
  unfold QR
  rw [List.getElem?_map, List.getElem?_range hi]
  simp
theorem QR_skip {m i k : Nat} {f : Nat → Nat → Bool} (h : f i k = false) : QR m f i (k + 1) = QR m f i k := by
  unfold QR
  refine List.map_congr_left fun a ha => ?_
  by_cases h1 : a < i
  · rw [if_pos h1, if_pos h1]
  · by_cases h2 : a = i
    · subst h2
      rw [if_neg h1, if_pos rfl, if_neg h1, if_pos rfl, rowB_succ', h]
      simp
    · rw [if_neg h1, if_neg h2, if_neg h1, if_neg h2]
theorem QR_put {m i k : Nat} {f : Nat → Nat → Bool} (hi : i < m) (h : f i k = true) : QR m f i (k + 1) = (QR m f i k).set i (rowB k (f i) ++ [(k : Int)]) := by
  apply List.ext_getElem?
  intro a
  by_cases ha : a < m
  · by_cases hai : i = a
    · subst hai
      rw [List.getElem?_set_self (by simpa using hi), QR_at hi, rowB_succ', h]
      simp
    · rw [List.getElem?_set_ne hai]
      unfold QR
      rw [List.getElem?_map, List.getElem?_map, List.getElem?_range ha]
      simp only [Option.map_some]
      have h2 : ¬ a = i := fun e => hai e.symm
      by_cases h1 : a < i
      · rw [if_pos h1, if_pos h1]
      · rw [if_neg h1, if_neg h2, if_neg h1, if_neg h2]
  · rw [List.getElem?_eq_none (by simp; omega), List.getElem?_eq_none (by simp; omega)]
end Go.Proofs.YtehejjmmbjekgaaDoor
