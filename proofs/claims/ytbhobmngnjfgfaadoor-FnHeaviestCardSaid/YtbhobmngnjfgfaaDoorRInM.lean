import Derived.Test.YtbhobmngnjfgfaaDoorGq09
import Derived.Test.YtbhobmngnjfgfaaDoorMidM
import Derived.Test.YtbhobmngnjfgfaaDoorMskM
import Derived.Test.YtbhobmngnjfgfaaDoorSearchImplM
import Derived.Test.YtbhobmngnjfgfaaDoorSpecRuleM
/-
  'RuleIn' and 'RulesMany' of both; 'StableIn' of the reference.
-/





namespace Go.Proofs.YtbhobmngnjfgfaaDoor
open Go.RowKit

/-- What 'RuleIn' says of a graph and numbers. -/
def ruleIn (n : Nat) (e : Nat → Nat → Bool) (xs : List Int) : Bool := decide (SetP n xs) && ruleB n e (inL xs)
def stableIn (n : Nat) (e : Nat → Nat → Bool) (xs : List Int) : Bool := decide (SetP n xs) && stB n e (inL xs)

set_option maxHeartbeats 4000000 in
theorem implRuleIn (g : Value) (n : Nat) (e : Nat → Nat → Bool) (hA : Adj n e) (v : Value) (xs : List Int) (w : World) (ht : Tab w) (hg : RdSS g (rowsB n e) w) (hr : RdS v xs w) :
    Calls Tryd.prog 43 #[.agg #[g], v] w (BRes w (ruleIn n e xs)) := by
  obtain ⟨a, c, rfl⟩ := hg.shape
  obtain ⟨a2, c2, rfl, -, -, -⟩ := id hr
  rw [rowsB_length] at hg ⊢
  have hn16 := hA.le
  obtain ⟨B, hB⟩ : ∃ B, w.heap.size = B := ⟨_, rfl⟩
  have hTB : 2 < B := by rw [← hB]; exact ht.lt
  obtain ⟨W, hW⟩ : ∃ W, W = w.alloc (.cells #[.slice a n c] 56) := ⟨_, rfl⟩
  have u1 : Below B w W := by rw [hW, ← hB]; exact below_alloc' _ _
  have VG : VC 56 B #[.slice a n c] W := by rw [hW]; exact VC.new hB
  have hz0 : W.heap.size = B + 1 := by rw [hW]; simp [hB]
  have hcg := VG.cell
  have HOK := Lib.hid (okB_adj hA)
  have HA := Lib.hid hA
  clear hA
  go_enter Tryd.func43, Tryd.ntmps43
  go_wp2_with fail
  try rw [← hW]
  clear hW
  refine (implSetOk _ _ _ xs W (hg.below u1 hB) (hr.below u1 hB)).mono ?_
  rintro e1 w1 ⟨rfl, hb1⟩
  rw [HOK.out, Bool.true_and, rowsB_length]
  have hb := u1.trans (hb1.mono (by omega))
  have VG1 := VG.belowAt hb1 (by omega)
  have hz1 : B + 1 ≤ w1.heap.size := by have := hb1.size; omega
  clear hb1 hcg u1
  have hcg := VG1.cell
  by_cases hs : SetP n xs
  · have hd : decide (SetP n xs) = true := by simpa using hs
    have HRI : Hid (ruleIn n e xs = ruleB n e (inL xs)) := Lib.hid (by unfold ruleIn; rw [hd, Bool.true_and])
    have HN := Lib.hid (netsOf_any (.slice a n c) n e hn16 w1 (hg.below hb hB))
    have HS := Lib.hid hs
    rw [hd]
    clear hd hs
    go_wp2_with fail
    refine HN.out.mono ?_
    rintro e1 w2 ⟨u, rfl, hN, hb2⟩
    replace hb := hb.trans (hb2.mono (by omega))
    have VG2 := VG1.belowAt hb2 (by omega)
    have hz2 : w1.heap.size ≤ w2.heap.size := hb2.size
    clear hcg hb2 HN
    have hcg := VG2.cell
    go_wp2_with fail
    refine (maskOf_any _ xs n hn16 HS.out w2 (hr.below hb hB)).mono ?_
    rintro e1 w3 ⟨rfl, rfl⟩
    obtain ⟨z, HZ⟩ : ∃ z : Int, Hid (z = (maskB n (inL xs) : Nat)) := ⟨_, Lib.hid rfl⟩
    rw [← HZ.out]
    have HRU := Lib.hid (rules_any u n e hn16 (inL xs) z HZ.out w2 (ht.keep hb hTB) (Row.of_owns hN))
    clear hN
    go_wp2_with fail
    refine HRU.out.mono ?_
    rintro e1 w4 ⟨rfl, hb4⟩
    have HB4 := Lib.hid (hb.trans (hb4.mono (by omega)))
    rw [← HRI.out]
    clear hb hb4 hcg
    go_wp2_with fail
    go_ret
    exact ⟨rfl, by rw [hB]; exact HB4.out⟩
  · have hd : decide (SetP n xs) = false := by simpa using hs
    have HRI : Hid (ruleIn n e xs = false) := Lib.hid (by unfold ruleIn; rw [hd, Bool.false_and])
    rw [hd]
    clear hd hs
    go_wp2_with fail
    go_ret
    exact ⟨by rw [HRI.out]; rfl, by rw [hB]; exact hb⟩

theorem maskB_below (n : Nat) (p : Nat → Bool) : maskB n p < 2 ^ n := by
  refine Nat.lt_pow_two_of_testBit _ fun i hi => ?_
  rw [testBit_maskB]
  have : ¬ i < n := by omega
  simp [this]
theorem dom_mask {n : Nat} {e : Nat → Nat → Bool} (p : Nat → Bool) : maskB n (domB n e (maskB n p).testBit) = maskB n (domB n e p) := by
  refine maskB_ext fun b hb => ?_
  unfold domB
  rw [testBit_maskB]
  simp only [hb, decide_true, Bool.true_and]
  congr 1
  rw [Bool.eq_iff_iff, List.any_eq_true, List.any_eq_true]
  constructor
  · rintro ⟨v, hv, h⟩
    rw [testBit_maskB] at h
    have hv' := List.mem_range.1 hv
    simp only [hv', decide_true, Bool.true_and] at h
    exact ⟨v, hv, h⟩
  · rintro ⟨v, hv, h⟩
    refine ⟨v, hv, ?_⟩
    rw [testBit_maskB]
    have hv' := List.mem_range.1 hv
    simp only [hv', decide_true, Bool.true_and]
    exact h

set_option maxHeartbeats 4000000 in
theorem specStableIn (g : Value) (n : Nat) (e : Nat → Nat → Bool) (hA : Adj n e) (v : Value) (xs : List Int) (hs : SetP n xs) (w : World) (hg : RdSS g (rowsB n e) w) (hr : RdS v xs w) :
    Calls Tryd.prog 50 #[.agg #[g], v] w (BRes w (stB n e (inL xs))) := by
  obtain ⟨a, c, rfl⟩ := hg.shape
  obtain ⟨a2, c2, rfl, -, -, -⟩ := id hr
  rw [rowsB_length] at hg ⊢
  have hn16 := hA.le
  obtain ⟨B, hB⟩ : ∃ B, w.heap.size = B := ⟨_, rfl⟩
  obtain ⟨W, hW⟩ : ∃ W, W = w.alloc (.cells #[.slice a n c] 56) := ⟨_, rfl⟩
  have u1 : Below B w W := by rw [hW, ← hB]; exact below_alloc' _ _
  have VG : VC 56 B #[.slice a n c] W := by rw [hW]; exact VC.new hB
  have hz0 : W.heap.size = B + 1 := by rw [hW]; simp [hB]
  have hcg := VG.cell
  have HOK := Lib.hid (okB_adj hA)
  have HD := Lib.hid (show decide (SetP n xs) = true by simpa using hs)
  have HS := Lib.hid hs
  clear hA hs
  go_enter Tryd.func50, Tryd.ntmps50
  go_wp2_with fail
  try rw [← hW]
  clear hW
  refine (specOk _ _ W (hg.below u1 hB)).mono ?_
  rintro e1 w1 ⟨rfl, hb1⟩
  rw [HOK.out]
  have hb := u1.trans (hb1.mono (by omega))
  have VG1 := VG.belowAt hb1 (by omega)
  have hz1 : B + 1 ≤ w1.heap.size := by have := hb1.size; omega
  clear hb1 hcg u1
  have hcg := VG1.cell
  go_wp2_with fail
  refine (specSetOk _ _ _ xs w1 (hg.below hb hB) (hr.below hb hB)).mono ?_
  rintro e1 w2 ⟨rfl, hb1⟩
  rw [HOK.out, Bool.true_and, rowsB_length, HD.out]
  replace hb := hb.trans (hb1.mono (by omega))
  have VG2 := VG1.belowAt hb1 (by omega)
  have hz2 : B + 1 ≤ w2.heap.size := by have := hb1.size; omega
  clear hb1 hcg
  have hcg := VG2.cell
  go_wp2_with fail
  refine (bits25_any (.slice a n c) n e hn16 w2 (hg.below hb hB)).mono ?_
  rintro e1 w3 ⟨u, rfl, hN, hb3⟩
  replace hb := hb.trans (hb3.mono (by omega))
  have hz3 : B + 1 ≤ w3.heap.size := by have := hb3.size; omega
  obtain ⟨m, HM⟩ : ∃ m, Hid (m = maskB n (inL xs)) := ⟨_, Lib.hid rfl⟩
  have HMK : Hid (Calls Tryd.prog 117 #[.slice a2 xs.length c2] w3 fun e w' => e = .returned (.int .i64 (m : Nat)) ∧ w3 = w') := Lib.hid (by rw [HM.out]; exact mask25_any _ xs n hn16 HS.out w3 (hr.below hb hB))
  have hmn : m < 2 ^ n := by rw [HM.out]; exact maskB_below n _
  have HST : Hid (Calls Tryd.prog 125 #[u, .int .i64 (m : Int)] w3 fun r w' => r = .returned (.bool (stB n e (inL xs))) ∧ w3 = w') := Lib.hid (by
    have h := stable25_any u n e hn16 m hmn (m : Int) rfl w3 (Row.of_owns hN)
    rwa [stB_ext (e' := e) (p' := inL xs) (fun _ _ _ _ => rfl) (fun b hb => by rw [HM.out, testBit_maskB]; simp [hb])] at h)
  have HB := Lib.hid hb
  clear hb3 hcg hN hmn hb
  go_wp2_with fail
  refine HMK.out.mono ?_
  rintro e1 w' ⟨rfl, rfl⟩
  go_wp2_with fail
  refine HST.out.mono ?_
  rintro e1 w' ⟨rfl, rfl⟩
  go_wp2_with fail
  go_ret
  exact ⟨rfl, by rw [hB]; exact HB.out⟩

set_option maxHeartbeats 4000000 in
theorem specRuleIn (g : Value) (n : Nat) (e : Nat → Nat → Bool) (hA : Adj n e) (v : Value) (xs : List Int) (hs : SetP n xs) (w : World) (hg : RdSS g (rowsB n e) w) (hr : RdS v xs w) :
    Calls Tryd.prog 44 #[.agg #[g], v] w (BRes w (ruleIn n e xs)) := by
  obtain ⟨a, c, rfl⟩ := hg.shape
  obtain ⟨a2, c2, rfl, -, -, -⟩ := id hr
  rw [rowsB_length] at hg ⊢
  have hn16 := hA.le
  obtain ⟨B, hB⟩ : ∃ B, w.heap.size = B := ⟨_, rfl⟩
  obtain ⟨W, hW⟩ : ∃ W, W = w.alloc (.cells #[.slice a n c] 56) := ⟨_, rfl⟩
  have u1 : Below B w W := by rw [hW, ← hB]; exact below_alloc' _ _
  have VG : VC 56 B #[.slice a n c] W := by rw [hW]; exact VC.new hB
  have hz0 : W.heap.size = B + 1 := by rw [hW]; simp [hB]
  have HOK := Lib.hid (okB_adj hA)
  have HD := Lib.hid (show decide (SetP n xs) = true by simpa using hs)
  have HS := Lib.hid hs
  have HRI : Hid (ruleIn n e xs = ruleB n e (inL xs)) := Lib.hid (by unfold ruleIn; rw [HD.out, Bool.true_and])
  have HCG : Hid (∀ W', Below (B + 1) W W' → W'.cell? ⟨B, 0, none⟩ = some (.slice a n c)) := Lib.hid fun W' h => (VG.belowAt h (by omega)).cell
  have HU : Hid (∀ W', Below (B + 1) W W' → Below B w W') := Lib.hid fun W' h => u1.trans (h.mono (by omega))
  obtain ⟨N, HN⟩ : ∃ N, Hid (2 ^ n = N) := ⟨_, Lib.hid rfl⟩
  have HALL : Hid (∀ W, Calls Tryd.prog 118 #[.agg #[.slice a n c]] W fun e w' => e = .returned (.int .i64 ((N - 1 : Nat) : Int)) ∧ Below W.heap.size W w') := Lib.hid fun W => by rw [← HN.out]; exact all25_any a n c hn16 W
  have hcw := VG.cell
  clear hA hs u1
  go_enter Tryd.func44, Tryd.ntmps44
  go_wp2_with fail
  try rw [← hW]
  clear hW
  refine wp_region_take [] [0] 14 17 #[true, false, false, false, false, false, false, false, false, false, false, false, false, false, false, false, false, false] (by kernel_rfl) (by kernel_rfl) (by kernel_rfl) (by kernel_rfl) (fun _ _ d _ _ h => by cases d <;> exact h) ?_
  simp only [pickOps, List.filterMap_cons, List.filterMap_nil, List.getElem?_cons_zero, wpQuiet_nil_eq]
  repeat quiet_step (fail)
  simp only [wpQuiet_nil_eq]
  have hbd : Below (B + 1) W W.drew := by rw [← hz0]; exact (Below.refl _ _).drew
  generalize W.drew = wd at *
  refine wpAnyG_1 1 (by kernel_rfl) rfl ?_
  unfold wpNext
  go_wp2_with fail
  refine (specOk _ _ wd (hg.below (HU.out _ hbd) hB)).mono ?_
  rintro e1 w1 ⟨rfl, hb1⟩
  rw [HOK.out]
  have hb := hbd.trans (hb1.mono (by have := hbd.size; omega))
  clear hbd hb1
  have hcg := HCG.out _ hb
  go_wp2_with fail
  refine ⟨fun _ => over_of_below (by rw [hz0]; exact hb), ?_⟩
  refine wpAnyG_midC [2, 3, 4] 13 #[true, true, true, true, true, false, false, false, false, false, false, false, false, false, false, false, false, false] rfl (by kernel_rfl) (by kernel_rfl) (by kernel_rfl) (fun _ _ d _ _ h => by cases d <;> exact h) (fun _ => over_of_below (by rw [hz0]; exact hb)) ?_
  simp only [pickOps, List.filterMap_cons, List.filterMap_nil, List.getElem?_cons_succ, List.getElem?_cons_zero]
  repeat quiet_step (fail)
  try simp only [wpQuiet_nil_eq]
  refine wpAnyG_1 5 (by kernel_rfl) rfl ?_
  unfold wpNext
  go_wp2_with fail
  refine (specSetOk _ _ _ xs w1 (hg.below (HU.out _ hb) hB) (hr.below (HU.out _ hb) hB)).mono ?_
  rintro e1 w2 ⟨rfl, hb1⟩
  rw [HOK.out, Bool.true_and, rowsB_length, HD.out]
  replace hb := hb.trans (hb1.mono (by have := hb.size; omega))
  clear hcg hb1
  have hcg := HCG.out _ hb
  go_wp2_with fail
  refine ⟨fun _ => over_of_below (by rw [hz0]; exact hb), ?_⟩
  refine wpAnyG_midC [6, 7, 8, 10, 13] 7 #[true, true, true, true, true, true, true, true, true, false, true, false, false, true, false, false, false, false] rfl (by kernel_rfl) (by kernel_rfl) (by kernel_rfl) (fun _ _ d _ _ h => by cases d <;> exact h) (fun _ => over_of_below (by rw [hz0]; exact hb)) ?_
  simp only [pickOps, List.filterMap_cons, List.filterMap_nil, List.getElem?_cons_succ, List.getElem?_cons_zero]
  repeat quiet_step (fail)
  try simp only [wpQuiet_nil_eq]
  refine wpAnyG_1 9 (by kernel_rfl) rfl ?_
  unfold wpNext
  go_wp2_with fail
  refine (bits25_any (.slice a n c) n e hn16 w2 (hg.below (HU.out _ hb) hB)).mono ?_
  rintro e1 w3 ⟨u, rfl, hN, hb1⟩
  replace hb := hb.trans (hb1.mono (by have := hb.size; omega))
  have hNr := Row.of_owns hN
  obtain ⟨ua, uc, rfl⟩ := owns_shape hN
  obtain ⟨m, HM⟩ : ∃ m, Hid (m = maskB n (inL xs)) := ⟨_, Lib.hid rfl⟩
  have HMK : Hid (Calls Tryd.prog 117 #[.slice a2 xs.length c2] w3 fun e w' => e = .returned (.int .i64 (m : Nat)) ∧ w3 = w') := Lib.hid (by rw [HM.out]; exact mask25_any _ xs n hn16 HS.out w3 (hr.below (HU.out _ hb) hB))
  have hmn : m < 2 ^ n := by rw [HM.out]; exact maskB_below n _
  obtain ⟨y, HY⟩ : ∃ y : Nat, Hid (y = maskB n (domB n e (inL xs))) := ⟨_, Lib.hid rfl⟩
  have HNE : Hid (Calls Tryd.prog 115 #[.slice ua (natL (NB n e)).length uc, .int .i64 (m : Int)] w3 fun r w' => r = .returned (.int .i64 (y : Int)) ∧ w3 = w') := Lib.hid (by
    have h := near25_any (.slice ua (natL (NB n e)).length uc) n e hn16 m hmn (m : Int) rfl w3 hNr
    rwa [HM.out, dom_mask, ← HY.out, ← HM.out] at h)
  have HFY : Hid (ruleB n e (inL xs) = decide (y = N - 1)) := Lib.hid (by unfold ruleB; rw [← HY.out, ← mask_allB, ← full_maskB, HN.out])
  clear hcg hb1 hN hNr hmn
  have hcg := HCG.out _ hb
  go_wp2_with fail
  refine ⟨fun _ => over_of_below (by rw [hz0]; exact hb), ?_⟩
  refine wpAnyG_1 11 (by kernel_rfl) rfl ?_
  unfold wpNext
  go_wp2_with fail
  refine HMK.out.mono ?_
  rintro e1 w' ⟨rfl, rfl⟩
  go_wp2_with fail
  refine ⟨fun _ => over_of_below (by rw [hz0]; exact hb), ?_⟩
  refine wpAnyG_1 12 (by kernel_rfl) rfl ?_
  unfold wpNext
  go_wp2_with fail
  refine HNE.out.mono ?_
  rintro e1 w' ⟨rfl, rfl⟩
  go_wp2_with fail
  refine ⟨fun _ => over_of_below (by rw [hz0]; exact hb), ?_⟩
  refine wpAnyG_1 14 (by kernel_rfl) rfl ?_
  unfold wpNext
  go_wp2_with fail
  refine (HALL.out _).mono ?_
  rintro e1 w4 ⟨rfl, hb1⟩
  replace hb := hb.trans (hb1.mono (by have := hb.size; omega))
  have HB := Lib.hid (HU.out _ hb)
  clear hcg hb1
  cases hf : decide (y = N - 1) with
  | false =>
    have hd3 : ((y : Int) == ((N - 1 : Nat) : Int)) = false := by rw [beq_eq_false_iff_ne]; simp at hf; omega
    have HF : Hid (ruleIn n e xs = false) := Lib.hid (by rw [HRI.out, HFY.out, hf])
    clear hf
    go_wp2_with fail
    refine ⟨fun h => by simp at h, ?_⟩
    refine wpAnyG_tail [15, 16, 17] rfl (.inl (by kernel_rfl)) (by kernel_rfl) ?_
    simp only [pickOps, List.filterMap_cons, List.filterMap_nil, List.getElem?_cons_succ, List.getElem?_cons_zero]
    go_wp2_with fail
    go_ret
    exact ⟨by rw [HF.out]; rfl, by rw [hB]; exact HB.out⟩
  | true =>
    have hd3 : ((y : Int) == ((N - 1 : Nat) : Int)) = true := by rw [beq_iff_eq]; simp at hf; omega
    have HF : Hid (ruleIn n e xs = true) := Lib.hid (by rw [HRI.out, HFY.out, hf])
    clear hf
    go_wp2_with fail
    refine ⟨fun h => by simp at h, ?_⟩
    refine wpAnyG_tail [15, 16, 17] rfl (.inl (by kernel_rfl)) (by kernel_rfl) ?_
    simp only [pickOps, List.filterMap_cons, List.filterMap_nil, List.getElem?_cons_succ, List.getElem?_cons_zero]
    go_wp2_with fail
    go_ret
    exact ⟨by rw [HF.out]; rfl, by rw [hB]; exact HB.out⟩
end Go.Proofs.YtbhobmngnjfgfaaDoor
