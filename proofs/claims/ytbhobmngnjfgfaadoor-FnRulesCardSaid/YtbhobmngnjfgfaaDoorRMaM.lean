import Derived.Test.YtbhobmngnjfgfaaDoorRInM
/-
  'RulesMany' of both.
-/

namespace Go.Proofs.YtbhobmngnjfgfaaDoor
open Go.RowKit

/-- How many of the first k sets rule. -/
def ruleN (n : Nat) (e : Nat → Nat → Bool) (k : Nat) : Nat := ((List.range k).filter (ruleF n e)).length
theorem ruleN_succ (n : Nat) (e : Nat → Nat → Bool) (k : Nat) : ruleN n e (k + 1) = ruleN n e k + if ruleF n e k = true then 1 else 0 := by
  unfold ruleN
  rw [List.range_succ, List.filter_append, List.length_append]
  by_cases h : ruleF n e k = true <;> simp [h]
theorem ruleN_le (n : Nat) (e : Nat → Nat → Bool) (k : Nat) : ruleN n e k ≤ k := by
  have := List.length_filter_le (ruleF n e) (List.range k)
  simpa [ruleN] using this

set_option maxHeartbeats 4000000 in
theorem implRulesMany (g : Value) (n : Nat) (e : Nat → Nat → Bool) (hA : Adj n e) (w : World) (ht : Tab w) (hg : RdSS g (rowsB n e) w) :
    Calls Tryd.prog 45 #[.agg #[g]] w fun r w' => r = .returned (.int .i64 (ruleN n e (2 ^ n) : Nat)) ∧ Below w.heap.size w w' := by
  obtain ⟨a, c, rfl⟩ := hg.shape
  rw [rowsB_length] at hg ⊢
  have hn16 := hA.le
  obtain ⟨B, hB⟩ : ∃ B, w.heap.size = B := ⟨_, rfl⟩
  have hTB : 2 < B := by rw [← hB]; exact ht.lt
  obtain ⟨W, hW⟩ : ∃ W, W = w.alloc (.cells #[.slice a n c] 56) := ⟨_, rfl⟩
  have u1 : Below B w W := by rw [hW, ← hB]; exact below_alloc' _ _
  have VG : VC 56 B #[.slice a n c] W := by rw [hW]; exact VC.new hB
  have hz0 : W.heap.size = B + 1 := by rw [hW]; simp [hB]
  have hcg := VG.cell
  have HOK := Lib.hid (okB_adj hA)
  obtain ⟨N, HN⟩ : ∃ N, Hid (2 ^ n = N) := ⟨_, Lib.hid rfl⟩
  have hN1 : 1 ≤ N := by rw [← HN.out]; exact Nat.one_le_two_pow
  have hN2 : N ≤ 65536 := by rw [← HN.out]; exact Nat.pow_le_pow_right (n := 2) (j := 16) (by decide) hn16
  rw [HN.out]
  clear hA
  go_enter Tryd.func45, Tryd.ntmps45
  go_wp2_with fail
  try rw [← hW]
  clear hW
  refine (implOk _ _ W (hg.below u1 hB)).mono ?_
  rintro e1 w1 ⟨rfl, hb1⟩
  rw [HOK.out]
  have hb := u1.trans (hb1.mono (by omega))
  have VG1 := VG.belowAt hb1 (by omega)
  have hz1 : B + 1 ≤ w1.heap.size := by have := hb1.size; omega
  clear hb1 hcg u1
  have hcg := VG1.cell
  have HNE := Lib.hid (netsOf_any (.slice a n c) n e hn16 w1 (hg.below hb hB))
  go_wp2_with fail
  refine HNE.out.mono ?_
  rintro e1 w2 ⟨u, rfl, hN, hb2⟩
  obtain ⟨S, hS⟩ : ∃ S, w2.heap.size = S := ⟨_, rfl⟩
  have hbB := hb.trans (hb2.mono (by omega))
  have hz2 : w1.heap.size ≤ S := by have := hb2.size; omega
  have hNr := Row.of_owns hN
  obtain ⟨ua, uc, rfl⟩ := owns_shape hN
  have HALL : Hid (∀ W, Calls Tryd.prog 119 #[.slice ua n uc] W fun e w' => e = .returned (.int .u32 ((N - 1 : Nat) : Int)) ∧ W = w') := Lib.hid fun W => all_netsAt _ n hn16 _ (by rw [← full_maskB, HN.out]) ⟨_, _, rfl⟩ W
  have HRU : Hid (∀ (k : Nat) (W : World), k < N → Below S w2 W → Calls Tryd.prog 111 #[.slice ua n uc, .int .u32 (k : Int)] W fun r w' => r = .returned (.bool (ruleF n e k)) ∧ Below W.heap.size W w') :=
    Lib.hid fun k W hk hbW => rules_any _ n e hn16 k.testBit (k : Int) (by rw [mask_self (by rw [HN.out]; exact hk)]) W (ht.keep (hbB.trans (hbW.mono (by omega))) hTB) (hNr.below (hS.symm ▸ hbW))
  have hb0 : Below S w2 w2 := Below.refl _ _
  clear hcg hb2 HNE hN hb
  go_wp2_with fail
  go_loopw [4, 5] (fun c i wr => ∃ (k m : Nat), k ≤ N ∧ i = .int .u32 k ∧ c = .int .i64 m ∧ Hid (m = ruleN n e k) ∧ Below S w2 wr) (fun _ i _ => 65537 - (intOf i).toNat)
  case atStart => exact ⟨0, 0, Nat.zero_le _, rfl, rfl, Lib.hid rfl, hb0⟩
  case round =>
    clear hb0
    obtain ⟨k, m, hk, rfl, rfl, HM, hb⟩ := hrel
    have hsz := hb.size
    have hmk : m ≤ k := by rw [HM.out]; exact ruleN_le n e k
    go_wp2_with fail
    refine (HALL.out _).mono ?_
    rintro e1 w' ⟨rfl, rfl⟩
    by_cases hlt : k < N
    · have hle : (k : Int) ≤ ((N - 1 : Nat) : Int) := by omega
      have HC := Lib.hid (HRU.out k wr hlt hb)
      obtain ⟨q, hq⟩ : ∃ q, ruleF n e k = q := ⟨_, rfl⟩
      have HS := Lib.hid (ruleN_succ n e k)
      rw [hq] at HS HC
      clear hq
      go_wp2_with fail
      refine HC.out.mono ?_
      rintro e1 w3 ⟨rfl, hb3⟩
      have hbn := hb.trans (hb3.mono (by omega))
      clear hb3 HC hb
      cases q with
      | true =>
        go_wp2_with fail
        go_roundw
        case rel => exact ⟨k + 1, m + 1, by omega, by go_num, by go_num, Lib.hid (by rw [HS.out, HM.out]; rfl), hbn⟩
        case measure => simp [intOf]; omega
      | false =>
        go_wp2_with fail
        go_roundw
        case rel => exact ⟨k + 1, m, by omega, by go_num, rfl, Lib.hid (by rw [HS.out, HM.out]; rfl), hbn⟩
        case measure => simp [intOf]; omega
    · have hle : ¬ (k : Int) ≤ ((N - 1 : Nat) : Int) := by omega
      have hkn : k = N := by omega
      clear hlt
      have HBB := Lib.hid (hbB.trans (hb.mono (by omega)))
      go_wp2_with fail
      go_ret
      exact ⟨ret_int (by rw [HM.out, hkn]), by rw [hB]; exact HBB.out⟩

set_option maxHeartbeats 4000000 in
theorem specRulesMany (g : Value) (n : Nat) (e : Nat → Nat → Bool) (hA : Adj n e) (w : World) (hg : RdSS g (rowsB n e) w) :
    Calls Tryd.prog 46 #[.agg #[g]] w fun r w' => r = .returned (.int .i64 (ruleN n e (2 ^ n) : Nat)) ∧ Below w.heap.size w w' := by
  obtain ⟨a, c, rfl⟩ := hg.shape
  rw [rowsB_length] at hg ⊢
  have hn16 := hA.le
  obtain ⟨B, hB⟩ : ∃ B, w.heap.size = B := ⟨_, rfl⟩
  obtain ⟨W, hW⟩ : ∃ W, W = w.alloc (.cells #[.slice a n c] 56) := ⟨_, rfl⟩
  have u1 : Below B w W := by rw [hW, ← hB]; exact below_alloc' _ _
  have VG : VC 56 B #[.slice a n c] W := by rw [hW]; exact VC.new hB
  have hz0 : W.heap.size = B + 1 := by rw [hW]; simp [hB]
  have hcg := VG.cell
  have HOK := Lib.hid (okB_adj hA)
  obtain ⟨N, HN⟩ : ∃ N, Hid (2 ^ n = N) := ⟨_, Lib.hid rfl⟩
  have hN1 : 1 ≤ N := by rw [← HN.out]; exact Nat.one_le_two_pow
  have hN2 : N ≤ 65536 := by rw [← HN.out]; exact Nat.pow_le_pow_right (n := 2) (j := 16) (by decide) hn16
  rw [HN.out]
  have HALL : Hid (∀ W, Calls Tryd.prog 118 #[.agg #[.slice a n c]] W fun e w' => e = .returned (.int .i64 ((N - 1 : Nat) : Int)) ∧ Below W.heap.size W w') := Lib.hid fun W => by rw [← HN.out]; exact all25_any a n c hn16 W
  clear hA
  go_enter Tryd.func46, Tryd.ntmps46
  go_wp2_with fail
  try rw [← hW]
  clear hW
  refine (specOk _ _ W (hg.below u1 hB)).mono ?_
  rintro e1 w1 ⟨rfl, hb1⟩
  rw [HOK.out]
  have hb := u1.trans (hb1.mono (by omega))
  have VG1 := VG.belowAt hb1 (by omega)
  have hz1 : B + 1 ≤ w1.heap.size := by have := hb1.size; omega
  clear hb1 hcg u1
  have hcg := VG1.cell
  have HNE := Lib.hid (bits25_any (.slice a n c) n e hn16 w1 (hg.below hb hB))
  go_wp2_with fail
  refine HNE.out.mono ?_
  rintro e1 w2 ⟨u, rfl, hN, hb2⟩
  obtain ⟨S, hS⟩ : ∃ S, w2.heap.size = S := ⟨_, rfl⟩
  have hbB := hb.trans (hb2.mono (by omega))
  have hz2 : w1.heap.size ≤ S := by have := hb2.size; omega
  have hNr := Row.of_owns hN
  have VG2 := VG1.belowAt hb2 (by omega)
  obtain ⟨ua, uc, rfl⟩ := owns_shape hN
  have HRU : Hid (∀ (k : Nat) (W : World), k < N → Below S w2 W → Calls Tryd.prog 115 #[.slice ua (natL (NB n e)).length uc, .int .i64 (k : Int)] W fun r w' => r = .returned (.int .i64 (maskB n (domB n e k.testBit) : Nat)) ∧ W = w') :=
    Lib.hid fun k W hk hbW => near25_any _ n e hn16 k (by rw [HN.out]; exact hk) (k : Int) rfl W (hNr.below (hS.symm ▸ hbW))
  have hb0 : Below S w2 w2 := Below.refl _ _
  clear hcg hb2 HNE hN hb
  go_wp2_with fail
  go_loopw [4, 5] (fun c i wr => ∃ (k m : Nat), k ≤ N ∧ i = .int .i64 k ∧ c = .int .i64 m ∧ Hid (m = ruleN n e k) ∧ Below S w2 wr) (fun _ i _ => 65537 - (intOf i).toNat)
  case atStart => exact ⟨0, 0, Nat.zero_le _, rfl, rfl, Lib.hid rfl, hb0⟩
  case round =>
    clear hb0
    obtain ⟨k, m, hk, rfl, rfl, HM, hb⟩ := hrel
    have hsz := hb.size
    have hmk : m ≤ k := by rw [HM.out]; exact ruleN_le n e k
    have hcg := (VG2.belowAt hb (by omega)).cell
    go_wp2_with fail
    refine (HALL.out _).mono ?_
    rintro e1 w3 ⟨rfl, hb3⟩
    replace hb := hb.trans (hb3.mono (by omega))
    have hsz3 := hb.size
    clear hcg hb3
    have hcg := (VG2.belowAt hb (by omega)).cell
    by_cases hlt : k < N
    · have hle : (k : Int) ≤ ((N - 1 : Nat) : Int) := by omega
      obtain ⟨y, HY⟩ : ∃ y : Nat, Hid (y = maskB n (domB n e k.testBit)) := ⟨_, Lib.hid rfl⟩
      have HFY : Hid (ruleF n e k = decide (y = N - 1)) := Lib.hid (by unfold ruleF ruleB; rw [← HY.out, ← mask_allB, ← full_maskB, HN.out])
      have HS := Lib.hid (ruleN_succ n e k)
      have HC : Hid (∀ W, Below S w2 W → Calls Tryd.prog 115 #[.slice ua (natL (NB n e)).length uc, .int .i64 (k : Int)] W fun r w' => r = .returned (.int .i64 (y : Int)) ∧ W = w') := Lib.hid fun W h => by rw [HY.out]; exact HRU.out k W hlt h
      go_wp2_with fail
      refine wp_region_ord [0, 1] [3] [2] [4, 5] (by kernel_rfl) (by kernel_rfl) (fun _ _ d _ _ h => by cases d <;> exact h) ?_
      simp only [pickOps, List.filterMap_cons, List.filterMap_nil, List.getElem?_cons_succ, List.getElem?_cons_zero]
      repeat quiet_step (fail)
      simp only [wpQuiet_nil_eq]
      have hbd : Below S w2 w3.drew := hb.drew
      have HBD : Hid (Below w3.heap.size w3 w3.drew) := Lib.hid (Below.refl _ _).drew
      clear hcg
      have hcg := (VG2.belowAt hbd (by omega)).cell
      generalize w3.drew = wd at *
      refine wpSegs_cons ?_
      go_wp2_with fail
      refine (HC.out wd hbd).mono ?_
      rintro e1 w' ⟨rfl, rfl⟩
      go_wp2_with fail
      refine ⟨HBD.out, ?_⟩
      simp only [wpSegs_nil_eq]
      go_wp2_with fail
      refine (HALL.out _).mono ?_
      rintro e1 w4 ⟨rfl, hb4⟩
      have hbn := hbd.trans (hb4.mono (by have := hbd.size; omega))
      clear hb4 HC hb hbd hcg
      cases hf : decide (y = N - 1) with
      | true =>
        have hd3 : ((y : Int) == ((N - 1 : Nat) : Int)) = true := by rw [beq_iff_eq]; simp at hf; omega
        have HF : Hid (ruleF n e k = true) := Lib.hid (by rw [HFY.out, hf])
        clear hf
        go_wp2_with fail
        go_roundw
        case rel => exact ⟨k + 1, m + 1, by omega, by go_num, by go_num, Lib.hid (by rw [HS.out, HM.out, HF.out]; rfl), hbn⟩
        case measure => simp [intOf]; omega
      | false =>
        have hd3 : ((y : Int) == ((N - 1 : Nat) : Int)) = false := by rw [beq_eq_false_iff_ne]; simp at hf; omega
        have HF : Hid (ruleF n e k = false) := Lib.hid (by rw [HFY.out, hf])
        clear hf
        go_wp2_with fail
        go_roundw
        case rel => exact ⟨k + 1, m, by omega, by go_num, rfl, Lib.hid (by rw [HS.out, HM.out, HF.out]; rfl), hbn⟩
        case measure => simp [intOf]; omega
    · have hle : ¬ (k : Int) ≤ ((N - 1 : Nat) : Int) := by omega
      have hkn : k = N := by omega
      clear hlt
      have HBB := Lib.hid (hbB.trans (hb.mono (by omega)))
      go_wp2_with fail
      go_ret
      exact ⟨ret_int (by rw [HM.out, hkn]), by rw [hB]; exact HBB.out⟩
end Go.Proofs.YtbhobmngnjfgfaaDoor
