import Derived.Test.YtpfhflkpnjkgkaaDoorThinIJn
/-
  'after' of the program, by the number of those that are left.
-/

namespace Go.Proofs.YtpfhflkpnjkgkaaDoor
open Go.RowKit Go.Maps

theorem left_nil {n S : Nat} (hS : S < 2 ^ n) : leftN n S = [] ↔ S = maskB n (fun _ => true) := by
  constructor
  · intro h
    apply Nat.eq_of_testBit_eq
    intro i
    rw [testBit_maskB]
    by_cases hi : i < n
    · cases hb : S.testBit i with
      | true => simp [hi]
      | false =>
        have : i ∈ leftN n S := mem_leftN.2 ⟨hi, hb⟩
        rw [h] at this
        cases this
    · rw [bits_above hS i (by omega)]; simp [hi]
  · intro h
    rw [List.eq_nil_iff_forall_not_mem]
    intro v hv
    obtain ⟨h1, h2⟩ := mem_leftN.1 hv
    rw [h, testBit_maskB] at h2
    simp [h1] at h2
/-- Those that are left, as numbers. -/
theorem left_row (n S : Nat) : rowB n (fun v => !S.testBit v) = (leftN n S).map fun (i : Nat) => (i : Int) := rfl
theorem minL_snoc (l : List Nat) (x : Nat) : minL (l ++ [x]) = min (minL l) x := by simp [minL, List.foldl_append]
theorem wrote_grown {w w' : World} {mb : Nat} (h : w.grownBy w' (some mb)) : Wrote w w' fun b => b = mb := (Wrote.of_grown h).mono fun _ _ h => (Option.some.inj h).symm
theorem minL_le (l : List Nat) : minL l ≤ 16 := (foldl_min_le l 16).1

set_option maxHeartbeats 4000000 in
set_option maxRecDepth 100000 in
theorem after_any (n : Nat) (e : Nat → Nat → Bool) (hn : n ≤ 10) (xb mb : Nat) (a : Option Addr) (c : Nat) : ∀ k S, (leftN n S).length = k → S < 2 ^ n → ∀ (w : World) (cnt : Nat) (D : DataW Nat), WSt n e xb mb a c w cnt D → cnt + tn k ≤ 1000000000 →
    Calls Tryd.prog 39 #[.pointer (some ⟨xb, 0, none⟩), .int .u32 (S : Nat)] w (AftR n e xb mb a c w (cnt + tn k) (wid n e S)) := by
  intro k
  induction k with
  | zero =>
    intro S hk hS w cnt D h hc
    have hnil : leftN n S = [] := List.length_eq_zero_iff.1 hk
    have hSN := (left_nil hS).1 hnil
    have hw0 : wid n e S = 0 := by rw [wid_eq, if_pos hnil]
    obtain ⟨c0, c1⟩ := h.x.at2'
    have HAL := fun W => Lib.hid (all_nets a n c (by omega) W)
    rw [← hSN] at HAL
    have hss : ((S : Int) == (S : Int)) = true := by simp
    have HH := Lib.hid h
    have HW0 := Lib.hid hw0
    clear hSN h hw0
    go_enter Tryd.func39, Tryd.ntmps39
    go_wp2_with fail
    refine (HAL _).out.mono ?_
    rintro e1 w' ⟨rfl, rfl⟩
    go_wp2_with fail
    go_ret
    exact ⟨ret_int (by rw [HW0.out]; rfl), ⟨cnt, D, by omega, HH.out⟩, Wrote.refl _ _⟩
  | succ k ih =>
    intro S hk hS w cnt D h hc
    have hne : leftN n S ≠ [] := fun h => by rw [h] at hk; cases hk
    obtain ⟨N, hN⟩ : ∃ N, maskB n (fun _ => true) = N := ⟨_, rfl⟩
    have hSN : ¬ S = N := fun he => hne ((left_nil hS).2 (he.trans hN.symm))
    have hw : wid n e S = minL ((leftN n S).map (wit n e S)) := by rw [wid_eq, if_neg hne]
    obtain ⟨c0, c1⟩ := h.x.at2'
    have HAL := fun W => Lib.hid (all_nets a n c (by omega) W)
    have hss : ((S : Int) == (N : Int)) = false := by rw [beq_eq_false_iff_ne]; omega
    have hSn : S < 65536 := Nat.lt_of_lt_of_le hS (Nat.pow_le_pow_right (n := 2) (by decide) (show n ≤ 16 by omega))
    have hNn : N < 65536 := by rw [← hN]; exact mask_lt16 (by omega) _
    have hkey : keyOf Tryd.prog 54 (.int .u32 (S : Nat)) = some (kyV S) := keyOf_int_mk Tryd.underlying54 (WalkArith.wf_u32 (by omega))
    have HKEY := Lib.hid hkey
    have HMAP := Lib.hid h.map
    have HOK := Lib.hid (h.ok S hS)
    rw [hN] at HAL
    have HH := Lib.hid h
    have HWD := Lib.hid hw
    have hwl : wid n e S ≤ 10 := wid_le hn e S
    cases hh : Maps.has D (kyV S) with
    | true =>
      have HHS := Lib.hid (HOK.out hh)
      clear h hw hkey hSN hN
      go_enter Tryd.func39, Tryd.ntmps39
      go_wp2_with fail
      refine (HAL _).out.mono ?_
      rintro e1 w' ⟨rfl, rfl⟩
      go_wp2_with (at_lookup; refine wpList_lookup_own_ok_int _ rfl _ _ 67 rfl 54 3 .i64 lawV Tryd.underlying67 Tryd.underlying3 (zeroN _) mb cnt D rfl HMAP.out _ _ rfl HKEY.out ?_; intro c9 hat hwc; rw [hh])
      have hc9 : Hid (c9 = ((wid n e S : Nat) : Int)) := Lib.hid (by
        have h1 := hat
        rw [HHS.out] at h1
        have h2 := (Lit.int.inj (DataW.lit.inj h1)).2
        exact h2.symm)
      clear hat hwc
      go_wp2_with fail
      go_ret
      exact ⟨ret_int hc9.out, ⟨cnt, D, by omega, HH.out⟩, Wrote.refl _ _⟩
    | false =>
      obtain ⟨z, hz⟩ : ∃ z : Int, z = (maskB n (fun v => !S.testBit v) : Nat) := ⟨_, rfl⟩
      have hban : bits BinOp.andNot IntKind.u32 (N : Int) (S : Int) = z := by
        have h1 := mask_andNot (n := n) (by omega) (fun _ => true) S.testBit
        rw [mask_self hS, hN] at h1
        rw [h1, hz]
        simp
      have HLI := Lib.hid (listB_any (n := n) (by omega) (fun v => !S.testBit v) z hz w h.tab)
      rw [left_row] at HLI
      have hll : ((leftN n S).map fun (i : Nat) => (i : Int)).length = k + 1 := by simp [hk]
      rw [hll] at HLI
      obtain ⟨q, hq⟩ : ∃ q, tn k = q := ⟨_, rfl⟩
      have htn : tn (k + 1) = 1 + (k + 1) * q := by rw [← hq]; rfl
      have HTN := Lib.hid htn
      have HIH := Lib.hid ih
      rw [hq] at HIH
      have HC := Lib.hid hc
      have HK := Lib.hid hk
      have hm0 : Hid (16 = minL (((leftN n S).take 0).map (wit n e S))) := Lib.hid (by simp [minL])
      have hc0 : Hid (cnt ≤ cnt + 0 * q) := Lib.hid (by omega)
      have hml := h.lt
      have hk10 : k ≤ 9 := by
        have h1 : (leftN n S).length ≤ (List.range n).length := List.length_filter_le _ _
        rw [List.length_range] at h1
        omega
      clear ih h hw hkey hSN hN hz hq htn hc hll
      go_enter Tryd.func39, Tryd.ntmps39
      go_wp2_with fail
      refine (HAL _).out.mono ?_
      rintro e1 w' ⟨rfl, rfl⟩
      go_wp2_with (at_lookup; refine wpList_lookup_own_ok_int _ rfl _ _ 67 rfl 54 3 .i64 lawV Tryd.underlying67 Tryd.underlying3 (zeroN _) mb cnt D rfl HMAP.out _ _ rfl HKEY.out ?_; intro c9 hat hwc; rw [hh])
      clear hat hwc
      refine (HAL _).out.mono ?_
      rintro e1 w' ⟨rfl, rfl⟩
      go_wp2_with fail
      refine HLI.out.mono ?_
      rintro e1 w1 ⟨u1, rfl, hL1, hb1⟩
      obtain ⟨la, lc, rfl⟩ := owns_shape hL1
      have hs1 : Hid (WSt n e xb mb a c w1 cnt D) := Lib.hid (HH.out.below hb1)
      have hw1 : Hid (Wrote w1 w1 fun b => b = mb) := Lib.hid (Wrote.refl _ _)
      have HW01 := Lib.hid (wrote_below (mb := mb) hb1)
      have HROW : Hid (∀ W, Wrote w1 W (fun b => b = mb) → Row W 1 (.slice la (k + 1) lc) (k + 1) (ints ((leftN n S).map fun (i : Nat) => (i : Int)))) := Lib.hid fun W hW => (Row.of_owns hL1).wrote hW fun b hb h => by
        have := (owns_lt hL1 hb).1
        omega
      clear hL1 hb1 HLI
      go_wp2_with fail
      go_loopw [7, 37] (fun best i wr => ∃ (j m cnt' : Nat) (D' : DataW Nat), j ≤ k + 1 ∧ i = .int .i64 j ∧ best = .int .i64 m ∧ m ≤ 16 ∧ Hid (m = minL (((leftN n S).take j).map (wit n e S))) ∧ Hid (cnt' ≤ cnt + j * q) ∧ Hid (WSt n e xb mb a c wr cnt' D') ∧ Hid (Wrote w1 wr fun b => b = mb)) (fun _ i _ => k + 1 - (intOf i).toNat)
      case atStart => exact ⟨0, 16, cnt, D, Nat.zero_le _, rfl, rfl, Nat.le_refl _, hm0, hc0, hs1, hw1⟩
      case round =>
        clear hm0 hc0 hs1 hw1
        obtain ⟨j, m, cnt2, D2, hj, rfl, rfl, hm16, HM, HCN, HST, HWR⟩ := hrel
        obtain ⟨g0, g1⟩ := HST.out.x.at2'
        by_cases hlt : j < k + 1
        · obtain ⟨d, hd⟩ : ∃ d, k = j + d := ⟨k - j, by omega⟩
          have HLT := Lib.hid hd
          clear hd
          have hrow := HROW.out wr HWR.out
          obtain ⟨yb, yo, y, rfl, hcy, HY⟩ := Row.intAt (n := k + 1) (xs := (leftN n S).map fun (i : Nat) => (i : Int)) hrow (j := j) (by simp [HK.out]; exact hlt)
          have hvj : ∃ v : Nat, (leftN n S)[j]? = some v ∧ y = (v : Int) := by
            have h := HY.out
            rw [List.getElem?_map] at h
            cases hv : (leftN n S)[j]? with
            | none => rw [hv] at h; cases h
            | some v => rw [hv] at h; exact ⟨v, rfl, (Option.some.inj h).symm⟩
          obtain ⟨v, hv, rfl⟩ := hvj
          have hvm := List.mem_of_getElem? hv
          have hvn := (mem_leftN.1 hvm).1
          have hpl := leftN_put hvm
          have hjq : (j + 1) * q ≤ (k + 1) * q := Nat.mul_le_mul_right q (by omega)
          have hjq2 : (j + 1) * q = j * q + q := by rw [Nat.add_mul, Nat.one_mul]
          have hcb : cnt2 + q ≤ 1000000000 := by
            have h1 := HCN.out
            have h2 := HC.out
            rw [HTN.out] at h2
            omega
          have HCN2 : Hid (cnt2 + q ≤ cnt + (j + 1) * q) := Lib.hid (by have h1 := HCN.out; omega)
          have HWI := Lib.hid (with_any n e hn xb mb a c S v hS hvn (cnt2 + q) wr cnt2 D2 HST.out (fun W hW => HIH.out (S ||| 2 ^ v) (by have := HK.out; omega) (put_lt hS hvn) W cnt2 D2 hW hcb))
          have hx10 := wit_le hn e S v
          have HTK : Hid (((leftN n S).take (j + 1)).map (wit n e S) = ((leftN n S).take j).map (wit n e S) ++ [wit n e S v]) := Lib.hid (by rw [take_snoc hv, List.map_append]; rfl)
          obtain ⟨x, hx⟩ : ∃ x, wit n e S v = x := ⟨_, rfl⟩
          rw [hx] at HWI hx10 HTK
          clear hv hvm hpl hjq hjq2 hcb hx hrow
          go_wp2_with fail
          refine HWI.out.mono ?_
          rintro e1 w3 ⟨rfl, ⟨cnt3, D3, hc3, hst3⟩, hwr3⟩
          have HST3 := Lib.hid hst3
          have HWR3 := Lib.hid (wrote_trans HWR.out hwr3)
          have HCN3 : Hid (cnt3 ≤ cnt + (j + 1) * q) := Lib.hid (Nat.le_trans hc3 HCN2.out)
          have HMN : Hid (min m x = minL (((leftN n S).take (j + 1)).map (wit n e S))) := Lib.hid (by rw [HTK.out, minL_snoc, HM.out])
          clear hst3 hwr3 hc3 HWI g0 g1 hcy
          by_cases hmx : m < x
          · have hmi : (m : Int) < (x : Int) := by omega
            have hmi2 : ¬ (x : Int) < (m : Int) := by omega
            have HMX : Hid (m = minL (((leftN n S).take (j + 1)).map (wit n e S))) := Lib.hid (by rw [← HMN.out]; omega)
            go_wp2_with fail
            go_roundw
            case rel => exact ⟨j + 1, m, cnt3, D3, by have := HLT.out; omega, by go_num, rfl, hm16, HMX, HCN3, HST3, HWR3⟩
            case measure => have := HLT.out; simp [intOf]; omega
          · have hmi : ¬ (m : Int) < (x : Int) := by omega
            have HMX : Hid (x = minL (((leftN n S).take (j + 1)).map (wit n e S))) := Lib.hid (by rw [← HMN.out]; omega)
            go_wp2_with fail
            all_goals
              go_roundw
              case rel => exact ⟨j + 1, x, cnt3, D3, by have := HLT.out; omega, by go_num, by first | rfl | go_num, by omega, HMX, HCN3, HST3, HWR3⟩
              case measure => have := HLT.out; simp [intOf]; omega
        · obtain rfl : j = k + 1 := by omega
          have hmw : m = wid n e S := by
            rw [HM.out, HWD.out]
            congr 2
            exact List.take_of_length_le (by have := HK.out; omega)
          have HMW := Lib.hid hmw
          have HV : Hid (plainElem (H := Nat) Tryd.prog 3 (.int .i64 (m : Nat)) = some (.lit (.int .i64 (wid n e S : Nat)), [])) := Lib.hid (by rw [← hmw]; exact plainElem_int Tryd.underlying3 (WalkArith.wf_i64 (by omega)))
          have HM2 := Lib.hid HST.out.map
          have hcb : cnt2 + 1 ≤ 1000000000 := by
            have h1 := HCN.out
            have h2 := HC.out
            rw [HTN.out] at h2
            omega
          have HC2 : Hid (cnt2 + 1 ≤ cnt + tn (k + 1)) := Lib.hid (by have h1 := HCN.out; rw [HTN.out]; omega)
          clear hmw
          go_wp2_with (at_mapUpdate; refine wpList_mapUpdate_own _ rfl _ _ _ 67 rfl 54 3 lawV Tryd.underlying67 _ mb cnt2 D2 rfl HM2.out (by unfold maxLen; omega) _ _ (kyV S) rfl rfl HKEY.out (.lit (.int .i64 (wid n e S : Nat))) [] HV.out ?_; intro w4 hown4 hgr4)
          have HST4 := Lib.hid (HST.out.wrote (wrote_grown hgr4) hown4 (HST.out.ok.put HM2.out.isMap S))
          have HWR4 := Lib.hid (wrote_trans HW01.out (wrote_trans HWR.out (wrote_grown hgr4)))
          clear hown4 hgr4
          go_wp2_with fail
          go_ret
          exact ⟨ret_int (by rw [HMW.out]), ⟨cnt2 + 1, _, HC2.out, HST4.out⟩, HWR4.out⟩
end Go.Proofs.YtpfhflkpnjkgkaaDoor
