import Derived.Test.YtpfhflkpnjkgkaaDoorLeafUJn
import Derived.Test.YtpfhflkpnjkgkaaDoorLeafVJn
import Derived.Test.YtpfhflkpnjkgkaaDoorParAJn
/-
  'PartsOk' of the reference; 'LeavesOf' of both.
-/



namespace Go.Proofs.YtpfhflkpnjkgkaaDoor
open Go.RowKit

/-- The last least leaf met. -/
def lastA (L : List PartD) (p : PartD) (j : Nat) : Int := if j = 0 then -1 else (lsA L p (j - 1) : Nat)
theorem lst_head {m : Nat} (h : m < 2 ^ 16) (h0 : m ≠ 0) : (nums m)[0]? = some ((lst m : Nat) : Int) := by
  have hm := lst_mem h h0
  unfold lst at hm ⊢
  unfold nums
  cases hb : bitsOf m with
  | nil =>
    exfalso
    apply h0
    apply Nat.eq_of_testBit_eq
    intro i
    rw [Nat.zero_testBit]
    cases ht : m.testBit i with
    | false => rfl
    | true =>
      have hi : i < 16 := by
        by_cases hi : i < 16
        · exact hi
        · rw [bits_above h i (by omega)] at ht; cases ht
      have : i ∈ bitsOf m := mem_bitsOf.2 ⟨by omega, ht⟩
      rw [hb] at this
      cases this
  | cons x l => rfl
theorem nums_len {m : Nat} : (nums m).length = size m := by unfold nums size; simp

set_option maxHeartbeats 4000000 in
theorem specPartsOk (L : List PartD) (v : Value) (b : Bool) (hb0 : okLB L = b) (w : World) (hr : RdP v L w) :
    Calls Tryd.prog 21 #[v] w fun e w' => e = .returned (.bool b) ∧ Below w.heap.size w w' := by
  have hlen := hr.len
  unfold maxLen at hlen
  obtain ⟨a, c, rfl, -⟩ := hr.outer
  obtain ⟨B, hB⟩ : ∃ B, w.heap.size = B := ⟨_, rfl⟩
  have HNB : Hid (¬ refOk L → b = false) := Lib.hid fun h => hb0.symm.trans (okLB_not fun h2 => h ((ok_iff L).2 h2))
  have HYB : Hid (refOk L → b = true) := Lib.hid fun h => by rw [← hb0]; exact okLB_iff.2 ((ok_iff L).1 h)
  have HF0 : Hid (∀ k p, L[k]? = some p → ∃ b o u, a = some ⟨b, o, none⟩ ∧ ∀ W, Below B w W → W.cell? ⟨b, o + k * 3, none⟩ = some (.int .i64 p.1) ∧ W.cell? ⟨b, o + k * 3 + 1, none⟩ = some (.int .i64 p.2.1) ∧ W.cell? ⟨b, o + k * 3 + 2, none⟩ = some u ∧ RdS u p.2.2 W) := Lib.hid fun k p hp => hB ▸ RdP.fix' hr hp
  have HRD : Hid (∀ W, Below B w W → RdP (.slice a L.length c) L W) := Lib.hid fun W h => hr.below h hB
  by_cases h31 : 1 ≤ L.length ∧ L.length ≤ 31
  · have HI := fun W => Lib.hid (l1In_is (L.length : Int) 1 31 true (by rw [decide_eq_true_eq]; omega) W)
    have hn1 : (L.length : Int) - 1 = ((L.length - 1 : Nat) : Int) := by omega
    have HWK := Lib.hid (l16Walk_any L (.slice a L.length c) (L.length - 1) (by omega) w _ rfl hr)
    obtain ⟨z, hz⟩ : ∃ z, zO (walkR L (L.length - 1)) = z := ⟨_, rfl⟩
    have HZ := Lib.hid hz
    rw [hz] at HWK
    clear hb0 hr hz
    by_cases hzn : z = (L.length : Int)
    · have hwr : walkR L (L.length - 1) = some L.length := by
        have h := HZ.out
        cases hw : walkR L (L.length - 1) with
        | none => rw [hw] at h; have h2 : (-1 : Int) = z := h; omega
        | some s => rw [hw] at h; have h2 : ((s : Nat) : Int) = z := h; congr 1; omega
      have hrun := (shape_R L L.length (by omega)).1 hwr
      have HWR := Lib.hid hwr
      have HRN := Lib.hid hrun
      have hzb : (z != (L.length : Int)) = false := by rw [hzn]; simp
      have hri : Hid (∀ i p, i < 0 → L[i]? = some p → riseP L p) := Lib.hid (fun i p h => by omega)
      have hl0 : Hid (leafN L 0 = 0) := Lib.hid (by simp [leafN])
      clear hwr hrun
      go_enter Tryd.func21, Tryd.ntmps21
      go_wp2_with fail
      refine (HI _).out.mono ?_
      rintro e1 w1 ⟨rfl, rfl⟩
      go_wp2_with fail
      refine HWK.out.mono ?_
      rintro e1 w1 ⟨rfl, hb1⟩
      rw [hB] at hb1
      clear HWK
      go_wp2_with fail
      go_loopw [4, 5] (fun lv i wr => ∃ k m : Nat, k ≤ L.length ∧ i = .int .i64 k ∧ lv = .int .i64 m ∧ m ≤ k ∧ Hid (leafN L k = m) ∧ Hid (∀ i p, i < k → L[i]? = some p → riseP L p) ∧ Below B w wr) (fun _ i _ => L.length - (intOf i).toNat)
      case atStart => exact ⟨0, 0, Nat.zero_le _, rfl, rfl, Nat.le_refl _, hl0, hri, hb1⟩
      case round =>
        clear hb1 hri hl0
        obtain ⟨k, m, hk, rfl, rfl, hmk, HLN, HRI, hb⟩ := hrel
        by_cases hlt : k < L.length
        · obtain ⟨p, hp, hpart⟩ := run_part L HRN.out hlt
          obtain ⟨pb, po, u, rfl, hcells⟩ := HF0.out k p hp
          have HP := Lib.hid hp
          have hls := leafN_succ L hp
          rw [HLN.out] at hls
          obtain ⟨hc0, hc1, hc2, hru⟩ := hcells wr hb
          obtain ⟨ka, kc, rfl, -, -, -⟩ := id hru
          have hkl := hru.len
          unfold maxLen at hkl
          have HCE := Lib.hid hcells
          have hin : ∃ m2 : Nat, m2 ≤ k + 1 ∧ Hid (leafN L (k + 1) = m2) ∧ ((p.1 = 1 ∧ m2 = m + 1) ∨ (p.1 ≠ 1 ∧ m2 = m)) := by
            rcases hpart with hl | ⟨hl, hn, -⟩
            · exact ⟨m + 1, by omega, Lib.hid (by rw [hls, if_pos hl]), .inl ⟨hl.1, rfl⟩⟩
            · exact ⟨m, by omega, Lib.hid (by rw [hls, if_neg hl]; rfl), .inr ⟨by have := hn.1; omega, rfl⟩⟩
          obtain ⟨m2, hm2, HL2, hkd⟩ := hin
          have HKID : Hid (∀ y ∈ p.2.2, ∃ r : Nat, y = (r : Int) ∧ r < k) := Lib.hid fun y hy => by
            rcases hpart with hl | ⟨-, -, hk⟩
            · rw [hl.2.1] at hy; cases hy
            · exact hk y hy
          clear hp hpart hcells hru hls
          have hlz : Hid ((-1 : Int) = lastA L p 0) := Lib.hid rfl
          have hrz : Hid (∀ q, q + 1 < 0 → lsA L p q < lsA L p (q + 1)) := Lib.hid (fun q h => by omega)
          have hb' := hb
          rcases hkd with ⟨hk1, rfl⟩ | ⟨hk1, rfl⟩
          · have hkb : (p.1 == 1) = true := by rw [hk1]; rfl
            go_wp2_with fail
            generalize hw9 : wr = w9 at *
            clear hw9
            go_loopw [6, 7] (fun la j wx => ∃ (t : Nat) (x : Int), t ≤ p.2.2.length ∧ j = .int .i64 t ∧ la = .int .i64 x ∧ Hid (x = lastA L p t) ∧ Hid (∀ q, q + 1 < t → lsA L p q < lsA L p (q + 1)) ∧ Below B w wx) (fun _ j _ => p.2.2.length - (intOf j).toNat)
            case atStart => exact ⟨0, -1, Nat.zero_le _, rfl, rfl, hlz, hrz, hb'⟩
            case round =>
              clear hlz hrz hb' hc0 hc1 hc2
              obtain ⟨t, x, ht, rfl, rfl, HX, HQ, hbx⟩ := hrel
              obtain ⟨hd0, hd1, hd2, hrux⟩ := HCE.out wr hbx
              have hsx : B ≤ wr.heap.size := by have := hbx.size; omega
              by_cases htl : t < p.2.2.length
              · obtain ⟨yb, yo, y, rfl, hcy, HY⟩ := hrux.intAt htl
                obtain ⟨r, rfl, hrk⟩ := HKID.out y (List.mem_of_getElem? HY.out)
                have HHS := Lib.hid (leafHas_any L L.length _ HRN.out (.slice (some ⟨pb, po, none⟩) L.length c) r (by omega) wr (HRD.out wr hbx))
                have hne := msk_ne L HRN.out r (by omega)
                have HLH := Lib.hid (lst_head (msk_lt L r) hne)
                have hpos : 0 < (nums (msk L r)).length := by
                  have h := HLH.out
                  exact (List.getElem?_eq_some_iff.1 h).1
                obtain ⟨ll, hll⟩ : ∃ l, lst (msk L r) = l := ⟨_, rfl⟩
                have HLA : Hid (lsA L p t = ll) := Lib.hid (by
                  have e : p.2.2.getD t 0 = (r : Int) := by rw [List.getD_eq_getElem?_getD, HY.out]; rfl
                  unfold lsA
                  rw [e, Int.toNat_natCast]
                  exact hll)
                rw [hll] at HLH
                obtain ⟨row, hrow⟩ : ∃ row, nums (msk L r) = row := ⟨_, rfl⟩
                rw [hrow] at HHS HLH hpos
                clear hrux hne hll hrow
                go_wp2_with fail
                refine HHS.out.mono ?_
                rintro e1 w3 ⟨lv, rfl, hL3, hb3⟩
                have hb4 := hbx.trans (hb3.mono hsx)
                have hrl := Row.of_owns hL3
                obtain ⟨la, lc, rfl⟩ := owns_shape hL3
                obtain ⟨lb, lo, y0, rfl, hcl, HY0⟩ := Row.intAt (n := row.length) (xs := row) hrl (j := 0) hpos
                obtain rfl : y0 = (ll : Int) := by have h := HY0.out; rw [HLH.out] at h; exact (Option.some.inj h).symm
                simp only [Nat.add_zero] at hcl
                clear hL3 hb3 hrl HHS hcy hd0 hd1 hd2
                by_cases hle : (ll : Int) ≤ x
                · have hbf := HNB.out fun h => by
                    have h1 := h.2.2.2.1 k p hlt HP.out
                    have h2 := HX.out
                    unfold lastA at h2
                    by_cases ht0 : t = 0
                    · rw [if_pos ht0] at h2; omega
                    · rw [if_neg ht0] at h2
                      have h3 := h1 (t - 1) (by omega)
                      rw [show t - 1 + 1 = t by omega, HLA.out] at h3
                      omega
                  subst hbf
                  go_wp2_with fail
                  go_ret
                  exact ⟨rfl, by first | (rw [hB]; exact hb4) | exact hb4⟩
                · have HQ2 : Hid (∀ q, q + 1 < t + 1 → lsA L p q < lsA L p (q + 1)) := Lib.hid fun q hq => by
                    by_cases hqt : q + 1 = t
                    · have h2 := HX.out
                      unfold lastA at h2
                      rw [if_neg (by omega), show t - 1 = q by omega] at h2
                      rw [hqt, HLA.out]
                      omega
                    · exact HQ.out q (by omega)
                  have HX2 : Hid ((ll : Int) = lastA L p (t + 1)) := Lib.hid (by unfold lastA; rw [if_neg (by omega), Nat.add_sub_cancel, HLA.out])
                  go_wp2_with fail
                  go_roundw
                  case rel => exact ⟨t + 1, ll, by omega, by go_num, rfl, HX2, HQ2, hb4⟩
                  case measure => simp [intOf]; omega
              · obtain rfl : t = p.2.2.length := by omega
                have HRN2 : Hid (∀ i q, i < k + 1 → L[i]? = some q → riseP L q) := Lib.hid fun i q hi hq => by
                  by_cases hik : i = k
                  · subst hik
                    rw [HP.out] at hq
                    cases hq
                    exact HQ.out
                  · exact HRI.out i q (by omega) hq
                clear hrux
                go_wp2_with fail
                go_roundw
                case rel => exact ⟨k + 1, m + 1, by omega, by go_num, by first | rfl | go_num, by omega, HL2, HRN2, hbx⟩
                case measure => simp [intOf]; omega
          · have hkb : (p.1 == 1) = false := by rw [beq_eq_false_iff_ne]; exact hk1
            go_wp2_with fail
            generalize hw9 : wr = w9 at *
            clear hw9
            go_loopw [6, 7] (fun la j wx => ∃ (t : Nat) (x : Int), t ≤ p.2.2.length ∧ j = .int .i64 t ∧ la = .int .i64 x ∧ Hid (x = lastA L p t) ∧ Hid (∀ q, q + 1 < t → lsA L p q < lsA L p (q + 1)) ∧ Below B w wx) (fun _ j _ => p.2.2.length - (intOf j).toNat)
            case atStart => exact ⟨0, -1, Nat.zero_le _, rfl, rfl, hlz, hrz, hb'⟩
            case round =>
              clear hlz hrz hb' hc0 hc1 hc2
              obtain ⟨t, x, ht, rfl, rfl, HX, HQ, hbx⟩ := hrel
              obtain ⟨hd0, hd1, hd2, hrux⟩ := HCE.out wr hbx
              have hsx : B ≤ wr.heap.size := by have := hbx.size; omega
              by_cases htl : t < p.2.2.length
              · obtain ⟨yb, yo, y, rfl, hcy, HY⟩ := hrux.intAt htl
                obtain ⟨r, rfl, hrk⟩ := HKID.out y (List.mem_of_getElem? HY.out)
                have HHS := Lib.hid (leafHas_any L L.length _ HRN.out (.slice (some ⟨pb, po, none⟩) L.length c) r (by omega) wr (HRD.out wr hbx))
                have hne := msk_ne L HRN.out r (by omega)
                have HLH := Lib.hid (lst_head (msk_lt L r) hne)
                have hpos : 0 < (nums (msk L r)).length := by
                  have h := HLH.out
                  exact (List.getElem?_eq_some_iff.1 h).1
                obtain ⟨ll, hll⟩ : ∃ l, lst (msk L r) = l := ⟨_, rfl⟩
                have HLA : Hid (lsA L p t = ll) := Lib.hid (by
                  have e : p.2.2.getD t 0 = (r : Int) := by rw [List.getD_eq_getElem?_getD, HY.out]; rfl
                  unfold lsA
                  rw [e, Int.toNat_natCast]
                  exact hll)
                rw [hll] at HLH
                obtain ⟨row, hrow⟩ : ∃ row, nums (msk L r) = row := ⟨_, rfl⟩
                rw [hrow] at HHS HLH hpos
                clear hrux hne hll hrow
                go_wp2_with fail
                refine HHS.out.mono ?_
                rintro e1 w3 ⟨lv, rfl, hL3, hb3⟩
                have hb4 := hbx.trans (hb3.mono hsx)
                have hrl := Row.of_owns hL3
                obtain ⟨la, lc, rfl⟩ := owns_shape hL3
                obtain ⟨lb, lo, y0, rfl, hcl, HY0⟩ := Row.intAt (n := row.length) (xs := row) hrl (j := 0) hpos
                obtain rfl : y0 = (ll : Int) := by have h := HY0.out; rw [HLH.out] at h; exact (Option.some.inj h).symm
                simp only [Nat.add_zero] at hcl
                clear hL3 hb3 hrl HHS hcy hd0 hd1 hd2
                by_cases hle : (ll : Int) ≤ x
                · have hbf := HNB.out fun h => by
                    have h1 := h.2.2.2.1 k p hlt HP.out
                    have h2 := HX.out
                    unfold lastA at h2
                    by_cases ht0 : t = 0
                    · rw [if_pos ht0] at h2; omega
                    · rw [if_neg ht0] at h2
                      have h3 := h1 (t - 1) (by omega)
                      rw [show t - 1 + 1 = t by omega, HLA.out] at h3
                      omega
                  subst hbf
                  go_wp2_with fail
                  go_ret
                  exact ⟨rfl, by first | (rw [hB]; exact hb4) | exact hb4⟩
                · have HQ2 : Hid (∀ q, q + 1 < t + 1 → lsA L p q < lsA L p (q + 1)) := Lib.hid fun q hq => by
                    by_cases hqt : q + 1 = t
                    · have h2 := HX.out
                      unfold lastA at h2
                      rw [if_neg (by omega), show t - 1 = q by omega] at h2
                      rw [hqt, HLA.out]
                      omega
                    · exact HQ.out q (by omega)
                  have HX2 : Hid ((ll : Int) = lastA L p (t + 1)) := Lib.hid (by unfold lastA; rw [if_neg (by omega), Nat.add_sub_cancel, HLA.out])
                  go_wp2_with fail
                  go_roundw
                  case rel => exact ⟨t + 1, ll, by omega, by go_num, rfl, HX2, HQ2, hb4⟩
                  case measure => simp [intOf]; omega
              · obtain rfl : t = p.2.2.length := by omega
                have HRN2 : Hid (∀ i q, i < k + 1 → L[i]? = some q → riseP L q) := Lib.hid fun i q hi hq => by
                  by_cases hik : i = k
                  · subst hik
                    rw [HP.out] at hq
                    cases hq
                    exact HQ.out
                  · exact HRI.out i q (by omega) hq
                clear hrux
                go_wp2_with fail
                go_roundw
                case rel => exact ⟨k + 1, m2, by omega, by go_num, by first | rfl | go_num, by omega, HL2, HRN2, hbx⟩
                case measure => simp [intOf]; omega
        · skip
          obtain rfl : k = L.length := by omega
          have HHS := Lib.hid (leafHas_any L L.length _ HRN.out (.slice a L.length c) (L.length - 1) (by omega) wr (HRD.out wr hb))
          have hmpos : 0 < m := by have := leafN_pos (by omega) HRN.out; rw [HLN.out] at this; exact this
          obtain ⟨M, hM⟩ : ∃ M, msk L (L.length - 1) = M := ⟨_, rfl⟩
          have hM16 : M < 2 ^ 16 := by rw [← hM]; exact msk_lt L _
          have HM := Lib.hid hM
          have hm31 : m ≤ 31 := by omega
          rw [hM] at HHS
          have hml : (nums M).length ≤ 32 := nums_length M
          clear hM
          have hsx : B ≤ wr.heap.size := by have := hb.size; omega
          go_wp2_with fail
          refine HHS.out.mono ?_
          rintro e1 w3 ⟨lv, rfl, hL3, hb3⟩
          have hb4 := hb.trans (hb3.mono hsx)
          have hrl := Row.of_owns hL3
          obtain ⟨la, lc, rfl⟩ := owns_shape hL3
          clear HHS hb3
          by_cases hlen2 : (nums M).length = m
          · have hmi : (m : Int) - 1 = ((m - 1 : Nat) : Int) := by omega
            obtain ⟨lb, lo, y0, rfl, hcl, HY0⟩ := Row.intAt (n := (nums M).length) (xs := nums M) hrl (j := m - 1) (by omega)
            have hy0 : ∃ z : Nat, y0 = (z : Int) ∧ (bitL M)[m - 1]? = some z := by
              have h := HY0.out
              unfold nums at h
              rw [bitsOf_bitL hM16, List.getElem?_map] at h
              cases hz : (bitL M)[m - 1]? with
              | none => rw [hz] at h; cases h
              | some z => rw [hz] at h; exact ⟨z, (Option.some.inj h).symm, rfl⟩
            obtain ⟨z, rfl, hz⟩ := hy0
            have HZZ := Lib.hid hz
            have hlb : (((nums M).length : Int) == (m : Int)) = true := by rw [hlen2]; simp
            have HLE := Lib.hid hlen2
            have hli : ((nums M).length : Int) = (m : Int) := by omega
            clear hL3 hrl hz hlen2
            by_cases hzm : z = m - 1
            · have hbt := HYB.out ⟨by omega, by omega, HWR.out, HRI.out, by rw [HM.out, HLN.out, ← nums_len]; exact HLE.out, by rw [HM.out, HLN.out, ← hzm]; exact hzm ▸ HZZ.out⟩
              subst hbt
              have hzb2 : ((z : Int) == ((m - 1 : Nat) : Int)) = true := by rw [hzm]; simp
              go_wp2_with fail
              go_ret
              exact ⟨by first | rfl | (rw [hzm]; simp), by first | (rw [hB]; exact hb4) | exact hb4⟩
            · have hbf := HNB.out fun h => by
                have h2 := h.2.2.2.2.2
                rw [HM.out, HLN.out, HZZ.out] at h2
                exact hzm (Option.some.inj h2)
              subst hbf
              have hzb2 : ((z : Int) == ((m - 1 : Nat) : Int)) = false := by rw [beq_eq_false_iff_ne]; omega
              go_wp2_with fail
              go_ret
              exact ⟨by first | rfl | (simp; omega), by first | (rw [hB]; exact hb4) | exact hb4⟩
          · have hbf := HNB.out fun h => by
              have h2 := h.2.2.2.2.1
              rw [HM.out, HLN.out, ← nums_len] at h2
              exact hlen2 h2
            subst hbf
            have hlb : (((nums M).length : Int) == (m : Int)) = false := by rw [beq_eq_false_iff_ne]; omega
            go_wp2_with fail
            go_ret
            exact ⟨rfl, by first | (rw [hB]; exact hb4) | exact hb4⟩
    · have hbf := HNB.out fun h => by
        have h2 := h.2.2.1
        have h3 := HZ.out
        rw [h2] at h3
        exact hzn h3.symm
      subst hbf
      have hzb : (z != (L.length : Int)) = true := by rw [bne_iff_ne]; exact hzn
      go_enter Tryd.func21, Tryd.ntmps21
      go_wp2_with fail
      refine (HI _).out.mono ?_
      rintro e1 w1 ⟨rfl, rfl⟩
      go_wp2_with fail
      refine HWK.out.mono ?_
      rintro e1 w1 ⟨rfl, hb1⟩
      go_wp2_with fail
      go_ret
      exact ⟨rfl, hb1⟩
  · have HI := fun W => Lib.hid (l1In_is (L.length : Int) 1 31 false (by rw [decide_eq_false_iff_not]; omega) W)
    have hbf := HNB.out fun h => h31 ⟨h.1, h.2.1⟩
    subst hbf
    go_enter Tryd.func21, Tryd.ntmps21
    go_wp2_with fail
    refine (HI _).out.mono ?_
    rintro e1 w1 ⟨rfl, rfl⟩
    go_wp2_with fail
    go_ret
    exact ⟨rfl, Below.refl _ _⟩
end Go.Proofs.YtpfhflkpnjkgkaaDoor
