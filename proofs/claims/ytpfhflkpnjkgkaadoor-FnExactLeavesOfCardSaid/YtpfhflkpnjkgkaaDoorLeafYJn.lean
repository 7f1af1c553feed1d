import Derived.Test.YtpfhflkpnjkgkaaDoorGq02
import Derived.Test.YtpfhflkpnjkgkaaDoorGq08
import Derived.Test.YtpfhflkpnjkgkaaDoorOkayJn
/-
  'goodKids' of the program.
-/



namespace Go.Proofs.YtpfhflkpnjkgkaaDoor
open Go.RowKit

/-- The least number of a kid's set. -/
def lwk (ms : List Nat) (xs : List Int) (q : Nat) : Nat := low (ms.getD (xs.getD q 0).toNat 0)
theorem lwk_at {ms : List Nat} {xs : List Int} {q r m : Nat} (h1 : xs[q]? = some (r : Int)) (h2 : ms[r]? = some m) : lwk ms xs q = low m := by
  have e1 : xs.getD q 0 = (r : Int) := by rw [List.getD_eq_getElem?_getD, h1]; rfl
  have e2 : ms.getD r 0 = m := by rw [List.getD_eq_getElem?_getD, h2]; rfl
  unfold lwk
  rw [e1, Int.toNat_natCast, e2]
/-- The kids are the last open ones; their least numbers do not fall. -/
def GoodK (xs OI : List Int) (ms : List Nat) : Prop := 2 ≤ xs.length ∧ xs.length ≤ OI.length ∧ xs = OI.drop (OI.length - xs.length) ∧ ∀ q, q + 1 < xs.length → lwk ms xs q ≤ lwk ms xs (q + 1)
theorem drop_all_eq {xs OI : List Int} {d : Nat} (hd : OI.length - xs.length = d) (hl : xs.length ≤ OI.length) (h : ∀ q, q < xs.length → xs[q]? = OI[d + q]?) : xs = OI.drop (OI.length - xs.length) := by
  rw [hd]
  apply List.ext_getElem?
  intro q
  rw [List.getElem?_drop]
  by_cases hq : q < xs.length
  · exact h q hq
  · rw [List.getElem?_eq_none (by omega), List.getElem?_eq_none (by omega)]

set_option maxHeartbeats 2000000 in
theorem goodKids_any (v1 v2 v3 : Value) (xs OI : List Int) (ms : List Nat) (b : Bool) (hb0 : b = true ↔ GoodK xs OI ms) (w : World) (ht : Tab w) (h1 : RdS v1 xs w) (h2 : RdS v2 OI w) (h3 : Row w 1 v3 ms.length (sets ms))
    (hO : ∀ x ∈ OI, ∃ r : Nat, x = (r : Int) ∧ r < ms.length) (hm0 : ∀ m ∈ ms, m ≠ 0 ∧ m < 65536) :
    Calls Tryd.prog 47 #[v1, v2, v3] w fun e w' => e = .returned (.bool b) ∧ Below w.heap.size w w' := by
  have hl1 := h1.len
  have hl2 := h2.len
  have hl3 := h3.len
  unfold maxLen at hl1 hl2 hl3
  obtain ⟨a1, c1, rfl, -, -, -⟩ := id h1
  obtain ⟨a2, c2, rfl, hcap2, -, -⟩ := id h2
  obtain ⟨a3, c3, rfl, -, -, -⟩ := id h3
  obtain ⟨B, hB⟩ : ∃ B, w.heap.size = B := ⟨_, rfl⟩
  have hTB : 0 < B := by rw [← hB]; exact ht.lt
  have HB0 := Lib.hid hb0
  have hno : ¬ GoodK xs OI ms → Hid (b = false) := fun h => Lib.hid (by
    cases hb : b with
    | false => rfl
    | true => exact (h (hb0.1 hb)).elim)
  have HNO := Lib.hid hno
  clear hno hb0
  by_cases hs : xs.length < 2
  · have HF := HNO.out fun h => by have := h.1; omega
    have hsi : (xs.length : Int) < 2 := by omega
    clear h1 h2 h3
    go_enter Tryd.func47, Tryd.ntmps47
    go_wp2_with fail
    go_ret
    exact ⟨ret_bool HF.out.symm, Below.refl _ _⟩
  have hsi : ¬ (xs.length : Int) < 2 := by omega
  by_cases hg : OI.length < xs.length
  · have HF := HNO.out fun h => by have := h.2.1; omega
    have hgi : (OI.length : Int) < xs.length := by omega
    clear h1 h2 h3
    go_enter Tryd.func47, Tryd.ntmps47
    go_wp2_with fail
    go_ret
    exact ⟨ret_bool HF.out.symm, Below.refl _ _⟩
  have hgi : ¬ (OI.length : Int) < xs.length := by omega
  obtain ⟨d, hd⟩ : ∃ d, OI.length - xs.length = d := ⟨_, rfl⟩
  have hdi : (OI.length : Int) - (xs.length : Int) = (d : Int) := by omega
  have hml : OI.length - d = xs.length := by omega
  have hcd : ¬ c2 = d := by omega
  have hdl : d ≤ OI.length := by omega
  obtain ⟨zb, zo, z0, rfl, -, -⟩ := h2.intAt (j := 0) (by omega)
  have hbr : Below B w w := Below.refl _ _
  have HD := Lib.hid hd
  have H1 : Hid (∀ W, Below B w W → RdS (.slice a1 xs.length c1) xs W) := Lib.hid fun W h => h1.below h hB
  have H2 : Hid (∀ W, Below B w W → RdS (.slice (some ⟨zb, zo, none⟩) OI.length c2) OI W) := Lib.hid fun W h => h2.below h hB
  have H3 : Hid (∀ W, Below B w W → Row W 1 (.slice a3 ms.length c3) ms.length (sets ms)) := Lib.hid fun W h => h3.below (hB ▸ h)
  clear h1 h2 h3 hd
  go_enter Tryd.func47, Tryd.ntmps47
  go_wp2_with fail
  go_loopw [27] (fun q wr => ∃ j : Nat, j ≤ xs.length ∧ q = .int .i64 j ∧ Hid (∀ q, q < j → xs[q]? = OI[d + q]?) ∧ Hid (∀ q, q + 1 < j → lwk ms xs q ≤ lwk ms xs (q + 1)) ∧ Below B w wr) (fun q _ => xs.length - (intOf q).toNat)
  case atStart => exact ⟨0, Nat.zero_le _, rfl, Lib.hid (by omega), Lib.hid (by omega), hbr⟩
  case round =>
    clear hbr
    obtain ⟨j, hj, rfl, HE, HL, hb⟩ := hrel
    by_cases hlt : j < xs.length
    · obtain ⟨yb, yo, y, rfl, hcy, HY⟩ := (H1.out wr hb).intAt hlt
      obtain ⟨zb', zo', z, hze, hcz, HZ⟩ := (H2.out wr hb).intAt (j := d + j) (by omega)
      obtain ⟨rfl, rfl⟩ : zb = zb' ∧ zo = zo' := by simpa using hze
      clear hze
      rw [← Nat.add_assoc] at hcz
      obtain ⟨r, hzr, hrm⟩ := hO z (List.mem_of_getElem? HZ.out)
      subst hzr
      obtain ⟨gb, go, m2, rfl, hcm, HM2⟩ := (H3.out wr hb).setAt (j := r) hrm
      have hm2 := hm0 m2 (List.mem_of_getElem? HM2.out)
      by_cases hyz : y = (r : Int)
      · subst hyz
        have hyb : ((r : Int) != (r : Int)) = false := by simp
        have HE2 : Hid (∀ q, q < j + 1 → xs[q]? = OI[d + q]?) := Lib.hid fun q hq => by
          by_cases hqj : q = j
          · subst hqj; rw [HY.out, HZ.out]
          · exact HE.out q (by omega)
        by_cases hj0 : j = 0
        · subst hj0
          have HL2 : Hid (∀ q, q + 1 < 0 + 1 → lwk ms xs q ≤ lwk ms xs (q + 1)) := Lib.hid (by omega)
          have hj1 : ¬ ((0 : Int) < ((0 : Nat) : Int)) := by omega
          simp only [Nat.add_zero] at hcy hcz
          go_wp2_with fail
          refine wp_region_quiet_lit (by kernel_rfl) (by kernel_rfl) ?_
          repeat (first | go_big_quiet_step (fail) | quiet_step (fail))
          refine wpQuiet_nil ?_
          intro _ hw'
          obtain ⟨nq, hw''⟩ := hw'
          subst hw''
          go_wp2_with fail
          go_roundw
          case rel => exact ⟨1, by omega, by go_num, HE2, HL2, hb.trans ((below_drewN' _ _).mono (by have := hb.size; omega))⟩
          case measure => simp [intOf]; omega
        · obtain ⟨yb', yo', y1, hye, hcy1, HY1⟩ := (H1.out wr hb).intAt (j := j - 1) (by omega)
          obtain ⟨rfl, rfl⟩ : yb = yb' ∧ yo = yo' := by simpa using hye
          clear hye
          have hy1 : OI[d + (j - 1)]? = some y1 := by rw [← HE.out (j - 1) (by omega)]; exact HY1.out
          obtain ⟨r1, hr1, hr1m⟩ := hO y1 (List.mem_of_getElem? hy1)
          subst hr1
          obtain ⟨gb', go', m1, hge, hcm1, HM1⟩ := (H3.out wr hb).setAt (j := r1) hr1m
          obtain ⟨rfl, rfl⟩ : gb = gb' ∧ go = go' := by simpa using hge
          clear hge hy1
          have hm1 := hm0 m1 (List.mem_of_getElem? HM1.out)
          have hjp : (j : Int) - 1 = ((j - 1 : Nat) : Int) := by omega
          obtain ⟨l1, HL1⟩ : ∃ l, Hid (low m1 = l) := ⟨_, Lib.hid rfl⟩
          obtain ⟨l2, HL2⟩ : ∃ l, Hid (low m2 = l) := ⟨_, Lib.hid rfl⟩
          have HA1 : Hid (∀ nq, Calls Tryd.prog 61 #[.int .u32 (m1 : Int)] (wr.drewN nq) fun e w' => e = .returned (.int .i64 (l1 : Int)) ∧ wr.drewN nq = w') := Lib.hid fun nq => by
            rw [← HL1.out]
            exact least_any m1 hm1.1 (by omega) _ (ht.keep (hb.trans ((below_drewN' _ _).mono (by have := hb.size; omega))) hTB)
          have HA2 : Hid (∀ nq, Calls Tryd.prog 61 #[.int .u32 (m2 : Int)] (wr.drewN nq) fun e w' => e = .returned (.int .i64 (l2 : Int)) ∧ wr.drewN nq = w') := Lib.hid fun nq => by
            rw [← HL2.out]
            exact least_any m2 hm2.1 (by omega) _ (ht.keep (hb.trans ((below_drewN' _ _).mono (by have := hb.size; omega))) hTB)
          have HW1 : Hid (lwk ms xs (j - 1) = l1) := Lib.hid ((lwk_at HY1.out HM1.out).trans HL1.out)
          have HW2 : Hid (lwk ms xs (j - 1 + 1) = l2) := Lib.hid (by rw [show j - 1 + 1 = j by omega]; exact (lwk_at HY.out HM2.out).trans HL2.out)
          have hj1 : (0 : Int) < (j : Int) := by omega
          have hj1n : 0 < j := by omega
          by_cases hll : l2 < l1
          · have HF := HNO.out fun h => by
              have := h.2.2.2 (j - 1) (by omega)
              rw [HW1.out, HW2.out] at this
              omega
            have hli : (l2 : Int) < (l1 : Int) := by omega
            go_wp2_with fail
            refine wp_region_quiet_lit (by kernel_rfl) (by kernel_rfl) ?_
            repeat (first | go_big_quiet_step ((first | (go_at_call 61; with_reducible exact quiet_eq (HA1.out _)) | (go_at_call 61; with_reducible exact quiet_eq (HA2.out _)))) | quiet_step ((first | (go_at_call 61; with_reducible exact quiet_eq (HA1.out _)) | (go_at_call 61; with_reducible exact quiet_eq (HA2.out _)))))
            refine wpQuiet_nil ?_
            intro _ hw'
            obtain ⟨nq, hw''⟩ := hw'
            subst hw''
            go_wp2_with fail
            go_ret
            exact ⟨ret_bool HF.out.symm, by rw [hB]; exact hb.trans ((below_drewN' _ _).mono (by have := hb.size; omega))⟩
          · have HLN : Hid (∀ q, q + 1 < j + 1 → lwk ms xs q ≤ lwk ms xs (q + 1)) := Lib.hid fun q hq => by
              by_cases hqj : q = j - 1
              · subst hqj
                rw [HW1.out, HW2.out]
                omega
              · exact HL.out q (by omega)
            have hli : ¬ (l2 : Int) < (l1 : Int) := by omega
            go_wp2_with fail
            refine wp_region_quiet_lit (by kernel_rfl) (by kernel_rfl) ?_
            repeat (first | go_big_quiet_step ((first | (go_at_call 61; with_reducible exact quiet_eq (HA1.out _)) | (go_at_call 61; with_reducible exact quiet_eq (HA2.out _)))) | quiet_step ((first | (go_at_call 61; with_reducible exact quiet_eq (HA1.out _)) | (go_at_call 61; with_reducible exact quiet_eq (HA2.out _)))))
            refine wpQuiet_nil ?_
            intro _ hw'
            obtain ⟨nq, hw''⟩ := hw'
            subst hw''
            go_wp2_with fail
            go_roundw
            case rel => exact ⟨j + 1, by omega, by go_num, HE2, HLN, hb.trans ((below_drewN' _ _).mono (by have := hb.size; omega))⟩
            case measure => simp [intOf]; omega
      · have HF := HNO.out fun h => by
          have h1 := h.2.2.1
          have h2 : xs[j]? = OI[d + j]? := by conv => lhs; rw [h1, HD.out, List.getElem?_drop]
          rw [HY.out, HZ.out] at h2
          exact hyz (Option.some.inj h2)
        have hyb : (y != (r : Int)) = true := by rw [bne_iff_ne]; exact hyz
        go_wp2_with fail
        refine wp_region_quiet_lit (by kernel_rfl) (by kernel_rfl) ?_
        repeat (first | go_big_quiet_step (fail) | quiet_step (fail))
        refine wpQuiet_nil ?_
        intro _ hw'
        obtain ⟨nq, hw''⟩ := hw'
        subst hw''
        go_wp2_with fail
        go_ret
        exact ⟨ret_bool HF.out.symm, by rw [hB]; exact hb.trans ((below_drewN' _ _).mono (by have := hb.size; omega))⟩
    · obtain rfl : j = xs.length := by omega
      have HF : Hid (b = true) := Lib.hid (HB0.out.2 ⟨by omega, by omega, drop_all_eq HD.out (by omega) HE.out, HL.out⟩)
      go_wp2_with fail
      go_ret
      exact ⟨ret_bool HF.out.symm, by rw [hB]; exact hb⟩
end Go.Proofs.YtpfhflkpnjkgkaaDoor
