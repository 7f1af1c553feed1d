import Derived.Test.YtpfhflkpnjkgkaaCardCertNumbersJn05
import Derived.Test.YtpfhflkpnjkgkaaCardCertNumbersJn10
import Derived.Test.YtpfhflkpnjkgkaaGq05
/-
  'NumsParts' of the program.
-/


namespace Go.Proofs.Ytpfhflkpnjkgkaa
open Go.RowKit

theorem small_snoc {ps : List PartD} {p : PartD} (h : smallK ps) (hp : p.2.2.length ≤ 16) : smallK (ps ++ [p]) := fun q hq => by
  rcases List.mem_append.1 hq with hq | hq
  · exact h q hq
  · rw [List.mem_singleton.1 hq]; exact hp

set_option maxHeartbeats 2000000 in
set_option maxRecDepth 100000 in
theorem implNums (v : Value) (xs : List Int) (w : World) (hr : RdS v xs w) :
    Calls Try.prog 9 #[v] w fun e w' => ∃ u ps, e = .returned (.tuple #[u, .bool (okW xs 0)]) ∧ (okW xs 0 = true → TrP w.heap.size u ps w' ∧ numsOf ps = xs ∧ smallK ps ∧ ps.length ≤ 31) ∧ Below w.heap.size w w' := by
  obtain ⟨a, c, rfl, -, -, -⟩ := id hr
  obtain ⟨B, hB⟩ : ∃ B, w.heap.size = B := ⟨_, rfl⟩
  obtain ⟨W0, hW0⟩ : ∃ W0, W0 = w.alloc (.cells #[] 48) := ⟨_, rfl⟩
  have hb0 : Below B w W0 := by rw [hW0]; subst hB; exact below_alloc' _ _
  have ht0 : TrP B (.slice (some ⟨B, 0, none⟩) 0 0) [] W0 := by
    rw [hW0]; subst hB
    exact TrP.nil _ _ _ (World.ownsRow_lit w #[] 0 (Nat.le_refl _) (by simp [maxLen]) rfl)
  have HT0 := Lib.hid ht0
  have h00 : Hid (numsOf [] = xs.take 0) := Lib.hid (by simp [numsOf])
  have h01 : Hid (okW xs 0 = okW (xs.drop 0) ([] : List PartD).length) := Lib.hid (by simp)
  have h02 : Hid (smallK []) := Lib.hid (fun p hp => by cases hp)
  have h03 : Hid (xs.length + 0 = xs.length) := Lib.hid rfl
  have HR0 : Hid (∀ W, Below B w W → Row W 1 (.slice a xs.length c) xs.length (ints (xs.drop 0))) := Lib.hid fun W h => by simpa using hr.below h hB
  clear ht0 hr
  go_enter Try.func9, Try.ntmps9
  go_wp2_with fail
  rw [← hW0]
  clear hW0
  go_loopw [0, 4] (fun i u wr => ∃ (d : Nat) (ps : List PartD) (a' : Option Addr) (m c' : Nat), i = .slice a' m c' ∧ d ≤ xs.length ∧ m ≤ xs.length ∧ Hid (m + d = xs.length) ∧ ps.length ≤ 31 ∧ Hid (numsOf ps = xs.take d) ∧ Hid (okW xs 0 = okW (xs.drop d) ps.length) ∧ Hid (smallK ps) ∧ Hid (TrP B u ps wr) ∧ Hid (∀ W, Below B w W → Row W 1 (.slice a' m c') m (ints (xs.drop d))) ∧ Below B w wr) (fun i _ _ => slLen i)
  case atStart => exact ⟨0, [], a, xs.length, c, rfl, Nat.zero_le _, Nat.le_refl _, Lib.hid rfl, by simp, h00, h01, h02, HT0, HR0, hb0⟩
  case round =>
    clear h00 h01 h02 h03 HT0 HR0 hb0
    obtain ⟨d, ps, a', m, c, rfl, hd, hmx, HMD, hpl, HNU, HOK, HSM, HTR, HROW, hb⟩ := hrel
    have hsz : B ≤ wr.heap.size := by have := hb.size; omega
    obtain ⟨ta, tc, rfl⟩ := HTR.out.shape
    by_cases hlt : 0 < m
    · have hne : xs.drop d ≠ [] := fun h => by have := congrArg List.length h; have h2 := HMD.out; simp at this; omega
      have HST : Hid (okW xs 0 = (stepB (xs.drop d) ps.length && okW ((xs.drop d).drop (3 + kidN (xs.drop d))) (ps.length + 1))) := Lib.hid (HOK.out.trans (okW_step hne _))
      have hdl : (xs.drop d).length = m := by have h2 := HMD.out; simp; omega
      have hbad : stepB (xs.drop d) ps.length = false → okW xs 0 = false := fun h => by rw [HST.out, h]; rfl
      have HBAD := Lib.hid hbad
      obtain ⟨a2, cap2, hae, hmc, hcm, -⟩ := id (HROW.out wr hb)
      obtain ⟨rfl, rfl⟩ : a' = a2 ∧ c = cap2 := by simpa using hae
      clear hne hbad hae
      by_cases h3 : m < 3
      · have hbf := HBAD.out (stepB_len (by omega))
        have h3i : (m : Int) < 3 := by omega
        go_wp2_with fail
        refine bodyPost_ret (v := .tuple #[.slice none 0 0, .bool false]) (by simp [results, Try.results9, go_sem]) rfl ?_
        exact ⟨_, [], by rw [hbf], fun h => (by rw [hbf] at h; cases h), by rw [hB]; exact hb⟩
      · have h3i : ¬ (m : Int) < 3 := by omega
        have hrd : RdS (.slice a' (xs.drop d).length c) (xs.drop d) wr := by have := HROW.out wr hb; unfold RdS; rwa [hdl]
        obtain ⟨zb, zo, z, rfl, hcz, HZ⟩ := hrd.intAt (j := 2) (by omega)
        have hg2 : (xs.drop d).getD 2 0 = z := by rw [List.getD_eq_getElem?_getD, HZ.out]; rfl
        obtain ⟨bi, hbi⟩ : ∃ b, decide (0 ≤ z ∧ z ≤ 16) = b := ⟨_, rfl⟩
        have HI := fun W => Lib.hid (inRange_is z 0 16 bi hbi W)
        cases bi with
        | false =>
          have hbf := HBAD.out (stepB_in (by rw [hg2]; exact of_decide_eq_false hbi))
          clear hbi hg2 hrd
          go_wp2_with fail
          refine (HI _).out.mono ?_
          rintro e1 w' ⟨rfl, rfl⟩
          go_wp2_with fail
          refine bodyPost_ret (v := .tuple #[.slice none 0 0, .bool false]) (by simp [results, Try.results9, go_sem]) rfl ?_
          exact ⟨_, [], by rw [hbf], fun h => (by rw [hbf] at h; cases h), by rw [hB]; exact hb⟩
        | true =>
          have hz := of_decide_eq_true hbi
          obtain ⟨k, rfl⟩ : ∃ k : Nat, z = (k : Int) := ⟨z.toNat, by omega⟩
          have hk : kidN (xs.drop d) = k := by unfold kidN; rw [hg2]; simp
          have hk16 : k ≤ 16 := by omega
          obtain ⟨en, hen⟩ : ∃ en : Nat, (3 : Int) + (k : Int) = (en : Int) := ⟨3 + k, by omega⟩
          by_cases hrm : m < en
          · have hbf := HBAD.out (stepB_room (by rw [hk]; omega))
            have hri : (m : Int) < (en : Int) := by omega
            clear hbi hg2 hk hz hrd
            go_wp2_with fail
            refine (HI _).out.mono ?_
            rintro e1 w' ⟨rfl, rfl⟩
            go_wp2_with fail
            refine bodyPost_ret (v := .tuple #[.slice none 0 0, .bool false]) (by simp [results, Try.results9, go_sem]) rfl ?_
            exact ⟨_, [], by rw [hbf], fun h => (by rw [hbf] at h; cases h), by rw [hB]; exact hb⟩
          · have hri : ¬ (m : Int) < (en : Int) := by omega
            by_cases h31 : ps.length = 31
            · have hbf := HBAD.out (stepB_many h31)
              have h31i : ((ps.length : Int) == 31) = true := by rw [h31]; rfl
              clear hbi hg2 hk hz h31 hrd
              go_wp2_with fail
              refine (HI _).out.mono ?_
              rintro e1 w' ⟨rfl, rfl⟩
              go_wp2_with fail
              refine bodyPost_ret (v := .tuple #[.slice none 0 0, .bool false]) (by simp [results, Try.results9, go_sem]) rfl ?_
              exact ⟨_, [], by rw [hbf], fun h => (by rw [hbf] at h; cases h), by rw [hB]; exact hb⟩
            · have h31i : ((ps.length : Int) == 31) = false := by rw [beq_eq_false_iff_ne]; omega
              have hst : stepB (xs.drop d) ps.length = true := stepB_yes (by omega) (by rw [hg2]; exact hz) (by rw [hk]; omega) h31
              obtain ⟨x, y, z', hx0, hy0, hz0, -, -, hz', hlz, -, hnn, hkl⟩ := take_part HNU.out hst
              have henk : en = 3 + k := by omega
              rw [hk] at hnn hkl hlz
              have HOK2 : Hid (okW xs 0 = okW (xs.drop (d + en)) (ps.length + 1)) := Lib.hid (by
                rw [HST.out, hst, Bool.true_and, hk, List.drop_drop, henk])
              obtain ⟨xb, xo, x', hxe, hcx, HX⟩ := hrd.intAt (j := 0) (by omega)
              obtain ⟨rfl, rfl⟩ : zb = xb ∧ zo = xo := by simpa using hxe
              obtain rfl : x' = x := by have h := HX.out; rw [List.getElem?_drop, Nat.add_zero, hx0] at h; exact (Option.some.inj h).symm
              obtain ⟨yb, yo, y', hye, hcy, HY⟩ := hrd.intAt (j := 1) (by omega)
              obtain ⟨rfl, rfl⟩ : zb = yb ∧ zo = yo := by simpa using hye
              obtain rfl : y' = y := by have h := HY.out; rw [List.getElem?_drop, hy0] at h; exact (Option.some.inj h).symm
              obtain ⟨ks, hks⟩ : ∃ ks, (xs.drop (d + 3)).take k = ks := ⟨_, rfl⟩
              rw [hks] at hnn hkl
              have HNN : Hid (numsOf (ps ++ [(x', y', ks)]) = xs.take (d + en)) := Lib.hid (by rw [hnn, henk, Nat.add_assoc])
              have HKS := Lib.hid hks
              have HP30 : Hid (ps.length + 1 ≤ 31) := Lib.hid (by omega)
              have HKL := Lib.hid hkl
              have HMD2 : Hid (m - en + (d + en) = xs.length) := Lib.hid (by have := HMD.out; omega)
              have HSM2 : Hid (smallK (ps ++ [(x', y', ks)])) := Lib.hid (small_snoc HSM.out (by rw [HKL.out]; exact hk16))
              have hden : d + en ≤ xs.length := by have := HMD.out; omega
              have hme : m - en ≤ xs.length := by omega
              simp only [Nat.add_zero] at hcx
              clear hbi hg2 hk hz h31 hst hx0 hy0 hz0 hz' hlz hnn hxe hye hks hkl hrd henk
              by_cases hc3 : c = 3
              · have hce : c = en := by omega
                have hz0m : True := trivial
                have HSR : Hid (∀ W, Below B w W → RdS (.slice (some ⟨zb, zo, none⟩) ks.length 0) ks W) := Lib.hid fun W hW => by
                  have h1 := (HROW.out W hW).drop_all (k := 3) (by omega) hc3
                  (try rw [show c - 3 = 0 by omega] at h1)
                  have h2 := h1.take (k := k) (by omega)
                  have h3 : ((ints (xs.drop d)).drop 3).take k = ints ks := by rw [← HKS.out]; simp [ints, List.map_drop, List.map_take]
                  rw [h3] at h2
                  unfold RdS
                  rw [HKL.out]
                  first | exact h2 | simpa [Addr.add_lit] using h2
                have HNX : Hid (∀ W, Below B w W → Row W 1 (.slice (some ⟨zb, zo, none⟩) (m - en) 0) (m - en) (ints (xs.drop (d + en)))) := Lib.hid fun W hW => by
                  have h1 := (HROW.out W hW).drop_all (k := en) (by omega) (by omega)
                  have h3 : (ints (xs.drop d)).drop en = ints (xs.drop (d + en)) := by simp [ints, List.map_drop, List.drop_drop]
                  rw [h3] at h1
                  first | exact h1 | simpa [Addr.add_lit] using h1

                have hbd : Below B w wr.drew := hb.drew
                have HCP := Lib.hid (clone_any (.slice (some ⟨zb, zo, none⟩) ks.length 0) ks wr.drew (HSR.out _ hbd) (by rw [HKL.out]; omega))
                rw [HKL.out] at HCP
                have HBD := Lib.hid hb
                have hm1 : (1 : Int) < (m : Int) := by omega
                have hm0 : (0 : Int) < (m : Int) := by omega
                have hm1n : 1 < m := by omega
                have hek3 : en - 3 = k := by omega
                clear hb hbd HBAD HST
                go_wp2_with fail
                refine (HI _).out.mono ?_
                rintro e1 w' ⟨rfl, rfl⟩
                go_wp2_with fail
                refine wp_region_ord [0, 1, 2, 4, 5, 7, 8] [3, 6] [9, 10, 11, 12] [13, 14] (by kernel_rfl) (by kernel_rfl) (fun _ _ d _ _ h => by cases d <;> exact h) ?_
                simp only [pickOps, List.filterMap_cons, List.filterMap_nil, List.getElem?_cons_succ, List.getElem?_cons_zero]
                repeat (first | go_big_quiet_step (fail) | quiet_step (fail))
                simp only [wpQuiet_nil_eq]
                refine wpSegs_cons ?_
                go_wp2_with fail
                refine ⟨(Below.refl _ _).drew, ?_⟩
                refine wpSegs_cons ?_
                go_wp2_with fail
                refine HCP.out.mono ?_
                rintro e1 w2 ⟨u, rfl, hu, hb2⟩
                have HB2' := Lib.hid (below_drew hb2)
                have HB2 := Lib.hid (HBD.out.trans (HB2'.out.mono hsz))
                have HU2 : Hid (w2.ownsRow B 2 1 u ks.length (ints ks)) := Lib.hid (by rw [HKL.out]; exact owns_base hu hsz)
                have HT2 := Lib.hid (HTR.out.below HB2'.out)
                obtain ⟨L2, hL2⟩ := HT2.out.ex
                have HL2 := Lib.hid hL2
                have hs2 : B ≤ w2.heap.size := by have := HB2.out.size; omega
                obtain ⟨ua, uc, rfl⟩ := owns_shape hu
                clear hu hb2 HCP hL2
                go_wp2_with fail
                refine ⟨HB2'.out, ?_⟩
                refine wpSegs_cons ?_
                go_wp2_with fail
                refine ⟨HB2'.out, ?_⟩
                refine wpSegs_cons ?_
                go_wp2_with fail
                refine ⟨HB2'.out.alloc HB2'.out.size _, ?_⟩
                simp only [wpSegs_nil_eq]
                refine (wpList_pushP w2 rfl _ _ 24 rfl B 48 _ _ 40 Try.underlying24 infoEP cellsP3 (.slice ta ps.length tc) ps.length (cellsQ L2) rfl HL2.out.own w2.heap.size rfl (.int .i64 x') (.int .i64 y') (.slice ua k uc) rfl rfl rfl rfl (by unfold maxLen; omega) (by omega) (by omega) ?_)
                intro g3 c3 w3 ho3 hg3
                have HT3 := Lib.hid (HL2.out.push (x := x') (y := y') (xs := ks) (by have := HU2.out; rw [HKL.out] at this ⊢; exact this) hg3 ho3)
                have HB3 := Lib.hid (HB2.out.grown hg3 hs2 fun q hq => (owns_lt HL2.out.own hq).1)
                have hpl2 : ((ps ++ [(x', y', ks)]).length : Nat) = ps.length + 1 := by simp
                have HPL := Lib.hid hpl2
                clear ho3 hg3 hpl2
                go_wp2_with fail
                go_roundw
                case rel => exact ⟨d + en, ps ++ [(x', y', ks)], (some ⟨zb, zo, none⟩), m - en, 0, by first | rfl | (simp; done) | (simp; omega), by omega, by omega, HMD2, by rw [HPL.out]; exact HP30.out, HNN, by rw [HPL.out]; exact HOK2, HSM2, by first | exact HT3 | (have h := HT3; simpa using h), HNX, HB3.out⟩
                case measure => simp [slLen]; omega
              · by_cases hce : c = en
                · have hz0m : True := trivial
                  have HSR : Hid (∀ W, Below B w W → RdS (.slice (some ⟨zb, zo + 3, none⟩) ks.length k) ks W) := Lib.hid fun W hW => by
                    have h1 := (HROW.out W hW).drop (k := 3) (by omega) hc3
                    (try rw [show c - 3 = k by omega] at h1)
                    have h2 := h1.take (k := k) (by omega)
                    have h3 : ((ints (xs.drop d)).drop 3).take k = ints ks := by rw [← HKS.out]; simp [ints, List.map_drop, List.map_take]
                    rw [h3] at h2
                    unfold RdS
                    rw [HKL.out]
                    first | exact h2 | simpa [Addr.add_lit] using h2
                  have HNX : Hid (∀ W, Below B w W → Row W 1 (.slice (some ⟨zb, zo, none⟩) (m - en) 0) (m - en) (ints (xs.drop (d + en)))) := Lib.hid fun W hW => by
                    have h1 := (HROW.out W hW).drop_all (k := en) (by omega) hce
                    have h3 : (ints (xs.drop d)).drop en = ints (xs.drop (d + en)) := by simp [ints, List.map_drop, List.drop_drop]
                    rw [h3] at h1
                    first | exact h1 | simpa [Addr.add_lit] using h1

                  have hbd : Below B w wr.drew := hb.drew
                  have HCP := Lib.hid (clone_any (.slice (some ⟨zb, zo + 3, none⟩) ks.length k) ks wr.drew (HSR.out _ hbd) (by rw [HKL.out]; omega))
                  rw [HKL.out] at HCP
                  have HBD := Lib.hid hb
                  have hm1 : (1 : Int) < (m : Int) := by omega
                  have hm0 : (0 : Int) < (m : Int) := by omega
                  have hm1n : 1 < m := by omega
                  have hek3 : en - 3 = k := by omega
                  clear hb hbd HBAD HST
                  go_wp2_with fail
                  refine (HI _).out.mono ?_
                  rintro e1 w' ⟨rfl, rfl⟩
                  go_wp2_with fail
                  refine wp_region_ord [0, 1, 2, 4, 5, 7, 8] [3, 6] [9, 10, 11, 12] [13, 14] (by kernel_rfl) (by kernel_rfl) (fun _ _ d _ _ h => by cases d <;> exact h) ?_
                  simp only [pickOps, List.filterMap_cons, List.filterMap_nil, List.getElem?_cons_succ, List.getElem?_cons_zero]
                  repeat (first | go_big_quiet_step (fail) | quiet_step (fail))
                  simp only [wpQuiet_nil_eq]
                  refine wpSegs_cons ?_
                  go_wp2_with fail
                  refine ⟨(Below.refl _ _).drew, ?_⟩
                  refine wpSegs_cons ?_
                  go_wp2_with fail
                  refine HCP.out.mono ?_
                  rintro e1 w2 ⟨u, rfl, hu, hb2⟩
                  have HB2' := Lib.hid (below_drew hb2)
                  have HB2 := Lib.hid (HBD.out.trans (HB2'.out.mono hsz))
                  have HU2 : Hid (w2.ownsRow B 2 1 u ks.length (ints ks)) := Lib.hid (by rw [HKL.out]; exact owns_base hu hsz)
                  have HT2 := Lib.hid (HTR.out.below HB2'.out)
                  obtain ⟨L2, hL2⟩ := HT2.out.ex
                  have HL2 := Lib.hid hL2
                  have hs2 : B ≤ w2.heap.size := by have := HB2.out.size; omega
                  obtain ⟨ua, uc, rfl⟩ := owns_shape hu
                  clear hu hb2 HCP hL2
                  go_wp2_with fail
                  refine ⟨HB2'.out, ?_⟩
                  refine wpSegs_cons ?_
                  go_wp2_with fail
                  refine ⟨HB2'.out, ?_⟩
                  refine wpSegs_cons ?_
                  go_wp2_with fail
                  refine ⟨HB2'.out.alloc HB2'.out.size _, ?_⟩
                  simp only [wpSegs_nil_eq]
                  refine (wpList_pushP w2 rfl _ _ 24 rfl B 48 _ _ 40 Try.underlying24 infoEP cellsP3 (.slice ta ps.length tc) ps.length (cellsQ L2) rfl HL2.out.own w2.heap.size rfl (.int .i64 x') (.int .i64 y') (.slice ua k uc) rfl rfl rfl rfl (by unfold maxLen; omega) (by omega) (by omega) ?_)
                  intro g3 c3 w3 ho3 hg3
                  have HT3 := Lib.hid (HL2.out.push (x := x') (y := y') (xs := ks) (by have := HU2.out; rw [HKL.out] at this ⊢; exact this) hg3 ho3)
                  have HB3 := Lib.hid (HB2.out.grown hg3 hs2 fun q hq => (owns_lt HL2.out.own hq).1)
                  have hpl2 : ((ps ++ [(x', y', ks)]).length : Nat) = ps.length + 1 := by simp
                  have HPL := Lib.hid hpl2
                  clear ho3 hg3 hpl2
                  go_wp2_with fail
                  go_roundw
                  case rel => exact ⟨d + en, ps ++ [(x', y', ks)], (some ⟨zb, zo, none⟩), m - en, 0, by first | rfl | (simp; done) | (simp; omega), by omega, by omega, HMD2, by rw [HPL.out]; exact HP30.out, HNN, by rw [HPL.out]; exact HOK2, HSM2, by first | exact HT3 | (have h := HT3; simpa using h), HNX, HB3.out⟩
                  case measure => simp [slLen]; omega
                · have hz0m : True := trivial
                  have HSR : Hid (∀ W, Below B w W → RdS (.slice (some ⟨zb, zo + 3, none⟩) ks.length (c - 3)) ks W) := Lib.hid fun W hW => by
                    have h1 := (HROW.out W hW).drop (k := 3) (by omega) hc3
                    (try rw [show c - 3 = (c - 3) by omega] at h1)
                    have h2 := h1.take (k := k) (by omega)
                    have h3 : ((ints (xs.drop d)).drop 3).take k = ints ks := by rw [← HKS.out]; simp [ints, List.map_drop, List.map_take]
                    rw [h3] at h2
                    unfold RdS
                    rw [HKL.out]
                    first | exact h2 | simpa [Addr.add_lit] using h2
                  have HNX : Hid (∀ W, Below B w W → Row W 1 (.slice (some ⟨zb, zo + en, none⟩) (m - en) (c - en)) (m - en) (ints (xs.drop (d + en)))) := Lib.hid fun W hW => by
                    have h1 := (HROW.out W hW).drop (k := en) (by omega) hce
                    have h3 : (ints (xs.drop d)).drop en = ints (xs.drop (d + en)) := by simp [ints, List.map_drop, List.drop_drop]
                    rw [h3] at h1
                    first | exact h1 | simpa [Addr.add_lit] using h1

                  have hbd : Below B w wr.drew := hb.drew
                  have HCP := Lib.hid (clone_any (.slice (some ⟨zb, zo + 3, none⟩) ks.length (c - 3)) ks wr.drew (HSR.out _ hbd) (by rw [HKL.out]; omega))
                  rw [HKL.out] at HCP
                  have HBD := Lib.hid hb
                  have hm1 : (1 : Int) < (m : Int) := by omega
                  have hm0 : (0 : Int) < (m : Int) := by omega
                  have hm1n : 1 < m := by omega
                  have hek3 : en - 3 = k := by omega
                  clear hb hbd HBAD HST
                  go_wp2_with fail
                  refine (HI _).out.mono ?_
                  rintro e1 w' ⟨rfl, rfl⟩
                  go_wp2_with fail
                  refine wp_region_ord [0, 1, 2, 4, 5, 7, 8] [3, 6] [9, 10, 11, 12] [13, 14] (by kernel_rfl) (by kernel_rfl) (fun _ _ d _ _ h => by cases d <;> exact h) ?_
                  simp only [pickOps, List.filterMap_cons, List.filterMap_nil, List.getElem?_cons_succ, List.getElem?_cons_zero]
                  repeat (first | go_big_quiet_step (fail) | quiet_step (fail))
                  simp only [wpQuiet_nil_eq]
                  refine wpSegs_cons ?_
                  go_wp2_with fail
                  refine ⟨(Below.refl _ _).drew, ?_⟩
                  refine wpSegs_cons ?_
                  go_wp2_with fail
                  refine HCP.out.mono ?_
                  rintro e1 w2 ⟨u, rfl, hu, hb2⟩
                  have HB2' := Lib.hid (below_drew hb2)
                  have HB2 := Lib.hid (HBD.out.trans (HB2'.out.mono hsz))
                  have HU2 : Hid (w2.ownsRow B 2 1 u ks.length (ints ks)) := Lib.hid (by rw [HKL.out]; exact owns_base hu hsz)
                  have HT2 := Lib.hid (HTR.out.below HB2'.out)
                  obtain ⟨L2, hL2⟩ := HT2.out.ex
                  have HL2 := Lib.hid hL2
                  have hs2 : B ≤ w2.heap.size := by have := HB2.out.size; omega
                  obtain ⟨ua, uc, rfl⟩ := owns_shape hu
                  clear hu hb2 HCP hL2
                  go_wp2_with fail
                  refine ⟨HB2'.out, ?_⟩
                  refine wpSegs_cons ?_
                  go_wp2_with fail
                  refine ⟨HB2'.out, ?_⟩
                  refine wpSegs_cons ?_
                  go_wp2_with fail
                  refine ⟨HB2'.out.alloc HB2'.out.size _, ?_⟩
                  simp only [wpSegs_nil_eq]
                  refine (wpList_pushP w2 rfl _ _ 24 rfl B 48 _ _ 40 Try.underlying24 infoEP cellsP3 (.slice ta ps.length tc) ps.length (cellsQ L2) rfl HL2.out.own w2.heap.size rfl (.int .i64 x') (.int .i64 y') (.slice ua k uc) rfl rfl rfl rfl (by unfold maxLen; omega) (by omega) (by omega) ?_)
                  intro g3 c3 w3 ho3 hg3
                  have HT3 := Lib.hid (HL2.out.push (x := x') (y := y') (xs := ks) (by have := HU2.out; rw [HKL.out] at this ⊢; exact this) hg3 ho3)
                  have HB3 := Lib.hid (HB2.out.grown hg3 hs2 fun q hq => (owns_lt HL2.out.own hq).1)
                  have hpl2 : ((ps ++ [(x', y', ks)]).length : Nat) = ps.length + 1 := by simp
                  have HPL := Lib.hid hpl2
                  clear ho3 hg3 hpl2
                  go_wp2_with fail
                  go_roundw
                  case rel => exact ⟨d + en, ps ++ [(x', y', ks)], (some ⟨zb, zo + en, none⟩), m - en, (c - en), by first | rfl | (simp; done) | (simp; omega), by omega, by omega, HMD2, by rw [HPL.out]; exact HP30.out, HNN, by rw [HPL.out]; exact HOK2, HSM2, by first | exact HT3 | (have h := HT3; simpa using h), HNX, HB3.out⟩
                  case measure => simp [slLen]; omega
    · obtain rfl : m = 0 := by omega
      have hdx : d = xs.length := by have := HMD.out; omega
      have hok : okW xs 0 = true := by rw [HOK.out, hdx, List.drop_length]; rfl
      have hnx : numsOf ps = xs := by rw [HNU.out, hdx, List.take_length]
      have HNX := Lib.hid hnx
      have HOK2 := Lib.hid hok
      clear hdx hok hnx
      go_wp2_with fail
      refine bodyPost_ret (v := .tuple #[.slice ta ps.length tc, .bool true]) (by simp [results, Try.results9, go_sem]) rfl ?_
      exact ⟨_, ps, by rw [HOK2.out], fun _ => ⟨by rw [hB]; exact HTR.out, HNX.out, HSM.out, hpl⟩, by rw [hB]; exact hb⟩
end Go.Proofs.Ytpfhflkpnjkgkaa
/-
  A region whose order is open, behind reads that hold in every memory of a kind.
-/

namespace Go.Proofs.Ytpfhflkpnjkgkaa
open Go.RowKit
section
variable {P : Program} {ops : Array Oper} {Q : Exit → Act → World → Prop} {md : Region.Mode}
theorem wp_region_takeC {C : World → Prop} {id : Nat} {a : Act} {w : World} {l : List Oper} (R0 R1 : List Nat) (m g : Nat) (l1 : Array Bool) (hm : P.follows .mixedOrders = true) (hsel : Region.noSelect l.toArray = true)
    (hB : Region.taken l.toArray R0 R1 m = some l1) (hlen : R0.length + (R1.length + g) = l.toArray.size)
    (h0 : C w.drew) (hQ : ∀ c (a : Act) d v w, Q (.panic c) (a.put d v) w → Q (.panic c) a w)
    (h : wpQuiet P l.toArray (fun _ => True) (wpQuiet P l.toArray C (fun a' => wpAnyG P .any l.toArray Q (Gate C m) g l1 a' w.drew) (pickOps l R1)) (pickOps l R0) a) :
    (Code.region id l.toArray true).wp P Q a w := by
  unfold Region.taken at hB
  split at hB
  · cases hB
  rename_i l0 hl0
  refine wp_region_any hm (wpAny_of_G (S := Gate C m) _ _ _ _ ?_)
  have hgate : ∀ L, Gate C m L w.drew := fun _ _ => h0
  suffices H : wpAnyG P .any l.toArray Q (Gate C m) (R0.length + (R1.length + g)) (Array.replicate l.toArray.size false) a w.drew by
    rw [hlen] at H; exact H
  refine wpAnyG_takes (C' := fun _ => True) (gate := none) hsel hQ (fun _ _ _ _ _ _ _ => trivial) (K := wpQuiet P l.toArray C (fun a' => wpAnyG P .any l.toArray Q (Gate C m) g l1 a' w.drew) (pickOps l R1)) (listed' := l0) ?_ R0 _ a (closed_start _) (hgate _) hl0 h
  intro a1 h1 inv1
  refine wpAnyG_takes (C' := C) (gate := some l.toArray.size) hsel hQ ?_ (K := fun a' => wpAnyG P .any l.toArray Q (Gate C m) g l1 a' w.drew) (listed' := l1) ?_ R1 _ a1 inv1 (hgate _) hB h1
  · intro i hi L W hL hun hG
    refine hG ?_
    simp only [Region.behindGate, Bool.or_eq_true, decide_eq_true_eq] at hi
    rcases hi with hi | hi
    · have : L.size ≤ m := by rw [hL.size]; exact hi
      simp [this]
    · cases hx : L.getD m false with
      | false => rfl
      | true =>
        have := behind_listed hL _ _ hi hx
        rw [getD_both hun] at this
        cases this
  · intro a2 h3 _
    exact h3

end
end Go.Proofs.Ytpfhflkpnjkgkaa
