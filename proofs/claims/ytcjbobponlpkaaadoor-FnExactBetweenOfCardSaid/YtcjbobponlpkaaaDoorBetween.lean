/-
  'BetweenOf' of the program.
-/
import Derived.Test.YtcjbobponlpkaaaDoorCuts
import Derived.Test.YtcjbobponlpkaaaDoorInduced2
namespace Go.Proofs.YtcjbobponlpkaaaDoor
open Go.RowKit

/-- w stands between s and t. -/
noncomputable def betB (n : Nat) (e : Nat → Nat → Bool) (s t w : Nat) : Bool := !decide (w = s) && !decide (w = t) && !wayB n e (butB (allB n) w) s t
/-- What 'BetweenOf' gives. -/
def BetP (xss : List (List Int)) (u v : Int) (rs : List Int) : Prop :=
  ((vertexB xss u && vertexB xss v && (u != v)) = false ∧ rs = []) ∨ ∃ e s t, Adj xss.length e ∧ xss = rowsB xss.length e ∧ (vertexB xss u && vertexB xss v && (u != v)) = true ∧ u = (s : Nat) ∧ v = (t : Nat) ∧ s < xss.length ∧ t < xss.length ∧
    ((wayB xss.length e (allB xss.length) s t = true ∧ rs = rowB xss.length (betB xss.length e s t)) ∨ (wayB xss.length e (allB xss.length) s t = false ∧ rs = []))

set_option maxHeartbeats 4000000 in
theorem implBetween (g : Value) (xss : List (List Int)) (u v : Int) (w : World) (ht : Tab w) (hr : RdSS g xss w) (rs : List Int) (h : BetP xss u v rs) :
    Calls Tryd.prog 35 #[.agg #[g], .int .i64 u, .int .i64 v] w (SRes w rs) := by
  obtain ⟨a, c, rfl⟩ := hr.shape
  obtain ⟨B, hB⟩ : ∃ B, w.heap.size = B := ⟨_, rfl⟩
  have hTB : 0 < B := by rw [← hB]; exact ht.lt
  have u1 : Below B w (w.alloc (.cells #[.slice a xss.length c] 28)) := by subst hB; exact below_alloc' _ _
  have VG0 : VC 28 B #[.slice a xss.length c] (w.alloc (.cells #[.slice a xss.length c] 28)) := VC.new hB
  have hz0 : (w.alloc (.cells #[.slice a xss.length c] 28)).heap.size = B + 1 := by simp [hB]
  have H := Lib.hid h
  have hcg := VG0.cell
  clear h
  go_enter Tryd.func35, Tryd.ntmps35
  go_wp2_with fail
  generalize w.alloc (.cells #[.slice a xss.length c] 28) = W at *
  refine (isPair_any _ xss u v W (hr.below u1 hB)).mono ?_
  rintro e1 w1 ⟨rfl, hb1⟩
  have VG1 := VG0.upd (Upd.of_below hb1) (by omega)
  have hb := u1.trans (hb1.mono (by omega))
  have hz1 : B + 1 ≤ w1.heap.size := by have := hb1.size; omega
  clear hb1 hcg u1
  have hcg := VG1.cell
  have hno : (vertexB xss u && vertexB xss v && (u != v)) = false → Hid (rs = []) := fun hn => by
    rcases H.out with ⟨_, h⟩ | ⟨_, _, _, _, _, h, _⟩
    · exact Lib.hid h
    · rw [hn] at h; cases h
  have HNO := Lib.hid hno
  clear hno
  cases hok : vertexB xss u && vertexB xss v with
  | false =>
    obtain rfl : rs = [] := (HNO.out (by rw [hok]; rfl)).out
    clear hok
    go_wp2_with fail
    go_ret
    exact ⟨_, rfl, World.ownsRow_nil _ _ _ 1, by rw [hB]; exact hb⟩
  | true =>
    have HK := Lib.hid hok
    clear hok
    by_cases huv : u = v
    · obtain rfl : rs = [] := (HNO.out (by rw [HK.out, huv]; simp)).out
      have hd : (u == v) = true := by rw [beq_iff_eq]; exact huv
      clear huv
      go_wp2_with fail
      go_ret
      exact ⟨_, rfl, World.ownsRow_nil _ _ _ 1, by rw [hB]; exact hb⟩
    have hd : (u == v) = false := by rw [beq_eq_false_iff_ne]; exact huv
    have hyes : (vertexB xss u && vertexB xss v && (u != v)) = true := by rw [HK.out, Bool.true_and, bne_iff_ne]; exact huv
    obtain ⟨e, s, t, hA, hx, HU, HV, hs, ht', HR⟩ : ∃ e s t, Adj xss.length e ∧ xss = rowsB xss.length e ∧ Hid (u = (s : Nat)) ∧ Hid (v = (t : Nat)) ∧ s < xss.length ∧ t < xss.length ∧ Hid ((wayB xss.length e (allB xss.length) s t = true ∧ rs = rowB xss.length (betB xss.length e s t)) ∨ (wayB xss.length e (allB xss.length) s t = false ∧ rs = [])) := by
      rcases H.out with ⟨h, _⟩ | ⟨e, s, t, h1, h2, _, h3, h4, h5, h6, h7⟩
      · rw [hyes] at h; cases h
      · exact ⟨e, s, t, h1, h2, Lib.hid h3, Lib.hid h4, h5, h6, Lib.hid h7⟩
    have hn16 := hA.le
    have HA := Lib.hid hA
    have hr' := hr.below hb hB
    rw [hx, rowsB_length] at hr'
    have HN := Lib.hid (netsOf_any _ xss.length e hn16 w1 hr')
    clear hx hr' H hA huv hyes HNO
    go_wp2_with fail
    refine HN.out.mono ?_
    rintro e1 w2 ⟨u2, rfl, hN2, hb2⟩
    obtain ⟨na, nc, rfl⟩ := owns_shape hN2
    have hNr := Row.of_owns hN2
    have hb02 := hb.trans (hb2.mono (by omega))
    have hz2 := hb2.size
    have HT2 := Lib.hid (ht.keep hb02 hTB)
    obtain ⟨z, HZ⟩ : ∃ z : Int, Hid (z = (maskB xss.length (allB xss.length) : Nat)) := ⟨_, Lib.hid rfl⟩
    have HAL := fun W => Lib.hid (all_netsAt (.slice na xss.length nc) xss.length hn16 z (by rw [HZ.out, mask_allB]) ⟨_, _, rfl⟩ W)
    have HRE := Lib.hid (reach_any (.slice na xss.length nc) xss.length e hn16 _ s hs u HU.out z HZ.out w2 HT2.out hNr)
    obtain ⟨y, HY⟩ : ∃ y : Nat, Hid (y = maskB xss.length (wayB xss.length e (allB xss.length) s)) := ⟨_, Lib.hid rfl⟩
    rw [← HY.out] at HRE
    have hbit : y.testBit t = wayB xss.length e (allB xss.length) s t := by rw [HY.out, testBit_maskB]; simp [ht']
    obtain ⟨bb, HBB⟩ : ∃ b, Hid (wayB xss.length e (allB xss.length) s t = b) := ⟨_, Lib.hid rfl⟩
    rw [HBB.out] at hbit
    have HHA := fun W => Lib.hid (hasV_any y (by rw [HY.out]; exact maskB_small (by omega) _) t (by omega) v HV.out bb hbit W)
    clear hN2 HN hb2 hcg hbit
    go_wp2_with fail
    refine (HAL _).out.mono ?_
    rintro e1 w' ⟨rfl, rfl⟩
    go_wp2_with fail
    refine HRE.out.mono ?_
    rintro e1 w3 ⟨rfl, hb3⟩
    have hb03 := hb02.trans (hb3.mono (by omega))
    have hz3 := hb3.size
    have hNr3 := hNr.below hb3
    have HT3 := Lib.hid (HT2.out.below hb3)
    clear hb3 HRE hb02 hb
    go_wp2_with fail
    refine (HHA _).out.mono ?_
    rintro e1 w' ⟨rfl, rfl⟩
    cases bb with
    | false =>
      obtain rfl : rs = [] := by
        rcases HR.out with ⟨h, _⟩ | ⟨_, h⟩
        · rw [HBB.out] at h; cases h
        · exact h
      go_wp2_with fail
      go_ret
      exact ⟨_, rfl, World.ownsRow_nil _ _ _ 1, by rw [hB]; exact hb03⟩
    | true =>
      have hrs : rs = rowB xss.length (betB xss.length e s t) := by
        rcases HR.out with ⟨_, h⟩ | ⟨h, _⟩
        · exact h
        · rw [HBB.out] at h; cases h
      have HRS := Lib.hid hrs
      obtain ⟨z1, HZ1⟩ : ∃ z : Int, Hid (z = ((2 ^ s : Nat) : Int)) := ⟨_, Lib.hid rfl⟩
      obtain ⟨z2, HZ2⟩ : ∃ z : Int, Hid (z = ((2 ^ t : Nat) : Int)) := ⟨_, Lib.hid rfl⟩
      obtain ⟨z3, HZ3⟩ : ∃ z : Int, Hid (z = (maskB xss.length (butB (allB xss.length) s) : Nat)) := ⟨_, Lib.hid rfl⟩
      obtain ⟨z4, HZ4⟩ : ∃ z : Int, Hid (z = (maskB xss.length (butB (butB (allB xss.length) s) t) : Nat)) := ⟨_, Lib.hid rfl⟩
      have hb1' : bits BinOp.andNot IntKind.u32 z z1 = z3 := by rw [HZ.out, HZ1.out, HZ3.out, mask_butB (by omega) _ hs]
      have hb2' : bits BinOp.andNot IntKind.u32 z3 z2 = z4 := by rw [HZ3.out, HZ2.out, HZ4.out, mask_butB (by omega) _ ht']
      obtain ⟨p, HP⟩ : ∃ p, Hid (p = butB (butB (allB xss.length) s) t) := ⟨_, Lib.hid rfl⟩
      rw [← HP.out] at HZ4
      have HLI := Lib.hid (listB_any (n := xss.length) (by omega) p z4 HZ4.out w3 HT3.out)
      have hyl := rowB_length xss.length p
      have hm0 : Hid (0 = maskB xss.length (fun b => inL ((rowB xss.length p).take 0) b && betB xss.length e s t b)) := Lib.hid (by rw [List.take_zero]; exact (maskB_eq_zero.2 fun i _ => by rw [inL_nil]; rfl).symm)
      clear hrs HHA
      go_wp2_with fail
      refine (HAL _).out.mono ?_
      rintro e1 w' ⟨rfl, rfl⟩
      go_wp2_with fail
      refine (one_at _ s HU.out (by omega) z1 HZ1.out _).mono ?_
      rintro e1 w' ⟨rfl, rfl⟩
      go_wp2_with fail
      refine (one_at _ t HV.out (by omega) z2 HZ2.out _).mono ?_
      rintro e1 w' ⟨rfl, rfl⟩
      go_wp2_with fail
      refine HLI.out.mono ?_
      rintro e1 w4 ⟨u4, rfl, hL4, hb4⟩
      obtain ⟨la, lc, rfl⟩ := owns_shape hL4
      have hRL := Row.of_owns hL4
      have hb04 := hb03.trans (hb4.mono (by omega))
      have hNr4 := hNr3.below hb4
      have HT4 := Lib.hid (HT3.out.below hb4)
      obtain ⟨C, hC⟩ : ∃ C, w4.heap.size = C := ⟨_, rfl⟩
      have hBC : B ≤ C := by have := hb4.size; omega
      have hcl : Below C w4 w4 := Below.refl _ _
      clear hL4 HLI hb4 hb03 hNr3 hNr
      go_wp2_with fail
      go_loopw [8, 41] (fun t8 i wr => ∃ j m : Nat, j ≤ (rowB xss.length p).length ∧ i = .int .i64 j ∧ t8 = .int .u32 m ∧ Hid (m = maskB xss.length (fun b => inL ((rowB xss.length p).take j) b && betB xss.length e s t b)) ∧ Below C w4 wr) (fun _ i _ => (rowB xss.length p).length - (intOf i).toNat)
      case atStart => exact ⟨0, 0, Nat.zero_le _, rfl, rfl, hm0, hcl⟩
      case round =>
        clear hcl
        obtain ⟨j, m, hj, rfl, rfl, HM, hb⟩ := hrel
        have hsz := hb.size
        have HTr := Lib.hid (HT4.out.below (hC.symm ▸ hb))
        by_cases hlt : j < (rowB xss.length p).length
        · obtain ⟨yb, yo, y, rfl, hcy, HY⟩ := Row.intAt (Row.below hRL (hC.symm ▸ hb)) hlt
          obtain ⟨q, hq, hpq, rfl⟩ := row_at HY.out
          obtain ⟨z5, HZ5⟩ : ∃ z : Int, Hid (z = ((2 ^ q : Nat) : Int)) := ⟨_, Lib.hid rfl⟩
          obtain ⟨z6, HZ6⟩ : ∃ z : Int, Hid (z = (maskB xss.length (butB (allB xss.length) q) : Nat)) := ⟨_, Lib.hid rfl⟩
          have hba : bits BinOp.andNot IntKind.u32 z z5 = z6 := by rw [HZ.out, HZ5.out, HZ6.out, mask_butB (by omega) _ hq]
          have HRE := Lib.hid (reach_any (.slice na xss.length nc) xss.length e hn16 _ s hs u HU.out z6 HZ6.out wr HTr.out (hNr4.below (hC.symm ▸ hb)))
          obtain ⟨y, HYY⟩ : ∃ y : Nat, Hid (y = maskB xss.length (wayB xss.length e (butB (allB xss.length) q) s)) := ⟨_, Lib.hid rfl⟩
          rw [← HYY.out] at HRE
          have hbit : y.testBit t = wayB xss.length e (butB (allB xss.length) q) s t := by rw [HYY.out, testBit_maskB]; simp [ht']
          obtain ⟨bb, HBB⟩ : ∃ b, Hid (wayB xss.length e (butB (allB xss.length) q) s t = b) := ⟨_, Lib.hid rfl⟩
          rw [HBB.out] at hbit
          have HHA := fun W => Lib.hid (hasV_any y (by rw [HYY.out]; exact maskB_small (by omega) _) t (by omega) v HV.out bb hbit W)
          have HT := Lib.hid (inL_take_succ HY.out)
          have hpq2 : q ≠ s ∧ q ≠ t := by rw [HP.out] at hpq; simp [butB] at hpq; exact ⟨hpq.1.2, hpq.2⟩
          have HO : Hid (betB xss.length e s t q = !bb) := Lib.hid (by unfold betB; rw [HBB.out]; simp [hpq2.1, hpq2.2])
          clear hbit hpq2
          go_wp2_with fail
          refine (HAL _).out.mono ?_
          rintro e1 w' ⟨rfl, rfl⟩
          go_wp2_with fail
          refine (one_at _ q rfl (by omega) z5 HZ5.out _).mono ?_
          rintro e1 w' ⟨rfl, rfl⟩
          go_wp2_with fail
          refine HRE.out.mono ?_
          rintro e1 w5 ⟨rfl, hb5⟩
          have hb05 := hb.trans (hb5.mono (by omega))
          clear hb5 HRE hb hcy
          go_wp2_with fail
          refine (HHA _).out.mono ?_
          rintro e1 w' ⟨rfl, rfl⟩
          cases bb with
          | false =>
            obtain ⟨z7, HZ7⟩ : ∃ z : Int, Hid ((m : Int) = z) := ⟨_, Lib.hid rfl⟩
            obtain ⟨z8, HZ8⟩ : ∃ z : Nat, Hid (z = maskB xss.length (fun b => inL ((rowB xss.length p).take (j + 1)) b && betB xss.length e s t b)) := ⟨_, Lib.hid rfl⟩
            have hbo : bits BinOp.or IntKind.u32 z7 z5 = (z8 : Int) := by
              rw [← HZ7.out, HM.out, HZ5.out, HZ8.out, pow_maskB hq, maskB_or (by omega), HT.out]
              congr 1
              refine maskB_ext fun i hi => ?_
              by_cases hiq : i = q
              · subst hiq; rw [HO.out]; simp
              · simp [hiq]
            rw [HZ7.out]
            go_wp2_with fail
            refine (one_at _ q rfl (by omega) z5 HZ5.out _).mono ?_
            rintro e1 w' ⟨rfl, rfl⟩
            go_wp2_with fail
            go_roundw
            case rel => exact ⟨j + 1, z8, by omega, by go_num, rfl, HZ8, hb05⟩
            case measure => simp [intOf]; omega
          | true =>
            have HM2 : Hid (m = maskB xss.length (fun b => inL ((rowB xss.length p).take (j + 1)) b && betB xss.length e s t b)) := Lib.hid (by
              rw [HM.out, HT.out]
              refine maskB_ext fun i hi => ?_
              by_cases hiq : i = q
              · subst hiq; rw [HO.out]; simp
              · simp [hiq])
            go_wp2_with fail
            go_roundw
            case rel => exact ⟨j + 1, m, by omega, by go_num, rfl, HM2, hb05⟩
            case measure => simp [intOf]; omega
        · obtain rfl : j = (rowB xss.length p).length := by omega
          obtain ⟨mi, HMI⟩ : ∃ z : Int, Hid ((m : Int) = z) := ⟨_, Lib.hid rfl⟩
          have HNU := Lib.hid (numbersB_any (n := xss.length) (by omega) _ mi (by rw [← HMI.out, HM.out]) wr HTr.out)
          rw [show rowB xss.length (fun b => inL ((rowB xss.length p).take (rowB xss.length p).length) b && betB xss.length e s t b) = rs by
            rw [HRS.out, List.take_length]
            refine rowB_ext fun i hi => ?_
            rw [inL_rowB hi, HP.out]
            unfold betB butB allB
            simp [hi]] at HNU
          rw [HMI.out]
          go_wp2_with fail
          refine HNU.out.mono ?_
          rintro e1 w6 ⟨u6, rfl, hL6, hb6⟩
          have hbf := hb04.trans ((hb.trans (hb6.mono (by omega))).mono hBC)
          have HL := Lib.hid (owns_base hL6 (show B ≤ wr.heap.size by omega))
          obtain ⟨ka, kc, rfl⟩ := owns_shape hL6
          clear hb6 hL6 HNU
          go_wp2_with fail
          go_ret
          exact ⟨_, rfl, by rw [hB]; exact HL.out, by rw [hB]; exact hbf⟩
end Go.Proofs.YtcjbobponlpkaaaDoor
