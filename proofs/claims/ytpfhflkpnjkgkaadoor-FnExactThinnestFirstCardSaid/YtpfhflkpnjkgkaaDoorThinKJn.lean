import Derived.Test.YtpfhflkpnjkgkaaDoorApexJn
import Derived.Test.YtpfhflkpnjkgkaaDoorThinJJn
/-
  'ThinnestFirst' of the program.
-/


namespace Go.Proofs.YtpfhflkpnjkgkaaDoor
open Go.RowKit Go.Maps

/-- Wide enough to be reckoned. -/
def wideB (xss : List (List Int)) : Bool := okB xss && decide (xss.length ≤ 10)
/-- Who may go first. -/
noncomputable def thinB (n : Nat) (e : Nat → Nat → Bool) (v : Nat) : Bool := decide (wit n e 0 v = wid n e 0)
/-- What 'ThinnestFirst' gives. -/
def ThinP (xss : List (List Int)) (rs : List Int) : Prop :=
  (wideB xss = false ∧ rs = []) ∨ ∃ e, Adj xss.length e ∧ xss = rowsB xss.length e ∧ wideB xss = true ∧ rs = rowB xss.length (thinB xss.length e)
theorem tn_le : ∀ k, k ≤ 10 → tn k ≤ 9864101 := by decide +kernel

set_option maxHeartbeats 1000000 in
theorem isWide_any (g : Value) (xss : List (List Int)) (w : World) (hr : RdSS g xss w) :
    Calls Tryd.prog 35 #[.agg #[g]] w fun e w' => e = .returned (.bool (wideB xss)) ∧ Below w.heap.size w w' := by
  obtain ⟨a, c, rfl⟩ := hr.shape
  obtain ⟨B, hB⟩ : ∃ B, w.heap.size = B := ⟨_, rfl⟩
  have u1 : Below B w (w.alloc (.cells #[.slice a xss.length c] 38)) := by subst hB; exact below_alloc' _ _
  have VG0 : VC 38 B #[.slice a xss.length c] (w.alloc (.cells #[.slice a xss.length c] 38)) := VC.new hB
  have hcg := VG0.cell
  have hz0 : (w.alloc (.cells #[.slice a xss.length c] 38)).heap.size = B + 1 := by simp [hB]
  obtain ⟨b, hb0⟩ : ∃ b, okB xss = b := ⟨_, rfl⟩
  obtain ⟨d, hd0⟩ : ∃ d, decide (xss.length ≤ 10) = d := ⟨_, rfl⟩
  have HW : Hid (wideB xss = (b && d)) := Lib.hid (by unfold wideB; rw [hb0, hd0])
  have HOK := Lib.hid (implOk (.slice a xss.length c) xss _ (hr.below u1 hB))
  rw [hb0] at HOK
  go_enter Tryd.func35, Tryd.ntmps35
  go_wp2_with fail
  refine HOK.out.mono ?_
  rintro e1 w1 ⟨rfl, hb1⟩
  have VG1 := VG0.upd (Upd.of_below hb1) (by omega)
  have hb := u1.trans (hb1.mono (by omega))
  clear hb1 hcg u1 HOK
  have hcg := VG1.cell
  cases b with
  | false =>
    go_wp2_with fail
    go_ret
    exact ⟨ret_bool (by rw [HW.out]; rfl), by rw [hB]; exact hb⟩
  | true =>
    cases d with
    | false =>
      have hd : ¬ ((xss.length : Int) ≤ 10) := by rw [decide_eq_false_iff_not] at hd0; omega
      go_wp2_with fail
      go_ret
      exact ⟨ret_bool (by rw [HW.out]; first | (simp; done) | (simp; omega)), by rw [hB]; exact hb⟩
    | true =>
      have hd : ((xss.length : Int) ≤ 10) := by rw [decide_eq_true_eq] at hd0; omega
      go_wp2_with fail
      go_ret
      exact ⟨ret_bool (by rw [HW.out]; first | (simp; done) | (simp; omega)), by rw [hB]; exact hb⟩

set_option maxHeartbeats 1000000 in
theorem newWidths_any (n : Nat) (e : Nat → Nat → Bool) (hn1 : 1 ≤ n) (a : Option Addr) (c : Nat) (w : World) (ht : Tab w) (hr : Row w 1 (.slice a n c) n (sets (NB n e))) :
    Calls Tryd.prog 36 #[.slice a n c] w fun r w' => ∃ xb mb, r = .returned (.pointer (some ⟨xb, 0, none⟩)) ∧ w.heap.size ≤ mb ∧ WSt n e xb mb a c w' 0 (.map []) ∧ Below w.heap.size w w' := by
  obtain ⟨B, hB⟩ : ∃ B, w.heap.size = B := ⟨_, rfl⟩
  obtain ⟨W, hW⟩ : ∃ W, W = (w.alloc (.map #[] 0)).alloc (.cells #[.slice a n c, .map (some B)] 69) := ⟨_, rfl⟩
  have hb : Below B w W := by rw [hW]; subst hB; exact (below_alloc' _ _).alloc (by simp) _
  have V : VC 69 (B + 1) #[.slice a n c, .map (some B)] W := by rw [hW]; exact VC.new (by simp [hB])
  have hm : W.ownsMap (H := Nat) Tryd.prog 54 (plainElem Tryd.prog 3) B 0 (.map []) := by rw [hW]; subst hB; exact (World.ownsMap_made _ _ _ _).alloc _
  have st : WSt n e (B + 1) B a c W 0 (.map []) := by
    refine ⟨V, hr.below (hB ▸ hb), ht.below (hB ▸ hb), hm, MapOK.empty n e, by omega, fun b hb' => ?_, ?_⟩
    · obtain ⟨gb, go, x, hae, hcx, -⟩ := hr.setAt (j := 0) (by simp [NB]; omega)
      have := block_lt hcx
      rw [hae] at hb'
      have hbe : gb = b := by simpa [Value.ownBlock] using hb'
      simp only at this
      omega
    · have := ht.lt; omega
  have ST := Lib.hid st
  have HB := Lib.hid hb
  have hmm := @run_makeMap Tryd.prog
  clear st hm V hb
  go_enter Tryd.func36, Tryd.ntmps36
  go_wp2_with fail
  rw [← hW]
  go_ret
  exact ⟨B + 1, B, rfl, by omega, ST.out, by rw [hB]; exact HB.out⟩

set_option maxHeartbeats 4000000 in
set_option maxRecDepth 100000 in
theorem implThinnest (g : Value) (xss : List (List Int)) (w : World) (ht : Tab w) (hr : RdSS g xss w) (rs : List Int) (h : ThinP xss rs) :
    Calls Tryd.prog 17 #[.agg #[g]] w (SRes w rs) := by
  obtain ⟨a, c, rfl⟩ := hr.shape
  obtain ⟨B, hB⟩ : ∃ B, w.heap.size = B := ⟨_, rfl⟩
  have hTB : 0 < B := by rw [← hB]; exact ht.lt
  have u1 : Below B w (w.alloc (.cells #[.slice a xss.length c] 38)) := by subst hB; exact below_alloc' _ _
  have VG0 : VC 38 B #[.slice a xss.length c] (w.alloc (.cells #[.slice a xss.length c] 38)) := VC.new hB
  have hz0 : (w.alloc (.cells #[.slice a xss.length c] 38)).heap.size = B + 1 := by simp [hB]
  have hcg := VG0.cell
  have H := Lib.hid h
  clear h
  go_enter Tryd.func17, Tryd.ntmps17
  go_wp2_with fail
  generalize w.alloc (.cells #[.slice a xss.length c] 38) = W at *
  refine (isWide_any _ xss W (hr.below u1 hB)).mono ?_
  rintro e1 w1 ⟨rfl, hb1⟩
  have VG1 := VG0.upd (Upd.of_below hb1) (by omega)
  have hb := u1.trans (hb1.mono (by omega))
  have hz1 : B + 1 ≤ w1.heap.size := by have := hb1.size; omega
  clear hb1 hcg u1
  have hcg := VG1.cell
  cases hw : wideB xss with
  | false =>
    have hrs : rs = [] := by
      rcases H.out with ⟨_, h⟩ | ⟨_, _, _, h, _⟩
      · exact h
      · rw [hw] at h; cases h
    subst hrs
    clear hw
    go_wp2_with fail
    go_ret
    exact ⟨.slice none 0 0, rfl, World.ownsRow_nil _ _ _ 1, by rw [hB]; exact hb⟩
  | true =>
    obtain ⟨e, hA, hx, hrs⟩ : ∃ e, Adj xss.length e ∧ xss = rowsB xss.length e ∧ rs = rowB xss.length (thinB xss.length e) := by
      rcases H.out with ⟨h, _⟩ | ⟨e, h1, h2, _, h3⟩
      · rw [hw] at h; cases h
      · exact ⟨e, h1, h2, h3⟩
    have hn10 : xss.length ≤ 10 := by unfold wideB at hw; simp at hw; exact hw.2
    have hn1 := hA.pos
    have HRS := Lib.hid hrs
    have hr' := hr.below hb hB
    obtain ⟨n, hn⟩ : ∃ n, n = xss.length := ⟨_, rfl⟩
    rw [hx, rowsB_length] at hr'
    rw [← hn] at hr' hn10 hn1 HRS hA hcg
    have HN := Lib.hid (netsOf_any (.slice a n c) n e (by omega) w1 hr')
    clear hrs hx H hw hr' VG0 VG1 hr hn
    go_wp2_with fail
    refine HN.out.mono ?_
    rintro e1 w2 ⟨u2, rfl, hN2, hb2⟩
    obtain ⟨na, nc, rfl⟩ := owns_shape hN2
    have hb02 := hb.trans (hb2.mono (by omega))
    have hz2 : B + 1 ≤ w2.heap.size := by have := hb2.size; omega
    have HNW := Lib.hid (newWidths_any n e hn1 na nc w2 (ht.keep hb02 hTB) (Row.of_owns hN2))
    clear hN2 hb2 HN hb hcg
    go_wp2_with fail
    refine HNW.out.mono ?_
    rintro e1 w3 ⟨xb, mb, rfl, hmb, hst, hb3⟩
    have hb03 := hb02.trans (hb3.mono (by omega))
    obtain ⟨g0, g1⟩ := hst.x.at2'
    have HB03 := Lib.hid hb03
    have hm0 : Hid (0 = maskB n (fun b => decide (b < 0) && thinB n e b)) := Lib.hid ((maskB_eq_zero.2 fun i _ => by simp).symm)
    have hs0 : Hid (WSt n e xb mb na nc w3 0 (.map [])) := Lib.hid hst
    have hw0 : Hid (Wrote w3 w3 fun b => b = mb) := Lib.hid (Wrote.refl _ _)
    clear hst hb3 hb03 HNW
    go_wp2_with fail
    go_loopw [4, 17] (fun s i wr => ∃ (v m cnt : Nat) (D : DataW Nat), v ≤ n ∧ i = .int .i64 v ∧ s = .int .u32 m ∧ Hid (m = maskB n (fun b => decide (b < v) && thinB n e b)) ∧ cnt ≤ v * 20000000 ∧ Hid (WSt n e xb mb na nc wr cnt D) ∧ Hid (Wrote w3 wr fun b => b = mb)) (fun _ i _ => n - (intOf i).toNat)
    case atStart => exact ⟨0, 0, 0, _, Nat.zero_le _, rfl, rfl, hm0, Nat.le_refl _, hs0, hw0⟩
    case round =>
      clear hm0 hs0 hw0 g0 g1
      obtain ⟨v, m, cnt, D, hv, rfl, rfl, HM, hcn, HST, HWR⟩ := hrel
      by_cases hlt : v < n
      · have hvm : v ∈ leftN n 0 := mem_leftN.2 ⟨hlt, Nat.zero_testBit v⟩
        have hl0 : (leftN n 0).length = n := by
          unfold leftN
          rw [List.filter_eq_self.2 (fun x _ => by rw [Nat.zero_testBit]; rfl), List.length_range]
        have hpl := leftN_put hvm
        have ht1 := tn_le (n - 1) (by omega)
        have ht2 := tn_le n (by omega)
        have HWI := Lib.hid (with_any n e hn10 xb mb na nc 0 v (Nat.two_pow_pos n) hlt (cnt + tn (n - 1)) wr cnt D HST.out (fun W hW => after_any n e hn10 xb mb na nc (n - 1) (0 ||| 2 ^ v) (by omega) (put_lt (Nat.two_pow_pos n) hlt) W cnt D hW (by omega)))
        have HAF : Hid (∀ W cnt D, WSt n e xb mb na nc W cnt D → cnt + tn n ≤ 1000000000 → Calls Tryd.prog 39 #[.pointer (some ⟨xb, 0, none⟩), .int .u32 ((0 : Nat) : Int)] W (AftR n e xb mb na nc W (cnt + tn n) (wid n e 0))) := Lib.hid fun W cnt D hW hc => after_any n e hn10 xb mb na nc n 0 hl0 (Nat.two_pow_pos n) W cnt D hW hc
        have hx10 := wit_le hn10 e 0 v
        have hy10 := wid_le hn10 e 0
        have hth : thinB n e v = decide (wit n e 0 v = wid n e 0) := rfl
        obtain ⟨x, hx⟩ : ∃ x, wit n e 0 v = x := ⟨_, rfl⟩
        obtain ⟨y, hy⟩ : ∃ y, wid n e 0 = y := ⟨_, rfl⟩
        rw [hx] at HWI hx10 hth
        rw [hy] at HAF hy10 hth
        obtain ⟨Q1, hQ1⟩ : ∃ Q, tn (n - 1) = Q := ⟨_, rfl⟩
        obtain ⟨Q2, hQ2⟩ : ∃ Q, tn n = Q := ⟨_, rfl⟩
        rw [hQ1] at HWI ht1
        rw [hQ2] at HAF ht2
        have HTH := Lib.hid hth
        have hcb : cnt + Q1 + Q2 ≤ (v + 1) * 20000000 := by omega
        have hcb2 : cnt + Q1 + Q2 ≤ 1000000000 := by omega
        clear hvm hl0 hpl hx hy hQ1 hQ2 hth
        rw [show ((0 : Nat) : Int) = 0 from rfl] at HWI HAF
        go_wp2_with fail
        refine HWI.out.mono ?_
        rintro e1 w4 ⟨rfl, ⟨cnt4, D4, hc4, hst4⟩, hwr4⟩
        have HA4 := Lib.hid (HAF.out w4 cnt4 D4 hst4 (by omega))
        have HWR4 := Lib.hid (wrote_trans HWR.out hwr4)
        clear HWI HAF hst4 hwr4
        go_wp2_with fail
        refine HA4.out.mono ?_
        rintro e1 w5 ⟨rfl, ⟨cnt5, D5, hc5, hst5⟩, hwr5⟩
        have HST5 := Lib.hid hst5
        have HWR5 := Lib.hid (wrote_trans HWR4.out hwr5)
        have hc6 : cnt5 ≤ (v + 1) * 20000000 := by omega
        clear hst5 hwr5 HA4
        by_cases hxy : x = y
        · have hxb : ((x : Int) == (y : Int)) = true := by rw [hxy]; simp
          obtain ⟨P, hP⟩ : ∃ P, P = 2 ^ v := ⟨_, rfl⟩
          have HON := fun W => Lib.hid (one_any (v : Int) v rfl (by omega) W)
          rw [← hP] at HON
          obtain ⟨z, hz⟩ : ∃ z, m ||| P = z := ⟨_, rfl⟩
          have hm32 : m < 65536 := by rw [HM.out]; exact mask_lt16 (by omega) _
          have hP32 : P < 65536 := by rw [hP]; exact Nat.lt_of_lt_of_le (Nat.pow_lt_pow_right (by decide) hlt) (Nat.pow_le_pow_right (n := 2) (by decide) (show n ≤ 16 by omega))
          have hor : bits BinOp.or IntKind.u32 (m : Int) (P : Int) = (z : Int) := by rw [← hz]; exact bits_or (by omega) (by omega)
          have HM2 : Hid (z = maskB n (fun b => decide (b < v + 1) && thinB n e b)) := Lib.hid (by
            rw [← hz, HM.out, hP]
            apply Nat.eq_of_testBit_eq
            intro i
            rw [Nat.testBit_or, testBit_maskB, testBit_maskB, Nat.testBit_two_pow]
            by_cases hiv : v = i
            · subst hiv
              rw [HTH.out]
              simp [hlt, hxy]
            · have : (decide (i < v + 1)) = decide (i < v) := by rw [decide_eq_decide]; omega
              rw [this]
              simp [hiv])
          clear hP hz hxy
          go_wp2_with fail
          refine (HON _).out.mono ?_
          rintro e1 w' ⟨rfl, rfl⟩
          go_wp2_with fail
          go_roundw
          case rel => exact ⟨v + 1, z, cnt5, D5, by omega, by go_num, rfl, HM2, hc6, HST5, HWR5⟩
          case measure => simp [intOf]; omega
        · have hxb : ((x : Int) == (y : Int)) = false := by rw [beq_eq_false_iff_ne]; omega
          have HM2 : Hid (m = maskB n (fun b => decide (b < v + 1) && thinB n e b)) := Lib.hid (by
            rw [HM.out]
            refine maskB_ext fun i hi => ?_
            by_cases hiv : i = v
            · subst hiv
              rw [HTH.out]
              simp [hxy]
            · have : (decide (i < v + 1)) = decide (i < v) := by rw [decide_eq_decide]; omega
              rw [this])
          clear hxy
          go_wp2_with fail
          go_roundw
          case rel => exact ⟨v + 1, m, cnt5, D5, by omega, by go_num, rfl, HM2, hc6, HST5, HWR5⟩
          case measure => simp [intOf]; omega
      · obtain rfl : v = n := by omega
        obtain ⟨z, hz⟩ : ∃ z : Int, (m : Int) = z := ⟨_, rfl⟩
        have hzm : z = (maskB v (thinB v e) : Nat) := by
          rw [← hz, HM.out]
          congr 1
          exact maskB_ext fun i hi => by simp [hi]
        have hb05 : Below B w wr := HB03.out.trans ⟨HWR.out.os, HWR.out.tape, HWR.out.output, HWR.out.size, fun k hk => HWR.out.block k (by have := HB03.out.size; omega) (by have := hk; omega)⟩
        have hs5 : B ≤ wr.heap.size := by have := HB03.out.size; have := HWR.out.size; omega
        have HNU := Lib.hid (numbersB_any (n := v) (by omega) (thinB v e) z hzm wr HST.out.tab)
        rw [← HRS.out] at HNU
        rw [hz]
        clear hz hzm
        go_wp2_with fail
        refine HNU.out.mono ?_
        rintro e1 w6 ⟨u6, rfl, hL6, hb6⟩
        have HL6 := Lib.hid (owns_base hL6 hs5)
        have HB6 := Lib.hid (hb05.trans (hb6.mono hs5))
        clear hL6 hb6 HNU
        go_wp2_with fail
        go_ret
        exact ⟨_, rfl, by rw [hB]; exact HL6.out, by rw [hB]; exact HB6.out⟩
end Go.Proofs.YtpfhflkpnjkgkaaDoor
