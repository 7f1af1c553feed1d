/-
  'PartsOf', 'CutVertices' and 'BetweenOf' of the program.
-/
import Derived.Test.YtcjbobponlpkaaaDoorParts
namespace Go.Proofs.YtcjbobponlpkaaaDoor
open Go.RowKit

def allB (n : Nat) : Nat → Bool := fun b => decide (b < n)
def butB (p : Nat → Bool) (v : Nat) : Nat → Bool := fun b => p b && !decide (b = v)
theorem allB_lt {n b : Nat} (h : allB n b = true) : b < n := by simpa [allB] using h
theorem butB_lt {n : Nat} {p : Nat → Bool} (hp : ∀ b, p b = true → b < n) (v : Nat) : ∀ b, butB p v b = true → b < n := fun b h => by
  unfold butB at h
  rw [Bool.and_eq_true] at h
  exact hp b h.1
theorem mask_allB (n : Nat) : maskB n (fun _ => true) = maskB n (allB n) := maskB_ext fun i hi => by simp [allB, hi]
theorem mask_butB {n : Nat} (hn : n ≤ 32) (p : Nat → Bool) {v : Nat} (hv : v < n) : bits BinOp.andNot IntKind.u32 ((maskB n p : Nat) : Int) ((2 ^ v : Nat) : Int) = ((maskB n (butB p v) : Nat) : Int) := by
  rw [pow_maskB hv, mask_andNot hn]
  rfl
theorem rowsOf_partsM {n : Nat} (hn : n ≤ 32) (e : Nat → Nat → Bool) (p : Nat → Bool) (j : Nat) : rowsOf (partsM n e p j) = (partsTo n e p j).map (rowB n) := by
  unfold rowsOf partsM
  rw [List.map_map]
  exact List.map_congr_left fun q _ => nums_maskB hn q
theorem small_partsM {n : Nat} (hn : n ≤ 32) (e : Nat → Nat → Bool) (p : Nat → Bool) (j : Nat) : Small (partsM n e p j) := fun m hm => by
  unfold partsM at hm
  obtain ⟨q, _, rfl⟩ := List.mem_map.1 hm
  exact maskB_small hn q

/-- What 'PartsOf' gives. -/
def PartsP (xss rss : List (List Int)) : Prop :=
  (okB xss = false ∧ rss = []) ∨ ∃ e, Adj xss.length e ∧ xss = rowsB xss.length e ∧ rss = (partsTo xss.length e (allB xss.length) xss.length).map (rowB xss.length)

set_option maxHeartbeats 1000000 in
theorem implParts (g : Value) (xss : List (List Int)) (w : World) (ht : Tab w) (hr : RdSS g xss w) (rss : List (List Int)) (h : PartsP xss rss) :
    Calls Tryd.prog 28 #[.agg #[g]] w (SSRes w rss) := by
  obtain ⟨a, c, rfl⟩ := hr.shape
  obtain ⟨B, hB⟩ : ∃ B, w.heap.size = B := ⟨_, rfl⟩
  have hTB : 0 < B := by rw [← hB]; exact ht.lt
  have u1 : Below B w (w.alloc (.cells #[.slice a xss.length c] 28)) := by subst hB; exact below_alloc' _ _
  have VG0 : VC 28 B #[.slice a xss.length c] (w.alloc (.cells #[.slice a xss.length c] 28)) := VC.new hB
  have hz0 : (w.alloc (.cells #[.slice a xss.length c] 28)).heap.size = B + 1 := by simp [hB]
  have H := Lib.hid h
  have hcg := VG0.cell
  clear h
  go_enter Tryd.func28, Tryd.ntmps28
  go_wp2_with fail
  generalize w.alloc (.cells #[.slice a xss.length c] 28) = W at *
  refine (implOk _ xss W (hr.below u1 hB)).mono ?_
  rintro e1 w1 ⟨rfl, hb1⟩
  have VG1 := VG0.upd (Upd.of_below hb1) (by omega)
  have hb := u1.trans (hb1.mono (by omega))
  have hz1 : B + 1 ≤ w1.heap.size := by have := hb1.size; omega
  clear hb1 hcg u1
  have hcg := VG1.cell
  cases hok : okB xss with
  | false =>
    obtain rfl : rss = [] := by
      rcases H.out with ⟨_, h⟩ | ⟨e, hA, hx, _⟩
      · exact h
      · rw [hx, okB_adj hA] at hok; cases hok
    clear hok
    go_wp2_with fail
    go_ret
    exact ⟨_, [], rfl, OwnG.nil _ _ (by decide) (World.ownsRow_nil _ _ _ 1), by rw [hB]; exact hb⟩
  | true =>
    obtain ⟨e, hA, hx, hrs⟩ : ∃ e, Adj xss.length e ∧ xss = rowsB xss.length e ∧ rss = (partsTo xss.length e (allB xss.length) xss.length).map (rowB xss.length) := by
      rcases H.out with ⟨h, _⟩ | h
      · rw [hok] at h; cases h
      · exact h
    have hn16 := hA.le
    have HRS := Lib.hid hrs
    have HA := Lib.hid hA
    have hr' := hr.below hb hB
    rw [hx, rowsB_length] at hr'
    have HN := Lib.hid (netsOf_any _ xss.length e hn16 w1 hr')
    clear hok hx hrs hr' H hA
    go_wp2_with fail
    refine HN.out.mono ?_
    rintro e1 w2 ⟨u2, rfl, hN2, hb2⟩
    obtain ⟨na, nc, rfl⟩ := owns_shape hN2
    have hNr := Row.of_owns hN2
    have hb02 := hb.trans (hb2.mono (by omega))
    have hz2 := hb2.size
    have HT2 := Lib.hid (ht.keep hb02 hTB)
    obtain ⟨z, HZ⟩ : ∃ z : Int, Hid (z = (maskB xss.length (allB xss.length) : Nat)) := ⟨_, Lib.hid rfl⟩
    have HAL := Lib.hid (all_netsAt (.slice na xss.length nc) xss.length hn16 z (by rw [HZ.out, mask_allB]) ⟨_, _, rfl⟩ w2)
    have HPA := Lib.hid (partsOf_any (.slice na xss.length nc) xss.length e hn16 HA.out _ (fun b hb => allB_lt hb) z HZ.out w2 HT2.out hNr)
    have hpl : (partsM xss.length e (allB xss.length) xss.length).length ≤ xss.length := by rw [partsM_length]; exact partsTo_length _
    have HSM := Lib.hid (small_partsM (by omega : xss.length ≤ 32) e (allB xss.length) xss.length)
    clear hN2 HN hb2 hcg
    go_wp2_with fail
    refine HAL.out.mono ?_
    rintro e1 w' ⟨rfl, rfl⟩
    go_wp2_with fail
    refine HPA.out.mono ?_
    rintro e1 w3 ⟨u3, rfl, hL3, hb3⟩
    obtain ⟨la, lc, rfl⟩ := owns_shape hL3
    have hb03 := hb02.trans (hb3.mono (by omega))
    have hz3 := hb3.size
    have HRE := Lib.hid (results_any _ _ HSM.out (by omega) w3 (HT2.out.below hb3) (Row.of_owns hL3))
    rw [rowsOf_partsM (by omega), ← HRS.out] at HRE
    clear hL3 hb3 HPA
    go_wp2_with fail
    refine HRE.out.mono ?_
    rintro e1 w4 ⟨u4, vs, rfl, hG, hb4⟩
    have hbf := hb03.trans (hb4.mono (by omega))
    have HL := Lib.hid (hG.rebase (show B ≤ w3.heap.size by omega))
    obtain ⟨ua, uc, rfl⟩ := owns_shape hG.outer
    clear hb4 hG HRE
    go_wp2_with fail
    go_ret
    exact ⟨_, vs, rfl, by rw [hB]; exact HL.out, by rw [hB]; exact hbf⟩

/-- Is v a cut vertex of a set? -/
noncomputable def cutB (n : Nat) (e : Nat → Nat → Bool) (p : Nat → Bool) (v : Nat) : Bool := decide ((partsTo n e p n).length < (partsTo n e (butB p v) n).length)

set_option maxHeartbeats 2000000 in
theorem cutVertices_any (v : Value) (n : Nat) (e : Nat → Nat → Bool) (hn : n ≤ 16) (hA : Adj n e) (p : Nat → Bool) (hpn : ∀ b, p b = true → b < n) (z : Int) (hz : z = (maskB n p : Nat)) (w : World) (ht : Tab w) (hr : Row w 1 v n (sets (NB n e))) :
    Calls Tryd.prog 77 #[v, .int .u32 z] w fun r w' => r = .returned (.int .u32 (maskB n (fun b => p b && cutB n e p b) : Nat)) ∧ Below w.heap.size w w' := by
  obtain ⟨a, c, rfl, -, -, -⟩ := id hr
  obtain ⟨B, hB⟩ : ∃ B, w.heap.size = B := ⟨_, rfl⟩
  have hTB : 0 < B := by rw [← hB]; exact ht.lt
  have HZ := Lib.hid hz
  have HA := Lib.hid (And.intro hA hpn)
  have HPA := Lib.hid (partsOf_any (.slice a n c) n e hn hA p hpn z hz w ht hr)
  obtain ⟨k0, HK0⟩ : ∃ k : Nat, Hid (k = (partsM n e p n).length) := ⟨_, Lib.hid rfl⟩
  rw [← HK0.out] at HPA
  have hk0 : k0 ≤ n := by rw [HK0.out, partsM_length]; exact partsTo_length _
  have hyl := rowB_length n p
  have hm0 : Hid (0 = maskB n (fun b => inL ((rowB n p).take 0) b && cutB n e p b)) := Lib.hid (by rw [List.take_zero]; exact (maskB_eq_zero.2 fun i _ => by rw [inL_nil]; rfl).symm)
  clear hz hA hpn
  go_enter Tryd.func77, Tryd.ntmps77
  go_wp2_with fail
  refine HPA.out.mono ?_
  rintro e1 w0 ⟨u0, rfl, hL0, hb0⟩
  obtain ⟨pa, pc, rfl⟩ := owns_shape hL0
  rw [hB] at hb0
  have hz0 := hb0.size
  have HLI := Lib.hid (listB_any (n := n) (by omega) p z HZ.out w0 (ht.keep hb0 hTB))
  clear hL0 HPA
  go_wp2_with fail
  refine HLI.out.mono ?_
  rintro e1 w1 ⟨u1, rfl, hL1, hb1⟩
  obtain ⟨la, lc, rfl⟩ := owns_shape hL1
  have hRL := Row.of_owns hL1
  replace hb1 := hb0.trans (hb1.mono (by omega))
  obtain ⟨C, hC⟩ : ∃ C, w1.heap.size = C := ⟨_, rfl⟩
  have hBC : B ≤ C := by have := hb1.size; omega
  have hcl : Below C w1 w1 := Below.refl _ _
  clear hL1 HLI hb0 hz0
  go_wp2_with fail
  go_loopw [5, 16] (fun t i wr => ∃ j m : Nat, j ≤ (rowB n p).length ∧ i = .int .i64 j ∧ t = .int .u32 m ∧ Hid (m = maskB n (fun b => inL ((rowB n p).take j) b && cutB n e p b)) ∧ Below C w1 wr) (fun _ i _ => (rowB n p).length - (intOf i).toNat)
  case atStart => exact ⟨0, 0, Nat.zero_le _, rfl, rfl, hm0, hcl⟩
  case round =>
    clear hcl
    obtain ⟨j, m, hj, rfl, rfl, HM, hb⟩ := hrel
    have hsz := hb.size
    by_cases hlt : j < (rowB n p).length
    · obtain ⟨yb, yo, y, rfl, hcy, HY⟩ := Row.intAt (Row.below hRL (hC.symm ▸ hb)) hlt
      obtain ⟨q, hq, hpq, rfl⟩ := row_at HY.out
      obtain ⟨z4, HZ4⟩ : ∃ z : Int, Hid (z = ((2 ^ q : Nat) : Int)) := ⟨_, Lib.hid rfl⟩
      obtain ⟨z6, HZ6⟩ : ∃ z : Int, Hid (z = (maskB n (butB p q) : Nat)) := ⟨_, Lib.hid rfl⟩
      have hba : bits BinOp.andNot IntKind.u32 z z4 = z6 := by rw [HZ.out, HZ4.out, HZ6.out, mask_butB (by omega) p hq]
      have hbw := hb1.trans (hb.mono hBC)
      have HPB := Lib.hid (partsOf_any (.slice a n c) n e hn HA.out.1 (butB p q) (butB_lt HA.out.2 q) z6 HZ6.out wr (ht.keep hbw hTB) (hr.below (hB.symm ▸ hbw)))
      obtain ⟨k1, HK1⟩ : ∃ k : Nat, Hid (k = (partsM n e (butB p q) n).length) := ⟨_, Lib.hid rfl⟩
      rw [← HK1.out] at HPB
      have hk1 : k1 ≤ n := by rw [HK1.out, partsM_length]; exact partsTo_length _
      have HT := Lib.hid (inL_take_succ HY.out)
      have HCU : Hid (cutB n e p q = decide (k0 < k1)) := Lib.hid (by unfold cutB; rw [HK0.out, HK1.out, partsM_length, partsM_length])
      go_wp2_with fail
      refine (one_at _ q rfl (by omega) z4 HZ4.out _).mono ?_
      rintro e1 w' ⟨rfl, rfl⟩
      go_wp2_with fail
      refine HPB.out.mono ?_
      rintro e1 w2 ⟨u2, rfl, hL2, hb2⟩
      obtain ⟨qa, qc, rfl⟩ := owns_shape hL2
      have hb02 := hb.trans (hb2.mono (by omega))
      clear hL2 HPB hb hb2 hbw hcy
      by_cases h0 : k0 < k1
      · have hd : (k0 : Int) < k1 := by omega
        obtain ⟨z3, HZ3⟩ : ∃ z : Int, Hid ((m : Int) = z) := ⟨_, Lib.hid rfl⟩
        obtain ⟨z5, HZ5⟩ : ∃ z : Nat, Hid (z = maskB n (fun b => inL ((rowB n p).take (j + 1)) b && cutB n e p b)) := ⟨_, Lib.hid rfl⟩
        have HO : Hid (cutB n e p q = true) := Lib.hid (by rw [HCU.out]; simpa using h0)
        have hbo : bits BinOp.or IntKind.u32 z3 z4 = (z5 : Int) := by
          rw [← HZ3.out, HM.out, HZ4.out, HZ5.out, pow_maskB hq, maskB_or (by omega), HT.out]
          congr 1
          refine maskB_ext fun i hi => ?_
          by_cases hiq : i = q
          · subst hiq; rw [HO.out]; simp
          · simp [hiq]
        rw [HZ3.out]
        go_wp2_with fail
        refine (one_at _ q rfl (by omega) z4 HZ4.out _).mono ?_
        rintro e1 w' ⟨rfl, rfl⟩
        go_wp2_with fail
        go_roundw
        case rel => exact ⟨j + 1, z5, by omega, by go_num, rfl, HZ5, hb02⟩
        case measure => simp [intOf]; omega
      · have hd : ¬ (k0 : Int) < k1 := by omega
        have HO : Hid (cutB n e p q = false) := Lib.hid (by rw [HCU.out]; simpa using h0)
        have HM2 : Hid (m = maskB n (fun b => inL ((rowB n p).take (j + 1)) b && cutB n e p b)) := Lib.hid (by
          rw [HM.out, HT.out]
          refine maskB_ext fun i hi => ?_
          by_cases hiq : i = q
          · subst hiq; rw [HO.out, Bool.and_false, Bool.and_false]
          · simp [hiq])
        go_wp2_with fail
        go_roundw
        case rel => exact ⟨j + 1, m, by omega, by go_num, rfl, HM2, hb02⟩
        case measure => simp [intOf]; omega
    · obtain rfl : j = (rowB n p).length := by omega
      have HF : Hid (m = maskB n (fun b => p b && cutB n e p b)) := Lib.hid (by
        rw [HM.out, List.take_length]
        exact maskB_ext fun i hi => by rw [inL_rowB hi])
      go_wp2_with fail
      go_ret
      exact ⟨ret_int (congrArg (fun (m : Nat) => (m : Int)) HF.out), by rw [hB]; exact hb1.trans (hb.mono hBC)⟩

/-- What 'CutVertices' gives. -/
def CutsP (xss : List (List Int)) (rs : List Int) : Prop :=
  (okB xss = false ∧ rs = []) ∨ ∃ e, Adj xss.length e ∧ xss = rowsB xss.length e ∧ rs = rowB xss.length (cutB xss.length e (allB xss.length))

set_option maxHeartbeats 1000000 in
theorem implCuts (g : Value) (xss : List (List Int)) (w : World) (ht : Tab w) (hr : RdSS g xss w) (rs : List Int) (h : CutsP xss rs) :
    Calls Tryd.prog 33 #[.agg #[g]] w (SRes w rs) := by
  obtain ⟨a, c, rfl⟩ := hr.shape
  obtain ⟨B, hB⟩ : ∃ B, w.heap.size = B := ⟨_, rfl⟩
  have hTB : 0 < B := by rw [← hB]; exact ht.lt
  have u1 : Below B w (w.alloc (.cells #[.slice a xss.length c] 28)) := by subst hB; exact below_alloc' _ _
  have VG0 : VC 28 B #[.slice a xss.length c] (w.alloc (.cells #[.slice a xss.length c] 28)) := VC.new hB
  have hz0 : (w.alloc (.cells #[.slice a xss.length c] 28)).heap.size = B + 1 := by simp [hB]
  have H := Lib.hid h
  have hcg := VG0.cell
  clear h
  go_enter Tryd.func33, Tryd.ntmps33
  go_wp2_with fail
  generalize w.alloc (.cells #[.slice a xss.length c] 28) = W at *
  refine (implOk _ xss W (hr.below u1 hB)).mono ?_
  rintro e1 w1 ⟨rfl, hb1⟩
  have VG1 := VG0.upd (Upd.of_below hb1) (by omega)
  have hb := u1.trans (hb1.mono (by omega))
  have hz1 : B + 1 ≤ w1.heap.size := by have := hb1.size; omega
  clear hb1 hcg u1
  have hcg := VG1.cell
  cases hok : okB xss with
  | false =>
    obtain rfl : rs = [] := by
      rcases H.out with ⟨_, h⟩ | ⟨e, hA, hx, _⟩
      · exact h
      · rw [hx, okB_adj hA] at hok; cases hok
    clear hok
    go_wp2_with fail
    go_ret
    exact ⟨_, rfl, World.ownsRow_nil _ _ _ 1, by rw [hB]; exact hb⟩
  | true =>
    obtain ⟨e, hA, hx, hrs⟩ : ∃ e, Adj xss.length e ∧ xss = rowsB xss.length e ∧ rs = rowB xss.length (cutB xss.length e (allB xss.length)) := by
      rcases H.out with ⟨h, _⟩ | h
      · rw [hok] at h; cases h
      · exact h
    have hn16 := hA.le
    have HRS := Lib.hid hrs
    have HA := Lib.hid hA
    have hr' := hr.below hb hB
    rw [hx, rowsB_length] at hr'
    have HN := Lib.hid (netsOf_any _ xss.length e hn16 w1 hr')
    clear hok hx hrs hr' H hA
    go_wp2_with fail
    refine HN.out.mono ?_
    rintro e1 w2 ⟨u2, rfl, hN2, hb2⟩
    obtain ⟨na, nc, rfl⟩ := owns_shape hN2
    have hNr := Row.of_owns hN2
    have hb02 := hb.trans (hb2.mono (by omega))
    have hz2 := hb2.size
    have HT2 := Lib.hid (ht.keep hb02 hTB)
    obtain ⟨z, HZ⟩ : ∃ z : Int, Hid (z = (maskB xss.length (allB xss.length) : Nat)) := ⟨_, Lib.hid rfl⟩
    have HAL := Lib.hid (all_netsAt (.slice na xss.length nc) xss.length hn16 z (by rw [HZ.out, mask_allB]) ⟨_, _, rfl⟩ w2)
    have HPA := Lib.hid (cutVertices_any (.slice na xss.length nc) xss.length e hn16 HA.out _ (fun b hb => allB_lt hb) z HZ.out w2 HT2.out hNr)
    obtain ⟨y, HY⟩ : ∃ y : Int, Hid (y = (maskB xss.length (fun b => allB xss.length b && cutB xss.length e (allB xss.length) b) : Nat)) := ⟨_, Lib.hid rfl⟩
    rw [← HY.out] at HPA
    clear hN2 HN hb2 hcg
    go_wp2_with fail
    refine HAL.out.mono ?_
    rintro e1 w' ⟨rfl, rfl⟩
    go_wp2_with fail
    refine HPA.out.mono ?_
    rintro e1 w3 ⟨rfl, hb3⟩
    have hb03 := hb02.trans (hb3.mono (by omega))
    have hz3 := hb3.size
    have HNU := Lib.hid (numbersB_any (by omega) _ y HY.out w3 (HT2.out.below hb3))
    rw [show rowB xss.length (fun b => allB xss.length b && cutB xss.length e (allB xss.length) b) = rs by rw [HRS.out]; exact rowB_ext fun i hi => by simp [allB, hi]] at HNU
    clear HPA hb3
    go_wp2_with fail
    refine HNU.out.mono ?_
    rintro e1 w4 ⟨u4, rfl, hL4, hb4⟩
    have hbf := hb03.trans (hb4.mono (by omega))
    have HL := Lib.hid (owns_base hL4 (show B ≤ w3.heap.size by omega))
    obtain ⟨la, lc, rfl⟩ := owns_shape hL4
    clear hb4 hL4 HNU
    go_wp2_with fail
    go_ret
    exact ⟨_, rfl, by rw [hB]; exact HL.out, by rw [hB]; exact hbf⟩
end Go.Proofs.YtcjbobponlpkaaaDoor
