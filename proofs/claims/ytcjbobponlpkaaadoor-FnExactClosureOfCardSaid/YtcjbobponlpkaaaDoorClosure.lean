/-
  'ClosureOf' of the program: 'splitters', 'closureOf'.
-/
import Derived.Test.YtcjbobponlpkaaaDoorReach
import Derived.Test.YtcjbobponlpkaaaDoorCuts
namespace Go.Proofs.YtcjbobponlpkaaaDoor
open Go.RowKit

/-- The least set that holds another one and all that splits it. -/
inductive Clo (n : Nat) (e : Nat → Nat → Bool) (p : Nat → Bool) : Nat → Prop
  | base {b : Nat} (hb : b < n) (h : p b = true) : Clo n e p b
  | step {v a b : Nat} (hv : v < n) (ha : Clo n e p a) (hb : Clo n e p b) (h1 : e v a = true) (h2 : e v b = false) : Clo n e p v
theorem Clo.lt {n : Nat} {e : Nat → Nat → Bool} {p : Nat → Bool} {b : Nat} (h : Clo n e p b) : b < n := by
  cases h <;> assumption
noncomputable def cloB (n : Nat) (e : Nat → Nat → Bool) (p : Nat → Bool) : Nat → Bool := fun b => @decide (Clo n e p b) (Classical.propDecidable _)
theorem cloB_iff {n : Nat} {e : Nat → Nat → Bool} {p : Nat → Bool} {b : Nat} : cloB n e p b = true ↔ Clo n e p b := by
  unfold cloB
  exact @decide_eq_true_iff (Clo n e p b) (Classical.propDecidable _)
/-- Does v split a set? -/
def splB (n : Nat) (e : Nat → Nat → Bool) (o : Nat → Bool) (v : Nat) : Bool := ((List.range n).any fun a => o a && e v a) && ((List.range n).any fun b => o b && !e v b)
theorem any_range {n : Nat} {f : Nat → Bool} : (List.range n).any f = true ↔ ∃ a, a < n ∧ f a = true := by
  rw [List.any_eq_true]
  constructor
  · rintro ⟨a, ha, h⟩; exact ⟨a, List.mem_range.1 ha, h⟩
  · rintro ⟨a, ha, h⟩; exact ⟨a, List.mem_range.2 ha, h⟩
theorem splB_iff {n : Nat} {e : Nat → Nat → Bool} {o : Nat → Bool} {v : Nat} : splB n e o v = true ↔ (∃ a, a < n ∧ o a = true ∧ e v a = true) ∧ ∃ b, b < n ∧ o b = true ∧ e v b = false := by
  unfold splB
  rw [Bool.and_eq_true, any_range, any_range]
  simp
/-- What the run holds. -/
structure CloI (n : Nat) (e : Nat → Nat → Bool) (p o : Nat → Bool) : Prop where
  more : ∀ b, b < n → p b = true → o b = true
  within : ∀ b, b < n → o b = true → Clo n e p b
section
variable {n : Nat} {e : Nat → Nat → Bool} {p o o' : Nat → Bool}
theorem CloI.start : CloI n e p p := ⟨fun _ _ h => h, fun _ hb h => .base hb h⟩
theorem CloI.add (h : CloI n e p o) (h' : ∀ b, b < n → (o' b = true ↔ o b = true ∨ (o' b = true ∧ splB n e o b = true))) : CloI n e p o' := by
  refine ⟨fun b hb hp => (h' b hb).2 (.inl (h.more b hb hp)), fun b hb ho => ?_⟩
  rcases (h' b hb).1 ho with h1 | ⟨_, h1⟩
  · exact h.within b hb h1
  · obtain ⟨⟨x, hx, ox, ex⟩, y, hy, oy, ey⟩ := splB_iff.1 h1
    exact .step hb (h.within x hx ox) (h.within y hy oy) ex ey
theorem CloI.done (h : CloI n e p o) (hc : ∀ b, b < n → o b = false → splB n e o b = false) (b : Nat) (hb : b < n) : o b = cloB n e p b := by
  rw [Bool.eq_iff_iff, cloB_iff]
  refine ⟨h.within b hb, fun hcl => ?_⟩
  clear hb
  induction hcl with
  | base hb hp => exact h.more _ hb hp
  | @step v x y hv hx hy h1 h2 ihx ihy =>
    cases ho : o v with
    | true => rfl
    | false =>
      have := hc v hv ho
      rw [splB_iff.2 ⟨⟨x, hx.lt, ihx, h1⟩, y, hy.lt, ihy, h2⟩] at this
      cases this
end
theorem splB_masks {n : Nat} {e : Nat → Nat → Bool} {o : Nat → Bool} {q : Nat} : splB n e o q = (decide (maskB n (fun i => e q i && o i) ≠ 0) && decide (maskB n (fun i => e q i && o i) ≠ maskB n o)) := by
  rw [Bool.eq_iff_iff, splB_iff, Bool.and_eq_true, decide_eq_true_eq, decide_eq_true_eq, ne_eq, ne_eq, maskB_eq_zero, mask_eq_iff]
  constructor
  · rintro ⟨⟨a, h1, h2, h3⟩, b, h4, h5, h6⟩
    exact ⟨fun h => (by have := h a h1; rw [h2, h3] at this; cases this), fun h => (by have := h b h4; rw [h5, h6] at this; cases this)⟩
  · rintro ⟨h1, h2⟩
    constructor
    · apply Classical.byContradiction
      intro hn
      refine h1 fun i hi => ?_
      cases h3 : e q i <;> cases h4 : o i <;> first | rfl | exact (hn ⟨i, hi, h4, h3⟩).elim
    · apply Classical.byContradiction
      intro hn
      refine h2 fun i hi => ?_
      cases h3 : e q i <;> cases h4 : o i <;> first | rfl | exact (hn ⟨i, hi, h4, h3⟩).elim

set_option maxHeartbeats 4000000 in
theorem splitters_any (v : Value) (n : Nat) (e : Nat → Nat → Bool) (hn : n ≤ 16) (p o : Nat → Bool) (z y : Int) (hz : z = (maskB n p : Nat)) (hy : y = (maskB n o : Nat)) (w : World) (ht : Tab w) (hr : Row w 1 v n (sets (NB n e))) :
    Calls Tryd.prog 120 #[v, .int .u32 z, .int .u32 y] w fun r w' => r = .returned (.int .u32 (maskB n (fun b => (p b && !o b) && splB n e o b) : Nat)) ∧ Below w.heap.size w w' := by
  obtain ⟨a, c, rfl, -, -, -⟩ := id hr
  obtain ⟨B, hB⟩ : ∃ B, w.heap.size = B := ⟨_, rfl⟩
  have HZ := Lib.hid hz
  have HYE := Lib.hid hy
  clear hz hy
  obtain ⟨q0, HQ0⟩ : ∃ q : Nat → Bool, Hid (q = fun b => p b && !o b) := ⟨_, Lib.hid rfl⟩
  obtain ⟨z0, HZ0⟩ : ∃ y : Int, Hid (y = (maskB n q0 : Nat)) := ⟨_, Lib.hid rfl⟩
  have hba : bits BinOp.andNot IntKind.u32 z y = z0 := by rw [HZ.out, HYE.out, HZ0.out, HQ0.out, mask_andNot (by omega)]
  have HLI := Lib.hid (listB_any (n := n) (by omega) q0 z0 HZ0.out w ht)
  rw [hB] at HLI
  have hyl := rowB_length n q0
  have hm0 : Hid (0 = maskB n (fun b => inL ((rowB n q0).take 0) b && splB n e o b)) := Lib.hid (by rw [List.take_zero]; exact (maskB_eq_zero.2 fun i _ => by rw [inL_nil]; rfl).symm)
  go_enter Tryd.func120, Tryd.ntmps120
  go_wp2_with fail
  refine HLI.out.mono ?_
  rintro e1 w1 ⟨u1, rfl, hL1, hb1⟩
  obtain ⟨la, lc, rfl⟩ := owns_shape hL1
  have hRL := Row.of_owns hL1
  obtain ⟨C, hC⟩ : ∃ C, w1.heap.size = C := ⟨_, rfl⟩
  have hBC : B ≤ C := by have := hb1.size; omega
  have hcl : Below C w1 w1 := Below.refl _ _
  clear hL1 HLI
  go_wp2_with fail
  go_loopw [7, 16] (fun t i wr => ∃ j m : Nat, j ≤ (rowB n q0).length ∧ i = .int .i64 j ∧ t = .int .u32 m ∧ Hid (m = maskB n (fun b => inL ((rowB n q0).take j) b && splB n e o b)) ∧ Below C w1 wr) (fun _ i _ => (rowB n q0).length - (intOf i).toNat)
  case atStart => exact ⟨0, 0, Nat.zero_le _, rfl, rfl, hm0, hcl⟩
  case round =>
    clear hcl
    obtain ⟨j, m, hj, rfl, rfl, HM, hb⟩ := hrel
    by_cases hlt : j < (rowB n q0).length
    · obtain ⟨yb, yo, yy, rfl, hcy, HY⟩ := Row.intAt (Row.below hRL (hC.symm ▸ hb)) hlt
      obtain ⟨q, hq, hpq, rfl⟩ := row_at HY.out
      obtain ⟨gb, go, x, rfl, hcx, HX⟩ := (hr.below (hB.symm ▸ (hb1.trans (hb.mono hBC)))).setAt (j := q) (by simpa using hq)
      obtain rfl : maskB n (e q) = x := by have h := HX.out; rw [NB_at e hq] at h; exact Option.some.inj h
      obtain ⟨xi, HXI⟩ : ∃ z : Int, Hid (((maskB n (e q) : Nat) : Int) = z) := ⟨_, Lib.hid rfl⟩
      obtain ⟨k, HK⟩ : ∃ z : Nat, Hid (z = maskB n (fun i => e q i && o i)) := ⟨_, Lib.hid rfl⟩
      obtain ⟨yn, HYN⟩ : ∃ z : Nat, Hid (z = maskB n o) := ⟨_, Lib.hid rfl⟩
      have hyn : Hid (y = (yn : Int)) := Lib.hid (by rw [HYE.out, HYN.out])
      have hb1' : bits BinOp.and IntKind.u32 xi y = (k : Int) := by rw [← HXI.out, HYE.out, HK.out, mask_and (by omega)]
      have HSP : Hid (splB n e o q = (decide (k ≠ 0) && decide (k ≠ yn))) := Lib.hid (by rw [splB_masks, HK.out, HYN.out])
      have HT := Lib.hid (inL_take_succ HY.out)
      rw [HXI.out] at hcx
      clear HX
      by_cases h0 : k = 0
      · have hd : ((k : Int) != 0) = false := by simp [h0]
        have HO : Hid (splB n e o q = false) := Lib.hid (by rw [HSP.out]; simp [h0])
        have HM2 : Hid (m = maskB n (fun b => inL ((rowB n q0).take (j + 1)) b && splB n e o b)) := Lib.hid (by
          rw [HM.out, HT.out]
          refine maskB_ext fun i hi => ?_
          by_cases hiq : i = q
          · subst hiq; rw [HO.out, Bool.and_false, Bool.and_false]
          · simp [hiq])
        clear h0
        go_wp2_with fail
        go_roundw
        case rel => exact ⟨j + 1, m, by omega, by go_num, rfl, HM2, hb⟩
        case measure => simp [intOf]; omega
      have hd : ((k : Int) != 0) = true := by simpa using h0
      by_cases hky : k = yn
      · have hd2 : ((k : Int) != y) = false := by rw [hyn.out, hky]; simp
        have HO : Hid (splB n e o q = false) := Lib.hid (by rw [HSP.out]; simp [hky])
        have HM2 : Hid (m = maskB n (fun b => inL ((rowB n q0).take (j + 1)) b && splB n e o b)) := Lib.hid (by
          rw [HM.out, HT.out]
          refine maskB_ext fun i hi => ?_
          by_cases hiq : i = q
          · subst hiq; rw [HO.out, Bool.and_false, Bool.and_false]
          · simp [hiq])
        clear h0 hky
        go_wp2_with fail
        go_roundw
        case rel => exact ⟨j + 1, m, by omega, by go_num, rfl, HM2, hb⟩
        case measure => simp [intOf]; omega
      have hd2 : ((k : Int) != y) = true := by rw [hyn.out, bne_iff_ne]; omega
      have HO : Hid (splB n e o q = true) := Lib.hid (by rw [HSP.out]; simp [h0, hky])
      obtain ⟨z3, HZ3⟩ : ∃ z : Int, Hid ((m : Int) = z) := ⟨_, Lib.hid rfl⟩
      obtain ⟨z4, HZ4⟩ : ∃ z : Int, Hid (z = ((2 ^ q : Nat) : Int)) := ⟨_, Lib.hid rfl⟩
      obtain ⟨z5, HZ5⟩ : ∃ z : Nat, Hid (z = maskB n (fun b => inL ((rowB n q0).take (j + 1)) b && splB n e o b)) := ⟨_, Lib.hid rfl⟩
      have hbo : bits BinOp.or IntKind.u32 z3 z4 = (z5 : Int) := by
        rw [← HZ3.out, HM.out, HZ4.out, HZ5.out, pow_maskB hq, maskB_or (by omega), HT.out]
        congr 1
        refine maskB_ext fun i hi => ?_
        by_cases hiq : i = q
        · subst hiq; rw [HO.out]; simp
        · simp [hiq]
      rw [HZ3.out]
      clear h0 hky
      go_wp2_with fail
      refine (one_at _ q rfl (by omega) z4 HZ4.out _).mono ?_
      rintro e1 w' ⟨rfl, rfl⟩
      go_wp2_with fail
      go_roundw
      case rel => exact ⟨j + 1, z5, by omega, by go_num, rfl, HZ5, hb⟩
      case measure => simp [intOf]; omega
    · obtain rfl : j = (rowB n q0).length := by omega
      have HF : Hid (m = maskB n (fun b => (p b && !o b) && splB n e o b)) := Lib.hid (by
        rw [HM.out, List.take_length]
        exact maskB_ext fun i hi => by rw [inL_rowB hi, HQ0.out])
      go_wp2_with fail
      go_ret
      exact ⟨ret_int (congrArg (fun (m : Nat) => (m : Int)) HF.out), by rw [hB]; exact hb1.trans (hb.mono hBC)⟩

set_option maxHeartbeats 2000000 in
theorem closureOf_any (v : Value) (n : Nat) (e : Nat → Nat → Bool) (hn : n ≤ 16) (p : Nat → Bool) (z y : Int) (hz : z = (maskB n (allB n) : Nat)) (hy : y = (maskB n p : Nat)) (w : World) (ht : Tab w) (hr : Row w 1 v n (sets (NB n e))) :
    Calls Tryd.prog 85 #[v, .int .u32 z, .int .u32 y] w fun r w' => r = .returned (.int .u32 (maskB n (cloB n e p) : Nat)) ∧ Below w.heap.size w w' := by
  obtain ⟨a, c, rfl, -, -, -⟩ := id hr
  obtain ⟨B, hB⟩ : ∃ B, w.heap.size = B := ⟨_, rfl⟩
  have hTB : 0 < B := by rw [← hB]; exact ht.lt
  have HZ := Lib.hid hz
  clear hz
  obtain ⟨m0, HM0⟩ : ∃ m : Nat, Hid (m = maskB n p) := ⟨_, Lib.hid rfl⟩
  obtain rfl : y = (m0 : Int) := by rw [hy, HM0.out]
  clear hy
  have hcl : Below B w w := Below.refl _ _
  go_enter Tryd.func85, Tryd.ntmps85
  go_wp2_with fail
  go_loopw [2] (fun t wr => ∃ (m : Nat) (o : Nat → Bool), t = .int .u32 m ∧ Hid (m = maskB n o) ∧ Hid (CloI n e p o) ∧ Below B w wr) (fun t _ => 65536 - (intOf t).toNat)
  case atStart => exact ⟨m0, p, rfl, HM0, Lib.hid CloI.start, hcl⟩
  case round =>
    clear hcl
    obtain ⟨m, o, rfl, HM, HI, hb⟩ := hrel
    have hsz := hb.size
    obtain ⟨mi, HMI⟩ : ∃ z : Int, Hid ((m : Int) = z) := ⟨_, Lib.hid rfl⟩
    have HSP := Lib.hid (splitters_any (.slice a n c) n e hn (allB n) o z mi HZ.out (by rw [← HMI.out, HM.out]) wr (ht.keep hb hTB) (hr.below (hB.symm ▸ hb)))
    obtain ⟨k, HK⟩ : ∃ k : Nat, Hid (k = maskB n (fun b => (allB n b && !o b) && splB n e o b)) := ⟨_, Lib.hid rfl⟩
    rw [← HK.out] at HSP
    rw [HMI.out]
    go_wp2_with fail
    refine HSP.out.mono ?_
    rintro e1 w1 ⟨rfl, hb1⟩
    have hb01 := hb.trans (hb1.mono (by omega))
    clear HSP hb1 hb
    by_cases h0 : k = 0
    · have hd : ((k : Int) == 0) = true := by rw [beq_iff_eq]; omega
      have HF : Hid (maskB n (cloB n e p) = m) := Lib.hid (by
        rw [HM.out]
        refine maskB_ext fun b hb => (HI.out.done (fun b hb ho => ?_) b hb).symm
        have := maskB_eq_zero.1 (HK.out.symm.trans h0) b hb
        simpa [allB, hb, ho] using this)
      clear h0
      go_wp2_with fail
      go_ret
      exact ⟨ret_int (by rw [← HMI.out, HF.out]), by rw [hB]; exact hb01⟩
    · have hd : ((k : Int) == 0) = false := by rw [beq_eq_false_iff_ne]; omega
      obtain ⟨m2, HM2⟩ : ∃ k : Nat, Hid (k = maskB n (fun b => o b || ((allB n b && !o b) && splB n e o b))) := ⟨_, Lib.hid rfl⟩
      have hbo : bits BinOp.or IntKind.u32 mi (k : Int) = (m2 : Int) := by rw [← HMI.out, HM.out, HK.out, HM2.out, maskB_or (by omega)]
      have HI2 : Hid (CloI n e p (fun b => o b || ((allB n b && !o b) && splB n e o b))) := Lib.hid (HI.out.add fun b hb => by
        cases h1 : o b <;> cases h2 : splB n e o b <;> simp [allB, hb])
      have hlt : Hid (m < m2 ∧ m2 < 65536) := Lib.hid (by
        refine ⟨?_, by rw [HM2.out]; exact mask_lt16 hn _⟩
        rw [HM.out, HM2.out]
        obtain ⟨b, hbn, hb⟩ : ∃ b, b < n ∧ ((allB n b && !o b) && splB n e o b) = true := by
          apply Classical.byContradiction
          intro hn
          refine h0 ?_
          rw [HK.out]
          refine maskB_eq_zero.2 fun i hi => ?_
          cases hx : ((allB n i && !o i) && splB n e o i) with
          | false => rfl
          | true => exact (hn ⟨i, hi, hx⟩).elim
        refine mask_less hbn (by rw [hb, Bool.or_true]) (by simp at hb; exact hb.1.2) fun b hb => by rw [hb]; rfl)
      have HMI2 : Hid (mi = (m : Int)) := Lib.hid HMI.out.symm
      clear h0
      go_wp2_with fail
      go_roundw
      case rel => exact ⟨m2, _, rfl, HM2, HI2, hb01⟩
      case measure => rw [HMI2.out]; have := hlt.out; simp [intOf]; omega
end Go.Proofs.YtcjbobponlpkaaaDoor
