/-
  'BreakSet' of the program.
-/
import Derived.Test.YtcjbobponlpkaaaDoorSearchImpl
import Derived.Test.YtcjbobponlpkaaaDoorSmBreak
import Derived.Test.YtcjbobponlpkaaaDoorOnesEx
import Derived.Test.YtcjbobponlpkaaaDoorCuts
namespace Go.Proofs.YtcjbobponlpkaaaDoor
open Go.RowKit

def restB (n s b : Nat) : Bool := allB n b && !s.testBit b
/-- Does it leave more parts than it has vertices? -/
noncomputable def brkF (n : Nat) (e : Nat → Nat → Bool) (s : Nat) : Bool := decide (s ≠ 0) && decide (size s < (partsTo n e (restB n s) n).length)
theorem restB_lt {n s : Nat} : ∀ b, restB n s b = true → b < n := fun b h => by
  unfold restB at h
  rw [Bool.and_eq_true] at h
  exact allB_lt h.1
theorem brkF_zero (n : Nat) (e : Nat → Nat → Bool) : brkF n e 0 = false := by simp [brkF]
/-- What BreakSet gives. -/
def BreakP (xss : List (List Int)) (rs : List Int) (ok : Bool) : Prop :=
  (okB xss = false ∧ rs = [] ∧ ok = false) ∨ ∃ e, Adj xss.length e ∧ xss = rowsB xss.length e ∧
    ((∃ r, IsBest size (fun s => brkF xss.length e s = true) (2 ^ xss.length) r ∧ rs = rowB xss.length r.testBit ∧ ok = true) ∨
     ((∀ t, t < 2 ^ xss.length → brkF xss.length e t = false) ∧ rs = [] ∧ ok = false))

set_option maxHeartbeats 4000000 in
theorem break1_any (v : Value) (n : Nat) (e : Nat → Nat → Bool) (hn : n ≤ 16) (hA : Adj n e) (s : Nat) (hs : s < 2 ^ n) (A : Nat) (W : World) (ht : Tab W) (hVA : VC 56 A #[v] W) (hr : Row W 1 v n (sets (NB n e))) :
    Calls Tryd.prog 102 #[.int .u32 (s : Nat), .pointer (some ⟨A, 0, none⟩)] W fun r W' => r = .returned (.bool (brkF n e s)) ∧ Below W.heap.size W W' := by
  obtain ⟨a, c, rfl, -, -, -⟩ := id hr
  obtain ⟨B, hB⟩ : ∃ B, W.heap.size = B := ⟨_, rfl⟩
  have hTB : 0 < B := by rw [← hB]; exact ht.lt
  have hs32 : s < 4294967296 := Nat.lt_of_lt_of_le hs (pow_le_32 hn)
  obtain ⟨si, HSI⟩ : ∃ z : Int, Hid ((s : Int) = z) := ⟨_, Lib.hid rfl⟩
  have hc := hVA.cell
  rw [HSI.out]
  by_cases h0 : s = 0
  · have hd : (si != 0) = false := by rw [← HSI.out]; simp [h0]
    have HF : Hid (brkF n e s = false) := Lib.hid (by rw [h0]; exact brkF_zero n e)
    clear h0 hs
    go_enter Tryd.func102, Tryd.ntmps102
    go_wp2_with fail
    refine wp_region_take [0, 1, 2, 6, 10] [3, 4] 8 8 #[true, true, true, true, true, false, true, false, false, false, true, false, false, false, false] (by kernel_rfl) (by kernel_rfl) (by kernel_rfl) (by kernel_rfl) (fun _ _ d _ _ h => by cases d <;> exact h) ?_
    simp only [pickOps, List.filterMap_cons, List.filterMap_nil, List.getElem?_cons_succ, List.getElem?_cons_zero]
    repeat quiet_step (fail)
    simp only [wpQuiet_nil_eq]
    have HB0 : Hid (Below B W W.drew) := Lib.hid (by rw [← hB]; exact below_drewN' W 1)
    refine wpAnyG_1 5 (by kernel_rfl) rfl ?_
    unfold wpNext
    go_wp2_with fail
    refine ⟨(fun _ => over_of_below (by rw [hB]; exact HB0.out)), ?_⟩
    refine wpAnyG_mid [7] 6 #[true, true, true, true, true, true, true, true, false, false, true, false, false, false, false] rfl (by kernel_rfl) (by kernel_rfl) (by kernel_rfl) (fun _ _ d _ _ h => by cases d <;> exact h) (fun _ => over_of_below (by rw [hB]; exact HB0.out)) ?_
    simp only [pickOps, List.filterMap_cons, List.filterMap_nil, List.getElem?_cons_succ, List.getElem?_cons_zero]
    repeat quiet_step (fail)
    try simp only [wpQuiet_nil_eq]
    refine wpAnyG_1 8 (by kernel_rfl) rfl ?_
    unfold wpNext
    go_wp2_with fail
    refine ⟨(fun h => by simp at h), ?_⟩
    refine wpAnyG_mid [9] 4 #[true, true, true, true, true, true, true, true, true, true, true, false, false, false, false] rfl (by kernel_rfl) (by kernel_rfl) (by kernel_rfl) (fun _ _ d _ _ h => by cases d <;> exact h) (fun h => by simp at h) ?_
    simp only [pickOps, List.filterMap_cons, List.filterMap_nil, List.getElem?_cons_succ, List.getElem?_cons_zero]
    repeat quiet_step (fail)
    try simp only [wpQuiet_nil_eq]
    refine wpAnyG_tail [11, 12, 13, 14] rfl (.inl (by kernel_rfl)) (by kernel_rfl) ?_
    simp only [pickOps, List.filterMap_cons, List.filterMap_nil, List.getElem?_cons_succ, List.getElem?_cons_zero]
    go_wp2_with fail
    go_ret
    exact ⟨ret_bool (by rw [HF.out]), by rw [hB]; exact HB0.out⟩
  · have hd : (si != 0) = true := by rw [← HSI.out]; simpa using h0
    obtain ⟨fi, HFI⟩ : ∃ z : Int, Hid (z = (maskB n (fun _ => true) : Nat)) := ⟨_, Lib.hid rfl⟩
    obtain ⟨yi, HYI⟩ : ∃ z : Int, Hid (z = (maskB n (restB n s) : Nat)) := ⟨_, Lib.hid rfl⟩
    have hbo : bits BinOp.andNot IntKind.u32 fi si = yi := by
      rw [HFI.out, ← HSI.out, HYI.out, ← mask_self hs, mask_andNot (by omega), mask_self hs]
      congr 1
      exact maskB_ext fun i hi => by simp [restB, allB, hi]
    obtain ⟨sz, HSZE⟩ : ∃ z : Nat, Hid (size s = z) := ⟨_, Lib.hid rfl⟩
    have HALL := fun W' => Lib.hid (all_netsAt (.slice a n c) n hn fi HFI.out ⟨a, c, rfl⟩ W')
    have HPA := fun W' (hb : Below B W W') => Lib.hid (partsOf_any (.slice a n c) n e hn hA (restB n s) restB_lt yi HYI.out W' (ht.keep hb hTB) (hr.below (hB.symm ▸ hb)))
    have HSZ : ∀ W', Hid (Calls Tryd.prog 103 #[.int .u32 si] W' fun e w' => e = .returned (.int .i64 (sz : Nat)) ∧ Below W'.heap.size W' w') := fun W' => Lib.hid (by rw [← HSI.out, ← HSZE.out]; exact size_exact s hs32 W')
    have HF : Hid (brkF n e s = decide (sz < (partsM n e (restB n s) n).length)) := Lib.hid (by
      unfold brkF
      rw [decide_eq_true h0, Bool.true_and, HSZE.out, partsM_length])
    obtain ⟨K, HK⟩ : ∃ K, Hid ((partsM n e (restB n s) n).length = K) := ⟨_, Lib.hid rfl⟩
    clear h0 hs
    go_enter Tryd.func102, Tryd.ntmps102
    go_wp2_with fail
    refine wp_region_take [0, 1, 2, 6, 10] [3, 4] 8 8 #[true, true, true, true, true, false, true, false, false, false, true, false, false, false, false] (by kernel_rfl) (by kernel_rfl) (by kernel_rfl) (by kernel_rfl) (fun _ _ d _ _ h => by cases d <;> exact h) ?_
    simp only [pickOps, List.filterMap_cons, List.filterMap_nil, List.getElem?_cons_succ, List.getElem?_cons_zero]
    repeat quiet_step (fail)
    simp only [wpQuiet_nil_eq]
    have HB0 : Hid (Below B W W.drew) := Lib.hid (by rw [← hB]; exact below_drewN' W 1)
    refine wpAnyG_1 5 (by kernel_rfl) rfl ?_
    unfold wpNext
    go_wp2_with fail
    refine (HALL _).out.mono ?_
    rintro e1 w' ⟨rfl, rfl⟩
    go_wp2_with fail
    refine ⟨(fun _ => over_of_below (by rw [hB]; exact HB0.out)), ?_⟩
    refine wpAnyG_mid [7] 6 #[true, true, true, true, true, true, true, true, false, false, true, false, false, false, false] rfl (by kernel_rfl) (by kernel_rfl) (by kernel_rfl) (fun _ _ d _ _ h => by cases d <;> exact h) (fun _ => over_of_below (by rw [hB]; exact HB0.out)) ?_
    simp only [pickOps, List.filterMap_cons, List.filterMap_nil, List.getElem?_cons_succ, List.getElem?_cons_zero]
    repeat quiet_step (fail)
    try simp only [wpQuiet_nil_eq]
    refine wpAnyG_1 8 (by kernel_rfl) rfl ?_
    unfold wpNext
    go_wp2_with fail
    refine (HPA _ HB0.out).out.mono ?_
    rintro e1 wp ⟨u, rfl, ho, hbp⟩
    have HBP := Lib.hid (HB0.out.trans (hbp.mono (hB ▸ HB0.out.size)))
    obtain ⟨pa, pc, rfl⟩ := owns_shape ho
    clear ho hbp
    go_wp2_with fail
    refine ⟨(fun h => by simp at h), ?_⟩
    refine wpAnyG_mid [9] 4 #[true, true, true, true, true, true, true, true, true, true, true, false, false, false, false] rfl (by kernel_rfl) (by kernel_rfl) (by kernel_rfl) (fun _ _ d _ _ h => by cases d <;> exact h) (fun h => by simp at h) ?_
    simp only [pickOps, List.filterMap_cons, List.filterMap_nil, List.getElem?_cons_succ, List.getElem?_cons_zero]
    repeat quiet_step (fail)
    try simp only [wpQuiet_nil_eq]
    refine wpAnyG_tail [11, 12, 13, 14] rfl (.inl (by kernel_rfl)) (by kernel_rfl) ?_
    simp only [pickOps, List.filterMap_cons, List.filterMap_nil, List.getElem?_cons_succ, List.getElem?_cons_zero]
    go_wp2_with fail
    refine (HSZ _).out.mono ?_
    rintro e1 ws ⟨rfl, hbs⟩
    have HBS := Lib.hid (HBP.out.trans (hbs.mono (hB ▸ HBP.out.size)))
    clear hbs
    go_wp2_with fail
    go_ret
    exact ⟨ret_bool (by rw [HF.out]), by rw [hB]; exact HBS.out⟩

set_option maxHeartbeats 2000000 in
theorem implBreakSet (g : Value) (xss : List (List Int)) (w : World) (ht : Tab w) (hr : RdSS g xss w) (rs : List Int) (ok : Bool) (h : BreakP xss rs ok) :
    Calls Tryd.prog 47 #[.agg #[g]] w (SBRes w rs ok) := by
  have hmf : ∀ (fn : Fn) (first cap : Array Value) (w : World), (Instr.makeFunc fn first cap).run Tryd.prog w = .ok (.func fn first cap) w := fun _ _ _ _ => rfl
  obtain ⟨a, c, rfl⟩ := hr.shape
  obtain ⟨B, hB⟩ : ∃ B, w.heap.size = B := ⟨_, rfl⟩
  have hTB : 0 < B := by rw [← hB]; exact ht.lt
  have u1 : Below B w (w.alloc (.cells #[.slice a xss.length c] 28)) := by subst hB; exact below_alloc' _ _
  have VG0 : VC 28 B #[.slice a xss.length c] (w.alloc (.cells #[.slice a xss.length c] 28)) := VC.new hB
  have hz0 : (w.alloc (.cells #[.slice a xss.length c] 28)).heap.size = B + 1 := by simp [hB]
  have H := Lib.hid h
  have hcg := VG0.cell
  clear h
  go_enter Tryd.func47, Tryd.ntmps47
  go_wp2_with fail
  generalize w.alloc (.cells #[.slice a xss.length c] 28) = W at *
  refine (implOk _ xss W (hr.below u1 hB)).mono ?_
  rintro e1 w1 ⟨rfl, hb1⟩
  have VG1 := VG0.upd (Upd.of_below hb1) (by omega)
  have hb := u1.trans (hb1.mono (by omega))
  have hz1 : B + 1 ≤ w1.heap.size := by have := hb1.size; omega
  clear hb1 hcg u1
  have hcg := VG1.cell
  cases hok : okB xss with
  | false =>
    obtain ⟨rfl, rfl⟩ : rs = [] ∧ ok = false := by
      rcases H.out with ⟨_, h⟩ | ⟨e, hA, hx, _⟩
      · exact h
      · rw [hx, okB_adj hA] at hok; cases hok
    clear hok
    go_wp2_with fail
    refine bodyPost_ret (v := .tuple #[.slice none 0 0, .bool false]) (by simp [results, Tryd.results47, go_sem]) rfl ?_
    exact ⟨_, rfl, World.ownsRow_nil _ _ _ 1, by rw [hB]; exact hb⟩
  | true =>
    obtain ⟨e, hA, hx, hcase⟩ : ∃ e, Adj xss.length e ∧ xss = rowsB xss.length e ∧
        ((∃ r, IsBest size (fun s => brkF xss.length e s = true) (2 ^ xss.length) r ∧ rs = rowB xss.length r.testBit ∧ ok = true) ∨
         ((∀ t, t < 2 ^ xss.length → brkF xss.length e t = false) ∧ rs = [] ∧ ok = false)) := by
      rcases H.out with ⟨h, _⟩ | h
      · rw [hok] at h; cases h
      · exact h
    have hn16 := hA.le
    have HC := Lib.hid hcase
    have hr' := hr.below hb hB
    rw [hx, rowsB_length] at hr'
    have HN := Lib.hid (netsOf_any _ xss.length e hn16 w1 hr')
    have HAA := Lib.hid hA
    clear hok hx hcase hr' H hA
    go_wp2_with fail
    refine HN.out.mono ?_
    rintro e1 w2 ⟨u2, rfl, hN2, hb2⟩
    obtain ⟨na, nc, rfl⟩ := owns_shape hN2
    have hNr := Row.of_owns hN2
    have hb02 := hb.trans (hb2.mono (by omega))
    have hz2 := hb2.size
    obtain ⟨C, hC⟩ : ∃ C, w2.heap.size = C := ⟨_, rfl⟩
    obtain ⟨w3, hw3⟩ : ∃ w3, w3 = w2.alloc (.cells #[.slice na xss.length nc] 56) := ⟨_, rfl⟩
    have VA3 : VC 56 C #[.slice na xss.length nc] w3 := by rw [hw3]; exact VC.new hC
    have hz3 : w3.heap.size = C + 1 := by rw [hw3]; simp [hC]
    have hb23 : Below C w2 w3 := by rw [hw3, ← hC]; exact below_alloc' _ _
    have hb03 := hb02.trans (hb23.mono (by omega))
    have hca := VA3.cell
    have HSM := Lib.hid (smallest_any_brk C xss.length hn16 (brkF xss.length e) w3 (fun s W hs hbW => by
      have hbw3 : Below C w2 W := hb23.trans (hbW.mono (by omega))
      exact break1_any (.slice na xss.length nc) xss.length e hn16 HAA.out s hs C W (ht.keep (hb02.trans (hbw3.mono (by omega))) hTB) (VA3.belowAt hbW (by omega)) (hNr.below (hC.symm ▸ hbw3))))
    clear hN2 HN hb2 hcg
    go_wp2_with fail
    rw [← hw3]
    clear hw3
    refine HSM.out.mono ?_
    rintro e1 w4 ⟨r2, ok2, rfl, HRR, hb4⟩
    have hb04 := hb03.trans (hb4.mono (by omega))
    have hz4 := hb4.size
    have hres : (ok2 = true ∧ ok = true ∧ r2 < 2 ^ xss.length ∧ rs = rowB xss.length r2.testBit) ∨ (ok2 = false ∧ ok = false ∧ rs = []) := by
      rcases HRR.out with ⟨h1, h2⟩ | ⟨h1, _, h2⟩
      · rcases HC.out with ⟨r, hbe, h3, h4⟩ | ⟨h3, _, _⟩
        · have := h2.unique (pow_le_32 hn16) hbe
          subst this
          exact .inl ⟨h1, h4, h2.lt, h3⟩
        · have := h3 r2 h2.lt
          have h5 := h2.fits
          rw [this] at h5
          cases h5
      · rcases HC.out with ⟨r, hbe, h3, h4⟩ | ⟨_, h4, h5⟩
        · have := h2 r hbe.lt
          have h5 := hbe.fits
          rw [this] at h5
          cases h5
        · exact .inr ⟨h1, h5, h4⟩
    clear HSM hb4 hca HRR
    rcases hres with ⟨rfl, rfl, hlt, hrs⟩ | ⟨rfl, rfl, rfl⟩
    · have HRS := Lib.hid hrs
      obtain ⟨ri, HRI⟩ : ∃ z : Int, Hid ((r2 : Int) = z) := ⟨_, Lib.hid rfl⟩
      have HNU := Lib.hid (numbersB_any (n := xss.length) (by omega) r2.testBit ri (by rw [← HRI.out, mask_self hlt]) w4 (ht.keep hb04 hTB))
      rw [← HRS.out] at HNU
      rw [HRI.out]
      clear hrs hlt
      go_wp2_with fail
      refine HNU.out.mono ?_
      rintro e1 w5 ⟨u5, rfl, hL5, hb5⟩
      have hbf := hb04.trans (hb5.mono (by omega))
      have HL := Lib.hid (owns_base hL5 (show B ≤ w4.heap.size by omega))
      obtain ⟨la, lc, rfl⟩ := owns_shape hL5
      clear hb5 hL5 HNU
      go_wp2_with fail
      refine bodyPost_ret (v := .tuple #[.slice la rs.length lc, .bool true]) (by simp [results, Tryd.results47, go_sem]) rfl ?_
      exact ⟨_, rfl, by rw [hB]; exact HL.out, by rw [hB]; exact hbf⟩
    · go_wp2_with fail
      refine bodyPost_ret (v := .tuple #[.slice none 0 0, .bool false]) (by simp [results, Tryd.results47, go_sem]) rfl ?_
      exact ⟨_, rfl, World.ownsRow_nil _ _ _ 1, by rw [hB]; exact hb04⟩
end Go.Proofs.YtcjbobponlpkaaaDoor
