/-
  'BetweenOf' of the reference; both.
-/
import Derived.Test.YtcjbobponlpkaaaDoorBetween
import Derived.Test.YtcjbobponlpkaaaDoorBfs2
namespace Go.Proofs.YtcjbobponlpkaaaDoor
open Go.RowKit

section
variable {P : Program} {md : Region.Mode} {ops : Array Oper} {Q : Exit → Act → World → Prop}
/-- Reads of memory in the midst: they all stand ahead of the gate. -/
theorem wpAnyG_midC {C : World → Prop} {m : Nat} {listed : Array Bool} {a : Act} {w : World} (R : List Nat) (g : Nat) (l2 : Array Bool) {fuel : Nat} (hf : R.length + g = fuel) (hsel : Region.noSelect ops = true)
    (hcl : Region.closedB md ops listed = true) (ht : Region.takes md ops (some ops.size) m R listed = some l2) (hQ : ∀ c (a : Act) d v w, Q (.panic c) (a.put d v) w → Q (.panic c) a w) (hG : Gate C m listed w)
    (h : wpQuiet P ops C (fun a' => wpAnyG P md ops Q (Gate C m) g l2 a' w) (pickOps ops.toList R) a) : wpAnyG P md ops Q (Gate C m) fuel listed a w := by
  subst hf
  refine wpAnyG_takes (C' := C) (gate := some ops.size) hsel hQ ?_ (fun a h _ => h) R listed a (closed_of_B hcl) hG ht h
  intro i hi L W hL hun hG
  refine hG ?_
  simp only [Region.behindGate, Bool.or_eq_true, decide_eq_true_eq] at hi
  rcases hi with hi | hi
  · have : L.size ≤ m := by rw [hL.size]; exact hi
    simp [this]
  · cases hx : L.getD m false with
    | false => rfl
    | true =>
      have := behind_listed hL _ _ hi hx
      rw [getD_both hun] at this
      cases this
end

theorem l1In_to (x hi : Int) (n : Nat) (hh : hi = (n : Int) - 1) (w : World) :
    Calls Tryd.prog 78 #[.int .i64 x, .int .i64 0, .int .i64 hi] w fun e w' => e = .returned (.bool (inN n x)) ∧ w = w' :=
  l1In_is x 0 hi _ (by unfold inN; rw [Bool.eq_iff_iff]; simp; omega) w

set_option maxHeartbeats 8000000 in
theorem specBetween (g : Value) (xss : List (List Int)) (u v : Int) (w : World) (hr : RdSS g xss w) (rs : List Int) (h : BetP xss u v rs) :
    Calls Tryd.prog 34 #[.agg #[g], .int .i64 u, .int .i64 v] w (SRes w rs) := by
  obtain ⟨a, c, rfl⟩ := hr.shape
  obtain ⟨B, hB⟩ : ∃ B, w.heap.size = B := ⟨_, rfl⟩
  have hln : xss.length ≤ 9223372036854775807 := by
    obtain ⟨vs, hG⟩ := hr.ex
    have := hG.outer.len; have := hG.len; unfold maxLen at *; simp at *; omega
  have u1 : Below B w (w.alloc (.cells #[.slice a xss.length c] 28)) := by subst hB; exact below_alloc' _ _
  have VG0 : VC 28 B #[.slice a xss.length c] (w.alloc (.cells #[.slice a xss.length c] 28)) := VC.new hB
  have hz0 : (w.alloc (.cells #[.slice a xss.length c] 28)).heap.size = B + 1 := by simp [hB]
  have ho0 := World.ownsRow_lit (base := B + 1) (e := 2) (size := 1) (w.alloc (.cells #[.slice a xss.length c] 28)) #[] 0 (by omega) (by simp [maxLen]) rfl
  rw [hz0] at ho0
  have u2 : Below B w ((w.alloc (.cells #[.slice a xss.length c] 28)).alloc (.cells #[] 2)) := u1.alloc (by omega) _
  have VG1 := VG0.upd (Upd.alloc _ (.cells #[] 2)) (by omega)
  have hz1 : ((w.alloc (.cells #[.slice a xss.length c] 28)).alloc (.cells #[] 2)).heap.size = B + 2 := by simp [hB]
  have hcg := VG1.cell
  have H := Lib.hid h
  clear h
  go_enter Tryd.func34, Tryd.ntmps34
  go_wp2_with fail
  generalize (w.alloc (.cells #[.slice a xss.length c] 28)).alloc (.cells #[] 2) = W at *
  refine wp_region_take [] [0] 27 31 #[true, false, false, false, false, false, false, false, false, false, false, false, false, false, false, false, false, false, false, false, false, false, false, false, false, false, false, false, false, false, false, false] (by kernel_rfl) (by kernel_rfl) (by kernel_rfl) (by kernel_rfl) (fun _ _ d _ _ h => by cases d <;> exact h) ?_
  simp only [pickOps, List.filterMap_cons, List.filterMap_nil, List.getElem?_cons_zero]
  repeat quiet_step (fail)
  simp only [wpQuiet_nil_eq]
  refine wpAnyG_1 1 (by kernel_rfl) rfl ?_
  unfold wpNext
  go_wp2_with fail
  refine (specOk _ xss W.drew (hr.below (u2.drew) hB)).mono ?_
  rintro e1 w1 ⟨rfl, hb1⟩
  have hb1' : Below W.heap.size W w1 := below_drew hb1
  have ho1 := owns_below ho0 hb1'
  have hbW1 : Below (B + 1) W w1 := hb1'.mono (by omega)
  have VG2 := VG1.belowAt hbW1 (by omega)
  have hz2 : W.heap.size ≤ w1.heap.size := hb1'.size
  have hbw1 := u2.trans (hbW1.mono (by omega))
  have HB1 := Lib.hid hb1'
  clear hb1 hb1' hcg ho0
  have hcg := VG2.cell
  have hno : (vertexB xss u && vertexB xss v && (u != v)) = false → Hid (rs = []) := fun hn => by
    rcases H.out with ⟨_, h⟩ | ⟨_, _, _, _, _, h, _⟩
    · exact Lib.hid h
    · rw [hn] at h; cases h
  have HNO := Lib.hid hno
  clear hno
  cases hok : okB xss with
  | false =>
    obtain rfl : rs = [] := (HNO.out (by unfold vertexB; rw [hok]; rfl)).out
    clear hok
    go_wp2_with fail
    refine ⟨(fun _ => over_of_below HB1.out), ?_⟩
    refine wpAnyG_mid [2, 3, 4, 5, 6] 25 #[true, true, true, true, true, true, true, false, false, false, false, false, false, false, false, false, false, false, false, false, false, false, false, false, false, false, false, false, false, false, false, false] rfl (by kernel_rfl) (by kernel_rfl) (by kernel_rfl) (fun _ _ d _ _ h => by cases d <;> exact h) (fun _ => over_of_below HB1.out) ?_
    simp only [pickOps, List.filterMap_cons, List.filterMap_nil, List.getElem?_cons_succ, List.getElem?_cons_zero]
    repeat quiet_step (fail)
    try simp only [wpQuiet_nil_eq]
    refine wpAnyG_1 7 (by kernel_rfl) rfl ?_
    unfold wpNext
    go_wp2_with fail
    refine ⟨(fun _ => over_of_below HB1.out), ?_⟩
    refine wpAnyG_mid [8, 9, 10, 11, 12, 13] 18 #[true, true, true, true, true, true, true, true, true, true, true, true, true, true, false, false, false, false, false, false, false, false, false, false, false, false, false, false, false, false, false, false] rfl (by kernel_rfl) (by kernel_rfl) (by kernel_rfl) (fun _ _ d _ _ h => by cases d <;> exact h) (fun _ => over_of_below HB1.out) ?_
    simp only [pickOps, List.filterMap_cons, List.filterMap_nil, List.getElem?_cons_succ, List.getElem?_cons_zero]
    repeat quiet_step (fail)
    try simp only [wpQuiet_nil_eq]
    refine wpAnyG_1 14 (by kernel_rfl) rfl ?_
    unfold wpNext
    go_wp2_with fail
    refine ⟨(fun _ => over_of_below HB1.out), ?_⟩
    refine wpAnyG_mid [15, 16, 17, 18, 19, 20, 21, 22, 23, 24, 26, 28] 5 #[true, true, true, true, true, true, true, true, true, true, true, true, true, true, true, true, true, true, true, true, true, true, true, true, true, false, true, false, true, false, false, false] rfl (by kernel_rfl) (by kernel_rfl) (by kernel_rfl) (fun _ _ d _ _ h => by cases d <;> exact h) (fun _ => over_of_below HB1.out) ?_
    simp only [pickOps, List.filterMap_cons, List.filterMap_nil, List.getElem?_cons_succ, List.getElem?_cons_zero]
    repeat quiet_step (fail)
    try simp only [wpQuiet_nil_eq]
    refine wpAnyG_1 25 (by kernel_rfl) rfl ?_
    unfold wpNext
    go_wp2_with fail
    refine ⟨(fun _ => over_of_below HB1.out), ?_⟩
    refine wpAnyG_1 27 (by kernel_rfl) rfl ?_
    unfold wpNext
    go_wp2_with fail
    refine ⟨(fun h => by simp at h), ?_⟩
    refine wpAnyG_1 29 (by kernel_rfl) rfl ?_
    unfold wpNext
    go_wp2_with fail
    refine ⟨(fun h => by simp at h), ?_⟩
    refine wpAnyG_tail [30, 31] rfl (.inl (by kernel_rfl)) (by kernel_rfl) ?_
    simp only [pickOps, List.filterMap_cons, List.filterMap_nil, List.getElem?_cons_succ, List.getElem?_cons_zero]
    go_wp2_with fail
    go_ret
    exact ⟨_, rfl, by rw [hB]; exact owns_base ho1 (by omega), by rw [hB]; exact hbw1⟩
  | true =>
    have HK := Lib.hid hok
    clear hok
    go_wp2_with fail
    refine ⟨(fun _ => over_of_below HB1.out), ?_⟩
    refine wpAnyG_mid [2, 3, 4, 5, 6] 25 #[true, true, true, true, true, true, true, false, false, false, false, false, false, false, false, false, false, false, false, false, false, false, false, false, false, false, false, false, false, false, false, false] rfl (by kernel_rfl) (by kernel_rfl) (by kernel_rfl) (fun _ _ d _ _ h => by cases d <;> exact h) (fun _ => over_of_below HB1.out) ?_
    simp only [pickOps, List.filterMap_cons, List.filterMap_nil, List.getElem?_cons_succ, List.getElem?_cons_zero]
    repeat quiet_step (fail)
    try simp only [wpQuiet_nil_eq]
    refine wpAnyG_1 7 (by kernel_rfl) rfl ?_
    unfold wpNext
    go_wp2_with fail
    refine (l1In_to u _ xss.length rfl _).mono ?_
    rintro e1 w' ⟨rfl, rfl⟩
    cases hiu : inN xss.length u with
    | false =>
      obtain rfl : rs = [] := (HNO.out (by unfold vertexB; rw [hiu, Bool.and_false]; rfl)).out
      clear hiu
      go_wp2_with fail
      refine ⟨(fun _ => over_of_below HB1.out), ?_⟩
      refine wpAnyG_mid [8, 9, 10, 11, 12, 13] 18 #[true, true, true, true, true, true, true, true, true, true, true, true, true, true, false, false, false, false, false, false, false, false, false, false, false, false, false, false, false, false, false, false] rfl (by kernel_rfl) (by kernel_rfl) (by kernel_rfl) (fun _ _ d _ _ h => by cases d <;> exact h) (fun _ => over_of_below HB1.out) ?_
      simp only [pickOps, List.filterMap_cons, List.filterMap_nil, List.getElem?_cons_succ, List.getElem?_cons_zero]
      repeat quiet_step (fail)
      try simp only [wpQuiet_nil_eq]
      refine wpAnyG_1 14 (by kernel_rfl) rfl ?_
      unfold wpNext
      go_wp2_with fail
      refine ⟨(fun _ => over_of_below HB1.out), ?_⟩
      refine wpAnyG_mid [15, 16, 17, 18, 19, 20, 21, 22, 23, 24, 26, 28] 5 #[true, true, true, true, true, true, true, true, true, true, true, true, true, true, true, true, true, true, true, true, true, true, true, true, true, false, true, false, true, false, false, false] rfl (by kernel_rfl) (by kernel_rfl) (by kernel_rfl) (fun _ _ d _ _ h => by cases d <;> exact h) (fun _ => over_of_below HB1.out) ?_
      simp only [pickOps, List.filterMap_cons, List.filterMap_nil, List.getElem?_cons_succ, List.getElem?_cons_zero]
      repeat quiet_step (fail)
      try simp only [wpQuiet_nil_eq]
      refine wpAnyG_1 25 (by kernel_rfl) rfl ?_
      unfold wpNext
      go_wp2_with fail
      refine ⟨(fun _ => over_of_below HB1.out), ?_⟩
      refine wpAnyG_1 27 (by kernel_rfl) rfl ?_
      unfold wpNext
      go_wp2_with fail
      refine ⟨(fun h => by simp at h), ?_⟩
      refine wpAnyG_1 29 (by kernel_rfl) rfl ?_
      unfold wpNext
      go_wp2_with fail
      refine ⟨(fun h => by simp at h), ?_⟩
      refine wpAnyG_tail [30, 31] rfl (.inl (by kernel_rfl)) (by kernel_rfl) ?_
      simp only [pickOps, List.filterMap_cons, List.filterMap_nil, List.getElem?_cons_succ, List.getElem?_cons_zero]
      go_wp2_with fail
      go_ret
      exact ⟨_, rfl, by rw [hB]; exact owns_base ho1 (by omega), by rw [hB]; exact hbw1⟩
    | true =>
      have HIU := Lib.hid hiu
      clear hiu
      go_wp2_with fail
      refine ⟨(fun _ => over_of_below HB1.out), ?_⟩
      refine wpAnyG_mid [8, 9, 10, 11, 12, 13] 18 #[true, true, true, true, true, true, true, true, true, true, true, true, true, true, false, false, false, false, false, false, false, false, false, false, false, false, false, false, false, false, false, false] rfl (by kernel_rfl) (by kernel_rfl) (by kernel_rfl) (fun _ _ d _ _ h => by cases d <;> exact h) (fun _ => over_of_below HB1.out) ?_
      simp only [pickOps, List.filterMap_cons, List.filterMap_nil, List.getElem?_cons_succ, List.getElem?_cons_zero]
      repeat quiet_step (fail)
      try simp only [wpQuiet_nil_eq]
      refine wpAnyG_1 14 (by kernel_rfl) rfl ?_
      unfold wpNext
      go_wp2_with fail
      refine (l1In_to v _ xss.length rfl _).mono ?_
      rintro e1 w' ⟨rfl, rfl⟩
      cases hiv : inN xss.length v with
      | false =>
        obtain rfl : rs = [] := (HNO.out (by unfold vertexB; rw [hiv, Bool.and_false, Bool.and_false]; rfl)).out
        clear hiv
        go_wp2_with fail
        refine ⟨(fun _ => over_of_below HB1.out), ?_⟩
        refine wpAnyG_mid [15, 16, 17, 18, 19, 20, 21, 22, 23, 24, 26, 28] 5 #[true, true, true, true, true, true, true, true, true, true, true, true, true, true, true, true, true, true, true, true, true, true, true, true, true, false, true, false, true, false, false, false] rfl (by kernel_rfl) (by kernel_rfl) (by kernel_rfl) (fun _ _ d _ _ h => by cases d <;> exact h) (fun _ => over_of_below HB1.out) ?_
        simp only [pickOps, List.filterMap_cons, List.filterMap_nil, List.getElem?_cons_succ, List.getElem?_cons_zero]
        repeat quiet_step (fail)
        try simp only [wpQuiet_nil_eq]
        refine wpAnyG_1 25 (by kernel_rfl) rfl ?_
        unfold wpNext
        go_wp2_with fail
        refine ⟨(fun _ => over_of_below HB1.out), ?_⟩
        refine wpAnyG_1 27 (by kernel_rfl) rfl ?_
        unfold wpNext
        go_wp2_with fail
        refine ⟨(fun h => by simp at h), ?_⟩
        refine wpAnyG_1 29 (by kernel_rfl) rfl ?_
        unfold wpNext
        go_wp2_with fail
        refine ⟨(fun h => by simp at h), ?_⟩
        refine wpAnyG_tail [30, 31] rfl (.inl (by kernel_rfl)) (by kernel_rfl) ?_
        simp only [pickOps, List.filterMap_cons, List.filterMap_nil, List.getElem?_cons_succ, List.getElem?_cons_zero]
        go_wp2_with fail
        go_ret
        exact ⟨_, rfl, by rw [hB]; exact owns_base ho1 (by omega), by rw [hB]; exact hbw1⟩
      | true =>
        have HIV := Lib.hid hiv
        clear hiv
        by_cases huv : u = v
        · have hd : (u == v) = true := by rw [beq_iff_eq]; exact huv
          obtain rfl : rs = [] := (HNO.out (by rw [huv]; simp)).out
          clear huv
          go_wp2_with fail
          refine ⟨(fun _ => over_of_below HB1.out), ?_⟩
          refine wpAnyG_mid [15, 16, 17, 18, 19, 20, 21, 22, 23, 24, 26, 28] 5 #[true, true, true, true, true, true, true, true, true, true, true, true, true, true, true, true, true, true, true, true, true, true, true, true, true, false, true, false, true, false, false, false] rfl (by kernel_rfl) (by kernel_rfl) (by kernel_rfl) (fun _ _ d _ _ h => by cases d <;> exact h) (fun _ => over_of_below HB1.out) ?_
          simp only [pickOps, List.filterMap_cons, List.filterMap_nil, List.getElem?_cons_succ, List.getElem?_cons_zero]
          repeat quiet_step (fail)
          try simp only [wpQuiet_nil_eq]
          refine wpAnyG_1 25 (by kernel_rfl) rfl ?_
          unfold wpNext
          go_wp2_with fail
          refine ⟨(fun _ => over_of_below HB1.out), ?_⟩
          refine wpAnyG_1 27 (by kernel_rfl) rfl ?_
          unfold wpNext
          go_wp2_with fail
          refine ⟨(fun h => by simp at h), ?_⟩
          refine wpAnyG_1 29 (by kernel_rfl) rfl ?_
          unfold wpNext
          go_wp2_with fail
          refine ⟨(fun h => by simp at h), ?_⟩
          refine wpAnyG_tail [30, 31] rfl (.inl (by kernel_rfl)) (by kernel_rfl) ?_
          simp only [pickOps, List.filterMap_cons, List.filterMap_nil, List.getElem?_cons_succ, List.getElem?_cons_zero]
          go_wp2_with fail
          go_ret
          exact ⟨_, rfl, by rw [hB]; exact owns_base ho1 (by omega), by rw [hB]; exact hbw1⟩
        have hd : (u == v) = false := by rw [beq_eq_false_iff_ne]; exact huv
        have hyes : (vertexB xss u && vertexB xss v && (u != v)) = true := by unfold vertexB; rw [HK.out, HIU.out, HIV.out]; simpa using huv
        obtain ⟨e, s, t, hA, hx, HU, HV, hs, ht', HR⟩ : ∃ e s t, Adj xss.length e ∧ xss = rowsB xss.length e ∧ Hid (u = (s : Nat)) ∧ Hid (v = (t : Nat)) ∧ s < xss.length ∧ t < xss.length ∧ Hid ((wayB xss.length e (allB xss.length) s t = true ∧ rs = rowB xss.length (betB xss.length e s t)) ∨ (wayB xss.length e (allB xss.length) s t = false ∧ rs = [])) := by
          rcases H.out with ⟨h, _⟩ | ⟨e, s, t, h1, h2, _, h3, h4, h5, h6, h7⟩
          · rw [hyes] at h; cases h
          · exact ⟨e, s, t, h1, h2, Lib.hid h3, Lib.hid h4, h5, h6, Lib.hid h7⟩
        have hn16 := hA.le
        have HGR : Hid (∀ W', Below (B + 1) W W' → RdSS (.slice a xss.length c) (rowsB xss.length e) W') := Lib.hid fun W' hb' => by
          have := hr.below (u2.trans (hb'.mono (by omega))) hB
          rwa [hx, rowsB_length] at this
        have HXL := Lib.hid (show (rowsB xss.length e).length = xss.length by simp)
        have HAL := Lib.hid (l16All_any (.slice a xss.length c) (rowsB xss.length e) (by simp; omega) w1 (HGR.out _ hbW1))
        rw [HXL.out] at HAL
        clear hx H hA huv hyes HNO
        go_wp2_with fail
        refine ⟨(fun _ => over_of_below HB1.out), ?_⟩
        refine wpAnyG_mid [15, 16, 17, 18, 19, 20, 21, 22, 26, 28] 7 #[true, true, true, true, true, true, true, true, true, true, true, true, true, true, true, true, true, true, true, true, true, true, true, false, false, false, true, false, true, false, false, false] rfl (by kernel_rfl) (by kernel_rfl) (by kernel_rfl) (fun _ _ d _ _ h => by cases d <;> exact h) (fun _ => over_of_below HB1.out) ?_
        simp only [pickOps, List.filterMap_cons, List.filterMap_nil, List.getElem?_cons_succ, List.getElem?_cons_zero]
        repeat quiet_step (fail)
        try simp only [wpQuiet_nil_eq]
        have hco := VG1.cell
        refine wpAnyG_midC [23, 24] 5 #[true, true, true, true, true, true, true, true, true, true, true, true, true, true, true, true, true, true, true, true, true, true, true, true, true, false, true, false, true, false, false, false] rfl (by kernel_rfl) (by kernel_rfl) (by kernel_rfl) (fun _ _ d _ _ h => by cases d <;> exact h) (fun _ => over_of_below HB1.out) ?_
        simp only [pickOps, List.filterMap_cons, List.filterMap_nil, List.getElem?_cons_succ, List.getElem?_cons_zero]
        clear hcg
        repeat quiet_step (fail)
        try simp only [wpQuiet_nil_eq]
        clear hco
        refine wpAnyG_1 25 (by kernel_rfl) rfl ?_
        unfold wpNext
        go_wp2_with fail
        refine HAL.out.mono ?_
        rintro e1 w2 ⟨ul, rfl, hL, hb2⟩
        obtain ⟨la, lc, rfl⟩ := owns_shape hL
        have hbW2 := hbW1.trans (hb2.mono (by omega))
        have ho2 := owns_below ho1 hb2
        have HRE := Lib.hid (l16Reach_any (.slice a xss.length c) xss.length e hn16 (.slice la (rowB xss.length (allB xss.length)).length lc) (allB xss.length) s hs u HU.out w2 (HGR.out _ hbW2) (Row.of_owns hL))
        have hzz2 := hb2.size
        have HB2 := Lib.hid (HB1.out.trans (hb2.mono (by omega)))
        clear hL hb2 HAL ho1 hbW1 hbw1
        go_wp2_with fail
        refine ⟨fun _ => over_of_below HB2.out, ?_⟩
        refine wpAnyG_1 27 (by kernel_rfl) rfl ?_
        unfold wpNext
        go_wp2_with fail
        refine HRE.out.mono ?_
        rintro e1 w3 ⟨ur, rfl, hL, hb3⟩
        obtain ⟨ra, rc, rfl⟩ := owns_shape hL
        have hbW3 := hbW2.trans (hb3.mono (by omega))
        have ho3 := owns_below ho2 hb3
        have hz3 : W.heap.size ≤ w3.heap.size := by have := hb3.size; omega
        have VG3 := VG1.belowAt hbW3 (by omega)
        have HHA := Lib.hid (has_any (.slice ra (rowB xss.length (wayB xss.length e (allB xss.length) s)).length rc) (rowB xss.length (wayB xss.length e (allB xss.length) s)) v w3 (Row.of_owns hL))
        rw [show (rowB xss.length (wayB xss.length e (allB xss.length) s)).contains v = wayB xss.length e (allB xss.length) s t by rw [HV.out, contains_rowB]; simp [ht']] at HHA
        obtain ⟨bb, HBB⟩ : ∃ b, Hid (wayB xss.length e (allB xss.length) s t = b) := ⟨_, Lib.hid rfl⟩
        rw [HBB.out] at HHA
        clear hL hb3 HRE ho2 hbW2 hzz2
        go_wp2_with fail
        refine ⟨(fun h => by simp at h), ?_⟩
        refine wpAnyG_1 29 (by kernel_rfl) rfl ?_
        unfold wpNext
        go_wp2_with fail
        refine HHA.out.mono ?_
        rintro e1 w' ⟨rfl, rfl⟩
        have hbw3 := u2.trans (hbW3.mono (by omega))
        cases bb with
        | false =>
          obtain rfl : rs = [] := by
            rcases HR.out with ⟨h, _⟩ | ⟨_, h⟩
            · rw [HBB.out] at h; cases h
            · exact h
          go_wp2_with fail
          refine ⟨(fun h => by simp at h), ?_⟩
          refine wpAnyG_tail [30, 31] rfl (.inl (by kernel_rfl)) (by kernel_rfl) ?_
          simp only [pickOps, List.filterMap_cons, List.filterMap_nil, List.getElem?_cons_succ, List.getElem?_cons_zero]
          go_wp2_with fail
          go_ret
          exact ⟨_, rfl, by rw [hB]; exact owns_base ho3 (by omega), by rw [hB]; exact hbw3⟩
        | true =>
          have hrs : rs = rowB xss.length (betB xss.length e s t) := by
            rcases HR.out with ⟨_, h⟩ | ⟨h, _⟩
            · exact h
            · rw [HBB.out] at h; cases h
          have HRS := Lib.hid hrs
          clear hrs
          go_wp2_with fail
          refine ⟨(fun h => by simp at h), ?_⟩
          refine wpAnyG_tail [30, 31] rfl (.inl (by kernel_rfl)) (by kernel_rfl) ?_
          simp only [pickOps, List.filterMap_cons, List.filterMap_nil, List.getElem?_cons_succ, List.getElem?_cons_zero]
          go_wp2_with fail
          have hcl : Below (B + 1) w3 w3 := Below.refl _ _
          go_loopw [7, 9] (fun o i wr => ∃ (j m : Nat), j ≤ xss.length ∧ m ≤ j ∧ i = .int .i64 j ∧ Hid ((upTo j (betB xss.length e s t)).length = m) ∧ wr.ownsRow (B + 1) 2 1 o m (ints (upTo j (betB xss.length e s t))) ∧ Below (B + 1) w3 wr) (fun _ i _ => xss.length - (intOf i).toNat)
          case atStart => exact ⟨0, 0, Nat.zero_le _, Nat.le_refl _, rfl, Lib.hid rfl, by simpa [ints, upTo] using ho3, hcl⟩
          case round =>
            clear ho3 hcl
            obtain ⟨j, m, hj, hm, rfl, HM, ho, hb⟩ := hrel
            have hsz := hb.size
            have hbWr := hbW3.trans hb
            have hcg := (VG3.belowAt hb (by omega)).cell
            have hod : wr.drew.ownsRow (B + 1) 2 1 u7 m (ints (upTo j (betB xss.length e s t))) := ho
            have hbd : Below (B + 1) w3 wr.drew := hb.drew
            by_cases hlt : j < xss.length
            · by_cases hjs : j = s
              · have hd1 : ((j : Int) != u) = false := by rw [HU.out, hjs]; simp
                have HS := Lib.hid (upTo_no (p := betB xss.length e s t) (j := j) (by unfold betB; simp [hjs]))
                clear hjs
                go_wp2_with fail
                refine wp_region_ord [0, 1, 2, 3, 4, 5, 6, 7, 8, 11, 13, 15] [9, 10] [12] [14, 16, 17, 18] (by kernel_rfl) (by kernel_rfl) (fun _ _ d _ _ h => by cases d <;> exact h) ?_
                simp only [pickOps, List.filterMap_cons, List.filterMap_nil, List.getElem?_cons_succ, List.getElem?_cons_zero]
                repeat quiet_step (fail)
                try simp only [wpQuiet_nil_eq]
                refine wpSegs_cons ?_
                go_wp2_with fail
                refine ⟨(Below.refl _ _).drew, ?_⟩
                simp only [wpSegs_nil_eq]
                go_wp2_with fail
                go_roundw
                case rel => exact ⟨j + 1, m, by omega, by omega, by go_num, Lib.hid (by rw [HS.out]; exact HM.out), by rw [HS.out]; exact hod, hbd⟩
                case measure => simp [intOf]; omega
              have hd1 : ((j : Int) != u) = true := by rw [HU.out, bne_iff_ne]; omega
              by_cases hjt : j = t
              · have hd2 : ((j : Int) != v) = false := by rw [HV.out, hjt]; simp
                have HS := Lib.hid (upTo_no (p := betB xss.length e s t) (j := j) (by unfold betB; simp [hjt]))
                clear hjs hjt
                go_wp2_with fail
                refine wp_region_ord [0, 1, 2, 3, 4, 5, 6, 7, 8, 11, 13, 15] [9, 10] [12] [14, 16, 17, 18] (by kernel_rfl) (by kernel_rfl) (fun _ _ d _ _ h => by cases d <;> exact h) ?_
                simp only [pickOps, List.filterMap_cons, List.filterMap_nil, List.getElem?_cons_succ, List.getElem?_cons_zero]
                repeat quiet_step (fail)
                try simp only [wpQuiet_nil_eq]
                refine wpSegs_cons ?_
                go_wp2_with fail
                refine ⟨(Below.refl _ _).drew, ?_⟩
                simp only [wpSegs_nil_eq]
                go_wp2_with fail
                go_roundw
                case rel => exact ⟨j + 1, m, by omega, by omega, by go_num, Lib.hid (by rw [HS.out]; exact HM.out), by rw [HS.out]; exact hod, hbd⟩
                case measure => simp [intOf]; omega
              have hd2 : ((j : Int) != v) = true := by rw [HV.out, bne_iff_ne]; omega
              have HWO := Lib.hid (l19Without_any (.slice a xss.length c) (rowsB xss.length e) (by simp; omega) j j rfl wr.drew (HGR.out _ (hbWr.drew)))
              rw [HXL.out] at HWO
              obtain ⟨bb, HB2⟩ : ∃ b, Hid (wayB xss.length e (butB (allB xss.length) j) s t = b) := ⟨_, Lib.hid rfl⟩
              have HO : Hid (betB xss.length e s t j = !bb) := Lib.hid (by unfold betB; rw [HB2.out]; simp [hjs, hjt])
              clear hjs hjt
              go_wp2_with fail
              refine wp_region_ord [0, 1, 2, 3, 4, 5, 6, 7, 8, 11, 13, 15] [9, 10] [12] [14, 16, 17, 18] (by kernel_rfl) (by kernel_rfl) (fun _ _ d _ _ h => by cases d <;> exact h) ?_
              simp only [pickOps, List.filterMap_cons, List.filterMap_nil, List.getElem?_cons_succ, List.getElem?_cons_zero]
              repeat quiet_step (fail)
              try simp only [wpQuiet_nil_eq]
              refine wpSegs_cons ?_
              go_wp2_with fail
              refine HWO.out.mono ?_
              rintro e1 w4 ⟨ul, rfl, hL, hb4⟩
              obtain ⟨la, lc, rfl⟩ := owns_shape hL
              have HB4 := Lib.hid (below_drew hb4)
              have hbW4 := hbWr.trans (HB4.out.mono (by omega))
              have ho4 := owns_below ho HB4.out
              have hzz4 : wr.heap.size ≤ w4.heap.size := HB4.out.size
              have HRE := Lib.hid (l16Reach_any (.slice a xss.length c) xss.length e hn16 (.slice la (rowB xss.length (butB (allB xss.length) j)).length lc) (butB (allB xss.length) j) s hs u HU.out w4 (HGR.out _ hbW4) (Row.of_owns hL))
              clear hL hb4 HWO hcg ho hod hbd
              go_wp2_with fail
              refine ⟨HB4.out, ?_⟩
              simp only [wpSegs_nil_eq]
              go_wp2_with fail
              refine HRE.out.mono ?_
              rintro e1 w5 ⟨ur, rfl, hL, hb5⟩
              obtain ⟨ra, rc, rfl⟩ := owns_shape hL
              have HHA := Lib.hid (has_any (.slice ra (rowB xss.length (wayB xss.length e (butB (allB xss.length) j) s)).length rc) (rowB xss.length (wayB xss.length e (butB (allB xss.length) j) s)) v w5 (Row.of_owns hL))
              rw [show (rowB xss.length (wayB xss.length e (butB (allB xss.length) j) s)).contains v = wayB xss.length e (butB (allB xss.length) j) s t by rw [HV.out, contains_rowB]; simp [ht'], HB2.out] at HHA
              have hbr5 := hb.trans ((HB4.out.trans (hb5.mono HB4.out.size)).mono (by omega))
              have ho5 := owns_below ho4 hb5
              have hz5 : wr.heap.size ≤ w5.heap.size := by have := hb5.size; omega
              clear hL hb5 HRE ho4 hbW4 hb hbWr
              go_wp2_with fail
              refine HHA.out.mono ?_
              rintro e1 w' ⟨rfl, rfl⟩
              cases bb with
              | false =>
                have HS := Lib.hid (upTo_yes (p := betB xss.length e s t) (j := j) HO.out)
                go_wp2_with (at_builtin; refine wpList_push _ rfl _ _ 25 rfl (B + 1) 2 _ _ 8 Tryd.underlying25 infoI rfl _ _ _ rfl ho5 _ rfl rfl (by unfold maxLen; omega) (by omega) (by omega) ?_; intro g' c' w6 ho6 hg)
                go_roundw
                case rel => exact ⟨j + 1, m + 1, by omega, by omega, by go_num, Lib.hid (by rw [HS.out, List.length_append, HM.out]; rfl), by rw [HS.out]; simpa [ints] using ho6, hbr5.grown hg (by omega) fun b hb' => (owns_lt ho5 hb').1⟩
                case measure => simp [intOf]; omega
              | true =>
                have HS := Lib.hid (upTo_no (p := betB xss.length e s t) (j := j) HO.out)
                go_wp2_with fail
                go_roundw
                case rel => exact ⟨j + 1, m, by omega, by omega, by go_num, Lib.hid (by rw [HS.out]; exact HM.out), by rw [HS.out]; exact ho5, hbr5⟩
                case measure => simp [intOf]; omega
            · obtain rfl : j = xss.length := by omega
              have HE : Hid (upTo xss.length (betB xss.length e s t) = rs) := Lib.hid HRS.out.symm
              have HEM : Hid (rs.length = m) := Lib.hid (by rw [← HE.out]; exact HM.out)
              go_wp2_with fail
              go_ret
              exact ⟨_, rfl, by rw [hB, HEM.out, ← HE.out]; exact owns_base ho (by omega), by rw [hB]; exact u2.trans (hbWr.mono (by omega))⟩

theorem both_BetweenOf (xss : List (List Int)) (u v : Int) : ∃ rs : List Int, 1 + rs.length ≤ 1000000000 ∧
    (∀ (w : World) (g : Value), Tab w → RdSS g xss w → Calls Tryd.prog 34 #[.agg #[g], .int .i64 u, .int .i64 v] w (SRes w rs)) ∧
    (∀ (w : World) (g : Value), Tab w → RdSS g xss w → Calls Tryd.prog 35 #[.agg #[g], .int .i64 u, .int .i64 v] w (SRes w rs)) := by
  have key : ∃ rs : List Int, 1 + rs.length ≤ 1000000000 ∧ BetP xss u v rs := by
    cases hok : vertexB xss u && vertexB xss v && (u != v) with
    | false => exact ⟨[], by simp, .inl ⟨hok, rfl⟩⟩
    | true =>
      have h1 := hok
      rw [Bool.and_eq_true, Bool.and_eq_true] at h1
      have hu := h1.1.1
      have hv := h1.1.2
      unfold vertexB at hu hv
      rw [Bool.and_eq_true] at hu hv
      obtain ⟨e, hA, hx⟩ := (okB_iff xss).1 hu.1
      obtain ⟨s, rfl, hs⟩ := inN_nat hu.2
      obtain ⟨t, rfl, ht⟩ := inN_nat hv.2
      have hn := hA.le
      cases hw : wayB xss.length e (allB xss.length) s t with
      | true =>
        have hl := rowB_length xss.length (betB xss.length e s t)
        exact ⟨_, by omega, .inr ⟨e, s, t, hA, hx, hok, rfl, rfl, hs, ht, .inl ⟨hw, rfl⟩⟩⟩
      | false => exact ⟨[], by simp, .inr ⟨e, s, t, hA, hx, hok, rfl, rfl, hs, ht, .inr ⟨hw, rfl⟩⟩⟩
  obtain ⟨rs, hl, hP⟩ := key
  exact ⟨rs, hl, fun w g _ hr => specBetween g xss u v w hr rs hP, fun w g ht hr => implBetween g xss u v w ht hr rs hP⟩
end Go.Proofs.YtcjbobponlpkaaaDoor
