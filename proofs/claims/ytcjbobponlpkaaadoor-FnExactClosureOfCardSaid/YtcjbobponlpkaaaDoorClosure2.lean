/-
  'ClosureOf' of the reference; both.
-/
import Derived.Test.YtcjbobponlpkaaaDoorClosure
import Derived.Test.YtcjbobponlpkaaaDoorBfs2
import Derived.Test.YtcjbobponlpkaaaDoorMid
namespace Go.Proofs.YtcjbobponlpkaaaDoor
open Go.RowKit

def nearC (e : Nat → Nat → Bool) (q : Nat) (xs : List Int) : Nat := (xs.filter fun x => e q x.toNat).length
theorem nearC_yes {e : Nat → Nat → Bool} {q : Nat} {xs : List Int} {j a : Nat} (h : xs[j]? = some (a : Int)) (h0 : e q a = true) : nearC e q (xs.take (j + 1)) = nearC e q (xs.take j) + 1 := by
  unfold nearC
  rw [take_snoc h, List.filter_append]
  simp [h0]
theorem nearC_no {e : Nat → Nat → Bool} {q : Nat} {xs : List Int} {j a : Nat} (h : xs[j]? = some (a : Int)) (h0 : e q a = false) : nearC e q (xs.take (j + 1)) = nearC e q (xs.take j) := by
  unfold nearC
  rw [take_snoc h, List.filter_append]
  simp [h0]
theorem splB_count {n : Nat} {e : Nat → Nat → Bool} {o : Nat → Bool} {q : Nat} : splB n e o q = (decide (0 < nearC e q (rowB n o)) && decide (nearC e q (rowB n o) < (rowB n o).length)) := by
  rw [Bool.eq_iff_iff, splB_iff, Bool.and_eq_true, decide_eq_true_eq, decide_eq_true_eq]
  unfold nearC
  have h1 : 0 < ((rowB n o).filter fun x => e q x.toNat).length ↔ ∃ a, a < n ∧ o a = true ∧ e q a = true := by
    rw [List.length_pos_iff_exists_mem]
    constructor
    · rintro ⟨x, hx⟩
      rw [List.mem_filter] at hx
      obtain ⟨a, ha, hoa, rfl⟩ := mem_rowB.1 hx.1
      exact ⟨a, ha, hoa, by simpa using hx.2⟩
    · rintro ⟨a, ha, hoa, he⟩
      exact ⟨(a : Int), List.mem_filter.2 ⟨nat_mem_rowB.2 ⟨ha, hoa⟩, by simpa using he⟩⟩
  have h2 : ((rowB n o).filter fun x => e q x.toNat).length < (rowB n o).length ↔ ∃ b, b < n ∧ o b = true ∧ e q b = false := by
    have hle := List.length_filter_le (fun x : Int => e q x.toNat) (rowB n o)
    constructor
    · intro hlt
      apply Classical.byContradiction
      intro hn
      have : (rowB n o).filter (fun x => e q x.toNat) = rowB n o := by
        rw [List.filter_eq_self]
        intro x hx
        obtain ⟨a, ha, hoa, rfl⟩ := mem_rowB.1 hx
        cases he : e q a with
        | true => simpa using he
        | false => exact (hn ⟨a, ha, hoa, he⟩).elim
      rw [this] at hlt
      omega
    · rintro ⟨b, hb, hob, he⟩
      apply Classical.byContradiction
      intro hn
      have heq : (rowB n o).filter (fun x => e q x.toNat) = rowB n o := List.filter_sublist.eq_of_length (by omega)
      rw [List.filter_eq_self] at heq
      have := heq (b : Int) (nat_mem_rowB.2 ⟨hb, hob⟩)
      simp [he] at this
  rw [h1, h2]

set_option maxHeartbeats 2000000 in
theorem l17Splits_any (g : Value) (n : Nat) (e : Nat → Nat → Bool) (hn : n ≤ 16) (v2 : Value) (o : Nat → Bool) (q : Nat) (hq : q < n) (Q : Int) (hQ : Q = q) (w : World) (hr : RdSS g (rowsB n e) w) (hs : RdS v2 (rowB n o) w) :
    Calls Tryd.prog 136 #[.agg #[g], v2, .int .i64 Q] w fun r w' => r = .returned (.bool (splB n e o q)) ∧ Below w.heap.size w w' := by
  obtain ⟨a, c, rfl⟩ := hr.shape
  obtain ⟨a2, c2, rfl, -, -, -⟩ := id hs
  rw [rowsB_length] at hr ⊢
  have hpl := rowB_length n o
  subst hQ
  obtain ⟨B, hB⟩ : ∃ B, w.heap.size = B := ⟨_, rfl⟩
  have u1 : Below B w (w.alloc (.cells #[.slice a n c] 28)) := by subst hB; exact below_alloc' _ _
  have VG0 : VC 28 B #[.slice a n c] (w.alloc (.cells #[.slice a n c] 28)) := VC.new hB
  have hz0 : (w.alloc (.cells #[.slice a n c] 28)).heap.size = B + 1 := by simp [hB]
  go_enter Tryd.func136, Tryd.ntmps136
  go_wp2_with fail
  generalize w.alloc (.cells #[.slice a n c] 28) = W at *
  have hbW : Below (B + 1) W W := Below.refl _ _
  go_loopw [7, 8] (fun s i wr => ∃ (j m : Nat), j ≤ (rowB n o).length ∧ i = .int .i64 j ∧ s = .int .i64 m ∧ m ≤ j ∧ Hid (m = nearC e q ((rowB n o).take j)) ∧ Below (B + 1) W wr) (fun _ i _ => (rowB n o).length - (intOf i).toNat)
  case atStart => exact ⟨0, 0, Nat.zero_le _, rfl, rfl, Nat.le_refl _, Lib.hid rfl, hbW⟩
  case round =>
    clear hbW
    obtain ⟨j, m, hj, rfl, rfl, hm, HM, hb⟩ := hrel
    have hbw := u1.trans (hb.mono (by omega))
    by_cases hlt : j < (rowB n o).length
    · have hcg := (VG0.belowAt hb (by omega)).cell
      obtain ⟨yb, yo, y, rfl, hcy, HY⟩ := Row.intAt (RdS.below hs hbw hB) hlt
      obtain ⟨x, hx, hox, rfl⟩ := row_at HY.out
      obtain ⟨vsr, hGx⟩ := (hr.below hbw hB).ex
      obtain ⟨rb, ro, r, xs, rfl, hc, hxr, -, HXX⟩ := hGx.intsAt (k := q) (by simpa using hq)
      obtain rfl : rowB n (e q) = xs := by have h := HXX.out; rw [rowsB_at e hq] at h; exact Option.some.inj h
      have HH := Lib.hid (has_any r (rowB n (e q)) x wr.drew (Row.below hxr (below_drewN' wr 1)))
      rw [contains_rowB, decide_eq_true hx, Bool.true_and] at HH
      obtain ⟨b, HBB⟩ : ∃ b, Hid (e q x = b) := ⟨_, Lib.hid rfl⟩
      rw [HBB.out] at HH
      have hb' : Below (B + 1) W wr.drew := hb.drew
      clear hGx HXX hxr hb hbw
      go_wp2_with fail
      refine wp_region_ord [0, 2, 5, 6, 7] [1, 3, 4, 8] [] [9] (by kernel_rfl) (by kernel_rfl) (fun _ _ d _ _ h => by cases d <;> exact h) ?_
      simp only [pickOps, List.filterMap_cons, List.filterMap_nil, List.getElem?_cons_succ, List.getElem?_cons_zero]
      repeat quiet_step (fail)
      simp only [wpQuiet_nil_eq, wpSegs_nil_eq]
      go_wp2_with fail
      refine HH.out.mono ?_
      rintro e1 w' ⟨rfl, rfl⟩
      clear hcg hc hcy HH
      cases b with
      | true =>
        have HS := Lib.hid (nearC_yes HY.out HBB.out)
        go_wp2_with fail
        go_roundw
        case rel => exact ⟨j + 1, m + 1, by omega, by go_num, by go_num, by omega, Lib.hid (by rw [HS.out, HM.out]), hb'⟩
        case measure => simp [intOf]; omega
      | false =>
        have HS := Lib.hid (nearC_no HY.out HBB.out)
        go_wp2_with fail
        go_roundw
        case rel => exact ⟨j + 1, m, by omega, by go_num, rfl, by omega, Lib.hid (by rw [HS.out, HM.out]), hb'⟩
        case measure => simp [intOf]; omega
    · obtain rfl : j = (rowB n o).length := by omega
      have HF : Hid (splB n e o q = (decide (0 < m) && decide (m < (rowB n o).length))) := Lib.hid (by rw [splB_count, HM.out, List.take_length])
      by_cases h0 : 0 < m
      · have hd : (0 : Int) < m := by omega
        go_wp2_with fail
        go_ret
        exact ⟨ret_bool (by rw [HF.out, decide_eq_true h0, Bool.true_and, Bool.eq_iff_iff]; try simp), by first | exact hbw | (rw [hB]; exact hbw)⟩
      · have hd : ¬ (0 : Int) < m := by omega
        go_wp2_with fail
        go_ret
        exact ⟨ret_bool (by rw [HF.out, decide_eq_false h0]; rfl), by first | exact hbw | (rw [hB]; exact hbw)⟩

set_option maxHeartbeats 4000000 in
theorem l17Splitter_any (g : Value) (n : Nat) (e : Nat → Nat → Bool) (hn : n ≤ 16) (v1 v2 : Value) (p o : Nat → Bool) (w : World) (hr : RdSS g (rowsB n e) w) (hp : RdS v1 (rowB n p) w) (hs : RdS v2 (rowB n o) w) :
    Calls Tryd.prog 119 #[.agg #[g], v1, v2] w fun r w' => ∃ x : Int, r = .returned (.int .i64 x) ∧ Hid ((x = -1 ∧ ∀ b, b < n → p b = true → o b = false → splB n e o b = false) ∨ ∃ b : Nat, x = b ∧ b < n ∧ o b = false ∧ splB n e o b = true) ∧ Below w.heap.size w w' := by
  obtain ⟨a, c, rfl⟩ := hr.shape
  obtain ⟨a1, c1, rfl, -, -, -⟩ := id hp
  obtain ⟨a2, c2, rfl, -, -, -⟩ := id hs
  rw [rowsB_length] at hr ⊢
  have hpl := rowB_length n p
  have hol := rowB_length n o
  obtain ⟨B, hB⟩ : ∃ B, w.heap.size = B := ⟨_, rfl⟩
  have u1 : Below B w (w.alloc (.cells #[.slice a n c] 28)) := by subst hB; exact below_alloc' _ _
  have VG0 : VC 28 B #[.slice a n c] (w.alloc (.cells #[.slice a n c] 28)) := VC.new hB
  have hz0 : (w.alloc (.cells #[.slice a n c] 28)).heap.size = B + 1 := by simp [hB]
  go_enter Tryd.func119, Tryd.ntmps119
  go_wp2_with fail
  generalize w.alloc (.cells #[.slice a n c] 28) = W at *
  have hbW : Below (B + 1) W W := Below.refl _ _
  go_loopw [7] (fun i wr => ∃ (j : Nat), j ≤ (rowB n p).length ∧ i = .int .i64 j ∧ Hid (∀ x ∈ (rowB n p).take j, ∀ b : Nat, x = b → o b = false → splB n e o b = false) ∧ Below (B + 1) W wr) (fun i _ => (rowB n p).length - (intOf i).toNat)
  case atStart => exact ⟨0, Nat.zero_le _, rfl, Lib.hid fun x hx => by simp at hx, hbW⟩
  case round =>
    clear hbW
    obtain ⟨j, hj, rfl, HM, hb⟩ := hrel
    have hsz := hb.size
    have hbw := u1.trans (hb.mono (by omega))
    by_cases hlt : j < (rowB n p).length
    · have VGr := VG0.belowAt hb (by omega)
      have hcg := VGr.cell
      obtain ⟨yb, yo, y, rfl, hcy, HY⟩ := Row.intAt (RdS.below hp hbw hB) hlt
      obtain ⟨q, hq, hpq, rfl⟩ := row_at HY.out
      have hsr := RdS.below hs hbw hB
      have HH := Lib.hid (has_any (.slice a2 (rowB n o).length c2) (rowB n o) q wr.drew (Row.below hsr (below_drewN' wr 1)))
      rw [contains_rowB, decide_eq_true hq, Bool.true_and] at HH
      have HSP := Lib.hid (l17Splits_any (.slice a n c) n e hn (.slice a2 (rowB n o).length c2) o q hq q rfl wr.drew ((hr.below hbw hB).below (below_drewN' wr 1) rfl) (Row.below hsr (below_drewN' wr 1)))
      obtain ⟨b1, HB1⟩ : ∃ b, Hid (o q = b) := ⟨_, Lib.hid rfl⟩
      obtain ⟨b2, HB2⟩ : ∃ b, Hid (splB n e o q = b) := ⟨_, Lib.hid rfl⟩
      rw [HB1.out] at HH
      rw [HB2.out] at HSP
      have hstep : (o q = false → splB n e o q = false) → ∀ x ∈ (rowB n p).take (j + 1), ∀ b : Nat, x = b → o b = false → splB n e o b = false := fun h0 x hx b hxb hob => by
        rw [take_snoc HY.out, List.mem_append] at hx
        rcases hx with hx | hx
        · exact HM.out x hx b hxb hob
        · rw [List.mem_singleton] at hx
          obtain rfl : b = q := by omega
          exact h0 hob
      have HST := Lib.hid hstep
      clear hstep hsr
      go_wp2_with fail
      refine wp_region_take [0, 1, 2, 3] [4] 14 11 #[true, true, true, true, true, false, false, false, false, false, false, false, false, false, false, false] (by kernel_rfl) (by kernel_rfl) (by kernel_rfl) (by kernel_rfl) (fun _ _ d _ _ h => by cases d <;> exact h) ?_
      simp only [pickOps, List.filterMap_cons, List.filterMap_nil, List.getElem?_cons_succ, List.getElem?_cons_zero]
      repeat quiet_step (fail)
      simp only [wpQuiet_nil_eq]
      refine wpAnyG_1 5 (by kernel_rfl) rfl ?_
      unfold wpNext
      go_wp2_with fail
      refine HH.out.mono ?_
      rintro e1 w' ⟨rfl, rfl⟩
      cases b1 with
      | true =>
        go_wp2_with fail
        refine ⟨fun _ => over_of_below (Below.refl _ _).drew, ?_⟩
        refine wpAnyG_mid [6, 7, 9, 10, 11, 12] 4 #[true, true, true, true, true, true, true, true, false, true, true, true, true, false, false, false] rfl (by kernel_rfl) (by kernel_rfl) (by kernel_rfl) (fun _ _ d _ _ h => by cases d <;> exact h) (fun _ => over_of_below (Below.refl _ _).drew) ?_
        simp only [pickOps, List.filterMap_cons, List.filterMap_nil, List.getElem?_cons_succ, List.getElem?_cons_zero]
        repeat quiet_step (fail)
        try simp only [wpQuiet_nil_eq]
        refine wpAnyG_midC [8, 13] 2 #[true, true, true, true, true, true, true, true, true, true, true, true, true, true, false, false] rfl (by kernel_rfl) (by kernel_rfl) (by kernel_rfl) (fun _ _ d _ _ h => by cases d <;> exact h) (fun _ => over_of_below (Below.refl _ _).drew) ?_
        simp only [pickOps, List.filterMap_cons, List.filterMap_nil, List.getElem?_cons_succ, List.getElem?_cons_zero]
        repeat quiet_step (fail)
        try simp only [wpQuiet_nil_eq]
        refine wpAnyG_1 14 (by kernel_rfl) rfl ?_
        unfold wpNext
        go_wp2_with fail
        refine ⟨fun h => by simp at h, ?_⟩
        refine wpAnyG_tail [15] rfl (.inl (by kernel_rfl)) (by kernel_rfl) ?_
        simp only [pickOps, List.filterMap_cons, List.filterMap_nil, List.getElem?_cons_succ, List.getElem?_cons_zero]
        have hbd : Below (B + 1) W wr.drew := hb.drew
        clear hcg hcy hb hbw
        go_wp2_with fail
        go_roundw
        case rel => exact ⟨j + 1, by omega, by go_num, Lib.hid (HST.out fun h => by rw [HB1.out] at h; cases h), hbd⟩
        case measure => simp [intOf]; omega
      | false =>
        go_wp2_with fail
        refine ⟨fun _ => over_of_below (Below.refl _ _).drew, ?_⟩
        refine wpAnyG_mid [6, 7, 9, 10, 11, 12] 4 #[true, true, true, true, true, true, true, true, false, true, true, true, true, false, false, false] rfl (by kernel_rfl) (by kernel_rfl) (by kernel_rfl) (fun _ _ d _ _ h => by cases d <;> exact h) (fun _ => over_of_below (Below.refl _ _).drew) ?_
        simp only [pickOps, List.filterMap_cons, List.filterMap_nil, List.getElem?_cons_succ, List.getElem?_cons_zero]
        repeat quiet_step (fail)
        try simp only [wpQuiet_nil_eq]
        refine wpAnyG_midC [8, 13] 2 #[true, true, true, true, true, true, true, true, true, true, true, true, true, true, false, false] rfl (by kernel_rfl) (by kernel_rfl) (by kernel_rfl) (fun _ _ d _ _ h => by cases d <;> exact h) (fun _ => over_of_below (Below.refl _ _).drew) ?_
        simp only [pickOps, List.filterMap_cons, List.filterMap_nil, List.getElem?_cons_succ, List.getElem?_cons_zero]
        repeat quiet_step (fail)
        try simp only [wpQuiet_nil_eq]
        refine wpAnyG_1 14 (by kernel_rfl) rfl ?_
        unfold wpNext
        go_wp2_with fail
        refine HSP.out.mono ?_
        rintro e1 w5 ⟨rfl, hb5⟩
        have hb5' : Below (B + 1) W w5 := hb.trans ((below_drew hb5).mono (by omega))
        have hcy5 : w5.cell? ⟨yb, yo + j, none⟩ = some (.int .i64 q) := by
          obtain ⟨b, o', z, h3, h4, h5⟩ := Row.intAt (RdS.below hp (u1.trans (hb5'.mono (by omega))) hB) hlt
          obtain ⟨rfl, rfl⟩ : yb = b ∧ yo = o' := by simpa using h3
          rw [h4]
          have := h5.out
          rw [HY.out] at this
          rw [Option.some.inj this]
        clear hcg hcy hb hbw hb5 HSP
        cases b2 with
        | true =>
          go_wp2_with fail
          refine ⟨fun h => by simp at h, ?_⟩
          refine wpAnyG_tail [15] rfl (.inl (by kernel_rfl)) (by kernel_rfl) ?_
          simp only [pickOps, List.filterMap_cons, List.filterMap_nil, List.getElem?_cons_succ, List.getElem?_cons_zero]
          go_wp2_with fail
          go_ret
          exact ⟨_, rfl, Lib.hid (.inr ⟨q, rfl, hq, HB1.out, HB2.out⟩), by rw [hB]; exact u1.trans (hb5'.mono (by omega))⟩
        | false =>
          go_wp2_with fail
          refine ⟨fun h => by simp at h, ?_⟩
          refine wpAnyG_tail [15] rfl (.inl (by kernel_rfl)) (by kernel_rfl) ?_
          simp only [pickOps, List.filterMap_cons, List.filterMap_nil, List.getElem?_cons_succ, List.getElem?_cons_zero]
          clear hcy5
          go_wp2_with fail
          go_roundw
          case rel => exact ⟨j + 1, by omega, by go_num, Lib.hid (HST.out fun _ => HB2.out), hb5'⟩
          case measure => simp [intOf]; omega
    · obtain rfl : j = (rowB n p).length := by omega
      go_wp2_with fail
      go_ret
      exact ⟨_, rfl, Lib.hid (.inl ⟨rfl, fun b hb hpb hob => HM.out (b : Int) (by rw [List.take_length]; exact nat_mem_rowB.2 ⟨hb, hpb⟩) b rfl hob⟩), by rw [hB]; exact hbw⟩

set_option maxHeartbeats 2000000 in
theorem l17Closure_any (g : Value) (n : Nat) (e : Nat → Nat → Bool) (hn : n ≤ 16) (v1 v2 : Value) (p : Nat → Bool) (w : World) (hr : RdSS g (rowsB n e) w) (h1 : RdS v1 (rowB n (allB n)) w) (h2 : RdS v2 (rowB n p) w) :
    Calls Tryd.prog 84 #[.agg #[g], v1, v2] w (SRes w (rowB n (cloB n e p))) := by
  obtain ⟨a, c, rfl⟩ := hr.shape
  obtain ⟨a1, c1, rfl, -, -, -⟩ := id h1
  obtain ⟨a2, c2, rfl, -, -, -⟩ := id h2
  rw [rowsB_length] at hr ⊢
  have hpl := rowB_length n p
  obtain ⟨B, hB⟩ : ∃ B, w.heap.size = B := ⟨_, rfl⟩
  have u1 : Below B w (w.alloc (.cells #[.slice a n c] 28)) := by subst hB; exact below_alloc' _ _
  have VG0 : VC 28 B #[.slice a n c] (w.alloc (.cells #[.slice a n c] 28)) := VC.new hB
  have hz0 : (w.alloc (.cells #[.slice a n c] 28)).heap.size = B + 1 := by simp [hB]
  go_enter Tryd.func84, Tryd.ntmps84
  go_wp2_with fail
  generalize w.alloc (.cells #[.slice a n c] 28) = W at *
  refine (copy_any _ (rowB n p) W (RdS.below h2 u1 hB) (by omega)).mono ?_
  rintro e1 w1 ⟨uc, rfl, ho1, hb1⟩
  obtain ⟨ua, ucc, rfl⟩ := owns_shape ho1
  have hb1' : Below (B + 1) W w1 := hb1.mono (by omega)
  have ho1' := owns_base ho1 (show B + 1 ≤ W.heap.size by omega)
  clear hb1 ho1
  go_wp2_with fail
  go_loopw [7] (fun u wr => ∃ (os : List Int) (o : Nat → Bool), os.length ≤ n ∧ Hid (os = rowB n o) ∧ Hid (CloI n e p o) ∧ wr.ownsRow (B + 1) 2 1 u os.length (ints os) ∧ Below (B + 1) W wr) (fun u _ => n - slLen u)
  case atStart => exact ⟨rowB n p, p, hpl, Lib.hid rfl, Lib.hid CloI.start, ho1', hb1'⟩
  case round =>
    clear ho1' hb1'
    obtain ⟨os, o, hol, HOS, HI, ho, hb⟩ := hrel
    have hsz := hb.size
    have hbw := u1.trans (hb.mono (by omega))
    have hcg := (VG0.belowAt hb (by omega)).cell
    obtain ⟨va, vc, rfl⟩ := owns_shape ho
    have HSP := Lib.hid (l17Splitter_any (.slice a n c) n e hn (.slice a1 (rowB n (allB n)).length c1) (.slice va os.length vc) (allB n) o wr (hr.below hbw hB) (RdS.below h1 hbw hB) (by rw [← HOS.out]; exact Row.of_owns ho))
    go_wp2_with fail
    refine HSP.out.mono ?_
    rintro e1 w2 ⟨x, rfl, HX, hb2⟩
    have hb02 := hb.trans (hb2.mono (by omega))
    have ho2 := owns_below ho hb2
    have hz2 := hb2.size
    clear HSP hb2 hcg hb ho hbw
    by_cases hx : x < 0
    · have HF : Hid (os = rowB n (cloB n e p)) := Lib.hid (by
        rw [HOS.out]
        refine rowB_ext fun b hb => HI.out.done (fun b hb ho => ?_) b hb
        rcases HX.out with ⟨_, h⟩ | ⟨b', h, _⟩
        · exact h b hb (by simp [allB, hb]) ho
        · omega)
      go_wp2_with fail
      go_ret
      rw [← HF.out]
      exact ⟨_, rfl, by rw [hB]; exact owns_base ho2 (by omega), by rw [hB]; exact u1.trans (hb02.mono (by omega))⟩
    · obtain ⟨q, hxq, hqn, hoq, hsq⟩ : ∃ q : Nat, Hid (x = q) ∧ q < n ∧ o q = false ∧ splB n e o q = true := by
        rcases HX.out with ⟨h, _⟩ | ⟨b, h1, h2, h3, h4⟩
        · omega
        · exact ⟨b, Lib.hid h1, h2, h3, h4⟩
      have HIN := Lib.hid (into_any (.slice va os.length vc) os x w2 (Row.of_owns ho2) (by omega))
      obtain ⟨os2, HO2⟩ : ∃ os2, Hid (into os x = os2) := ⟨_, Lib.hid rfl⟩
      rw [HO2.out] at HIN
      have HE : Hid (os2 = rowB n (fun b => o b || decide (b = q))) := Lib.hid (by rw [← HO2.out, HOS.out, hxq.out, into_rowB (by omega) _ hqn])
      have HL2 : Hid (os2.length = os.length + 1 ∧ os2.length ≤ n) := Lib.hid ⟨by rw [HE.out, HOS.out]; exact rowB_put_length hoq hqn, by rw [HE.out]; exact rowB_length _ _⟩
      have HI2 : Hid (CloI n e p (fun b => o b || decide (b = q))) := Lib.hid (HI.out.add fun b hb => by
        by_cases hbq : b = q
        · subst hbq; simp [hsq]
        · simp [hbq]
          exact fun h1 h2 => h1)
      clear hoq hsq
      go_wp2_with fail
      refine HIN.out.mono ?_
      rintro e1 w3 ⟨u3, rfl, hu3, hb3⟩
      have ho3 : w3.ownsRow (B + 1) 2 1 u3 os2.length (ints os2) := by
        rcases hu3 with ⟨rfl, hos⟩ | ho3
        · rw [hos]; exact owns_below ho2 hb3
        · exact owns_base ho3 (by omega)
      have hb4 := hb02.trans (hb3.mono (by omega))
      obtain ⟨xa, xc, rfl⟩ := owns_shape ho3
      clear hu3 hb3 ho2 hb02 HIN
      go_wp2_with fail
      go_roundw
      case rel => exact ⟨os2, _, HL2.out.2, HE, HI2, ho3, hb4⟩
      case measure => have := HL2.out; simp [slLen]; omega

/-- What 'ClosureOf' gives. -/
def CloP (xss : List (List Int)) (xs rs : List Int) : Prop :=
  ((okB xss && decide (SetP xss.length xs) && decide (xs.length ≠ 0)) = false ∧ rs = []) ∨ ∃ e p, Adj xss.length e ∧ xss = rowsB xss.length e ∧ (okB xss && decide (SetP xss.length xs) && decide (xs.length ≠ 0)) = true ∧ xs = rowB xss.length p ∧ rs = rowB xss.length (cloB xss.length e p)
theorem CloP.no {xss : List (List Int)} {xs rs : List Int} (h : CloP xss xs rs) (hn : (okB xss && decide (SetP xss.length xs) && decide (xs.length ≠ 0)) = false) : rs = [] := by
  rcases h with ⟨_, h⟩ | ⟨_, _, _, _, h, _⟩
  · exact h
  · rw [hn] at h; cases h
theorem CloP.yes {xss : List (List Int)} {xs rs : List Int} (h : CloP xss xs rs) (hn : (okB xss && decide (SetP xss.length xs) && decide (xs.length ≠ 0)) = true) : ∃ e p, Adj xss.length e ∧ xss = rowsB xss.length e ∧ xs = rowB xss.length p ∧ rs = rowB xss.length (cloB xss.length e p) := by
  rcases h with ⟨h, _⟩ | ⟨e, p, h1, h2, _, h3, h4⟩
  · rw [hn] at h; cases h
  · exact ⟨e, p, h1, h2, h3, h4⟩

set_option maxHeartbeats 1000000 in
theorem implClosure (g : Value) (xss : List (List Int)) (v2 : Value) (xs : List Int) (w : World) (ht : Tab w) (hr : RdSS g xss w) (hs : RdS v2 xs w) (rs : List Int) (h : CloP xss xs rs) :
    Calls Tryd.prog 37 #[.agg #[g], v2] w (SRes w rs) := by
  obtain ⟨a, c, rfl⟩ := hr.shape
  obtain ⟨a2, c2, rfl, -, -, -⟩ := id hs
  obtain ⟨B, hB⟩ : ∃ B, w.heap.size = B := ⟨_, rfl⟩
  have hTB : 0 < B := by rw [← hB]; exact ht.lt
  have u1 : Below B w (w.alloc (.cells #[.slice a xss.length c] 28)) := by subst hB; exact below_alloc' _ _
  have VG0 : VC 28 B #[.slice a xss.length c] (w.alloc (.cells #[.slice a xss.length c] 28)) := VC.new hB
  have hz0 : (w.alloc (.cells #[.slice a xss.length c] 28)).heap.size = B + 1 := by simp [hB]
  have H := Lib.hid h
  have hcg := VG0.cell
  clear h
  go_enter Tryd.func37, Tryd.ntmps37
  go_wp2_with fail
  generalize w.alloc (.cells #[.slice a xss.length c] 28) = W at *
  refine (implSetOk _ xss _ xs W (hr.below u1 hB) (RdS.below hs u1 hB)).mono ?_
  rintro e1 w1 ⟨rfl, hb1⟩
  have VG1 := VG0.upd (Upd.of_below hb1) (by omega)
  have hb := u1.trans (hb1.mono (by omega))
  have hz1 : B + 1 ≤ w1.heap.size := by have := hb1.size; omega
  clear hb1 hcg u1
  have hcg := VG1.cell
  cases hok : okB xss && decide (SetP xss.length xs) with
  | false =>
    obtain rfl : rs = [] := H.out.no (by rw [hok]; rfl)
    clear hok
    go_wp2_with fail
    go_ret
    exact ⟨_, rfl, World.ownsRow_nil _ _ _ 1, by rw [hB]; exact hb⟩
  | true =>
    by_cases h0 : xs.length = 0
    · have hd : ((xs.length : Int) == 0) = true := by rw [beq_iff_eq]; omega
      obtain rfl : rs = [] := H.out.no (by rw [hok]; simp [h0])
      clear hok h0
      go_wp2_with fail
      go_ret
      exact ⟨_, rfl, World.ownsRow_nil _ _ _ 1, by rw [hB]; exact hb⟩
    have hd : ((xs.length : Int) == 0) = false := by rw [beq_eq_false_iff_ne]; omega
    obtain ⟨e, p, hA, hx, hp, hrs⟩ := H.out.yes (by rw [hok, Bool.true_and]; simpa using h0)
    have hn16 := hA.le
    have HRS := Lib.hid hrs
    have hset : SetP xss.length xs := by rw [Bool.and_eq_true, decide_eq_true_eq] at hok; exact hok.2
    have hr' := hr.below hb hB
    rw [hx, rowsB_length] at hr'
    have HN := Lib.hid (netsOf_any _ xss.length e hn16 w1 hr')
    obtain ⟨y, HY⟩ : ∃ z : Int, Hid (z = (maskB xss.length p : Nat)) := ⟨_, Lib.hid rfl⟩
    have HMK := fun W hw => Lib.hid (maskOf_any (.slice a2 xs.length c2) xs xss.length hn16 hset W hw)
    rw [show maskB xss.length (inL xs) = maskB xss.length p by rw [hp, mask_row], ← HY.out] at HMK
    clear hok hx hrs hr' H hA hp hset h0
    go_wp2_with fail
    refine HN.out.mono ?_
    rintro e1 w2 ⟨u2, rfl, hN2, hb2⟩
    obtain ⟨na, nc, rfl⟩ := owns_shape hN2
    have hNr := Row.of_owns hN2
    have hb02 := hb.trans (hb2.mono (by omega))
    have HT2 := Lib.hid (ht.keep hb02 hTB)
    have hz2 := hb2.size
    obtain ⟨z, HZ⟩ : ∃ z : Int, Hid (z = (maskB xss.length (allB xss.length) : Nat)) := ⟨_, Lib.hid rfl⟩
    have HAL := Lib.hid (all_netsAt (.slice na xss.length nc) xss.length hn16 z (by rw [HZ.out, mask_allB]) ⟨_, _, rfl⟩ w2)
    have HM2 := HMK w2 (RdS.below hs hb02 hB)
    have HCL := Lib.hid (closureOf_any (.slice na xss.length nc) xss.length e hn16 p z y HZ.out HY.out w2 HT2.out hNr)
    clear hN2 HN hb2 hcg HMK
    go_wp2_with fail
    refine HAL.out.mono ?_
    rintro e1 w' ⟨rfl, rfl⟩
    go_wp2_with fail
    refine HM2.out.mono ?_
    rintro e1 w' ⟨rfl, rfl⟩
    go_wp2_with fail
    refine HCL.out.mono ?_
    rintro e1 w3 ⟨rfl, hb3⟩
    have hb03 := hb02.trans (hb3.mono (by omega))
    have hz3 := hb3.size
    obtain ⟨q, HQ⟩ : ∃ z : Int, Hid (z = (maskB xss.length (cloB xss.length e p) : Nat)) := ⟨_, Lib.hid rfl⟩
    have HNU := Lib.hid (numbersB_any (by omega) _ q HQ.out w3 (HT2.out.below hb3))
    rw [← HRS.out] at HNU
    rw [← HQ.out]
    clear HCL hb3
    go_wp2_with fail
    refine HNU.out.mono ?_
    rintro e1 w4 ⟨u4, rfl, hL4, hb4⟩
    have hbf := hb03.trans (hb4.mono (by omega))
    have HL := Lib.hid (owns_base hL4 (show B ≤ w3.heap.size by omega))
    obtain ⟨la, lc, rfl⟩ := owns_shape hL4
    clear hb4 hL4 HNU
    go_wp2_with fail
    go_ret
    exact ⟨_, rfl, by rw [hB]; exact HL.out, by rw [hB]; exact hbf⟩

set_option maxHeartbeats 1000000 in
theorem specClosure (g : Value) (xss : List (List Int)) (v2 : Value) (xs : List Int) (w : World) (hr : RdSS g xss w) (hs : RdS v2 xs w) (rs : List Int) (h : CloP xss xs rs) :
    Calls Tryd.prog 36 #[.agg #[g], v2] w (SRes w rs) := by
  obtain ⟨a, c, rfl⟩ := hr.shape
  obtain ⟨a2, c2, rfl, -, -, -⟩ := id hs
  obtain ⟨B, hB⟩ : ∃ B, w.heap.size = B := ⟨_, rfl⟩
  have u1 : Below B w (w.alloc (.cells #[.slice a xss.length c] 28)) := by subst hB; exact below_alloc' _ _
  have VG0 : VC 28 B #[.slice a xss.length c] (w.alloc (.cells #[.slice a xss.length c] 28)) := VC.new hB
  have hz0 : (w.alloc (.cells #[.slice a xss.length c] 28)).heap.size = B + 1 := by simp [hB]
  have H := Lib.hid h
  have hcg := VG0.cell
  clear h
  go_enter Tryd.func36, Tryd.ntmps36
  go_wp2_with fail
  generalize w.alloc (.cells #[.slice a xss.length c] 28) = W at *
  refine (specOk _ xss W (hr.below u1 hB)).mono ?_
  rintro e1 w1 ⟨rfl, hb1⟩
  have VG1 := VG0.upd (Upd.of_below hb1) (by omega)
  have hb := u1.trans (hb1.mono (by omega))
  have hz1 : B + 1 ≤ w1.heap.size := by have := hb1.size; omega
  clear hb1 hcg u1
  have hcg := VG1.cell
  cases hokx : okB xss with
  | false =>
    obtain rfl : rs = [] := H.out.no (by rw [hokx]; rfl)
    have ho0 := World.ownsRow_lit (base := B) (e := 2) (size := 1) w1 #[] 0 (by omega) (by simp [maxLen]) rfl
    clear hokx
    go_wp2_with fail
    go_ret
    exact ⟨_, rfl, by rw [hB]; simpa [ints] using ho0, by rw [hB]; exact hb.alloc (by omega) _⟩
  | true =>
    have HK := Lib.hid hokx
    clear hokx
    have HSK := Lib.hid (specSetOk (.slice a xss.length c) xss (.slice a2 xs.length c2) xs w1 (hr.below hb hB) (RdS.below hs hb hB))
    go_wp2_with fail
    refine HSK.out.mono ?_
    rintro e1 w2 ⟨rfl, hb2⟩
    replace hb := hb.trans (hb2.mono (by omega))
    have VG2 := VG1.upd (Upd.of_below hb2) (by omega)
    have hz2 := hb2.size
    clear hb2 hcg HSK
    have hcg := VG2.cell
    cases hok : okB xss && decide (SetP xss.length xs) with
    | false =>
      obtain rfl : rs = [] := H.out.no (by rw [hok]; rfl)
      have ho0 := World.ownsRow_lit (base := B) (e := 2) (size := 1) w2 #[] 0 (by omega) (by simp [maxLen]) rfl
      clear hok
      go_wp2_with fail
      go_ret
      exact ⟨_, rfl, by rw [hB]; simpa [ints] using ho0, by rw [hB]; exact hb.alloc (by omega) _⟩
    | true =>
      by_cases h0 : xs.length = 0
      · have hd : ((xs.length : Int) == 0) = true := by rw [beq_iff_eq]; omega
        obtain rfl : rs = [] := H.out.no (by rw [hok]; simp [h0])
        have ho0 := World.ownsRow_lit (base := B) (e := 2) (size := 1) w2 #[] 0 (by omega) (by simp [maxLen]) rfl
        clear hok h0
        go_wp2_with fail
        go_ret
        exact ⟨_, rfl, by rw [hB]; simpa [ints] using ho0, by rw [hB]; exact hb.alloc (by omega) _⟩
      have hd : ((xs.length : Int) == 0) = false := by rw [beq_eq_false_iff_ne]; omega
      obtain ⟨e, p, hA, hx, hp, hrs⟩ := H.out.yes (by rw [hok, Bool.true_and]; simpa using h0)
      have hn16 := hA.le
      have HRS := Lib.hid hrs
      have HGR : Hid (∀ W', Below B w W' → RdSS (.slice a xss.length c) (rowsB xss.length e) W') := Lib.hid fun W' hb' => by
        have := hr.below hb' hB
        rwa [hx, rowsB_length] at this
      have HXS : Hid (∀ W', Below B w W' → RdS (.slice a2 xs.length c2) (rowB xss.length p) W') := Lib.hid fun W' hb' => by rw [← hp]; exact RdS.below hs hb' hB
      have HXL := Lib.hid (show (rowsB xss.length e).length = xss.length by simp)
      have HAL := Lib.hid (l16All_any (.slice a xss.length c) (rowsB xss.length e) (by simp; omega) w2.drew (HGR.out _ hb.drew))
      rw [HXL.out] at HAL
      clear hok hx hrs H hA hp h0
      go_wp2_with fail
      refine wp_region_ord [3] [0, 1] [2] [4, 5] (by kernel_rfl) (by kernel_rfl) (fun _ _ d _ _ h => by cases d <;> exact h) ?_
      simp only [pickOps, List.filterMap_cons, List.filterMap_nil, List.getElem?_cons_succ, List.getElem?_cons_zero]
      repeat quiet_step (fail)
      simp only [wpQuiet_nil_eq]
      refine wpSegs_cons ?_
      go_wp2_with fail
      refine HAL.out.mono ?_
      rintro e1 w3 ⟨ul, rfl, hL, hb3⟩
      obtain ⟨la, lc, rfl⟩ := owns_shape hL
      have HB3 := Lib.hid (below_drew hb3)
      have hbw3 := hb.trans (HB3.out.mono (by omega))
      have hz3 : B ≤ w3.heap.size := by have := HB3.out.size; omega
      have HCL := Lib.hid (l17Closure_any (.slice a xss.length c) xss.length e hn16 (.slice la (rowB xss.length (allB xss.length)).length lc) (.slice a2 xs.length c2) p w3 (HGR.out _ hbw3) (Row.of_owns hL) (HXS.out _ hbw3))
      rw [← HRS.out] at HCL
      clear hL hb3 HAL hcg
      go_wp2_with fail
      refine ⟨HB3.out, ?_⟩
      simp only [wpSegs_nil_eq]
      go_wp2_with fail
      refine HCL.out.mono ?_
      rintro e1 w4 ⟨u4, rfl, hL, hb4⟩
      obtain ⟨ka, kc, rfl⟩ := owns_shape hL
      have HL := Lib.hid (owns_base hL hz3)
      have hbf := hbw3.trans (hb4.mono hz3)
      clear hL hb4 HCL
      go_wp2_with fail
      go_ret
      exact ⟨_, rfl, by rw [hB]; exact HL.out, by rw [hB]; exact hbf⟩

theorem both_ClosureOf (xss : List (List Int)) (xs : List Int) : ∃ rs : List Int, 1 + rs.length ≤ 1000000000 ∧
    (∀ (w : World) (g v2 : Value), Tab w → RdSS g xss w → RdS v2 xs w → Calls Tryd.prog 36 #[.agg #[g], v2] w (SRes w rs)) ∧
    (∀ (w : World) (g v2 : Value), Tab w → RdSS g xss w → RdS v2 xs w → Calls Tryd.prog 37 #[.agg #[g], v2] w (SRes w rs)) := by
  have key : ∃ rs : List Int, 1 + rs.length ≤ 1000000000 ∧ CloP xss xs rs := by
    cases hok : okB xss && decide (SetP xss.length xs) && decide (xs.length ≠ 0) with
    | false => exact ⟨[], by simp, .inl ⟨hok, rfl⟩⟩
    | true =>
      have h1 := hok
      simp only [Bool.and_eq_true, decide_eq_true_eq] at h1
      obtain ⟨e, hA, hx⟩ := (okB_iff xss).1 h1.1.1
      have hn := hA.le
      have hl := rowB_length xss.length (cloB xss.length e (inL xs))
      exact ⟨_, by omega, .inr ⟨e, inL xs, hA, hx, hok, h1.1.2.eq, rfl⟩⟩
  obtain ⟨rs, hl, hP⟩ := key
  exact ⟨rs, hl, fun w g v2 _ hr hs => specClosure g xss v2 xs w hr hs rs hP, fun w g v2 ht hr hs => implClosure g xss v2 xs w ht hr hs rs hP⟩
end Go.Proofs.YtcjbobponlpkaaaDoor
