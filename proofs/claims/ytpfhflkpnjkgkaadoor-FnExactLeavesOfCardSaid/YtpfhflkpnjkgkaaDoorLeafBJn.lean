import Derived.Test.YtpfhflkpnjkgkaaDoorLeafTJn
/-
  'LeavesOf' of both.
-/

namespace Go.Proofs.YtpfhflkpnjkgkaaDoor
open Go.RowKit

/-- What 'LeavesOf' gives. -/
noncomputable def leavesN (L : List PartD) (x : Int) : List Int := if okLB L = true ∧ 0 ≤ x ∧ x ≤ (L.length : Int) - 1 then nums (msk L x.toNat) else []
theorem leavesN_yes {L : List PartD} {x : Int} (h1 : okLB L = true) (h2 : 0 ≤ x ∧ x ≤ (L.length : Int) - 1) : leavesN L x = nums (msk L x.toNat) := if_pos ⟨h1, h2⟩
theorem leavesN_no {L : List PartD} {x : Int} (h : ¬ (okLB L = true ∧ 0 ≤ x ∧ x ≤ (L.length : Int) - 1)) : leavesN L x = [] := if_neg h
theorem leavesN_len (L : List PartD) (x : Int) : (leavesN L x).length ≤ 32 := by
  unfold leavesN
  split
  · exact nums_length _
  · simp

set_option maxHeartbeats 1000000 in
theorem specLeavesOf (L : List PartD) (v : Value) (x : Int) (w : World) (hr : RdP v L w) :
    Calls Tryd.prog 6 #[v, .int .i64 x] w (SRes w (leavesN L x)) := by
  have hlen := hr.len
  unfold maxLen at hlen
  obtain ⟨a, c, rfl, -⟩ := hr.outer
  obtain ⟨B, hB⟩ : ∃ B, w.heap.size = B := ⟨_, rfl⟩
  obtain ⟨b, hb0⟩ : ∃ b, okLB L = b := ⟨_, rfl⟩
  have HPO := Lib.hid (specPartsOk L (.slice a L.length c) b hb0 w hr)
  have HB0 := Lib.hid hb0
  obtain ⟨bi, hbi⟩ : ∃ b, decide (0 ≤ x ∧ x ≤ (L.length : Int) - 1) = b := ⟨_, rfl⟩
  have HI := fun W => Lib.hid (l1In_is x 0 ((L.length : Int) - 1) bi hbi W)
  have HBI := Lib.hid hbi
  have HR := Lib.hid hr
  clear hr hb0 hbi
  go_enter Tryd.func6, Tryd.ntmps6
  go_wp2_with fail
  refine HPO.out.mono ?_
  rintro e1 w1 ⟨rfl, hb1⟩
  rw [hB] at hb1
  have hs1 : B ≤ w1.heap.size := by rw [← hB]; exact hB ▸ hb1.size
  have ho0 := World.ownsRow_lit (base := B) (e := 2) (size := 1) w1 #[] 0 hs1 (by simp [maxLen]) rfl
  have HO0 := Lib.hid (show (w1.alloc (.cells #[] 2)).ownsRow B 2 1 (.slice (some ⟨w1.heap.size, 0, none⟩) 0 0) ([] : List Int).length (ints []) from ho0)
  have HB1 := Lib.hid (hb1.alloc hs1 (.cells #[] 2))
  have HBW := Lib.hid hb1
  clear ho0 hb1 HPO
  cases b with
  | false =>
    have HN : Hid (leavesN L x = []) := Lib.hid (leavesN_no fun h => by rw [HB0.out] at h; cases h.1)
    go_wp2_with fail
    go_ret
    exact ⟨_, rfl, by rw [hB, HN.out]; exact HO0.out, by rw [hB]; exact HB1.out⟩
  | true =>
    go_wp2_with fail
    refine (HI _).out.mono ?_
    rintro e1 w2 ⟨rfl, rfl⟩
    cases bi with
    | false =>
      have HN : Hid (leavesN L x = []) := Lib.hid (leavesN_no fun h => by have h1 := HBI.out; rw [decide_eq_false_iff_not] at h1; exact h1 h.2)
      go_wp2_with fail
      go_ret
      exact ⟨_, rfl, by rw [hB, HN.out]; exact HO0.out, by rw [hB]; exact HB1.out⟩
    | true =>
      have hin := HBI.out
      rw [decide_eq_true_eq] at hin
      have hok := okLB_iff.1 HB0.out
      obtain ⟨r, rfl⟩ : ∃ r : Nat, x = (r : Int) := ⟨x.toNat, by omega⟩
      have HN : Hid (leavesN L (r : Int) = nums (msk L r)) := Lib.hid (by rw [leavesN_yes HB0.out hin, Int.toNat_natCast])
      have HH := Lib.hid (leafHas_any L L.length _ hok.1 (.slice a L.length c) r (by omega) w1 (HR.out.below HBW.out hB))
      clear hin hok
      go_wp2_with fail
      refine HH.out.mono ?_
      rintro e1 w3 ⟨u, rfl, hu, hb3⟩
      have HU := Lib.hid (owns_base hu hs1)
      have HB3 := Lib.hid (HBW.out.trans (hb3.mono hs1))
      clear hu hb3
      go_wp2_with fail
      go_ret
      exact ⟨_, rfl, by rw [hB, HN.out]; exact HU.out, by rw [hB]; exact HB3.out⟩

set_option maxHeartbeats 1000000 in
theorem implLeavesOf (L : List PartD) (v : Value) (x : Int) (hL : L.length ≤ 1048576) (w : World) (ht : Tab w) (hr : RdP v L w) :
    Calls Tryd.prog 8 #[v, .int .i64 x] w (SRes w (leavesN L x)) := by
  have hlen := hr.len
  unfold maxLen at hlen
  obtain ⟨a, c, rfl, -⟩ := hr.outer
  obtain ⟨B, hB⟩ : ∃ B, w.heap.size = B := ⟨_, rfl⟩
  have hTB : 0 < B := by rw [← hB]; exact ht.lt
  obtain ⟨b, hb0⟩ : ∃ b, okLB L = b := ⟨_, rfl⟩
  have HST := Lib.hid (subtree_any L (.slice a L.length c) b hb0 hL w ht hr)
  have HB0 := Lib.hid hb0
  obtain ⟨bi, hbi⟩ : ∃ b, decide (0 ≤ x ∧ x ≤ (L.length : Int) - 1) = b := ⟨_, rfl⟩
  have HI := fun W => Lib.hid (inRange_is x 0 ((L.length : Int) - 1) bi hbi W)
  have HBI := Lib.hid hbi
  clear hr hb0 hbi
  go_enter Tryd.func8, Tryd.ntmps8
  go_wp2_with fail
  refine HST.out.mono ?_
  rintro e1 w1 ⟨u, rfl, hu, hb1⟩
  rw [hB] at hb1 hu
  have hs1 : B ≤ w1.heap.size := by rw [← hB]; exact hB ▸ hb1.size
  have HU := Lib.hid hu
  clear HST hu
  cases b with
  | false =>
    have HN : Hid (leavesN L x = []) := Lib.hid (leavesN_no fun h => by rw [HB0.out] at h; cases h.1)
    go_wp2_with fail
    go_ret
    exact ⟨.slice none 0 0, rfl, by rw [HN.out]; exact World.ownsRow_nil _ _ _ 1, by rw [hB]; exact hb1⟩
  | true =>
    have hu := HU.out rfl
    obtain ⟨la, lc, rfl⟩ := owns_shape hu
    have hmlen := maskL_length L L.length
    have HRL : Hid (Row w1 1 (.slice la L.length lc) (maskL L L.length).length (sets (maskL L L.length))) := Lib.hid (by rw [hmlen]; exact Row.of_owns hu)
    have HML := Lib.hid hmlen
    clear hu hmlen
    go_wp2_with fail
    refine (HI _).out.mono ?_
    rintro e1 w2 ⟨rfl, rfl⟩
    cases bi with
    | false =>
      have HN : Hid (leavesN L x = []) := Lib.hid (leavesN_no fun h => by have h1 := HBI.out; rw [decide_eq_false_iff_not] at h1; exact h1 h.2)
      go_wp2_with fail
      go_ret
      exact ⟨.slice none 0 0, rfl, by rw [HN.out]; exact World.ownsRow_nil _ _ _ 1, by rw [hB]; exact hb1⟩
    | true =>
      have hin := HBI.out
      rw [decide_eq_true_eq] at hin
      obtain ⟨r, rfl⟩ : ∃ r : Nat, x = (r : Int) := ⟨x.toNat, by omega⟩
      have hrl : r < L.length := by omega
      obtain ⟨gb, go, m, rfl, hcm, HM⟩ := HRL.out.setAt (j := r) (by rw [HML.out]; exact hrl)
      have hme : m = msk L r := by have h := HM.out; rw [mask_at hrl] at h; exact (Option.some.inj h).symm
      have hm16 : m < 65536 := by rw [hme]; exact msk_lt L r
      have HN : Hid (leavesN L (r : Int) = nums m) := Lib.hid (by rw [leavesN_yes HB0.out hin, Int.toNat_natCast, hme])
      have HNU := Lib.hid (numbers_any m (by omega) w1 (ht.keep hb1 hTB))
      clear hin hme
      go_wp2_with fail
      refine HNU.out.mono ?_
      rintro e1 w3 ⟨u3, rfl, hu3, hb3⟩
      have HU3 := Lib.hid (owns_base hu3 hs1)
      have HB3 := Lib.hid (hb1.trans (hb3.mono hs1))
      clear hu3 hb3
      go_wp2_with fail
      go_ret
      exact ⟨_, rfl, by rw [hB, HN.out]; exact HU3.out, by rw [hB]; exact HB3.out⟩

theorem both_LeavesOf (L : List PartD) (x : Int) : ∃ row : List Int, 1 + row.length ≤ 1000000000 ∧
    (∀ (w : World) (v : Value), Tab w → RdP v L w → Calls Tryd.prog 6 #[v, .int .i64 x] w (SRes w row)) ∧
    (L.length ≤ 1048576 → ∀ (w : World) (v : Value), Tab w → RdP v L w → Calls Tryd.prog 8 #[v, .int .i64 x] w (SRes w row)) :=
  ⟨leavesN L x, by have := leavesN_len L x; omega, fun w v _ h => specLeavesOf L v x w h, fun hL w v ht h => implLeavesOf L v x hL w ht h⟩
end Go.Proofs.YtpfhflkpnjkgkaaDoor
