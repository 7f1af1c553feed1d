import Derived.Test.YtpfhflkpnjkgkaaDoorThinSJn
/-
  'l10Wide', 'l10Table' of the reference; the state of its memory.
-/

namespace Go.Proofs.YtpfhflkpnjkgkaaDoor
open Go.RowKit

set_option maxHeartbeats 1000000 in
theorem l10Wide_any (g : Value) (xss : List (List Int)) (w : World) (hr : RdSS g xss w) :
    Calls Tryd.prog 30 #[.agg #[g]] w fun e w' => e = .returned (.bool (wideB xss)) ∧ Below w.heap.size w w' := by
  obtain ⟨a, c, rfl⟩ := hr.shape
  obtain ⟨B, hB⟩ : ∃ B, w.heap.size = B := ⟨_, rfl⟩
  have u1 : Below B w (w.alloc (.cells #[.slice a xss.length c] 38)) := by subst hB; exact below_alloc' _ _
  have VG0 : VC 38 B #[.slice a xss.length c] (w.alloc (.cells #[.slice a xss.length c] 38)) := VC.new hB
  have hcg := VG0.cell
  have hz0 : (w.alloc (.cells #[.slice a xss.length c] 38)).heap.size = B + 1 := by simp [hB]
  obtain ⟨b, hb0⟩ : ∃ b, okB xss = b := ⟨_, rfl⟩
  obtain ⟨d, hd0⟩ : ∃ d, decide (xss.length ≤ 10) = d := ⟨_, rfl⟩
  have HW : Hid (wideB xss = (b && d)) := Lib.hid (by unfold wideB; rw [hb0, hd0])
  have HOK := Lib.hid (specOk (.slice a xss.length c) xss _ (hr.below u1 hB))
  rw [hb0] at HOK
  go_enter Tryd.func30, Tryd.ntmps30
  go_wp2_with fail
  refine HOK.out.mono ?_
  rintro e1 w1 ⟨rfl, hb1⟩
  have VG1 := VG0.upd (Upd.of_below hb1) (by omega)
  have hb := u1.trans (hb1.mono (by omega))
  have hz1 : B + 1 ≤ w1.heap.size := by have := hb1.size; omega
  clear hb1 hcg u1 HOK
  have hcg := VG1.cell
  cases b with
  | false =>
    go_wp2_with fail
    go_ret
    exact ⟨ret_bool (by rw [HW.out]; rfl), by rw [hB]; exact hb⟩
  | true =>
    go_wp2_with fail
    refine (size_any a xss.length c _).mono ?_
    rintro e1 w2 ⟨rfl, hb2⟩
    have hb' := hb.trans (hb2.mono (by omega))
    clear hb2 hb
    cases d with
    | false =>
      have hd : ¬ ((xss.length : Int) ≤ 10) := by rw [decide_eq_false_iff_not] at hd0; omega
      go_wp2_with fail
      go_ret
      exact ⟨ret_bool (by rw [HW.out]; first | (simp; done) | (simp; omega)), by rw [hB]; exact hb'⟩
    | true =>
      have hd : ((xss.length : Int) ≤ 10) := by rw [decide_eq_true_eq] at hd0; omega
      go_wp2_with fail
      go_ret
      exact ⟨ret_bool (by rw [HW.out]; first | (simp; done) | (simp; omega)), by rw [hB]; exact hb'⟩

/-- The first j entries of a table are -1. -/
def tabJ (N j : Nat) : List Int := List.replicate j (-1) ++ List.replicate (N - j) 0
theorem tabJ_length {N j : Nat} (h : j ≤ N) : (tabJ N j).length = N := by simp [tabJ]; omega
theorem tabJ_set {N j : Nat} (h : j < N) : (tabJ N j).set j (-1) = tabJ N (j + 1) := by
  unfold tabJ
  rw [List.set_append_right _ _ (by simp)]
  obtain ⟨d, hd⟩ : ∃ d, N - j = d + 1 := ⟨N - j - 1, by omega⟩
  rw [hd, show N - (j + 1) = d by omega, List.replicate_succ' (n := j), List.append_assoc]
  simp [List.replicate_succ]
theorem ints_set (xs : List Int) (i : Nat) (x : Int) : ints (xs.set i x) = (ints xs).set i (.int .i64 x) := by simp [ints, List.map_set]
theorem ints_at {xs : List Int} {i : Nat} (h : i < xs.length) : (ints xs)[i]? = some (.int .i64 (xs.getD i 0)) := by simp [ints, List.getD, h]

set_option maxHeartbeats 2000000 in
theorem l10Table_any (a : Option Addr) (n c : Nat) (hn : n ≤ 10) (w : World) :
    Calls Tryd.prog 31 #[.agg #[.slice a n c]] w fun e w' => ∃ kb, e = .returned (.slice (some ⟨kb, 0, none⟩) (2 ^ n) (2 ^ n)) ∧ w'.ownsRow w.heap.size 2 1 (.slice (some ⟨kb, 0, none⟩) (2 ^ n) (2 ^ n)) (2 ^ n) (ints (List.replicate (2 ^ n) (-1))) ∧ Below w.heap.size w w' := by
  obtain ⟨B, hB⟩ : ∃ B, w.heap.size = B := ⟨_, rfl⟩
  obtain ⟨W, hW⟩ : ∃ W, W = w.alloc (.cells #[.slice a n c] 38) := ⟨_, rfl⟩
  have u1 : Below B w W := by rw [hW]; subst hB; exact below_alloc' _ _
  have VG0 : VC 38 B #[.slice a n c] W := by rw [hW]; exact VC.new hB
  have hz0 : W.heap.size = B + 1 := by rw [hW]; simp [hB]
  obtain ⟨N, hN⟩ : ∃ N, 2 ^ n = N := ⟨_, rfl⟩
  have hN16 : N ≤ 1024 := by rw [← hN]; exact Nat.pow_le_pow_right (n := 2) (j := 10) (by decide) hn
  have hV := VG0
  have hcl : Below (B + 1) W W := Below.refl _ _
  have U1 := Lib.hid u1
  clear u1
  go_enter Tryd.func31, Tryd.ntmps31
  go_wp2_with fail
  rw [← hW]
  clear hW
  go_loopw [3, 4] (fun s i wr => ∃ v m : Nat, v ≤ n ∧ i = .int .i64 v ∧ s = .int .i64 m ∧ m ≤ 1024 ∧ Hid (m = 2 ^ v) ∧ Below (B + 1) W wr) (fun _ i _ => n - (intOf i).toNat)
  case atStart => exact ⟨0, 1, Nat.zero_le _, rfl, rfl, by omega, Lib.hid rfl, hcl⟩
  case round =>
    clear hcl hV
    obtain ⟨v, m, hv, rfl, rfl, hm, HM, hb⟩ := hrel
    have hcg : wr.cell? ⟨B, 0, none⟩ = some (.slice a n c) := (hb.cell (p := ⟨B, 0, none⟩) (by simp)).trans VG0.cell
    have hs := hb.size
    by_cases hlt : v < n
    · have HM2 : Hid (m * 2 = 2 ^ (v + 1)) := Lib.hid (by rw [HM.out, Nat.pow_succ])
      have hm2 : m * 2 ≤ 1024 := by rw [HM2.out]; exact Nat.pow_le_pow_right (n := 2) (j := 10) (by decide) (by omega)
      go_wp2_with fail
      refine (size_any a n c _).mono ?_
      rintro e1 w2 ⟨rfl, hb2⟩
      have hb' := hb.trans (hb2.mono (by omega))
      clear hb2 hb
      go_wp2_with fail
      go_roundw
      case rel => exact ⟨v + 1, m * 2, by omega, by go_num, by go_num, hm2, HM2, hb'⟩
      case measure => simp [intOf]; omega
    · obtain rfl : v = n := by omega
      have hmN : Hid (m = N) := Lib.hid (by rw [HM.out, hN])
      obtain rfl : m = N := hmN.out
      go_wp2_with fail
      refine (size_any a v c _).mono ?_
      rintro e1 w2 ⟨rfl, hb2⟩
      have hb' := hb.trans (hb2.mono (by omega))
      have hs2 : B + 1 ≤ w2.heap.size := by have := hb'.size; omega
      have HB2 := Lib.hid (U1.out.trans (hb'.mono (by omega)))
      clear hb2 hb hb' hmN
      go_wp2_with (at_make; refine wpList_make _ rfl _ _ 24 rfl B 2 (.int .i64 0) 8 Tryd.underlying24 infoI rfl .i64 .i64 _ _ m rfl rfl rfl rfl (by omega) (by unfold maxLen; omega) (by omega) ?_; intro w3 ho3 hb3)
      have hT0 : ints (tabJ m 0) = List.replicate m (Value.int .i64 0) := by simp [tabJ, ints]
      rw [← hT0] at ho3
      have HB3 := Lib.hid (HB2.out.trans (hb3.mono (by omega)))
      obtain ⟨kb, hkb⟩ : ∃ kb, w2.heap.size = kb := ⟨_, rfl⟩
      rw [hkb] at ho3
      have ho3' := ho3
      have hbb := HB3.out
      clear hb3 hT0
      go_wp2_with fail
      rw [hkb]
      go_loopw [6] (fun i wx => ∃ j : Nat, j ≤ m ∧ i = .int .i64 j ∧ wx.ownsRow B 2 1 (.slice (some ⟨kb, 0, none⟩) m m) m (ints (tabJ m j)) ∧ Below B w wx) (fun i _ => m - (intOf i).toNat)
      case atStart => exact ⟨0, Nat.zero_le _, rfl, ho3', hbb⟩
      case round =>
        clear ho3' hbb ho3
        obtain ⟨j, hj, rfl, ho, hb⟩ := hrel
        by_cases hjl : j < m
        · have hst := ho.stored j (.int .i64 (-1))
          rw [← ints_set, tabJ_set hjl] at hst
          have hf := ho.frozenAt j
          have hx := ho.cellAt j (by omega)
          rw [ints_at (by rw [tabJ_length (by omega)]; exact hjl)] at hx
          have hkB : B ≤ kb := (owns_lt ho (b := kb) rfl).1
          have HST := Lib.hid hst.1
          have HBS := Lib.hid (hb.grown hst.2 (by have := (owns_lt ho (b := kb) rfl).2; omega) fun y hy => by cases hy; exact hkB)
          clear hst ho hb
          go_wp2_with fail
          go_roundw
          case rel => exact ⟨j + 1, by omega, by go_num, HST.out, HBS.out⟩
          case measure => simp [intOf]; omega
        · obtain rfl : j = m := by omega
          have hTJ : tabJ j j = List.replicate j (-1) := by simp [tabJ]
          rw [hTJ] at ho
          have HO := Lib.hid ho
          clear ho hTJ
          go_wp2_with fail
          go_ret
          exact ⟨kb, by rw [hN]; rfl, by rw [hN, hB]; exact HO.out, by rw [hB]; exact hb⟩
end Go.Proofs.YtpfhflkpnjkgkaaDoor
