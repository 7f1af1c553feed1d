/-
  'FreeNames' of the reference: which formulas are right; the free names.
-/
import Derived.Test.YtbhobmngnjfgfaaDoorFreP
import Derived.Test.YtbhobmngnjfgfaaDoorForK
import Derived.Test.YtbhobmngnjfgfaaDoorOkay
import Derived.Test.YtbhobmngnjfgfaaDoorWide
import Derived.Test.YtbhobmngnjfgfaaDoorOrder2
namespace Go.Proofs.YtbhobmngnjfgfaaDoor
open Go.RowKit

theorem inB_is (x lo hi : Int) : decide (lo ≤ x ∧ x ≤ hi) = inB x lo hi := rfl
theorem goodB_1 (i : Nat) (A B : Int) : goodB i (1, A, B) = (inB A 0 2 && inB B 0 2) := by simp [goodB]
theorem goodB_2 (i : Nat) (A B : Int) : goodB i (2, A, B) = (inB A 0 2 && inB B 0 2) := by simp [goodB]
theorem goodB_3 (i : Nat) (A B : Int) : goodB i (3, A, B) = (inB A 0 2 && inB B 0 1) := by simp [goodB]
theorem goodB_4 (i : Nat) (A B : Int) : goodB i (4, A, B) = (inB A 0 ((i : Int) - 1) && decide (B = 0)) := by simp [goodB]
theorem goodB_5 (i : Nat) (A B : Int) : goodB i (5, A, B) = (inB A 0 ((i : Int) - 1) && inB B 0 ((i : Int) - 1)) := by simp [goodB]
theorem goodB_6 (i : Nat) (A B : Int) : goodB i (6, A, B) = (inB A 0 ((i : Int) - 1) && inB B 0 ((i : Int) - 1)) := by simp [goodB]
theorem goodB_7 (i : Nat) (A B : Int) : goodB i (7, A, B) = (inB A 0 2 && inB B 0 ((i : Int) - 1)) := by simp [goodB]
theorem goodB_8 (i : Nat) (A B : Int) : goodB i (8, A, B) = (inB A 0 1 && inB B 0 ((i : Int) - 1)) := by simp [goodB]
theorem goodB_0 (i : Nat) (K A B : Int) (h : ∀ j : Int, 1 ≤ j → j ≤ 8 → K ≠ j) : goodB i (K, A, B) = false := by
  simp [goodB, h 1 (by omega) (by omega), h 2 (by omega) (by omega), h 3 (by omega) (by omega), h 4 (by omega) (by omega), h 5 (by omega) (by omega), h 6 (by omega) (by omega), h 7 (by omega) (by omega), h 8 (by omega) (by omega)]

theorem name30 (x : Int) (w : World) : Calls Tryd.prog 193 #[.int .i64 x] w fun e w' => e = .returned (.bool (inB x 0 2)) ∧ w = w' := by
  have H := fun W => Lib.hid (l1In_is x 0 2 _ (inB_is x 0 2) W)
  generalize inB x 0 2 = q at *
  go_enter Tryd.func193, Tryd.ntmps193
  go_wp2_with fail
  refine (H _).out.mono ?_
  rintro e w' ⟨rfl, rfl⟩
  go_wp2_with fail
  go_ret
  exact ⟨rfl, rfl⟩
theorem sname30 (x : Int) (w : World) : Calls Tryd.prog 194 #[.int .i64 x] w fun e w' => e = .returned (.bool (inB x 0 1)) ∧ w = w' := by
  have H := fun W => Lib.hid (l1In_is x 0 1 _ (inB_is x 0 1) W)
  generalize inB x 0 1 = q at *
  go_enter Tryd.func194, Tryd.ntmps194
  go_wp2_with fail
  refine (H _).out.mono ?_
  rintro e w' ⟨rfl, rfl⟩
  go_wp2_with fail
  go_ret
  exact ⟨rfl, rfl⟩

set_option maxHeartbeats 4000000 in
theorem fact30 (K A Bv : Int) (i : Nat) (hi : i ≤ 100) (w : World) :
    Calls Tryd.prog 156 #[.agg #[.int .i64 K, .int .i64 A, .int .i64 Bv], .int .i64 i] w fun e w' => e = .returned (.bool (goodB i (K, A, Bv))) ∧ Below w.heap.size w w' := by
  obtain ⟨W0, hW0⟩ : ∃ W0, W0 = w.alloc (.cells #[.int .i64 K, .int .i64 A, .int .i64 Bv] 169) := ⟨_, rfl⟩
  have hb : Below w.heap.size w W0 := by rw [hW0]; exact below_alloc' _ _
  have V := VC.new (t := 169) (cs := #[.int .i64 K, .int .i64 A, .int .i64 Bv]) (w := w) rfl
  rw [← hW0] at V
  have c0 : W0.cell? ⟨w.heap.size, 0, none⟩ = some (.int .i64 K) := by unfold VC at V; simp [World.cell?, V]
  have c1 : W0.cell? ⟨w.heap.size, 1, none⟩ = some (.int .i64 A) := by unfold VC at V; simp [World.cell?, V]
  have c2 : W0.cell? ⟨w.heap.size, 2, none⟩ = some (.int .i64 Bv) := by unfold VC at V; simp [World.cell?, V]
  have HIA := fun W => Lib.hid (l1In_is A 0 ((i : Int) - 1) _ (inB_is A 0 ((i : Int) - 1)) W)
  have HIB := fun W => Lib.hid (l1In_is Bv 0 ((i : Int) - 1) _ (inB_is Bv 0 ((i : Int) - 1)) W)
  have HNA := fun W => Lib.hid (name30 A W)
  have HNB := fun W => Lib.hid (name30 Bv W)
  have HSA := fun W => Lib.hid (sname30 A W)
  have HSB := fun W => Lib.hid (sname30 Bv W)
  have hz : (Bv == 0) = decide (Bv = 0) := by rw [Bool.eq_iff_iff]; simp
  clear V
  by_cases k1 : K = 1
  · subst k1
    rw [goodB_1]
    generalize inB A 0 ((i : Int) - 1) = qia at *
    generalize inB Bv 0 ((i : Int) - 1) = qib at *
    generalize inB A 0 2 = qa at *
    generalize inB Bv 0 2 = qb at *
    clear hz
    go_enter Tryd.func156, Tryd.ntmps156
    go_wp2_with fail
    rw [← hW0]
    clear hW0
    refine (HIA _).out.mono ?_
    rintro e w' ⟨rfl, rfl⟩
    go_wp2_with fail
    refine (HIB _).out.mono ?_
    rintro e w' ⟨rfl, rfl⟩
    go_wp2_with fail
    refine (HNA _).out.mono ?_
    rintro e w' ⟨rfl, rfl⟩
    cases qa with
    | false =>
      go_wp2_with fail
      go_ret
      exact ⟨rfl, hb⟩
    | true =>
      go_wp2_with fail
      refine (HNB _).out.mono ?_
      rintro e w' ⟨rfl, rfl⟩
      go_wp2_with fail
      go_ret
      exact ⟨rfl, hb⟩
  by_cases k2 : K = 2
  · subst k2
    rw [goodB_2]
    generalize inB A 0 ((i : Int) - 1) = qia at *
    generalize inB Bv 0 ((i : Int) - 1) = qib at *
    generalize inB A 0 2 = qa at *
    generalize inB Bv 0 2 = qb at *
    clear hz
    go_enter Tryd.func156, Tryd.ntmps156
    go_wp2_with fail
    rw [← hW0]
    clear hW0
    refine (HIA _).out.mono ?_
    rintro e w' ⟨rfl, rfl⟩
    go_wp2_with fail
    refine (HIB _).out.mono ?_
    rintro e w' ⟨rfl, rfl⟩
    go_wp2_with fail
    refine (HNA _).out.mono ?_
    rintro e w' ⟨rfl, rfl⟩
    cases qa with
    | false =>
      go_wp2_with fail
      go_ret
      exact ⟨rfl, hb⟩
    | true =>
      go_wp2_with fail
      refine (HNB _).out.mono ?_
      rintro e w' ⟨rfl, rfl⟩
      go_wp2_with fail
      go_ret
      exact ⟨rfl, hb⟩
  by_cases k3 : K = 3
  · subst k3
    rw [goodB_3]
    generalize inB A 0 ((i : Int) - 1) = qia at *
    generalize inB Bv 0 ((i : Int) - 1) = qib at *
    generalize inB A 0 2 = qa at *
    generalize inB Bv 0 1 = qb at *
    clear hz
    go_enter Tryd.func156, Tryd.ntmps156
    go_wp2_with fail
    rw [← hW0]
    clear hW0
    refine (HIA _).out.mono ?_
    rintro e w' ⟨rfl, rfl⟩
    go_wp2_with fail
    refine (HIB _).out.mono ?_
    rintro e w' ⟨rfl, rfl⟩
    go_wp2_with fail
    refine (HNA _).out.mono ?_
    rintro e w' ⟨rfl, rfl⟩
    cases qa with
    | false =>
      go_wp2_with fail
      go_ret
      exact ⟨rfl, hb⟩
    | true =>
      go_wp2_with fail
      refine (HSB _).out.mono ?_
      rintro e w' ⟨rfl, rfl⟩
      go_wp2_with fail
      go_ret
      exact ⟨rfl, hb⟩
  by_cases k4 : K = 4
  · subst k4
    rw [goodB_4]
    generalize inB A 0 ((i : Int) - 1) = qia at *
    generalize inB Bv 0 ((i : Int) - 1) = qib at *
    generalize decide (Bv = 0) = qb at *
    go_enter Tryd.func156, Tryd.ntmps156
    go_wp2_with fail
    rw [← hW0]
    clear hW0
    refine (HIA _).out.mono ?_
    rintro e w' ⟨rfl, rfl⟩
    go_wp2_with fail
    refine (HIB _).out.mono ?_
    rintro e w' ⟨rfl, rfl⟩
    cases qia with
    | false =>
      go_wp2_with fail
      go_ret
      exact ⟨rfl, hb⟩
    | true =>
      go_wp2_with fail
      go_ret
      exact ⟨rfl, hb⟩
  by_cases k5 : K = 5
  · subst k5
    rw [goodB_5]
    generalize inB A 0 ((i : Int) - 1) = qia at *
    generalize inB Bv 0 ((i : Int) - 1) = qib at *
    clear hz
    go_enter Tryd.func156, Tryd.ntmps156
    go_wp2_with fail
    rw [← hW0]
    clear hW0
    refine (HIA _).out.mono ?_
    rintro e w' ⟨rfl, rfl⟩
    go_wp2_with fail
    refine (HIB _).out.mono ?_
    rintro e w' ⟨rfl, rfl⟩
    cases qia with
    | false =>
      go_wp2_with fail
      go_ret
      exact ⟨rfl, hb⟩
    | true =>
      go_wp2_with fail
      go_ret
      exact ⟨rfl, hb⟩
  by_cases k6 : K = 6
  · subst k6
    rw [goodB_6]
    generalize inB A 0 ((i : Int) - 1) = qia at *
    generalize inB Bv 0 ((i : Int) - 1) = qib at *
    clear hz
    go_enter Tryd.func156, Tryd.ntmps156
    go_wp2_with fail
    rw [← hW0]
    clear hW0
    refine (HIA _).out.mono ?_
    rintro e w' ⟨rfl, rfl⟩
    go_wp2_with fail
    refine (HIB _).out.mono ?_
    rintro e w' ⟨rfl, rfl⟩
    cases qia with
    | false =>
      go_wp2_with fail
      go_ret
      exact ⟨rfl, hb⟩
    | true =>
      go_wp2_with fail
      go_ret
      exact ⟨rfl, hb⟩
  by_cases k7 : K = 7
  · subst k7
    rw [goodB_7]
    generalize inB A 0 ((i : Int) - 1) = qia at *
    generalize inB Bv 0 ((i : Int) - 1) = qib at *
    generalize inB A 0 2 = qa at *
    clear hz
    go_enter Tryd.func156, Tryd.ntmps156
    go_wp2_with fail
    rw [← hW0]
    clear hW0
    refine (HIA _).out.mono ?_
    rintro e w' ⟨rfl, rfl⟩
    go_wp2_with fail
    refine (HIB _).out.mono ?_
    rintro e w' ⟨rfl, rfl⟩
    go_wp2_with fail
    refine (HNA _).out.mono ?_
    rintro e w' ⟨rfl, rfl⟩
    cases qa with
    | false =>
      go_wp2_with fail
      go_ret
      exact ⟨rfl, hb⟩
    | true =>
      go_wp2_with fail
      go_ret
      exact ⟨rfl, hb⟩
  by_cases k8 : K = 8
  · subst k8
    rw [goodB_8]
    generalize inB A 0 ((i : Int) - 1) = qia at *
    generalize inB Bv 0 ((i : Int) - 1) = qib at *
    generalize inB A 0 1 = qa at *
    clear hz
    go_enter Tryd.func156, Tryd.ntmps156
    go_wp2_with fail
    rw [← hW0]
    clear hW0
    refine (HIA _).out.mono ?_
    rintro e w' ⟨rfl, rfl⟩
    go_wp2_with fail
    refine (HIB _).out.mono ?_
    rintro e w' ⟨rfl, rfl⟩
    go_wp2_with fail
    refine (HSA _).out.mono ?_
    rintro e w' ⟨rfl, rfl⟩
    cases qa with
    | false =>
      go_wp2_with fail
      go_ret
      exact ⟨rfl, hb⟩
    | true =>
      go_wp2_with fail
      go_ret
      exact ⟨rfl, hb⟩
  rw [goodB_0 i K A Bv (fun j h1 h2 h => by
    rcases (show j = 1 ∨ j = 2 ∨ j = 3 ∨ j = 4 ∨ j = 5 ∨ j = 6 ∨ j = 7 ∨ j = 8 by omega) with r | r | r | r | r | r | r | r <;> subst r <;> contradiction)]
  have d1 : (K == 1) = false := by rw [beq_eq_false_iff_ne]; exact k1
  have d2 : (K == 2) = false := by rw [beq_eq_false_iff_ne]; exact k2
  have d3 : (K == 3) = false := by rw [beq_eq_false_iff_ne]; exact k3
  have d4 : (K == 4) = false := by rw [beq_eq_false_iff_ne]; exact k4
  have d5 : (K == 5) = false := by rw [beq_eq_false_iff_ne]; exact k5
  have d6 : (K == 6) = false := by rw [beq_eq_false_iff_ne]; exact k6
  have d7 : (K == 7) = false := by rw [beq_eq_false_iff_ne]; exact k7
  have d8 : (K == 8) = false := by rw [beq_eq_false_iff_ne]; exact k8
  clear k1 k2 k3 k4 k5 k6 k7 k8 hz
  generalize inB A 0 ((i : Int) - 1) = qia at *
  generalize inB Bv 0 ((i : Int) - 1) = qib at *
  go_enter Tryd.func156, Tryd.ntmps156
  go_wp2_with fail
  rw [← hW0]
  clear hW0
  refine (HIA _).out.mono ?_
  rintro e w' ⟨rfl, rfl⟩
  go_wp2_with fail
  refine (HIB _).out.mono ?_
  rintro e w' ⟨rfl, rfl⟩
  go_wp2_with fail
  go_ret
  exact ⟨rfl, hb⟩

/-! ### Which formulas are right -/
open Classical in
noncomputable def okFB (fs : List FD) : Bool := decide (OkF fs)
theorem okFB_yes {fs : List FD} (h : OkF fs) : okFB fs = true := by unfold okFB; exact @decide_eq_true _ (_) h
theorem okFB_no {fs : List FD} (h : ¬ OkF fs) : okFB fs = false := by unfold okFB; exact @decide_eq_false _ (_) h
theorem RdF.fix {a : Option Addr} {n c : Nat} {L : List FD} {w : World} (h : Row w 3 (.slice a n c) n (cellsF L)) {k : Nat} {p : FD} (hp : L[k]? = some p) :
    ∃ b o, a = some ⟨b, o, none⟩ ∧ ∀ W, Below w.heap.size w W → W.cell? ⟨b, o + k * 3, none⟩ = some (.int .i64 p.1) ∧ W.cell? ⟨b, o + k * 3 + 1, none⟩ = some (.int .i64 p.2.1) ∧ W.cell? ⟨b, o + k * 3 + 2, none⟩ = some (.int .i64 p.2.2) := by
  obtain ⟨b, o, rfl, h0, h1, h2⟩ := RdF.at h hp
  have hb := block_lt h0
  exact ⟨b, o, rfl, fun W hW => ⟨(hW.cell (p := ⟨b, o + k * 3, none⟩) hb).trans h0, (hW.cell (p := ⟨b, o + k * 3 + 1, none⟩) hb).trans h1, (hW.cell (p := ⟨b, o + k * 3 + 2, none⟩) hb).trans h2⟩⟩

set_option maxHeartbeats 4000000 in
theorem specFOk (v : Value) (fs : List FD) (q : Bool) (hq : okFB fs = q) (w : World) (hr : RdF v fs w) :
    Calls Tryd.prog 81 #[.agg #[v]] w fun e w' => e = .returned (.bool q) ∧ Below w.heap.size w w' := by
  have hl := hr.len
  unfold maxLen at hl
  obtain ⟨a, c, rfl, -, -, -⟩ := id hr
  obtain ⟨B, hB⟩ : ∃ B, w.heap.size = B := ⟨_, rfl⟩
  obtain ⟨W0, hW0⟩ : ∃ W0, W0 = w.alloc (.cells #[.slice a fs.length c] 46) := ⟨_, rfl⟩
  have u0 : Below B w W0 := by rw [hW0, ← hB]; exact below_alloc' _ _
  have V : VC 46 B #[.slice a fs.length c] W0 := by rw [hW0]; exact VC.new hB
  have hz0 : W0.heap.size = B + 1 := by rw [hW0]; simp [hB]
  have HF : Hid (∀ k p, fs[k]? = some p → ∃ b o, a = some ⟨b, o, none⟩ ∧ ∀ W, Below B w W → W.cell? ⟨b, o + k * 3, none⟩ = some (.int .i64 p.1) ∧ W.cell? ⟨b, o + k * 3 + 1, none⟩ = some (.int .i64 p.2.1) ∧ W.cell? ⟨b, o + k * 3 + 2, none⟩ = some (.int .i64 p.2.2)) := Lib.hid fun k p hp => hB ▸ RdF.fix hr hp
  obtain ⟨ql, hql⟩ : ∃ q, decide ((1 : Int) ≤ fs.length ∧ (fs.length : Int) ≤ 40) = q := ⟨_, rfl⟩
  have HI := fun W => Lib.hid (l1In_is (fs.length : Int) 1 40 ql hql W)
  have hcg := V.cell
  have HQ := Lib.hid hq
  have hbW : Below (B + 1) W0 W0 := Below.refl _ _
  clear hr hq
  cases ql with
  | false =>
    have HN : Hid (q = false) := Lib.hid (by
      rw [← HQ.out]
      refine okFB_no fun h => ?_
      have h1 := h.1
      have h2 := h.2.1
      simp at hql
      omega)
    rw [HN.out]
    clear hql
    go_enter Tryd.func81, Tryd.ntmps81
    go_wp2_with fail
    rw [← hW0]
    clear hW0
    refine (HI _).out.mono ?_
    rintro e w' ⟨rfl, rfl⟩
    go_wp2_with fail
    go_ret
    exact ⟨rfl, by rw [hB]; exact u0⟩
  | true =>
    have hlen : 1 ≤ fs.length ∧ fs.length ≤ 40 := by simp at hql; omega
    obtain ⟨hl1, hl40⟩ := hlen
    clear hql
    go_enter Tryd.func81, Tryd.ntmps81
    go_wp2_with fail
    rw [← hW0]
    clear hW0
    refine (HI _).out.mono ?_
    rintro e w' ⟨rfl, rfl⟩
    go_wp2_with fail
    clear hcg
    go_loopw [3] (fun i wr => ∃ k : Nat, k ≤ fs.length ∧ i = .int .i64 k ∧ Hid (okTo fs k) ∧ Below (B + 1) W0 wr) (fun i _ => fs.length - (intOf i).toNat)
    case atStart => exact ⟨0, Nat.zero_le _, rfl, Lib.hid (okTo_zero fs), hbW⟩
    case round =>
      clear hbW
      obtain ⟨k, hk, rfl, HK, hb⟩ := hrel
      have hsz := hb.size
      have hbw : Below B w wr := u0.trans (hb.mono (by omega))
      have hcg := (V.belowAt hb (by omega)).cell
      by_cases hlt : k < fs.length
      · obtain ⟨p, hp⟩ : ∃ p, fs[k]? = some p := ⟨_, List.getElem?_eq_getElem hlt⟩
        obtain ⟨b, o, rfl, hce⟩ := HF.out k p hp
        obtain ⟨h0, h1, h2⟩ := hce wr hbw
        have HC := Lib.hid (fact30 p.1 p.2.1 p.2.2 k (by omega) wr)
        obtain ⟨g, hg⟩ : ∃ g, goodB k p = g := ⟨_, rfl⟩
        rw [show (p.1, p.2.1, p.2.2) = p from rfl, hg] at HC
        have HG := Lib.hid hg
        have HP := Lib.hid hp
        clear hce hg hp
        go_wp2_with fail
        refine HC.out.mono ?_
        rintro e1 w1 ⟨rfl, hb1⟩
        have hb2 := hb.trans (hb1.mono (by omega))
        have hbw2 := hbw.trans (hb1.mono (by omega))
        clear hb1 hb hbw HC h0 h1 h2 hcg
        cases g with
        | false =>
          have HN : Hid (q = false) := Lib.hid (by rw [← HQ.out]; exact okFB_no (not_okF HP.out HG.out))
          go_wp2_with fail
          go_ret
          exact ⟨by rw [HN.out]; rfl, by rw [hB]; exact hbw2⟩
        | true =>
          go_wp2_with fail
          go_roundw
          case rel => exact ⟨k + 1, by omega, by go_num, Lib.hid (okTo_succ HP.out HK.out HG.out), hb2⟩
          case measure => simp [intOf]; omega
      · obtain rfl : k = fs.length := by omega
        have HN : Hid (q = true) := Lib.hid (by rw [← HQ.out]; exact okFB_yes ⟨hl1, hl40, HK.out⟩)
        go_wp2_with fail
        go_ret
        exact ⟨by rw [HN.out]; rfl, by rw [hB]; exact hbw⟩
theorem wrap_pow {a : Nat} (h : 2 ^ a < 32) : wrap64 ((2 : Int) ^ a) = ((2 ^ a : Nat) : Int) := by
  have e : ((2 : Int) ^ a) = ((2 ^ a : Nat) : Int) := by simp
  rw [e]
  generalize 2 ^ a = m at *
  unfold wrap64
  omega
theorem good_kind {i : Nat} {K A B : Int} (h : goodB i (K, A, B) = true) : K = 1 ∨ K = 2 ∨ K = 3 ∨ K = 4 ∨ K = 5 ∨ K = 6 ∨ K = 7 ∨ K = 8 := by
  apply Classical.byContradiction
  intro hn
  rw [goodB_0 i K A B (fun j h1 h2 e => by omega)] at h
  cases h
theorem inB_nat {x lo hi : Int} (h : inB x lo hi = true) (h0 : 0 ≤ lo) : ∃ a : Nat, x = a ∧ lo ≤ x ∧ x ≤ hi := by
  unfold inB at h
  rw [decide_eq_true_eq] at h
  exact ⟨x.toNat, by omega, h.1, h.2⟩

end Go.Proofs.YtbhobmngnjfgfaaDoor
