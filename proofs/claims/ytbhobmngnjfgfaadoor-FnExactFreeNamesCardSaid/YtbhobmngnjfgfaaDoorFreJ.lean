/-
  'goodFact', 'FormulaOk', 'FreeNames' of the program; both.
-/
import Derived.Test.YtbhobmngnjfgfaaDoorFreT
import Derived.Test.YtbhobmngnjfgfaaDoorFreI
namespace Go.Proofs.YtbhobmngnjfgfaaDoor
open Go.RowKit

theorem inRange_inB (x lo hi : Int) (w : World) : Calls Tryd.prog 71 #[.int .i64 x, .int .i64 lo, .int .i64 hi] w fun e w' => e = .returned (.bool (inB x lo hi)) ∧ w = w' := inRange_is x lo hi _ (inB_is x lo hi) w
theorem good1_any (x : Int) (w : World) : Calls Tryd.prog 195 #[.int .i64 x] w fun e w' => e = .returned (.bool (inB x 0 2)) ∧ w = w' := by
  have H := fun W => Lib.hid (inRange_inB x 0 2 W)
  generalize inB x 0 2 = q at *
  go_enter Tryd.func195, Tryd.ntmps195
  go_wp2_with fail
  refine (H _).out.mono ?_
  rintro e w' ⟨rfl, rfl⟩
  go_wp2_with fail
  go_ret
  exact ⟨rfl, rfl⟩
theorem good2_any (x : Int) (w : World) : Calls Tryd.prog 196 #[.int .i64 x] w fun e w' => e = .returned (.bool (inB x 0 1)) ∧ w = w' := by
  have H := fun W => Lib.hid (inRange_inB x 0 1 W)
  generalize inB x 0 1 = q at *
  go_enter Tryd.func196, Tryd.ntmps196
  go_wp2_with fail
  refine (H _).out.mono ?_
  rintro e w' ⟨rfl, rfl⟩
  go_wp2_with fail
  go_ret
  exact ⟨rfl, rfl⟩
theorem good3_any (x : Int) (i : Nat) (hi : i ≤ 100) (b : Nat) (w : World) (hc : w.cell? ⟨b, 0, none⟩ = some (.int .i64 i)) : Calls Tryd.prog 197 #[.int .i64 x, .pointer (some ⟨b, 0, none⟩)] w fun e w' => e = .returned (.bool (inB x 0 ((i : Int) - 1))) ∧ w = w' := by
  have H := fun W => Lib.hid (inRange_inB x 0 ((i : Int) - 1) W)
  generalize inB x 0 ((i : Int) - 1) = q at *
  go_enter Tryd.func197, Tryd.ntmps197
  go_wp2_with fail
  refine (H _).out.mono ?_
  rintro e w' ⟨rfl, rfl⟩
  go_wp2_with fail
  go_ret
  exact ⟨rfl, rfl⟩

set_option maxHeartbeats 8000000 in
theorem factI (K A Bv : Int) (i : Nat) (hi : i ≤ 100) (w : World) :
    Calls Tryd.prog 158 #[.agg #[.int .i64 K, .int .i64 A, .int .i64 Bv], .int .i64 i] w fun e w' => e = .returned (.bool (goodB i (K, A, Bv))) ∧ Below w.heap.size w w' := by
  have hmf : ∀ (fn : Fn) (first cap : Array Value) (w : World), (Instr.makeFunc fn first cap).run Tryd.prog w = .ok (.func fn first cap) w := fun _ _ _ _ => rfl
  obtain ⟨B, hB⟩ : ∃ B, w.heap.size = B := ⟨_, rfl⟩
  obtain ⟨W0, hW0⟩ : ∃ W0, W0 = (w.alloc (.cells #[.int .i64 K, .int .i64 A, .int .i64 Bv] 169)).alloc (.cells #[.int .i64 i] 3) := ⟨_, rfl⟩
  have hb : Below B w W0 := by rw [hW0]; exact ((Below.refl _ _ : Below B w w).alloc (by omega) _).alloc (by simp; omega) _
  have V : VC 169 B #[.int .i64 K, .int .i64 A, .int .i64 Bv] W0 := by rw [hW0]; exact (VC.new hB).upd (Upd.alloc _ _) (by omega)
  have VI : VC 3 (B + 1) #[.int .i64 i] W0 := by rw [hW0]; exact VC.new (by simp [hB])
  have c0 : W0.cell? ⟨B, 0, none⟩ = some (.int .i64 K) := by unfold VC at V; simp [World.cell?, V]
  have c1 : W0.cell? ⟨B, 1, none⟩ = some (.int .i64 A) := by unfold VC at V; simp [World.cell?, V]
  have c2 : W0.cell? ⟨B, 2, none⟩ = some (.int .i64 Bv) := by unfold VC at V; simp [World.cell?, V]
  have HIA := Lib.hid (good3_any A i hi (B + 1) W0 VI.cell)
  have HIB := Lib.hid (good3_any Bv i hi (B + 1) W0 VI.cell)
  have HNA := Lib.hid (good1_any A W0)
  have HNB := Lib.hid (good1_any Bv W0)
  have HSA := Lib.hid (good2_any A W0)
  have HSB := Lib.hid (good2_any Bv W0)
  have hz : (Bv == 0) = decide (Bv = 0) := by rw [Bool.eq_iff_iff]; simp
  clear V VI
  by_cases k1 : K = 1
  · subst k1
    rw [goodB_1]
    generalize inB A 0 2 = qa at *
    generalize inB Bv 0 2 = qb at *
    clear hz
    rw [hW0] at c0 c1 c2
    go_enter Tryd.func158, Tryd.ntmps158
    go_wp2_with fail
    rw [← hW0]
    have HBE := Lib.hid hb
    clear hb
    refine HNA.out.mono ?_
    rintro e w' ⟨rfl, rfl⟩
    rw [← hW0] at c0 c1 c2
    clear hW0
    cases qa with
    | false =>
      go_wp2_with fail
      go_ret
      exact ⟨rfl, by rw [hB]; exact HBE.out⟩
    | true =>
      go_wp2_with fail
      refine HNB.out.mono ?_
      rintro e w' ⟨rfl, rfl⟩
      go_wp2_with fail
      go_ret
      exact ⟨rfl, by rw [hB]; exact HBE.out⟩
  by_cases k2 : K = 2
  · subst k2
    rw [goodB_2]
    generalize inB A 0 2 = qa at *
    generalize inB Bv 0 2 = qb at *
    clear hz
    rw [hW0] at c0 c1 c2
    go_enter Tryd.func158, Tryd.ntmps158
    go_wp2_with fail
    rw [← hW0]
    have HBE := Lib.hid hb
    clear hb
    refine HNA.out.mono ?_
    rintro e w' ⟨rfl, rfl⟩
    rw [← hW0] at c0 c1 c2
    clear hW0
    cases qa with
    | false =>
      go_wp2_with fail
      go_ret
      exact ⟨rfl, by rw [hB]; exact HBE.out⟩
    | true =>
      go_wp2_with fail
      refine HNB.out.mono ?_
      rintro e w' ⟨rfl, rfl⟩
      go_wp2_with fail
      go_ret
      exact ⟨rfl, by rw [hB]; exact HBE.out⟩
  by_cases k3 : K = 3
  · subst k3
    rw [goodB_3]
    generalize inB A 0 2 = qa at *
    generalize inB Bv 0 1 = qb at *
    clear hz
    rw [hW0] at c0 c1 c2
    go_enter Tryd.func158, Tryd.ntmps158
    go_wp2_with fail
    rw [← hW0]
    have HBE := Lib.hid hb
    clear hb
    refine HNA.out.mono ?_
    rintro e w' ⟨rfl, rfl⟩
    rw [← hW0] at c0 c1 c2
    clear hW0
    cases qa with
    | false =>
      go_wp2_with fail
      go_ret
      exact ⟨rfl, by rw [hB]; exact HBE.out⟩
    | true =>
      go_wp2_with fail
      refine HSB.out.mono ?_
      rintro e w' ⟨rfl, rfl⟩
      go_wp2_with fail
      go_ret
      exact ⟨rfl, by rw [hB]; exact HBE.out⟩
  by_cases k4 : K = 4
  · subst k4
    rw [goodB_4]
    generalize inB A 0 ((i : Int) - 1) = qa at *
    generalize decide (Bv = 0) = qb at *
    rw [hW0] at c0 c1 c2
    go_enter Tryd.func158, Tryd.ntmps158
    go_wp2_with fail
    rw [← hW0]
    have HBE := Lib.hid hb
    clear hb
    refine HIA.out.mono ?_
    rintro e w' ⟨rfl, rfl⟩
    rw [← hW0] at c0 c1 c2
    clear hW0
    cases qa with
    | false =>
      go_wp2_with fail
      go_ret
      exact ⟨rfl, by rw [hB]; exact HBE.out⟩
    | true =>
      go_wp2_with fail
      go_ret
      exact ⟨rfl, by rw [hB]; exact HBE.out⟩
  by_cases k5 : K = 5
  · subst k5
    rw [goodB_5]
    generalize inB A 0 ((i : Int) - 1) = qa at *
    generalize inB Bv 0 ((i : Int) - 1) = qb at *
    clear hz
    rw [hW0] at c0 c1 c2
    go_enter Tryd.func158, Tryd.ntmps158
    go_wp2_with fail
    rw [← hW0]
    have HBE := Lib.hid hb
    clear hb
    refine HIA.out.mono ?_
    rintro e w' ⟨rfl, rfl⟩
    rw [← hW0] at c0 c1 c2
    clear hW0
    cases qa with
    | false =>
      go_wp2_with fail
      go_ret
      exact ⟨rfl, by rw [hB]; exact HBE.out⟩
    | true =>
      go_wp2_with fail
      refine HIB.out.mono ?_
      rintro e w' ⟨rfl, rfl⟩
      go_wp2_with fail
      go_ret
      exact ⟨rfl, by rw [hB]; exact HBE.out⟩
  by_cases k6 : K = 6
  · subst k6
    rw [goodB_6]
    generalize inB A 0 ((i : Int) - 1) = qa at *
    generalize inB Bv 0 ((i : Int) - 1) = qb at *
    clear hz
    rw [hW0] at c0 c1 c2
    go_enter Tryd.func158, Tryd.ntmps158
    go_wp2_with fail
    rw [← hW0]
    have HBE := Lib.hid hb
    clear hb
    refine HIA.out.mono ?_
    rintro e w' ⟨rfl, rfl⟩
    rw [← hW0] at c0 c1 c2
    clear hW0
    cases qa with
    | false =>
      go_wp2_with fail
      go_ret
      exact ⟨rfl, by rw [hB]; exact HBE.out⟩
    | true =>
      go_wp2_with fail
      refine HIB.out.mono ?_
      rintro e w' ⟨rfl, rfl⟩
      go_wp2_with fail
      go_ret
      exact ⟨rfl, by rw [hB]; exact HBE.out⟩
  by_cases k7 : K = 7
  · subst k7
    rw [goodB_7]
    generalize inB A 0 2 = qa at *
    generalize inB Bv 0 ((i : Int) - 1) = qb at *
    clear hz
    rw [hW0] at c0 c1 c2
    go_enter Tryd.func158, Tryd.ntmps158
    go_wp2_with fail
    rw [← hW0]
    have HBE := Lib.hid hb
    clear hb
    refine HNA.out.mono ?_
    rintro e w' ⟨rfl, rfl⟩
    rw [← hW0] at c0 c1 c2
    clear hW0
    cases qa with
    | false =>
      go_wp2_with fail
      go_ret
      exact ⟨rfl, by rw [hB]; exact HBE.out⟩
    | true =>
      go_wp2_with fail
      refine HIB.out.mono ?_
      rintro e w' ⟨rfl, rfl⟩
      go_wp2_with fail
      go_ret
      exact ⟨rfl, by rw [hB]; exact HBE.out⟩
  by_cases k8 : K = 8
  · subst k8
    rw [goodB_8]
    generalize inB A 0 1 = qa at *
    generalize inB Bv 0 ((i : Int) - 1) = qb at *
    clear hz
    rw [hW0] at c0 c1 c2
    go_enter Tryd.func158, Tryd.ntmps158
    go_wp2_with fail
    rw [← hW0]
    have HBE := Lib.hid hb
    clear hb
    refine HSA.out.mono ?_
    rintro e w' ⟨rfl, rfl⟩
    rw [← hW0] at c0 c1 c2
    clear hW0
    cases qa with
    | false =>
      go_wp2_with fail
      go_ret
      exact ⟨rfl, by rw [hB]; exact HBE.out⟩
    | true =>
      go_wp2_with fail
      refine HIB.out.mono ?_
      rintro e w' ⟨rfl, rfl⟩
      go_wp2_with fail
      go_ret
      exact ⟨rfl, by rw [hB]; exact HBE.out⟩
  rw [goodB_0 i K A Bv (fun j h1 h2 h => by
    rcases (show j = 1 ∨ j = 2 ∨ j = 3 ∨ j = 4 ∨ j = 5 ∨ j = 6 ∨ j = 7 ∨ j = 8 by omega) with r | r | r | r | r | r | r | r <;> subst r <;> contradiction)]
  have d1 : (K == 1) = false := by rw [beq_eq_false_iff_ne]; exact k1
  have d2 : (K == 2) = false := by rw [beq_eq_false_iff_ne]; exact k2
  have d3 : (K == 3) = false := by rw [beq_eq_false_iff_ne]; exact k3
  have d4 : (K == 4) = false := by rw [beq_eq_false_iff_ne]; exact k4
  have d5 : (K == 5) = false := by rw [beq_eq_false_iff_ne]; exact k5
  have d6 : (K == 6) = false := by rw [beq_eq_false_iff_ne]; exact k6
  have d7 : (K == 7) = false := by rw [beq_eq_false_iff_ne]; exact k7
  have d8 : (K == 8) = false := by rw [beq_eq_false_iff_ne]; exact k8
  clear k1 k2 k3 k4 k5 k6 k7 k8 hz
  rw [hW0] at c0 c1 c2 hb
  clear hW0
  go_enter Tryd.func158, Tryd.ntmps158
  go_wp2_with fail
  go_ret
  exact ⟨rfl, by rw [hB]; exact hb⟩

set_option maxHeartbeats 4000000 in
theorem implFOk (v : Value) (fs : List FD) (q : Bool) (hq : okFB fs = q) (w : World) (hr : RdF v fs w) :
    Calls Tryd.prog 85 #[.agg #[v]] w fun e w' => e = .returned (.bool q) ∧ Below w.heap.size w w' := by
  have hl := hr.len
  unfold maxLen at hl
  obtain ⟨a, c, rfl, -, -, -⟩ := id hr
  obtain ⟨B, hB⟩ : ∃ B, w.heap.size = B := ⟨_, rfl⟩
  obtain ⟨W0, hW0⟩ : ∃ W0, W0 = w.alloc (.cells #[.slice a fs.length c] 46) := ⟨_, rfl⟩
  have u0 : Below B w W0 := by rw [hW0, ← hB]; exact below_alloc' _ _
  have V : VC 46 B #[.slice a fs.length c] W0 := by rw [hW0]; exact VC.new hB
  have hz0 : W0.heap.size = B + 1 := by rw [hW0]; simp [hB]
  have HF : Hid (∀ k p, fs[k]? = some p → ∃ b o, a = some ⟨b, o, none⟩ ∧ ∀ W, Below B w W → W.cell? ⟨b, o + k * 3, none⟩ = some (.int .i64 p.1) ∧ W.cell? ⟨b, o + k * 3 + 1, none⟩ = some (.int .i64 p.2.1) ∧ W.cell? ⟨b, o + k * 3 + 2, none⟩ = some (.int .i64 p.2.2)) := Lib.hid fun k p hp => hB ▸ RdF.fix hr hp
  have HQ := Lib.hid hq
  have hbW : Below (B + 1) W0 W0 := Below.refl _ _
  clear hr hq
  by_cases h1 : fs.length < 1
  · have HN : Hid (q = false) := Lib.hid (by rw [← HQ.out]; exact okFB_no fun h => by have := h.1; omega)
    have hd : (fs.length : Int) < 1 := by omega
    rw [hW0] at u0
    clear hW0
    go_enter Tryd.func85, Tryd.ntmps85
    go_wp2_with fail
    go_ret
    exact ⟨by rw [HN.out]; rfl, by first | exact u0 | (rw [hB]; exact u0)⟩
  by_cases h40 : 40 < fs.length
  · have HN : Hid (q = false) := Lib.hid (by rw [← HQ.out]; exact okFB_no fun h => by have := h.2.1; omega)
    have hd : ¬ (fs.length : Int) < 1 := by omega
    have hd2 : (40 : Int) < fs.length := by omega
    rw [hW0] at u0
    clear hW0
    go_enter Tryd.func85, Tryd.ntmps85
    go_wp2_with fail
    go_ret
    exact ⟨by rw [HN.out]; rfl, by first | exact u0 | (rw [hB]; exact u0)⟩
  have hd : ¬ (fs.length : Int) < 1 := by omega
  have hd2 : ¬ (40 : Int) < fs.length := by omega
  have hcg := V.cell
  rw [hW0] at hcg
  go_enter Tryd.func85, Tryd.ntmps85
  go_wp2_with fail
  rw [← hW0]
  clear hW0 hcg
  go_loopw [18] (fun i wr => ∃ k : Nat, k ≤ fs.length ∧ i = .int .i64 k ∧ Hid (okTo fs k) ∧ Below (B + 1) W0 wr) (fun i _ => fs.length - (intOf i).toNat)
  case atStart => exact ⟨0, Nat.zero_le _, rfl, Lib.hid (okTo_zero fs), hbW⟩
  case round =>
    clear hbW
    obtain ⟨k, hk, rfl, HK, hb⟩ := hrel
    have hsz := hb.size
    have hbw : Below B w wr := u0.trans (hb.mono (by omega))
    by_cases hlt : k < fs.length
    · obtain ⟨p, hp⟩ : ∃ p, fs[k]? = some p := ⟨_, List.getElem?_eq_getElem hlt⟩
      obtain ⟨b, o, rfl, hce⟩ := HF.out k p hp
      obtain ⟨h0, h1', h2⟩ := hce wr hbw
      obtain ⟨W1, hW1⟩ : ∃ W1, W1 = wr.alloc (.cells #[.int .i64 p.1, .int .i64 p.2.1, .int .i64 p.2.2] 169) := ⟨_, rfl⟩
      have V1 : VC 169 wr.heap.size #[.int .i64 p.1, .int .i64 p.2.1, .int .i64 p.2.2] W1 := by rw [hW1]; exact VC.new rfl
      have c0 : W1.cell? ⟨wr.heap.size, 0, none⟩ = some (.int .i64 p.1) := by unfold VC at V1; simp [World.cell?, V1]
      have c1 : W1.cell? ⟨wr.heap.size, 1, none⟩ = some (.int .i64 p.2.1) := by unfold VC at V1; simp [World.cell?, V1]
      have c2 : W1.cell? ⟨wr.heap.size, 2, none⟩ = some (.int .i64 p.2.2) := by unfold VC at V1; simp [World.cell?, V1]
      have hb1 : Below (B + 1) W0 W1 := by rw [hW1]; exact hb.alloc (by omega) _
      have HC := Lib.hid (factI p.1 p.2.1 p.2.2 k (by omega) W1)
      obtain ⟨g, hg⟩ : ∃ g, goodB k p = g := ⟨_, rfl⟩
      rw [show (p.1, p.2.1, p.2.2) = p from rfl, hg] at HC
      have HG := Lib.hid hg
      have HP := Lib.hid hp
      rw [hW1] at c0 c1 c2
      clear hce hg hp V1 hb hbw
      go_wp2_with fail
      rw [← hW1]
      clear hW1
      refine HC.out.mono ?_
      rintro e1 w1 ⟨rfl, hbc⟩
      have hb2 := hb1.trans (hbc.mono (by have := hb1.size; omega))
      have hbw2 := u0.trans (hb2.mono (by omega))
      clear hbc hb1 HC h0 h1' h2 c0 c1 c2
      cases g with
      | false =>
        have HN : Hid (q = false) := Lib.hid (by rw [← HQ.out]; exact okFB_no (not_okF HP.out HG.out))
        go_wp2_with fail
        go_ret
        exact ⟨by rw [HN.out]; rfl, by rw [hB]; exact hbw2⟩
      | true =>
        go_wp2_with fail
        go_roundw
        case rel => exact ⟨k + 1, by omega, by go_num, Lib.hid (okTo_succ HP.out HK.out HG.out), hb2⟩
        case measure => simp [intOf]; omega
    · obtain rfl : k = fs.length := by omega
      have HN : Hid (q = true) := Lib.hid (by rw [← HQ.out]; exact okFB_yes ⟨by omega, by omega, HK.out⟩)
      go_wp2_with fail
      go_ret
      exact ⟨by rw [HN.out]; rfl, by rw [hB]; exact hbw⟩

set_option maxHeartbeats 4000000 in
theorem specFreeNames (v : Value) (fs : List FD) (row : List Int) (hP : FreP fs row) (w : World) (hr : RdF v fs w) :
    Calls Tryd.prog 25 #[.agg #[v]] w (SRes w row) := by
  obtain ⟨a, c, rfl, -, -, -⟩ := id hr
  obtain ⟨B, hB⟩ : ∃ B, w.heap.size = B := ⟨_, rfl⟩
  obtain ⟨W0, hW0⟩ : ∃ W0, W0 = w.alloc (.cells #[.slice a fs.length c] 46) := ⟨_, rfl⟩
  have u0 : Below B w W0 := by rw [hW0, ← hB]; exact below_alloc' _ _
  have V : VC 46 B #[.slice a fs.length c] W0 := by rw [hW0]; exact VC.new hB
  have hz0 : W0.heap.size = B + 1 := by rw [hW0]; simp [hB]
  have hcg := V.cell
  rcases hP with ⟨hno, rfl⟩ | ⟨hok, rfl⟩
  · have CK := Lib.hid (specFOk _ fs false (okFB_no hno) W0 (Row.below hr (hB ▸ u0)))
    clear hno hr
    go_enter Tryd.func25, Tryd.ntmps25
    go_wp2_with fail
    rw [← hW0]
    refine CK.out.mono ?_
    rintro e1 w1 ⟨rfl, hb1⟩
    have hb := u0.trans (hb1.mono (by omega))
    have hs : B ≤ w1.heap.size := by have := hb1.size; omega
    have ho1 : (w1.alloc (.cells #[] 2)).ownsRow B 2 1 (.slice (some ⟨w1.heap.size, 0, none⟩) 0 0) 0 [] := World.ownsRow_lit w1 #[] 0 hs (by simp [maxLen]) rfl
    have hb2 := hb.alloc hs (.cells #[] 2)
    have HE := Lib.hid (And.intro ho1 hb2)
    clear hb1 u0 V hcg CK hW0 hb ho1 hb2
    go_wp2_with fail
    go_ret
    exact ⟨_, rfl, by rw [hB]; exact HE.out.1, by rw [hB]; exact HE.out.2⟩
  · have CK := Lib.hid (specFOk _ fs true (okFB_yes hok) W0 (Row.below hr (hB ▸ u0)))
    have CF : Hid (∀ W, Below B w W → Calls Tryd.prog 83 #[.agg #[.slice a fs.length c]] W fun e w' => e = .returned (.int .i64 (lastM fs : Nat)) ∧ Below W.heap.size W w') := Lib.hid fun W hW => specFree _ fs hok W (Row.below hr (hB ▸ hW))
    obtain ⟨y, HY⟩ : ∃ y : Int, Hid (y = (lastM fs : Nat)) := ⟨_, Lib.hid rfl⟩
    rw [← HY.out] at CF
    have CS : Hid (∀ W, Calls Tryd.prog 82 #[.int .i64 y] W (SRes W (rowB 5 (lastM fs).testBit))) := Lib.hid fun W => set25_any 5 (by omega) _ y (by rw [HY.out, maskB_five (lastM_lt hok)]) W
    clear hok hr
    go_enter Tryd.func25, Tryd.ntmps25
    go_wp2_with fail
    rw [← hW0]
    refine CK.out.mono ?_
    rintro e1 w1 ⟨rfl, hb1⟩
    have hb := u0.trans (hb1.mono (by omega))
    have hs : B + 1 ≤ w1.heap.size := by have := hb1.size; omega
    have V1 := V.belowAt hb1 (by omega)
    clear hb1 u0 V hcg CK hW0
    have hcg := V1.cell
    go_wp2_with fail
    refine (CF.out w1 hb).mono ?_
    rintro e1 w2 ⟨rfl, hb2⟩
    have hb3 := hb.trans (hb2.mono (by omega))
    have hs2 : B ≤ w2.heap.size := by have := hb2.size; omega
    clear hb hb2 CF V1 hcg
    go_wp2_with fail
    refine (CS.out w2).mono ?_
    rintro e1 w3 ⟨u, rfl, ho, hb4⟩
    obtain ⟨ua, uc, rfl⟩ := owns_shape ho
    have HE := Lib.hid (And.intro (owns_base ho hs2) (hb3.trans (hb4.mono hs2)))
    clear ho hb4 hb3 CS
    go_wp2_with fail
    go_ret
    exact ⟨_, rfl, by rw [hB]; exact HE.out.1, by rw [hB]; exact HE.out.2⟩

set_option maxHeartbeats 4000000 in
theorem implFreeNames (v : Value) (fs : List FD) (row : List Int) (hP : FreP fs row) (w : World) (ht : Tab w) (hr : RdF v fs w) :
    Calls Tryd.prog 27 #[.agg #[v]] w (SRes w row) := by
  obtain ⟨a, c, rfl, -, -, -⟩ := id hr
  obtain ⟨B, hB⟩ : ∃ B, w.heap.size = B := ⟨_, rfl⟩
  have hTB : 2 < B := by rw [← hB]; exact ht.lt
  obtain ⟨W0, hW0⟩ : ∃ W0, W0 = w.alloc (.cells #[.slice a fs.length c] 46) := ⟨_, rfl⟩
  have u0 : Below B w W0 := by rw [hW0, ← hB]; exact below_alloc' _ _
  have V : VC 46 B #[.slice a fs.length c] W0 := by rw [hW0]; exact VC.new hB
  have hz0 : W0.heap.size = B + 1 := by rw [hW0]; simp [hB]
  have hcg := V.cell
  rcases hP with ⟨hno, rfl⟩ | ⟨hok, rfl⟩
  · have CK := Lib.hid (implFOk _ fs false (okFB_no hno) W0 (Row.below hr (hB ▸ u0)))
    clear hno hr
    go_enter Tryd.func27, Tryd.ntmps27
    go_wp2_with fail
    rw [← hW0]
    refine CK.out.mono ?_
    rintro e1 w1 ⟨rfl, hb1⟩
    have hb := u0.trans (hb1.mono (by omega))
    clear hb1 u0 V hcg CK hW0
    go_wp2_with fail
    go_ret
    exact ⟨.slice none 0 0, rfl, World.ownsRow_nil _ _ _ 1, by rw [hB]; exact hb⟩
  · have CK := Lib.hid (implFOk _ fs true (okFB_yes hok) W0 (Row.below hr (hB ▸ u0)))
    have CF : Hid (∀ W, Below B w W → Calls Tryd.prog 86 #[.agg #[.slice a fs.length c]] W fun e w' => ∃ u, e = .returned u ∧ w'.ownsRow W.heap.size 98 1 u fs.length (sets (masksF fs)) ∧ Below W.heap.size W w') := Lib.hid fun W hW => implFreeIn _ fs hok W (Row.below hr (hB ▸ hW))
    obtain ⟨y, HY⟩ : ∃ y : Int, Hid (y = (lastM fs : Nat)) := ⟨_, Lib.hid rfl⟩
    have CS : Hid (∀ W, Below B w W → Calls Tryd.prog 78 #[.int .u32 y] W (SRes W (rowB 5 (lastM fs).testBit))) := Lib.hid fun W hW => numbersB_any (by omega) _ y (by rw [HY.out, maskB_five (lastM_lt hok)]) W (ht.keep hW hTB)
    have hl1 := hok.1
    have hl40 := hok.2.1
    have hsub : ((fs.length : Int) - 1).toNat = fs.length - 1 := by omega
    clear hok hr
    go_enter Tryd.func27, Tryd.ntmps27
    go_wp2_with fail
    rw [← hW0]
    refine CK.out.mono ?_
    rintro e1 w1 ⟨rfl, hb1⟩
    have hb := u0.trans (hb1.mono (by omega))
    have hs : B + 1 ≤ w1.heap.size := by have := hb1.size; omega
    have V1 := V.belowAt hb1 (by omega)
    clear hb1 u0 V hcg CK hW0
    have hcg := V1.cell
    go_wp2_with fail
    refine (CF.out w1 hb).mono ?_
    rintro e1 w2 ⟨u, rfl, ho, hb2⟩
    have hb3 := hb.trans (hb2.mono (by omega))
    have hs2 : B ≤ w2.heap.size := by have := hb2.size; omega
    obtain ⟨g, cap, rfl⟩ := owns_head ho (by omega)
    have hml : (masksF fs).length = fs.length := masksF_length fs
    have hc1 : w2.cell? ⟨g, fs.length - 1, none⟩ = some (.int .u32 y) := by
      refine (ho.cellAt (fs.length - 1) (by omega)).trans ?_
      have : fs.length - 1 < (masksF fs).length := by omega
      rw [HY.out]
      simp [sets, lastM, List.getD, this]
    have CC := Lib.hid (CS.out w2 hb3)
    clear hb hb2 CF V1 hcg hml ho CS
    go_wp2_with fail
    refine CC.out.mono ?_
    rintro e1 w3 ⟨u, rfl, ho, hb4⟩
    obtain ⟨ua, uc, rfl⟩ := owns_shape ho
    have HE := Lib.hid (And.intro (owns_base ho hs2) (hb3.trans (hb4.mono hs2)))
    clear ho hb4 hb3 CC hc1
    go_wp2_with fail
    go_ret
    exact ⟨_, rfl, by rw [hB]; exact HE.out.1, by rw [hB]; exact HE.out.2⟩

theorem both_FreeNames (fs : List FD) : ∃ row : List Int, 1 + row.length ≤ 1000000000 ∧
    (∀ (w : World) (v : Value), Tab w → RdF v fs w → Calls Tryd.prog 25 #[.agg #[v]] w (SRes w row)) ∧
    (∀ (w : World) (v : Value), Tab w → RdF v fs w → Calls Tryd.prog 27 #[.agg #[v]] w (SRes w row)) := by
  obtain ⟨row, h1, h2⟩ := freP_has fs
  exact ⟨row, h1, fun w v _ h => specFreeNames v fs row h2 w h, fun w v ht h => implFreeNames v fs row h2 w ht h⟩
end Go.Proofs.YtbhobmngnjfgfaaDoor
