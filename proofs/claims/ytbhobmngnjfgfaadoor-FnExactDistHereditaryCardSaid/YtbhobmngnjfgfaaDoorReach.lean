/-
  'reach' of the program: what is reached from a vertex within a set.
-/
import Derived.Test.YtbhobmngnjfgfaaDoorSetK
namespace Go.Proofs.YtbhobmngnjfgfaaDoor
open Go.RowKit

theorem way_pt {n : Nat} {e : Nat → Nat → Bool} {p : Nat → Bool} {v : Nat} {o : Nat → Bool} (h0 : o v = true) (h1 : ∀ b, o b = true → b < n ∧ Way n e p v b)
    (h2 : ∀ a b, o a = true → b < n → e a b = true → p b = true → o b = true) : o = wayB n e p v := by
  funext b
  rw [Bool.eq_iff_iff, wayB_iff]
  refine ⟨fun h => (h1 b h).2, fun h => ?_⟩
  induction h with
  | here => exact h0
  | step h hb he hp ih => exact h2 _ _ ih hb he hp
theorem mask_le {n : Nat} {o o' : Nat → Bool} (h : ∀ b, o b = true → o' b = true) : maskB n o ≤ maskB n o' := by
  have e1 : maskB n o' = maskB n o ||| maskB n o' := by
    apply Nat.eq_of_testBit_eq
    intro i
    rw [Nat.testBit_or, testBit_maskB, testBit_maskB]
    cases hi : o i with
    | false => simp
    | true => rw [h i hi]; simp
  rw [e1]
  exact Nat.left_le_or
theorem mask_lt16 {n : Nat} (hn : n ≤ 16) (o : Nat → Bool) : maskB n o < 65536 := by
  have h := lt_of_bits (m := maskB n o) (n := n) fun i hi => by rw [testBit_maskB]; simp; omega
  exact Nat.lt_of_lt_of_le h (Nat.pow_le_pow_right (by decide) hn)

/-- What the run holds: a part of what is reached. -/
structure Met (n : Nat) (e : Nat → Nat → Bool) (p : Nat → Bool) (v : Nat) (o : Nat → Bool) : Prop where
  start : o v = true
  ways : ∀ b, o b = true → b < n ∧ Way n e p v b
/-- The same inside a round: the neighbours of the first j have been put in. -/
structure Met2 (n : Nat) (e : Nat → Nat → Bool) (p : Nat → Bool) (v : Nat) (o : Nat → Bool) (j : Nat) (o' : Nat → Bool) : Prop where
  more : ∀ b, o b = true → o' b = true
  ways : ∀ b, o' b = true → b < n ∧ Way n e p v b
  near : ∀ a b : Nat, (a : Int) ∈ (rowB n o).take j → b < n → e a b = true → p b = true → o' b = true
theorem Met2.start {n : Nat} {e : Nat → Nat → Bool} {p : Nat → Bool} {v : Nat} {o : Nat → Bool} (h : Met n e p v o) : Met2 n e p v o 0 o :=
  ⟨fun _ h => h, h.ways, fun a b ha => by simp at ha⟩
theorem Met2.succ {n : Nat} {e : Nat → Nat → Bool} {p : Nat → Bool} {v : Nat} {o o' : Nat → Bool} {j q : Nat} (h : Met2 n e p v o j o') (hq : (rowB n o)[j]? = some (q : Int)) :
    Met2 n e p v o (j + 1) (fun b => o' b || (decide (b < n) && (e q b && p b))) := by
  obtain ⟨q', hqn, hoq, e1⟩ := row_at hq
  obtain rfl : q = q' := by omega
  refine ⟨fun b hb => by rw [h.more b hb]; rfl, fun b hb => ?_, fun a b ha hb he hp => ?_⟩
  · rw [Bool.or_eq_true] at hb
    rcases hb with hb | hb
    · exact h.ways b hb
    · simp at hb
      exact ⟨hb.1, .step (h.ways q (h.more q hoq)).2 hb.1 hb.2.1 hb.2.2⟩
  · rw [take_snoc hq, List.mem_append] at ha
    rcases ha with ha | ha
    · rw [h.near a b ha hb he hp]; rfl
    · simp at ha
      obtain rfl : a = q := by omega
      simp [hb, he, hp]
theorem Met2.met {n : Nat} {e : Nat → Nat → Bool} {p : Nat → Bool} {v : Nat} {o o' : Nat → Bool} {j : Nat} (h0 : Met n e p v o) (h : Met2 n e p v o j o') : Met n e p v o' := ⟨h.more v h0.start, h.ways⟩
theorem Met2.done {n : Nat} {e : Nat → Nat → Bool} {p : Nat → Bool} {v : Nat} {o o' : Nat → Bool} (h0 : Met n e p v o) (h : Met2 n e p v o (rowB n o).length o') (hm : maskB n o' = maskB n o) : o = wayB n e p v := by
  refine way_pt h0.start h0.ways fun a b ha hb he hp => ?_
  have h1 := h.near a b (by rw [List.take_length]; exact nat_mem_rowB.2 ⟨(h0.ways a ha).1, ha⟩) hb he hp
  rw [← mask_eq_iff.1 hm b hb]
  exact h1

set_option maxHeartbeats 2000000 in
theorem reach_any (v : Value) (n : Nat) (e : Nat → Nat → Bool) (hn : n ≤ 16) (p : Nat → Bool) (s : Nat) (hs : s < n) (S : Int) (hS : S = s) (z : Int) (hz : z = (maskB n p : Nat)) (w : World) (ht : Tab w) (hr : Row w 1 v n (sets (NB n e))) :
    Calls Tryd.prog 202 #[v, .int .i64 S, .int .u32 z] w fun r w' => r = .returned (.int .u32 (maskB n (wayB n e p s) : Nat)) ∧ Below w.heap.size w w' := by
  obtain ⟨a, c, rfl, -, -, -⟩ := id hr
  obtain ⟨B, hB⟩ : ∃ B, w.heap.size = B := ⟨_, rfl⟩
  have hTB : 2 < B := by rw [← hB]; exact ht.lt
  have HZ := Lib.hid hz
  have HSE := Lib.hid hS
  clear hz hS
  obtain ⟨y0, HY0⟩ : ∃ y : Int, Hid (y = ((2 ^ s : Nat) : Int)) := ⟨_, Lib.hid rfl⟩
  obtain ⟨m0, HM0⟩ : ∃ m : Nat, Hid (m = maskB n (fun b => decide (b = s))) := ⟨_, Lib.hid rfl⟩
  have HYM : Hid (y0 = (m0 : Int)) := Lib.hid (by rw [HY0.out, HM0.out, pow_maskB hs])
  have HMET : Hid (Met n e p s (fun b => decide (b = s))) := Lib.hid ⟨by simp, fun b hb => by simp at hb; subst hb; exact ⟨hs, .here⟩⟩
  have hcl : Below B w w := Below.refl _ _
  go_enter Tryd.func202, Tryd.ntmps202
  go_wp2_with fail
  refine (one_at S s HSE.out (by omega) y0 HY0.out _).mono ?_
  rintro e1 w' ⟨rfl, rfl⟩
  rw [HYM.out]
  go_wp2_with fail
  go_loopw [7] (fun t wr => ∃ (m : Nat) (o : Nat → Bool), t = .int .u32 m ∧ Hid (m = maskB n o) ∧ Hid (Met n e p s o) ∧ Below B w wr) (fun t _ => 65536 - (intOf t).toNat)
  case atStart => exact ⟨m0, _, rfl, HM0, HMET, hcl⟩
  case round =>
    clear hcl
    obtain ⟨m, o, rfl, HM, HO, hb⟩ := hrel
    obtain ⟨mi, HMI⟩ : ∃ z : Int, Hid ((m : Int) = z) := ⟨_, Lib.hid rfl⟩
    have HLI := Lib.hid (listB_any (n := n) (by omega) o mi (by rw [← HMI.out, HM.out]) wr (ht.keep hb hTB))
    have hyl := rowB_length n o
    rw [HMI.out]
    go_wp2_with fail
    refine HLI.out.mono ?_
    rintro e1 w1 ⟨u1, rfl, hL1, hb1⟩
    obtain ⟨la, lc, rfl⟩ := owns_shape hL1
    have hRL := Row.of_owns hL1
    obtain ⟨C, hC⟩ : ∃ C, w1.heap.size = C := ⟨_, rfl⟩
    have hsz := hb.size
    have hBC : B ≤ C := by have := hb1.size; omega
    have hb01 := hb.trans (hb1.mono (by omega))
    have hcl : Below C w1 w1 := Below.refl _ _
    clear hL1 HLI hb1 hb
    go_wp2_with fail
    go_loopw [8, 17] (fun t i wr => ∃ (j m' : Nat) (o' : Nat → Bool), j ≤ (rowB n o).length ∧ i = .int .i64 j ∧ t = .int .u32 m' ∧ Hid (m' = maskB n o') ∧ Hid (Met2 n e p s o j o') ∧ Below C w1 wr) (fun _ i _ => (rowB n o).length - (intOf i).toNat)
    case atStart => exact ⟨0, m, o, Nat.zero_le _, rfl, by rw [HMI.out], HM, Lib.hid (Met2.start HO.out), hcl⟩
    case round =>
      clear hcl
      obtain ⟨j, m', o', hj, rfl, rfl, HM', HO', hb⟩ := hrel
      by_cases hlt : j < (rowB n o).length
      · obtain ⟨yb, yo, y, rfl, hcy, HY⟩ := Row.intAt (Row.below hRL (hC.symm ▸ hb)) hlt
        obtain ⟨q, hq, hpq, rfl⟩ := row_at HY.out
        obtain ⟨gb, go, x, rfl, hcx, HX⟩ := (hr.below (hB.symm ▸ (hb01.trans (hb.mono hBC)))).setAt (j := q) (by simpa using hq)
        obtain rfl : maskB n (e q) = x := by have h := HX.out; rw [NB_at e hq] at h; exact Option.some.inj h
        obtain ⟨xi, HXI⟩ : ∃ z : Int, Hid (((maskB n (e q) : Nat) : Int) = z) := ⟨_, Lib.hid rfl⟩
        obtain ⟨z1, HZ1⟩ : ∃ z : Int, Hid ((m' : Int) = z) := ⟨_, Lib.hid rfl⟩
        obtain ⟨z2, HZ2⟩ : ∃ z : Int, Hid (z = (maskB n (fun i => e q i && p i) : Nat)) := ⟨_, Lib.hid rfl⟩
        obtain ⟨z5, HZ5⟩ : ∃ z : Nat, Hid (z = maskB n (fun b => o' b || (decide (b < n) && (e q b && p b)))) := ⟨_, Lib.hid rfl⟩
        have hb1' : bits BinOp.and IntKind.u32 xi z = z2 := by rw [← HXI.out, HZ.out, HZ2.out, mask_and (by omega)]
        have hb2' : bits BinOp.or IntKind.u32 z1 z2 = (z5 : Int) := by
          rw [← HZ1.out, HM'.out, HZ2.out, HZ5.out, maskB_or (by omega)]
          congr 1
          exact maskB_ext fun i hi => by simp [hi]
        have HN := Lib.hid (HO'.out.succ HY.out)
        rw [HXI.out] at hcx
        rw [HZ1.out]
        clear HX
        go_wp2_with fail
        go_roundw
        case rel => exact ⟨j + 1, z5, _, by omega, by go_num, rfl, HZ5, HN, hb⟩
        case measure => simp [intOf]; omega
      · obtain rfl : j = (rowB n o).length := by omega
        have hb2 := hb01.trans (hb.mono hBC)
        by_cases he : m' = m
        · have hd : ((m' : Int) == mi) = true := by rw [← HMI.out, beq_iff_eq]; omega
          have HE := Lib.hid (HO'.out.done HO.out (by rw [← HM'.out, ← HM.out]; exact he))
          clear he
          go_wp2_with fail
          go_ret
          refine ⟨ret_int ?_, by rw [hB]; exact hb2⟩
          rw [← HMI.out, HM.out, HE.out]
        · have hd : ((m' : Int) == mi) = false := by rw [← HMI.out, beq_eq_false_iff_ne]; omega
          have hle : m ≤ m' := by rw [HM.out, HM'.out]; exact mask_le HO'.out.more
          have hlt6 : m' < 65536 := by rw [HM'.out]; exact mask_lt16 hn o'
          have hmi : mi = (m : Int) := HMI.out.symm
          have HMI2 := Lib.hid hmi
          clear hmi
          have HMT := Lib.hid (HO'.out.met HO.out)
          go_wp2_with fail
          go_roundw
          case rel => exact ⟨m', o', rfl, HM', HMT, hb2⟩
          case measure => rw [HMI2.out]; simp [intOf]; omega
end Go.Proofs.YtbhobmngnjfgfaaDoor
