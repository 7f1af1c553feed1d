import Derived.Test.YtpfhflkpnjkgkaaDoorGq04
import Derived.Test.YtpfhflkpnjkgkaaDoorGq07
/-
  'AddedVertex' of the reference and of the program.
-/



namespace Go.Proofs.YtpfhflkpnjkgkaaDoor
open Go.RowKit

/-- A graph with one more vertex, without edges. -/
def grown (n : Nat) (e : Nat → Nat → Bool) : Nat → Nat → Bool := fun a b => decide (a < n) && decide (b < n) && e a b
/-- The new vertex n is joined to these. -/
def hung (n : Nat) (e : Nat → Nat → Bool) (xs : List Int) : Nat → Nat → Bool := xs.foldl (fun f x => plus f x.toNat n) (grown n e)
theorem plus_comm (f : Nat → Nat → Bool) (u v : Nat) : plus f u v = plus f v u := by
  funext a b
  unfold plus
  rw [Bool.or_assoc, Bool.or_assoc]
  congr 1
  exact Bool.or_comm _ _
theorem hung_succ {n : Nat} {e : Nat → Nat → Bool} {xs : List Int} {k x : Nat} (h : xs[k]? = some (x : Int)) : hung n e (xs.take (k + 1)) = plus (hung n e (xs.take k)) x n := by
  unfold hung
  rw [take_snoc h, List.foldl_append]
  simp

theorem rowB_grown (n : Nat) (p : Nat → Bool) : rowB (n + 1) (fun b => decide (b < n) && p b) = rowB n p := by
  unfold rowB
  rw [filter_range_lt]
theorem rowsB_grown (n : Nat) (e : Nat → Nat → Bool) : rowsB n e ++ [[]] = rowsB (n + 1) (grown n e) := by
  unfold rowsB
  rw [List.range_succ, List.map_append]
  congr 1
  · apply List.map_congr_left
    intro u hu
    have hu' := List.mem_range.1 hu
    rw [← rowB_grown]
    refine rowB_ext fun b hb => ?_
    simp [grown, hu']
  · have : rowB (n + 1) (grown n e n) = [] := by
      unfold rowB
      rw [List.filter_eq_nil_iff.2 (by simp [grown])]
      rfl
    simp [this]
theorem NB_grown (n : Nat) (e : Nat → Nat → Bool) : NB n e ++ [0] = NB (n + 1) (grown n e) := by
  unfold NB
  rw [List.range_succ, List.map_append]
  congr 1
  · apply List.map_congr_left
    intro u hu
    have hu' := List.mem_range.1 hu
    apply Nat.eq_of_testBit_eq
    intro i
    rw [testBit_maskB, testBit_maskB]
    by_cases h : i < n
    · have : i < n + 1 := by omega
      simp [grown, hu', h, this]
    · simp [grown, h]
  · have : maskB (n + 1) (grown n e n) = 0 := maskB_eq_zero.2 fun i _ => by simp [grown]
    simp [this]

/-- An owned graph in a variable, one more row without numbers. -/
theorem rows_snoc (xss : List (List Int)) : (xss ++ [[]]).map ints = xss.map ints ++ [[]] := by simp [ints]

/-- What 'AddedVertex' asks. -/
def OkV (xss : List (List Int)) (xs : List Int) : Prop := okB xss = true ∧ SetP xss.length xs ∧ xss.length ≠ 16

theorem GRes.fin {w0 wr : World} {B b base : Nat} {u : Value} {vs : List Value} {rows : List (List Int)} (hB : w0.heap.size = B) (hb : Below B w0 wr) (hbb : B ≤ b)
    (hG : OwnG wr base 24 2 u vs (rows.map ints)) (hbase : b < base) (ok : Bool) :
    GRes w0 rows ok (.returned (.tuple #[.agg #[u], .bool ok])) (wr.setCell ⟨b, 0, none⟩ u) := by
  subst hB
  exact ⟨u, vs, rfl, (hG.other hbase _).rebase (by omega), hb.setCell hbb _⟩

theorem row_one {w : World} {b : Nat} {x : Value} {t : TypeId} (h : VC t b #[x] w) : Row w 1 (.slice (some ⟨b, 0, none⟩) 1 1) 1 [x] := by
  refine ⟨_, 1, rfl, by omega, by simp [maxLen], rfl, (by intro h; cases h), fun j u hj => ⟨b, 0, rfl, ?_⟩⟩
  match j, hj with
  | 0, hj => simp at hj; subst hj; exact h.cell

end Go.Proofs.YtpfhflkpnjkgkaaDoor
/-
  Sets as masks and as rising rows: 'list' and 'numbers' of a mask, 'l1Into' of a row, in their normal forms.
-/



namespace Go.Proofs.YtpfhflkpnjkgkaaDoor
open Go.RowKit

theorem into_rowB {n : Nat} (hn : n ≤ 32) (o : Nat → Bool) {q : Nat} (hq : q < n) : into (rowB n o) (q : Int) = rowB n fun b => o b || decide (b = q) := by
  rw [← nums_maskB hn o, into_nums _ q (by omega), pow_maskB hq]
  have h : maskB n o ||| maskB n (fun i => decide (i = q)) = maskB n fun b => o b || decide (b = q) := by
    apply Nat.eq_of_testBit_eq
    intro i
    rw [Nat.testBit_or, testBit_maskB, testBit_maskB, testBit_maskB]
    cases decide (i < n) <;> simp
  rw [h, nums_maskB hn]
theorem inL_rowB {n : Nat} {p : Nat → Bool} {b : Nat} (hb : b < n) : inL (rowB n p) b = p b := by
  unfold inL
  rw [Bool.eq_iff_iff, decide_eq_true_eq, nat_mem_rowB]
  exact ⟨fun h => h.2, fun h => ⟨hb, h⟩⟩
theorem inL_nil (b : Nat) : inL [] b = false := by simp [inL]

/-- 'list' of a set. -/
theorem listB_any {n : Nat} (hn : n ≤ 32) (p : Nat → Bool) (z : Int) (hz : z = (maskB n p : Nat)) (w : World) (ht : Tab w) :
    Calls Tryd.prog 51 #[.int .u32 z] w fun e w' => ∃ v, e = .returned v ∧ w'.ownsRow w.heap.size 3 1 v (rowB n p).length (ints (rowB n p)) ∧ Below w.heap.size w w' := by
  subst hz
  have h := list_any (maskB n p) (maskB_small hn p) w ht
  rwa [show (bitsOf (maskB n p)).length = (rowB n p).length by rw [← nums_maskB hn p]; simp [nums], ← ints_nums, nums_maskB hn] at h
/-- 'numbers' of a set. -/
theorem numbersB_any {n : Nat} (hn : n ≤ 32) (p : Nat → Bool) (z : Int) (hz : z = (maskB n p : Nat)) (w : World) (ht : Tab w) :
    Calls Tryd.prog 27 #[.int .u32 z] w (SRes w (rowB n p)) := by
  subst hz
  have h := numbers_any (maskB n p) (maskB_small hn p) w ht
  rwa [nums_maskB hn] at h
/-- An element of a rising row, as a number. -/
theorem row_at {n : Nat} {p : Nat → Bool} {j : Nat} {x : Int} (h : (rowB n p)[j]? = some x) : ∃ q : Nat, q < n ∧ p q = true ∧ x = q := by
  obtain ⟨q, h1, h2, h3⟩ := mem_rowB.1 (List.mem_of_getElem? h)
  exact ⟨q, h1, h2, h3⟩
/-- Bits of two masks, as they are computed. -/
theorem mask_and {n : Nat} (hn : n ≤ 32) (p q : Nat → Bool) : bits BinOp.and IntKind.u32 ((maskB n p : Nat) : Int) ((maskB n q : Nat) : Int) = ((maskB n (fun i => p i && q i) : Nat) : Int) := by
  rw [maskB_and hn p (maskB_small hn q)]
  congr 1
  exact maskB_ext fun i hi => by rw [testBit_maskB]; simp [hi]
theorem mask_andNot {n : Nat} (hn : n ≤ 32) (p q : Nat → Bool) : bits BinOp.andNot IntKind.u32 ((maskB n p : Nat) : Int) ((maskB n q : Nat) : Int) = ((maskB n (fun i => p i && !q i) : Nat) : Int) := by
  rw [maskB_andNot hn p (maskB_small hn q)]
  congr 1
  exact maskB_ext fun i hi => by rw [testBit_maskB]; simp [hi]
theorem mask_eq_iff {n : Nat} {p q : Nat → Bool} : maskB n p = maskB n q ↔ ∀ i, i < n → p i = q i := by
  refine ⟨fun h i hi => ?_, maskB_ext⟩
  have := testBit_maskB n p i
  rw [h, testBit_maskB] at this
  simpa [hi] using this.symm
end Go.Proofs.YtpfhflkpnjkgkaaDoor
/-
  'reach' of the program: what is reached from a vertex within a set.
-/

namespace Go.Proofs.YtpfhflkpnjkgkaaDoor
open Go.RowKit

theorem way_pt {n : Nat} {e : Nat → Nat → Bool} {p : Nat → Bool} {v : Nat} {o : Nat → Bool} (h0 : o v = true) (h1 : ∀ b, o b = true → b < n ∧ Way n e p v b)
    (h2 : ∀ a b, o a = true → b < n → e a b = true → p b = true → o b = true) : o = wayB n e p v := by
  funext b
  rw [Bool.eq_iff_iff, wayB_iff]
  refine ⟨fun h => (h1 b h).2, fun h => ?_⟩
  induction h with
  | here => exact h0
  | step h hb he hp ih => exact h2 _ _ ih hb he hp
theorem mask_le {n : Nat} {o o' : Nat → Bool} (h : ∀ b, o b = true → o' b = true) : maskB n o ≤ maskB n o' := by
  have e1 : maskB n o' = maskB n o ||| maskB n o' := by
    apply Nat.eq_of_testBit_eq
    intro i
    rw [Nat.testBit_or, testBit_maskB, testBit_maskB]
    cases hi : o i with
    | false => simp
    | true => rw [h i hi]; simp
  rw [e1]
  exact Nat.left_le_or
theorem mask_lt16 {n : Nat} (hn : n ≤ 16) (o : Nat → Bool) : maskB n o < 65536 := by
  have h := lt_of_bits (m := maskB n o) (n := n) fun i hi => by rw [testBit_maskB]; simp; omega
  exact Nat.lt_of_lt_of_le h (Nat.pow_le_pow_right (by decide) hn)

/-- What the run holds: a part of what is reached. -/
structure Met (n : Nat) (e : Nat → Nat → Bool) (p : Nat → Bool) (v : Nat) (o : Nat → Bool) : Prop where
  start : o v = true
  ways : ∀ b, o b = true → b < n ∧ Way n e p v b
/-- The same inside a round: the neighbours of the first j have been put in. -/
structure Met2 (n : Nat) (e : Nat → Nat → Bool) (p : Nat → Bool) (v : Nat) (o : Nat → Bool) (j : Nat) (o' : Nat → Bool) : Prop where
  more : ∀ b, o b = true → o' b = true
  ways : ∀ b, o' b = true → b < n ∧ Way n e p v b
  near : ∀ a b : Nat, (a : Int) ∈ (rowB n o).take j → b < n → e a b = true → p b = true → o' b = true
theorem Met2.start {n : Nat} {e : Nat → Nat → Bool} {p : Nat → Bool} {v : Nat} {o : Nat → Bool} (h : Met n e p v o) : Met2 n e p v o 0 o :=
  ⟨fun _ h => h, h.ways, fun a b ha => by simp at ha⟩
theorem Met2.succ {n : Nat} {e : Nat → Nat → Bool} {p : Nat → Bool} {v : Nat} {o o' : Nat → Bool} {j q : Nat} (h : Met2 n e p v o j o') (hq : (rowB n o)[j]? = some (q : Int)) :
    Met2 n e p v o (j + 1) (fun b => o' b || (decide (b < n) && (e q b && p b))) := by
  obtain ⟨q', hqn, hoq, e1⟩ := row_at hq
  obtain rfl : q = q' := by omega
  refine ⟨fun b hb => by rw [h.more b hb]; rfl, fun b hb => ?_, fun a b ha hb he hp => ?_⟩
  · rw [Bool.or_eq_true] at hb
    rcases hb with hb | hb
    · exact h.ways b hb
    · simp at hb
      exact ⟨hb.1, .step (h.ways q (h.more q hoq)).2 hb.1 hb.2.1 hb.2.2⟩
  · rw [take_snoc hq, List.mem_append] at ha
    rcases ha with ha | ha
    · rw [h.near a b ha hb he hp]; rfl
    · simp at ha
      obtain rfl : a = q := by omega
      simp [hb, he, hp]
theorem Met2.met {n : Nat} {e : Nat → Nat → Bool} {p : Nat → Bool} {v : Nat} {o o' : Nat → Bool} {j : Nat} (h0 : Met n e p v o) (h : Met2 n e p v o j o') : Met n e p v o' := ⟨h.more v h0.start, h.ways⟩
theorem Met2.done {n : Nat} {e : Nat → Nat → Bool} {p : Nat → Bool} {v : Nat} {o o' : Nat → Bool} (h0 : Met n e p v o) (h : Met2 n e p v o (rowB n o).length o') (hm : maskB n o' = maskB n o) : o = wayB n e p v := by
  refine way_pt h0.start h0.ways fun a b ha hb he hp => ?_
  have h1 := h.near a b (by rw [List.take_length]; exact nat_mem_rowB.2 ⟨(h0.ways a ha).1, ha⟩) hb he hp
  rw [← mask_eq_iff.1 hm b hb]
  exact h1

set_option maxHeartbeats 2000000 in
theorem reach_any (v : Value) (n : Nat) (e : Nat → Nat → Bool) (hn : n ≤ 16) (p : Nat → Bool) (s : Nat) (hs : s < n) (S : Int) (hS : S = s) (z : Int) (hz : z = (maskB n p : Nat)) (w : World) (ht : Tab w) (hr : Row w 1 v n (sets (NB n e))) :
    Calls Tryd.prog 68 #[v, .int .i64 S, .int .u32 z] w fun r w' => r = .returned (.int .u32 (maskB n (wayB n e p s) : Nat)) ∧ Below w.heap.size w w' := by
  obtain ⟨a, c, rfl, -, -, -⟩ := id hr
  obtain ⟨B, hB⟩ : ∃ B, w.heap.size = B := ⟨_, rfl⟩
  have hTB : 0 < B := by rw [← hB]; exact ht.lt
  have HZ := Lib.hid hz
  have HSE := Lib.hid hS
  clear hz hS
  obtain ⟨y0, HY0⟩ : ∃ y : Int, Hid (y = ((2 ^ s : Nat) : Int)) := ⟨_, Lib.hid rfl⟩
  obtain ⟨m0, HM0⟩ : ∃ m : Nat, Hid (m = maskB n (fun b => decide (b = s))) := ⟨_, Lib.hid rfl⟩
  have HYM : Hid (y0 = (m0 : Int)) := Lib.hid (by rw [HY0.out, HM0.out, pow_maskB hs])
  have HMET : Hid (Met n e p s (fun b => decide (b = s))) := Lib.hid ⟨by simp, fun b hb => by simp at hb; subst hb; exact ⟨hs, .here⟩⟩
  have hcl : Below B w w := Below.refl _ _
  go_enter Tryd.func68, Tryd.ntmps68
  go_wp2_with fail
  refine (one_at S s HSE.out (by omega) y0 HY0.out _).mono ?_
  rintro e1 w' ⟨rfl, rfl⟩
  rw [HYM.out]
  go_wp2_with fail
  go_loopw [7] (fun t wr => ∃ (m : Nat) (o : Nat → Bool), t = .int .u32 m ∧ Hid (m = maskB n o) ∧ Hid (Met n e p s o) ∧ Below B w wr) (fun t _ => 65536 - (intOf t).toNat)
  case atStart => exact ⟨m0, _, rfl, HM0, HMET, hcl⟩
  case round =>
    clear hcl
    obtain ⟨m, o, rfl, HM, HO, hb⟩ := hrel
    obtain ⟨mi, HMI⟩ : ∃ z : Int, Hid ((m : Int) = z) := ⟨_, Lib.hid rfl⟩
    have HLI := Lib.hid (listB_any (n := n) (by omega) o mi (by rw [← HMI.out, HM.out]) wr (ht.keep hb hTB))
    have hyl := rowB_length n o
    rw [HMI.out]
    go_wp2_with fail
    refine HLI.out.mono ?_
    rintro e1 w1 ⟨u1, rfl, hL1, hb1⟩
    obtain ⟨la, lc, rfl⟩ := owns_shape hL1
    have hRL := Row.of_owns hL1
    obtain ⟨C, hC⟩ : ∃ C, w1.heap.size = C := ⟨_, rfl⟩
    have hsz := hb.size
    have hBC : B ≤ C := by have := hb1.size; omega
    have hb01 := hb.trans (hb1.mono (by omega))
    have hcl : Below C w1 w1 := Below.refl _ _
    clear hL1 HLI hb1 hb
    go_wp2_with fail
    go_loopw [8, 17] (fun t i wr => ∃ (j m' : Nat) (o' : Nat → Bool), j ≤ (rowB n o).length ∧ i = .int .i64 j ∧ t = .int .u32 m' ∧ Hid (m' = maskB n o') ∧ Hid (Met2 n e p s o j o') ∧ Below C w1 wr) (fun _ i _ => (rowB n o).length - (intOf i).toNat)
    case atStart => exact ⟨0, m, o, Nat.zero_le _, rfl, by rw [HMI.out], HM, Lib.hid (Met2.start HO.out), hcl⟩
    case round =>
      clear hcl
      obtain ⟨j, m', o', hj, rfl, rfl, HM', HO', hb⟩ := hrel
      by_cases hlt : j < (rowB n o).length
      · obtain ⟨yb, yo, y, rfl, hcy, HY⟩ := Row.intAt (Row.below hRL (hC.symm ▸ hb)) hlt
        obtain ⟨q, hq, hpq, rfl⟩ := row_at HY.out
        obtain ⟨gb, go, x, rfl, hcx, HX⟩ := (hr.below (hB.symm ▸ (hb01.trans (hb.mono hBC)))).setAt (j := q) (by simpa using hq)
        obtain rfl : maskB n (e q) = x := by have h := HX.out; rw [NB_at e hq] at h; exact Option.some.inj h
        obtain ⟨xi, HXI⟩ : ∃ z : Int, Hid (((maskB n (e q) : Nat) : Int) = z) := ⟨_, Lib.hid rfl⟩
        obtain ⟨z1, HZ1⟩ : ∃ z : Int, Hid ((m' : Int) = z) := ⟨_, Lib.hid rfl⟩
        obtain ⟨z2, HZ2⟩ : ∃ z : Int, Hid (z = (maskB n (fun i => e q i && p i) : Nat)) := ⟨_, Lib.hid rfl⟩
        obtain ⟨z5, HZ5⟩ : ∃ z : Nat, Hid (z = maskB n (fun b => o' b || (decide (b < n) && (e q b && p b)))) := ⟨_, Lib.hid rfl⟩
        have hb1' : bits BinOp.and IntKind.u32 xi z = z2 := by rw [← HXI.out, HZ.out, HZ2.out, mask_and (by omega)]
        have hb2' : bits BinOp.or IntKind.u32 z1 z2 = (z5 : Int) := by
          rw [← HZ1.out, HM'.out, HZ2.out, HZ5.out, maskB_or (by omega)]
          congr 1
          exact maskB_ext fun i hi => by simp [hi]
        have HN := Lib.hid (HO'.out.succ HY.out)
        rw [HXI.out] at hcx
        rw [HZ1.out]
        clear HX
        go_wp2_with fail
        go_roundw
        case rel => exact ⟨j + 1, z5, _, by omega, by go_num, rfl, HZ5, HN, hb⟩
        case measure => simp [intOf]; omega
      · obtain rfl : j = (rowB n o).length := by omega
        have hb2 := hb01.trans (hb.mono hBC)
        by_cases he : m' = m
        · have hd : ((m' : Int) == mi) = true := by rw [← HMI.out, beq_iff_eq]; omega
          have HE := Lib.hid (HO'.out.done HO.out (by rw [← HM'.out, ← HM.out]; exact he))
          clear he
          go_wp2_with fail
          go_ret
          refine ⟨ret_int ?_, by rw [hB]; exact hb2⟩
          rw [← HMI.out, HM.out, HE.out]
        · have hd : ((m' : Int) == mi) = false := by rw [← HMI.out, beq_eq_false_iff_ne]; omega
          have hle : m ≤ m' := by rw [HM.out, HM'.out]; exact mask_le HO'.out.more
          have hlt6 : m' < 65536 := by rw [HM'.out]; exact mask_lt16 hn o'
          have hmi : mi = (m : Int) := HMI.out.symm
          have HMI2 := Lib.hid hmi
          clear hmi
          have HMT := Lib.hid (HO'.out.met HO.out)
          go_wp2_with fail
          go_roundw
          case rel => exact ⟨m', o', rfl, HM', HMT, hb2⟩
          case measure => rw [HMI2.out]; simp [intOf]; omega
end Go.Proofs.YtpfhflkpnjkgkaaDoor
/-
  'AddedEdge' of the reference and of the program.
-/


namespace Go.Proofs.YtpfhflkpnjkgkaaDoor
open Go.RowKit

/-- What 'AddedEdge' asks. -/
def OkA (xss : List (List Int)) (u v : Int) : Prop := vertexB xss u = true ∧ vertexB xss v = true ∧ u ≠ v ∧ edgeB xss u v = false
instance (xss : List (List Int)) (u v : Int) : Decidable (OkA xss u v) := by unfold OkA; infer_instance
/-- Two vertices of a valid graph. -/
structure Two (xss : List (List Int)) (u v : Int) (n : Nat) (e : Nat → Nat → Bool) (a b : Nat) : Prop where
  adj : Adj n e
  eq : xss = rowsB n e
  len : xss.length = n
  ua : u = a
  vb : v = b
  an : a < n
  bn : b < n
theorem two_of {xss : List (List Int)} {u v : Int} (h1 : vertexB xss u = true) (h2 : vertexB xss v = true) : ∃ e a b, Two xss u v xss.length e a b := by
  unfold vertexB at h1 h2
  rw [Bool.and_eq_true] at h1 h2
  obtain ⟨e, hA, hx⟩ := (okB_iff xss).1 h1.1
  obtain ⟨a, ha, han⟩ := inN_nat h1.2
  obtain ⟨b, hb, hbn⟩ := inN_nat h2.2
  exact ⟨e, a, b, hA, hx, rfl, ha, hb, han, hbn⟩
theorem edgeB_two {xss : List (List Int)} {u v : Int} {n : Nat} {e : Nat → Nat → Bool} {a b : Nat} (h : Two xss u v n e a b) : edgeB xss u v = e a b := by
  obtain ⟨hA, hx, hl, rfl, rfl, ha, hb⟩ := h
  unfold edgeB
  rw [show okB xss = true by rw [hx]; exact okB_adj hA, show inN xss.length (a : Int) = true by rw [inN_iff]; omega, Int.toNat_natCast, hx, rowsB_getD e ha, contains_rowB]
  simp [hb]

/-- An owned graph, changed in place, goes into the variable of the result. -/
theorem GRes.fin2 {w0 wr : World} {B b base : Nat} {u : Value} {vs : List Value} {rows : List (List Int)} (hB : w0.heap.size = B) (hb : Below B w0 wr) (hbb : B ≤ b)
    (hG : OwnG wr base 24 2 u vs (rows.map ints)) (hbase : b < base) (ok : Bool) :
    GRes w0 rows ok (.returned (.tuple #[.agg #[u], .bool ok])) (wr.setCell ⟨b, 0, none⟩ u) := GRes.fin hB hb hbb hG hbase ok

end Go.Proofs.YtpfhflkpnjkgkaaDoor
/-
  'CutEdge' of the reference and of the program.
-/

namespace Go.Proofs.YtpfhflkpnjkgkaaDoor
open Go.RowKit

/-- One edge less. -/
def minus (e : Nat → Nat → Bool) (u v : Nat) : Nat → Nat → Bool := fun a b => e a b && !(decide (a = u) && decide (b = v)) && !(decide (a = v) && decide (b = u))
def without (xs : List Int) (x : Int) : List Int := xs.filter fun y => y != x
theorem without_rowB (n : Nat) (p : Nat → Bool) (x : Nat) : without (rowB n p) (x : Int) = rowB n (fun b => p b && !decide (b = x)) := by
  unfold without rowB
  rw [List.filter_map, List.filter_filter]
  congr 1
  apply List.filter_congr
  intro i _
  rw [Bool.and_comm]
  congr 1
  rw [Bool.eq_iff_iff]
  simp
  omega
theorem without_snoc {xs : List Int} {k : Nat} {y : Int} (x : Int) (h : xs[k]? = some y) : without (xs.take (k + 1)) x = without (xs.take k) x ++ if y = x then [] else [y] := by
  unfold without
  rw [take_snoc h, List.filter_append]
  by_cases e : y = x <;> simp [e]
theorem without_length (xs : List Int) (x : Int) : (without xs x).length ≤ xs.length := List.length_filter_le _ _
theorem rows_minus (n : Nat) (e : Nat → Nat → Bool) {u v : Nat} (_hu : u < n) (_hv : v < n) (huv : u ≠ v) :
    ((rowsB n e).set u (rowB n fun b => e u b && !decide (b = v))).set v (rowB n fun b => e v b && !decide (b = u)) = rowsB n (minus e u v) := by
  apply List.ext_getElem (by simp)
  intro i h1 h2
  have hi : i < n := by simpa using h2
  rw [List.getElem_set, List.getElem_set]
  have hr : (rowsB n (minus e u v))[i] = rowB n (minus e u v i) := by simp [rowsB]
  rw [hr]
  by_cases hiv : v = i
  · subst hiv
    rw [if_pos rfl]
    refine rowB_ext fun b _ => ?_
    have : ¬ v = u := fun h => huv h.symm
    simp [minus, this]
  · rw [if_neg hiv]
    by_cases hiu : u = i
    · subst hiu
      rw [if_pos rfl]
      refine rowB_ext fun b _ => ?_
      simp [minus, huv]
    · rw [if_neg hiu]
      have : (rowsB n e)[i]'(by simpa using hi) = rowB n (e i) := by simp [rowsB]
      rw [this]
      refine rowB_ext fun b _ => ?_
      have h3 : ¬ i = u := fun h => hiu h.symm
      have h4 : ¬ i = v := fun h => hiv h.symm
      simp [minus, h3, h4]

/-- What 'CutEdge' asks. -/
def OkC (xss : List (List Int)) (u v : Int) : Prop := vertexB xss u = true ∧ vertexB xss v = true ∧ edgeB xss u v = true
instance (xss : List (List Int)) (u v : Int) : Decidable (OkC xss u v) := by unfold OkC; infer_instance

/-! ### The program -/
def partS (ms : List Nat) (u v : Nat) : List Nat :=
  let ns := ms.set u (ms.getD u 0 &&& (4294967295 - 2 ^ v))
  ns.set v (ns.getD v 0 &&& (4294967295 - 2 ^ u))
@[simp] theorem partS_length (ms : List Nat) (u v : Nat) : (partS ms u v).length = ms.length := by simp [partS]
theorem and_small {a b : Nat} (ha : a < 4294967296) : a &&& b < 4294967296 := by
  have := Nat.and_le_left (n := a) (m := b)
  omega
theorem Small.part {ms : List Nat} (h : Small ms) (u v : Nat) : Small (partS ms u v) := by
  have h1 := h.set u (and_small (b := 4294967295 - 2 ^ v) (h.getD u))
  exact h1.set v (and_small (h1.getD v))
theorem testBit_flip_pow {v : Nat} (hv : v < 32) (i : Nat) : (4294967295 - 2 ^ v).testBit i = (decide (i < 32) && !decide (i = v)) := by
  rw [testBit_flip (pow_small hv), Nat.testBit_two_pow]
  congr 2
  rw [Bool.eq_iff_iff]; simp [eq_comm]
theorem partS_NB {n : Nat} (hn : n ≤ 32) (e : Nat → Nat → Bool) {u v : Nat} (hu : u < n) (hv : v < n) : partS (NB n e) u v = NB n (minus e u v) := by
  refine eq_NB (by simp) fun a b ha => ?_
  unfold partS
  simp only
  rw [getD_set _ _ _ _ (by simpa using hv), getD_set _ _ _ _ (by simpa using hu), getD_set _ _ _ _ (by simpa using hu), NB_getD e hu, NB_getD e hv, NB_getD e ha]
  by_cases hb : b < n
  · have hb32 : b < 32 := by omega
    by_cases h1 : a = v
    · subst h1
      by_cases h2 : a = u
      · subst h2
        simp [Nat.testBit_and, testBit_maskB, testBit_flip_pow (show a < 32 by omega), hb, hb32, minus]
      · simp [Nat.testBit_and, testBit_maskB, testBit_flip_pow (show u < 32 by omega), hb, hb32, minus, h2]
    · by_cases h2 : a = u
      · subst h2
        simp [Nat.testBit_and, testBit_maskB, testBit_flip_pow (show v < 32 by omega), hb, hb32, minus, h1]
      · simp [testBit_maskB, hb, minus, h1, h2]
  · by_cases h1 : a = v
    · subst h1
      by_cases h2 : a = u
      · subst h2
        simp [Nat.testBit_and, testBit_maskB, hb]
      · simp [Nat.testBit_and, testBit_maskB, hb, h2]
    · by_cases h2 : a = u
      · subst h2
        simp [Nat.testBit_and, testBit_maskB, hb, h1]
      · simp [testBit_maskB, hb, h1, h2]

end Go.Proofs.YtpfhflkpnjkgkaaDoor
