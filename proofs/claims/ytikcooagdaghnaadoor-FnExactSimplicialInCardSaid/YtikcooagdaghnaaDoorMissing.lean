/-
  'missing' of the program: 0 exactly if no vertex of the set lacks another one of it.
-/
import Derived.Test.YtikcooagdaghnaaDoorOnes
import Derived.Test.YtikcooagdaghnaaDoorLack
namespace Go.Proofs.YtikcooagdaghnaaDoor
open Go.RowKit

/-- The vertices of the set that y lacks. -/
def lacksM (n : Nat) (e : Nat → Nat → Bool) (p : Nat → Bool) (y : Nat) : Nat := maskB n fun b => p b && !e y b && !decide (b = y)
def lackC (n : Nat) (e : Nat → Nat → Bool) (p : Nat → Bool) (ys : List Int) : Nat := (ys.filter fun y => !decide (lacksM n e p y.toNat = 0)).length
theorem lackC_yes {n : Nat} {e : Nat → Nat → Bool} {p : Nat → Bool} {ys : List Int} {j y : Nat} (h : ys[j]? = some (y : Int)) (h0 : lacksM n e p y = 0) : lackC n e p (ys.take (j + 1)) = lackC n e p (ys.take j) := by
  unfold lackC
  rw [take_snoc h, List.filter_append]
  simp [h0]
theorem lackC_no {n : Nat} {e : Nat → Nat → Bool} {p : Nat → Bool} {ys : List Int} {j y : Nat} (h : ys[j]? = some (y : Int)) (h0 : ¬ lacksM n e p y = 0) : lackC n e p (ys.take (j + 1)) = lackC n e p (ys.take j) + 1 := by
  unfold lackC
  rw [take_snoc h, List.filter_append]
  simp [h0]

set_option maxHeartbeats 2000000 in
theorem missing_any (v : Value) (n : Nat) (e : Nat → Nat → Bool) (hn : n ≤ 16) (p : Nat → Bool) (z : Nat) (hz : z = maskB n p) (w : World) (ht : Tab w) (hr : Row w 1 v n (sets (NB n e))) :
    Calls Tryd.prog 103 #[v, .int .u32 z] w fun r w' => ∃ s : Nat, lackC n e p (rowB n p) ≤ s ∧ (lackC n e p (rowB n p) = 0 → s = 0) ∧ r = .returned (.int .i64 ((s / 2 : Nat) : Int)) ∧ Below w.heap.size w w' := by
  obtain ⟨a, c, rfl, -, -, -⟩ := id hr
  obtain ⟨B, hB⟩ : ∃ B, w.heap.size = B := ⟨_, rfl⟩
  have HLI := Lib.hid (list_any z (by rw [hz]; exact maskB_small (by omega) _) w ht)
  have hll : (bitsOf z).length = (rowB n p).length := by
    have : (nums z).length = (bitsOf z).length := by simp [nums]
    rw [← this, hz, nums_maskB (by omega)]
  have hle : (bitsOf z).map (fun (i : Nat) => Value.int .i64 i) = ints (rowB n p) := by
    rw [← ints_nums, hz, nums_maskB (by omega)]
  rw [hll, hle, hB] at HLI
  have HZ := Lib.hid hz
  have hyl := rowB_length n p
  obtain ⟨zi, hzi⟩ : ∃ zi : Int, (z : Int) = zi := ⟨_, rfl⟩
  rw [hzi] at HLI ⊢
  have HZI := Lib.hid hzi
  clear hll hle hz hzi
  go_enter Tryd.func103, Tryd.ntmps103
  go_wp2_with fail
  refine HLI.out.mono ?_
  rintro e1 w1 ⟨u1, rfl, hL1, hb1⟩
  obtain ⟨la, lc, rfl⟩ := owns_shape hL1
  have hRL := Row.of_owns hL1
  obtain ⟨C, hC⟩ : ∃ C, w1.heap.size = C := ⟨_, rfl⟩
  have hBC : B ≤ C := by have := hb1.size; omega
  have hcl : Below C w1 w1 := Below.refl _ _
  clear hL1 HLI
  go_wp2_with fail
  go_loopw [5, 11] (fun t i wr => ∃ j s : Nat, j ≤ (rowB n p).length ∧ i = .int .i64 j ∧ t = .int .i64 s ∧ s ≤ 32 * j ∧ Hid (lackC n e p ((rowB n p).take j) ≤ s ∧ (lackC n e p ((rowB n p).take j) = 0 → s = 0)) ∧ Below C w1 wr) (fun _ i _ => (rowB n p).length - (intOf i).toNat)
  case atStart => exact ⟨0, 0, Nat.zero_le _, rfl, rfl, Nat.zero_le _, Lib.hid ⟨by simp [lackC], fun _ => rfl⟩, hcl⟩
  case round =>
    clear hcl
    obtain ⟨j, s, hj, rfl, rfl, hs, HS, hb⟩ := hrel
    by_cases hlt : j < (rowB n p).length
    · obtain ⟨yb, yo, y, rfl, hcy, HY⟩ := Row.intAt (Row.below hRL (hC.symm ▸ hb)) hlt
      obtain ⟨q, hq, -, rfl⟩ := mem_rowB.1 (List.mem_of_getElem? HY.out)
      obtain ⟨gb, go, x, rfl, hcx, HX⟩ := (hr.below (hB.symm ▸ (hb1.trans (hb.mono hBC)))).setAt (j := q) (by simpa using hq)
      obtain rfl : maskB n (e q) = x := by have h := HX.out; rw [NB_at e hq] at h; exact Option.some.inj h
      obtain ⟨xi, HXI⟩ : ∃ z : Int, Hid (((maskB n (e q) : Nat) : Int) = z) := ⟨_, Lib.hid rfl⟩
      obtain ⟨z2, HZ2⟩ : ∃ z : Int, Hid (z = (maskB n (fun i => p i && !(maskB n (e q)).testBit i) : Nat)) := ⟨_, Lib.hid rfl⟩
      obtain ⟨z3, HZ3⟩ : ∃ z : Int, Hid (z = ((2 ^ q : Nat) : Int)) := ⟨_, Lib.hid rfl⟩
      obtain ⟨z4, HZ4⟩ : ∃ z : Nat, Hid (lacksM n e p q = z) := ⟨_, Lib.hid rfl⟩
      have hb1' : bits BinOp.andNot IntKind.u32 zi xi = z2 := by rw [← HZI.out, HZ.out, ← HXI.out, HZ2.out, maskB_andNot (by omega) _ (maskB_small (by omega) _)]
      have hb2' : bits BinOp.andNot IntKind.u32 z2 z3 = (z4 : Int) := by
        rw [HZ2.out, HZ3.out, ← HZ4.out, maskB_andNot (by omega) _ (pow_small (by omega))]
        unfold lacksM
        congr 1
        refine maskB_ext fun i hi => ?_
        rw [testBit_maskB, Nat.testBit_two_pow]
        simp [hi, eq_comm]
      have hz4 : z4 < 4294967296 := by rw [← HZ4.out]; exact maskB_small (by omega) _
      rw [HXI.out] at hcx
      clear HX
      go_wp2_with fail
      refine wp_region_ord [0, 1, 2, 3, 4, 7] [5, 6] [8] [9, 10, 11, 12] (by kernel_rfl) (by kernel_rfl) (fun _ _ d _ _ h => by cases d <;> exact h) ?_
      simp only [pickOps, List.filterMap_cons, List.filterMap_nil, List.getElem?_cons_succ, List.getElem?_cons_zero]
      repeat quiet_step (fail)
      refine wpSegs_cons ?_
      go_wp2_with fail
      refine (one_at _ q rfl (by omega) z3 HZ3.out _).mono ?_
      rintro e1 w' ⟨rfl, rfl⟩
      go_wp2_with fail
      refine ⟨below_drewN' wr 1, ?_⟩
      simp only [wpSegs_nil_eq]
      go_wp2_with fail
      refine (size_set z4 hz4 _).mono ?_
      rintro e1 w3 ⟨d, hd, hd0, rfl, hb3⟩
      have hb4 := hb.trans ((below_drew hb3).mono (by have := hb.size; omega))
      clear hb3 hb hcx hcy
      go_wp2_with fail
      go_roundw
      case rel =>
        refine ⟨j + 1, s + d, by omega, by go_num, by go_num, by omega, Lib.hid ?_, hb4⟩
        by_cases h0 : z4 = 0
        · rw [lackC_yes HY.out (by rw [HZ4.out]; exact h0), hd0.2 h0]
          exact HS.out
        · rw [lackC_no HY.out (by rw [HZ4.out]; exact h0)]
          have := HS.out
          have h1 : d ≠ 0 := fun h => h0 (hd0.1 h)
          omega
      case measure => simp [intOf]; omega
    · obtain rfl : j = (rowB n p).length := by omega
      rw [List.take_length] at HS
      have hsl : s ≤ 512 := by omega
      go_wp2_with fail
      go_ret
      exact ⟨s, HS.out.1, HS.out.2, ret_int (by go_num), by rw [hB]; exact hb1.trans (hb.mono hBC)⟩
end Go.Proofs.YtikcooagdaghnaaDoor
