/-
  'has', 'narrow', 'induced' of the program.
-/
import Derived.Test.YtikcooagdaghnaaDoorInduced
namespace Go.Proofs.YtikcooagdaghnaaDoor
open Go.RowKit

theorem hasV_any (m : Nat) (hm : m < 4294967296) (v : Nat) (hv : v < 32) (V : Int) (hV : V = v) (b : Bool) (hb : m.testBit v = b) (w : World) :
    Calls Tryd.prog 112 #[.int .u32 m, .int .i64 V] w fun e w' => e = .returned (.bool b) ∧ w = w' := by
  subst hV; subst hb
  have hz : m / 2 ^ v ≤ m := Nat.div_le_self _ _
  have e1 : (bits BinOp.and IntKind.u32 ((m : Int) / 2 ^ v) 1 == 1) = m.testBit v := by
    have h1 : ((m : Int) / 2 ^ v) = ((m / 2 ^ v : Nat) : Int) := by simp
    rw [h1, show (1 : Int) = ((1 : Nat) : Int) from rfl, u32_and_nat (m / 2 ^ v) 1 (by omega) (by decide), Nat.and_one_is_mod, Nat.testBit_eq_decide_div_mod_eq, Bool.eq_iff_iff]
    simp
    omega
  have HE := Lib.hid e1
  clear e1 hz
  go_enter Tryd.func112, Tryd.ntmps112
  go_wp2_with fail
  go_ret
  exact ⟨ret_bool HE.out, rfl⟩

set_option maxHeartbeats 400000 in
theorem narrow_any (v : Value) (xs : List Int) (w : World) (hr : RdS v xs w) (hs : xs.length ≤ 1000000000) :
    Calls Tryd.prog 77 #[v] w fun e w' => ∃ v', e = .returned v' ∧
      w'.ownsRow w.heap.size 3 1 v' xs.length (ints xs) ∧ Below w.heap.size w w' := by
  obtain ⟨a, cap, rfl, h1, h2, h3, h4, h5⟩ := id hr
  clear h3 h4 h5
  obtain ⟨i0, hi, hz0, hz1, hz2⟩ := info_parts infoN
  have hzz := Lib.hid hz2
  go_enter Tryd.func77, Tryd.ntmps77
  go_wp2_with (at_make; refine wpList_make_own _ rfl _ _ 79 rfl w.heap.size 3 i0 (.int .i64 0) 1 Tryd.underlying79 hi hz0 hz1 .i64 .i64 _ xs.length rfl rfl rfl (by rw [hzz.out]; omega) (by unfold maxLen; omega) (Nat.le_refl _) ?_; intro w1 hown1 hgrow1)
  clear hi hz0 hz1 hz2
  have hb1 := below_of_grown (B := w.heap.size) hgrow1 (Nat.le_refl _) (by simp)
  clear hgrow1
  go_loopw [3, 11] (fun v i wr => ∃ k : Nat, k ≤ xs.length ∧ i = .int .i64 k ∧ wr.ownsRow w.heap.size 3 1 v k (ints (xs.take k)) ∧ Below w.heap.size w wr) (fun _ i _ => xs.length - (intOf i).toNat)
  case atStart => exact ⟨0, Nat.zero_le _, rfl, by simpa [ints] using hown1, hb1⟩
  case round =>
    obtain ⟨k, hk, rfl, hown, hbel⟩ := hrel
    by_cases hlt : k < xs.length
    · obtain ⟨b, o, x, rfl, hc, HX⟩ := (Row.below hr hbel).intAt hlt
      have hsz := hbel.size
      go_wp2_with (at_builtin; refine wpList_push _ rfl _ _ 79 rfl w.heap.size 3 _ _ 8 Tryd.underlying79 infoN rfl _ _ _ rfl hown _ rfl rfl (by unfold maxLen; omega) (by omega) hsz ?_; intro g' c' w2 hown' hgrow)
      go_roundw
      case rel =>
        exact ⟨k + 1, by omega, by go_num, by rw [take_snoc HX.out, ints_snoc]; exact hown', hbel.grown hgrow hsz fun b hb' => (owns_lt hown hb').1⟩
      case measure => simp [intOf]; omega
    · go_wp2_with fail
      go_ret
      have e : xs.take k = xs := List.take_of_length_le (by omega)
      have e2 : k = xs.length := by omega
      rw [e, e2] at hown
      exact ⟨_, rfl, hown, hbel⟩

/-- A table filled row by row. -/
def fill (f : Nat → Nat → Bool) (k j : Nat) : Nat → Nat → Bool := fun a b => (decide (a < k) || (decide (a = k) && decide (b < j))) && f a b
theorem fill_no (f : Nat → Nat → Bool) {k j : Nat} (h : f k j = false) : fill f k j = fill f k (j + 1) := by
  funext a b
  unfold fill
  by_cases h1 : a = k
  · subst h1
    by_cases h2 : b = j
    · subst h2; simp [h]
    · have e : decide (b < j) = decide (b < j + 1) := by rw [Bool.eq_iff_iff]; simp; omega
      rw [e]
  · simp [h1]
theorem fill_yes {n : Nat} (f : Nat → Nat → Bool) {k j : Nat} (hk : k < n) (hj : j < n) (h : f k j = true) :
    (NB n (fill f k j)).set k ((NB n (fill f k j)).getD k 0 ||| 2 ^ j) = NB n (fill f k (j + 1)) := by
  refine eq_NB (by simp) fun a b ha => ?_
  rw [getD_set _ _ _ _ (by simpa using hk)]
  by_cases h1 : a = k
  · subst h1
    rw [if_pos rfl, NB_getD _ hk, Nat.testBit_or, testBit_maskB, Nat.testBit_two_pow]
    unfold fill
    by_cases h2 : b = j
    · subst h2; simp [h, hj]
    · have e : decide (b < j) = decide (b < j + 1) := by rw [Bool.eq_iff_iff]; simp; omega
      have h3 : ¬ j = b := fun h => h2 h.symm
      rw [e]
      simp [h3]
  · rw [if_neg h1, NB_getD _ ha, testBit_maskB]
    unfold fill
    simp [h1]
theorem fill_next (n : Nat) (f : Nat → Nat → Bool) (k : Nat) : NB n (fill f k n) = NB n (fill f (k + 1) 0) := by
  refine NB_ext fun a b ha hb => ?_
  unfold fill
  have e : (decide (a < k) || (decide (a = k) && decide (b < n))) = (decide (a < k + 1) || (decide (a = k + 1) && decide (b < 0))) := by rw [Bool.eq_iff_iff]; simp [hb]; omega
  rw [e]
theorem fill_zero (f : Nat → Nat → Bool) : fill f 0 0 = fun _ _ => false := by
  funext a b
  unfold fill
  simp
theorem fill_all (n : Nat) (f : Nat → Nat → Bool) : NB n (fill f n 0) = NB n f := by
  refine NB_ext fun a b ha hb => ?_
  unfold fill
  simp [ha]

set_option maxHeartbeats 2000000 in
theorem induced_any (v : Value) (n : Nat) (e : Nat → Nat → Bool) (hn : n ≤ 16) (v2 : Value) (xs : List Int) (hin : InP n xs) (hxl : xs.length ≤ 16) (w : World)
    (hr : Row w 1 v n (sets (NB n e))) (hs : Row w 1 v2 xs.length (ints xs)) :
    Calls Tryd.prog 76 #[v, v2] w fun r w' => ∃ u, r = .returned u ∧ NS w.heap.size w u (NB xs.length fun a b => e (atL xs a) (atL xs b)) w' := by
  obtain ⟨a, c, rfl, -, -, -⟩ := id hr
  obtain ⟨a2, c2, rfl, -, -, -⟩ := id hs
  obtain ⟨B, hB⟩ : ∃ B, w.heap.size = B := ⟨_, rfl⟩
  have HI := Lib.hid hin
  obtain ⟨F, HF⟩ : ∃ F : Nat → Nat → Bool, Hid ((fun a b => e (atL xs a) (atL xs b)) = F) := ⟨_, Lib.hid rfl⟩
  rw [HF.out, hB]
  clear hin
  go_enter Tryd.func76, Tryd.ntmps76
  go_wp2_with (at_make; refine wpList_make _ rfl _ _ 71 rfl B 84 (.int .u32 0) 4 Tryd.underlying71 infoV rfl .i64 .i64 _ _ xs.length rfl rfl (by omega) (by omega) (by omega) (by unfold maxLen; omega) (by omega) ?_; intro w1 ho1 hb1)
  have hN := NS.made (w0 := w) ho1 (by first | exact hb1 | (rw [hB]; exact hb1)) (by omega) (Below.refl _ _)
  rw [← NB_zeros, ← fill_zero F] at hN
  subst hB
  clear ho1 hb1
  go_loopw [15] (fun i wr => ∃ k : Nat, k ≤ xs.length ∧ i = .int .i64 k ∧ NS w.heap.size w (.slice (some ⟨w.heap.size, 0, none⟩) xs.length xs.length) (NB xs.length (fill F k 0)) wr) (fun i _ => xs.length - (intOf i).toNat)
  case atStart => exact ⟨0, Nat.zero_le _, rfl, hN⟩
  case round =>
    clear hN
    obtain ⟨k, hk, rfl, hN⟩ := hrel
    by_cases hlt : k < xs.length
    · obtain ⟨xb, xo, x, rfl, hcx, HX⟩ := (hs.below (hN.bel)).intAt hlt
      obtain ⟨p, rfl, hp⟩ := HI.out.at HX.out
      have hpe := atL_eq HX.out
      have HPE := Lib.hid hpe
      clear hpe
      go_wp2_with fail
      clear hcx
      go_loopw [22] (fun i wr => ∃ j : Nat, j ≤ xs.length ∧ i = .int .i64 j ∧ NS w.heap.size w (.slice (some ⟨w.heap.size, 0, none⟩) xs.length xs.length) (NB xs.length (fill F k j)) wr) (fun i _ => xs.length - (intOf i).toNat)
      case atStart => exact ⟨0, Nat.zero_le _, rfl, hN⟩
      case round =>
        clear hN
        obtain ⟨j, hj, rfl, hN⟩ := hrel
        by_cases hjt : j < xs.length
        · obtain ⟨xb', xo', y, e', hcy, HY⟩ := (hs.below (hN.bel)).intAt hjt
          obtain ⟨rfl, rfl⟩ : xb = xb' ∧ xo = xo' := by simpa using e'
          obtain ⟨q, rfl, hq⟩ := HI.out.at HY.out
          have hqe := atL_eq HY.out
          obtain ⟨gb, go, z, rfl, hcz, HZ⟩ := (hr.below (hN.bel)).setAt (j := p) (by simpa using hp)
          obtain rfl : maskB n (e p) = z := by have h := HZ.out; rw [NB_at e hp] at h; exact Option.some.inj h
          have hFe : F k j = e p q := by rw [← HF.out]; simp only [HPE.out, hqe]
          have hbit : (maskB n (e p)).testBit q = F k j := by rw [testBit_maskB, hFe]; simp [hq]
          have hsm : maskB n (e p) < 4294967296 := maskB_small (by omega) _
          have HBIT := Lib.hid (And.intro hbit hsm)
          clear hbit hFe hqe e' HZ
          generalize maskB n (e p) = z at *
          clear hsm
          cases hFk : F k j with
          | false =>
            have HN2 := Lib.hid (fill_no F hFk)
            have HBF := Lib.hid (HBIT.out.1.trans hFk)
            clear hFk
            go_wp2_with fail
            refine (hasV_any z HBIT.out.2 q (by omega) _ rfl false HBF.out _).mono ?_
            rintro e1 w2 ⟨rfl, rfl⟩
            go_wp2_with fail
            go_roundw
            case rel => exact ⟨j + 1, by omega, by go_num, by rw [← HN2.out]; exact hN⟩
            case measure => simp [intOf]; omega
          | true =>
            have HN2 := Lib.hid (fill_yes F hlt hjt hFk)
            have HBF := Lib.hid (HBIT.out.1.trans hFk)
            clear hFk
            have hsm := hN.small
            have ho := hN.own
            simp only [NB_length] at ho
            have hf : wr.frozen? ⟨w.heap.size, k, none⟩ = false := ho.frozenAt k
            obtain ⟨X, HX1⟩ : ∃ X : Nat, Hid ((NB xs.length (fill F k j)).getD k 0 = X) := ⟨_, Lib.hid rfl⟩
            obtain ⟨Y, HY1⟩ : ∃ Y : Nat, Hid (X ||| 2 ^ j = Y) := ⟨_, Lib.hid rfl⟩
            have hX32 : X < 4294967296 := by rw [← HX1.out]; exact hsm.getD k
            have hx : wr.cell? ⟨w.heap.size, k, none⟩ = some (.int .u32 (X : Int)) := by rw [ho.cellAt k (by omega), sets_at (by simpa using hlt), HX1.out]
            have hb : bits BinOp.or IntKind.u32 (X : Int) ((2 ^ j : Nat) : Int) = (Y : Int) := by rw [bits_or hX32 (pow_small (by omega)), HY1.out]
            have hst := ho.stored k (.int .u32 (Y : Int))
            rw [← sets_set] at hst
            rw [HX1.out, HY1.out] at HN2
            rw [HN2.out] at hst
            have HST := Lib.hid hst
            have HBEL := Lib.hid hN.bel
            have hp : ((2 : Int) ^ j) = ((2 ^ j : Nat) : Int) := by simp
            rw [← hp] at hb
            clear hp hst hsm ho hX32 hN
            go_wp2_with fail
            refine (hasV_any z HBIT.out.2 q (by omega) _ rfl true HBF.out _).mono ?_
            rintro e1 w2 ⟨rfl, rfl⟩
            go_wp2_with fail
            refine wp_region_ord [0, 1, 2, 4] [3] [5] [6, 7, 8] (by kernel_rfl) (by kernel_rfl) (fun _ _ d _ _ h => by cases d <;> exact h) ?_
            simp only [pickOps, List.filterMap_cons, List.filterMap_nil, List.getElem?_cons_succ, List.getElem?_cons_zero]
            repeat quiet_step (fail)
            refine wpSegs_cons ?_
            go_wp2_with (go_at_call 87; refine (one_any _ j rfl (by omega) _).mono ?_; rintro e w' ⟨rfl, rfl⟩)
            refine ⟨(Below.refl _ _).drew, wpSegs_nil ?_⟩
            go_wp2_with fail
            go_roundw
            case rel => exact ⟨j + 1, by omega, by go_num, ⟨by rw [NB_length]; exact HST.out.1.drew, NB_small (by omega) _, HBEL.out.trans (below_of_grown (grown_drew HST.out.2) HBEL.out.size fun b hb => by have : w.heap.size = b := Option.some.inj hb; omega)⟩⟩
            case measure => simp [intOf]; omega
        · obtain rfl : j = xs.length := by omega
          go_wp2_with fail
          go_roundw
          case rel => exact ⟨k + 1, by omega, by go_num, by rw [← fill_next]; exact hN⟩
          case measure => simp [intOf]; omega
    · obtain rfl : k = xs.length := by omega
      rw [fill_all] at hN
      go_wp2_with fail
      go_ret
      exact ⟨_, rfl, hN⟩
end Go.Proofs.YtikcooagdaghnaaDoor
