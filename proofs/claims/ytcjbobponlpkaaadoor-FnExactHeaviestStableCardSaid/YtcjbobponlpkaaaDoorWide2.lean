/-
  The reference's tests of sets of bits: 'l28Near', 'l25Stable', 'l25Clique'.
-/
import Derived.Test.YtcjbobponlpkaaaDoorWide
import Derived.Test.YtcjbobponlpkaaaDoorStab
namespace Go.Proofs.YtcjbobponlpkaaaDoor
open Go.RowKit

theorem natL_at {n : Nat} {e : Nat → Nat → Bool} {j : Nat} (hj : j < n) {x : Int} (h : (natL (NB n e))[j]? = some x) : x = (maskB n (e j) : Nat) := by
  unfold natL at h
  rw [List.getElem?_map, NB_at e hj] at h
  simpa using h.symm
theorem bits_or_mask {n : Nat} (hn : n ≤ 16) (p q : Nat → Bool) : bits BinOp.or IntKind.i64 ((maskB n p : Nat) : Int) ((maskB n q : Nat) : Int) = ((maskB n (fun i => p i || q i) : Nat) : Int) := by
  rw [i64_or_nat _ _ (maskB_small (by omega) _) (maskB_small (by omega) _)]
  congr 1
  apply Nat.eq_of_testBit_eq
  intro i
  rw [Nat.testBit_or, testBit_maskB, testBit_maskB, testBit_maskB]
  cases decide (i < n) <;> simp
theorem bits_and_mask {n : Nat} (hn : n ≤ 16) (p q : Nat → Bool) : bits BinOp.and IntKind.i64 ((maskB n p : Nat) : Int) ((maskB n q : Nat) : Int) = ((maskB n (fun i => p i && q i) : Nat) : Int) := by
  rw [i64_and_nat _ _ (maskB_small (by omega) _) (maskB_small (by omega) _)]
  congr 1
  apply Nat.eq_of_testBit_eq
  intro i
  rw [Nat.testBit_and, testBit_maskB, testBit_maskB, testBit_maskB]
  cases decide (i < n) <;> simp
theorem bits_andNot_mask {n : Nat} (hn : n ≤ 16) (p q : Nat → Bool) : bits BinOp.andNot IntKind.i64 ((maskB n p : Nat) : Int) ((maskB n q : Nat) : Int) = ((maskB n (fun i => p i && !q i) : Nat) : Int) := by
  rw [i64_andNot_nat _ _ (maskB_small (by omega) _) (maskB_small (by omega) _)]
  congr 1
  apply Nat.eq_of_testBit_eq
  intro i
  rw [Nat.testBit_and, testBit_maskB, testBit_flip (maskB_small (by omega) _), testBit_maskB, testBit_maskB]
  by_cases h : i < n
  · have : i < 32 := by omega
    simp [h, this]
  · simp [h]

def domTo (e : Nat → Nat → Bool) (p : Nat → Bool) (j b : Nat) : Bool := p b || (List.range j).any fun v => p v && e v b
theorem domTo_yes {e : Nat → Nat → Bool} {p : Nat → Bool} {j : Nat} (h : p j = true) (b : Nat) : domTo e p (j + 1) b = (domTo e p j b || e j b) := by
  unfold domTo
  rw [List.range_succ, List.any_append, Bool.or_assoc]
  simp [h]
theorem domTo_no {e : Nat → Nat → Bool} {p : Nat → Bool} {j : Nat} (h : p j = false) (b : Nat) : domTo e p (j + 1) b = domTo e p j b := by
  unfold domTo
  rw [List.range_succ, List.any_append]
  simp [h]

set_option maxHeartbeats 2000000 in
theorem near25_any (v2 : Value) (n : Nat) (e : Nat → Nat → Bool) (hn : n ≤ 16) (m : Nat) (hm : m < 2 ^ n) (M : Int) (hM : M = m) (w : World) (hr : RdS v2 (natL (NB n e)) w) :
    Calls Tryd.prog 90 #[v2, .int .i64 M] w fun r w' => r = .returned (.int .i64 (maskB n (domB n e m.testBit) : Nat)) ∧ w = w' := by
  obtain ⟨a2, c2, rfl, -, -, -⟩ := id hr
  have hm32 : m < 4294967296 := by have := pow16 hn hm; omega
  have HMS := Lib.hid (mask_self hm)
  have HL := Lib.hid (show (natL (NB n e)).length = n by rw [natL_length]; simp)
  rw [HL.out]
  subst hM
  have hst : Hid (m = maskB n (domTo e m.testBit 0)) := Lib.hid (by rw [maskB_ext (q := m.testBit) fun i _ => by simp [domTo], HMS.out])
  clear hm
  go_enter Tryd.func90, Tryd.ntmps90
  go_wp2_with fail
  go_loopw [5, 6] (fun s i wr => ∃ (j k : Nat), j ≤ n ∧ i = .int .i64 j ∧ s = .int .i64 k ∧ Hid (k = maskB n (domTo e m.testBit j)) ∧ wr = w) (fun _ i _ => n - (intOf i).toNat)
  case atStart => exact ⟨0, m, Nat.zero_le _, rfl, rfl, hst, rfl⟩
  case round =>
    obtain ⟨j, k, hj, rfl, rfl, HK, rfl⟩ := hrel
    by_cases hlt : j < n
    · have hbit := shr_bit (v := j) hm32
      obtain ⟨yb, yo, y, rfl, hcy, HY⟩ := Row.intAt hr (j := j) (by rw [HL.out]; exact hlt)
      have HYE := Lib.hid (natL_at hlt HY.out)
      obtain ⟨b, HBB⟩ : ∃ b, Hid (m.testBit j = b) := ⟨_, Lib.hid rfl⟩
      rw [HBB.out] at hbit
      cases b with
      | true =>
        obtain ⟨ki, HKI⟩ : ∃ z : Int, Hid ((k : Int) = z) := ⟨_, Lib.hid rfl⟩
        obtain ⟨k2, HK2⟩ : ∃ z : Nat, Hid (z = maskB n (domTo e m.testBit (j + 1))) := ⟨_, Lib.hid rfl⟩
        have hbo : bits BinOp.or IntKind.i64 ki y = (k2 : Int) := by
          rw [← HKI.out, HK.out, HYE.out, HK2.out, bits_or_mask hn]
          congr 1
          exact maskB_ext fun i _ => (domTo_yes HBB.out i).symm
        rw [HKI.out]
        go_wp2_with fail
        go_roundw
        case rel => exact ⟨j + 1, k2, by omega, by go_num, rfl, HK2, by first | rfl | trivial⟩
        case measure => simp [intOf]; omega
      | false =>
        have HK2 : Hid (k = maskB n (domTo e m.testBit (j + 1))) := Lib.hid (by rw [HK.out]; exact maskB_ext fun i _ => (domTo_no HBB.out i).symm)
        go_wp2_with fail
        go_roundw
        case rel => exact ⟨j + 1, k, by omega, by go_num, rfl, HK2, by first | rfl | trivial⟩
        case measure => simp [intOf]; omega
    · obtain rfl : j = n := by omega
      go_wp2_with fail
      go_ret
      exact ⟨ret_int (congrArg (fun (m : Nat) => (m : Int)) HK.out), by first | rfl | trivial⟩

set_option maxHeartbeats 2000000 in
theorem stable25_any (v2 : Value) (n : Nat) (e : Nat → Nat → Bool) (hn : n ≤ 16) (m : Nat) (hm : m < 2 ^ n) (M : Int) (hM : M = m) (w : World) (hr : RdS v2 (natL (NB n e)) w) :
    Calls Tryd.prog 95 #[v2, .int .i64 M] w fun r w' => r = .returned (.bool (stB n e m.testBit)) ∧ w = w' := by
  obtain ⟨a2, c2, rfl, -, -, -⟩ := id hr
  have hm32 : m < 4294967296 := by have := pow16 hn hm; omega
  have HMS := Lib.hid (mask_self hm)
  have HL := Lib.hid (show (natL (NB n e)).length = n by rw [natL_length]; simp)
  rw [HL.out]
  subst hM
  clear hm
  go_enter Tryd.func95, Tryd.ntmps95
  go_wp2_with fail
  go_loopw [5] (fun i wr => ∃ (j : Nat), j ≤ n ∧ i = .int .i64 j ∧ Hid (∀ v, v < j → m.testBit v = true → touch n e m.testBit v = false) ∧ wr = w) (fun i _ => n - (intOf i).toNat)
  case atStart => exact ⟨0, Nat.zero_le _, rfl, Lib.hid fun v h => by omega, rfl⟩
  case round =>
    obtain ⟨j, hj, rfl, HK, rfl⟩ := hrel
    by_cases hlt : j < n
    · have hbit := shr_bit (v := j) hm32
      obtain ⟨yb, yo, y, rfl, hcy, HY⟩ := Row.intAt hr (j := j) (by rw [HL.out]; exact hlt)
      have HYE := Lib.hid (natL_at hlt HY.out)
      obtain ⟨b, HBB⟩ : ∃ b, Hid (m.testBit j = b) := ⟨_, Lib.hid rfl⟩
      rw [HBB.out] at hbit
      cases b with
      | true =>
        obtain ⟨k, HK2⟩ : ∃ z : Nat, Hid (z = maskB n (fun u => e j u && m.testBit u)) := ⟨_, Lib.hid rfl⟩
        obtain ⟨mi, HMI⟩ : ∃ z : Int, Hid ((m : Int) = z) := ⟨_, Lib.hid rfl⟩
        have hba : bits BinOp.and IntKind.i64 y mi = (k : Int) := by rw [HYE.out, ← HMI.out, HK2.out, ← bits_and_mask hn, HMS.out]
        have HT : Hid (touch n e m.testBit j = decide (k ≠ 0)) := Lib.hid (by unfold touch; rw [← HK2.out])
        rw [HMI.out] at hbit ⊢
        by_cases h0 : k = 0
        · have hd : ((k : Int) != 0) = false := by simp [h0]
          have HK3 : Hid (∀ v, v < j + 1 → m.testBit v = true → touch n e m.testBit v = false) := Lib.hid fun v hv hb => by
            by_cases hvj : v = j
            · subst hvj; rw [HT.out]; simp [h0]
            · exact HK.out v (by omega) hb
          clear h0
          go_wp2_with fail
          go_roundw
          case rel => exact ⟨j + 1, by omega, by go_num, HK3, by first | rfl | trivial⟩
          case measure => simp [intOf]; omega
        · have hd : ((k : Int) != 0) = true := by simpa using h0
          have HF : Hid (stB n e m.testBit = false) := Lib.hid (by
            rw [← Bool.not_eq_true]
            intro hs
            obtain ⟨u, hu, he, hpu⟩ := touch_iff.1 (show touch n e m.testBit j = true by rw [HT.out]; simpa using h0)
            rw [stB_iff.1 hs j hlt HBB.out u hu hpu] at he
            cases he)
          clear h0
          go_wp2_with fail
          go_ret
          exact ⟨ret_bool HF.out.symm, by first | rfl | trivial⟩
      | false =>
        have HK3 : Hid (∀ v, v < j + 1 → m.testBit v = true → touch n e m.testBit v = false) := Lib.hid fun v hv hb => by
          by_cases hvj : v = j
          · subst hvj; rw [HBB.out] at hb; cases hb
          · exact HK.out v (by omega) hb
        go_wp2_with fail
        go_roundw
        case rel => exact ⟨j + 1, by omega, by go_num, HK3, by first | rfl | trivial⟩
        case measure => simp [intOf]; omega
    · obtain rfl : j = n := by omega
      have HF : Hid (stB j e m.testBit = true) := Lib.hid (stB_iff.2 fun v hv hb u hu hpu => by
        have := HK.out v hv hb
        cases he : e v u with
        | false => rfl
        | true => rw [touch_iff.2 ⟨u, hu, he, hpu⟩] at this; cases this)
      go_wp2_with fail
      go_ret
      exact ⟨ret_bool HF.out.symm, by first | rfl | trivial⟩

/-- Are all others of a set neighbours of v? -/
def allAdj (n : Nat) (e : Nat → Nat → Bool) (p : Nat → Bool) (v : Nat) : Bool := decide (maskB n (fun u => p u && !e v u) = 2 ^ v)
theorem allAdj_iff {n : Nat} {e : Nat → Nat → Bool} (hA : Adj n e) {p : Nat → Bool} {v : Nat} (hv : v < n) (hp : p v = true) : allAdj n e p v = true ↔ ∀ u, u < n → p u = true → coE e v u = false := by
  unfold allAdj coE
  rw [decide_eq_true_eq, pow_maskB hv, mask_eq_iff]
  constructor
  · intro h u hu hpu
    have := h u hu
    rw [hpu] at this
    by_cases huv : u = v
    · simp [huv]
    · cases he : e v u with
      | true => simp
      | false => rw [he] at this; simp [huv] at this
  · intro h u hu
    by_cases huv : u = v
    · subst huv; simp [hp, hA.irr u hu]
    · cases hpu : p u with
      | false => simp [huv]
      | true =>
        have := h u hu hpu
        have hvu : v ≠ u := fun h => huv h.symm
        simp [hvu] at this
        simp [huv, this]

set_option maxHeartbeats 2000000 in
theorem clique25_any (v2 : Value) (n : Nat) (e : Nat → Nat → Bool) (hA : Adj n e) (m : Nat) (hm : m < 2 ^ n) (M : Int) (hM : M = m) (w : World) (hr : RdS v2 (natL (NB n e)) w) :
    Calls Tryd.prog 123 #[v2, .int .i64 M] w fun r w' => r = .returned (.bool (stB n (coE e) m.testBit)) ∧ w = w' := by
  have hn := hA.le
  obtain ⟨a2, c2, rfl, -, -, -⟩ := id hr
  have hm32 : m < 4294967296 := by have := pow16 hn hm; omega
  have HMS := Lib.hid (mask_self hm)
  have HL := Lib.hid (show (natL (NB n e)).length = n by rw [natL_length]; simp)
  have HA := Lib.hid hA
  rw [HL.out]
  subst hM
  clear hm hA
  go_enter Tryd.func123, Tryd.ntmps123
  go_wp2_with fail
  go_loopw [5] (fun i wr => ∃ (j : Nat), j ≤ n ∧ i = .int .i64 j ∧ Hid (∀ v, v < j → m.testBit v = true → allAdj n e m.testBit v = true) ∧ wr = w) (fun i _ => n - (intOf i).toNat)
  case atStart => exact ⟨0, Nat.zero_le _, rfl, Lib.hid fun v h => by omega, rfl⟩
  case round =>
    obtain ⟨j, hj, rfl, HK, rfl⟩ := hrel
    by_cases hlt : j < n
    · have hbit := shr_bit (v := j) hm32
      obtain ⟨yb, yo, y, rfl, hcy, HY⟩ := Row.intAt hr (j := j) (by rw [HL.out]; exact hlt)
      have HYE := Lib.hid (natL_at hlt HY.out)
      obtain ⟨b, HBB⟩ : ∃ b, Hid (m.testBit j = b) := ⟨_, Lib.hid rfl⟩
      rw [HBB.out] at hbit
      cases b with
      | true =>
        obtain ⟨k, HK2⟩ : ∃ z : Nat, Hid (z = maskB n (fun u => m.testBit u && !e j u)) := ⟨_, Lib.hid rfl⟩
        obtain ⟨mi, HMI⟩ : ∃ z : Int, Hid ((m : Int) = z) := ⟨_, Lib.hid rfl⟩
        have hba : bits BinOp.andNot IntKind.i64 mi y = (k : Int) := by rw [HYE.out, ← HMI.out, HK2.out, ← bits_andNot_mask hn, HMS.out]
        obtain ⟨pq, hpq⟩ : ∃ q2 : Nat, 2 ^ j = q2 := ⟨_, rfl⟩
        have hpi : (2 : Int) ^ j = (pq : Int) := by rw [← hpq]; simp
        have hps : pq ≤ 65536 := by rw [← hpq]; exact Nat.pow_le_pow_right (n := 2) (j := 16) (by decide) (by omega)
        have HT : Hid (allAdj n e m.testBit j = decide (k = pq)) := Lib.hid (by unfold allAdj; rw [← HK2.out, hpq])
        clear hpq
        obtain ⟨d, hdd⟩ : ∃ d : Int, (m : Int) / (pq : Int) = d := ⟨_, rfl⟩
        have hdm : (m : Int) / 2 ^ j = d := by rw [hpi]; exact hdd
        rw [hdm] at hbit
        have hmd : mi / (pq : Int) = d := by rw [← HMI.out]; exact hdd
        have hmd2 : mi / 2 ^ j = d := by rw [← HMI.out]; exact hdm
        rw [HMI.out]
        clear hdd hdm
        by_cases h0 : k = pq
        · have hd : ((k : Int) != (pq : Int)) = false := by simp [h0]
          have HK3 : Hid (∀ v, v < j + 1 → m.testBit v = true → allAdj n e m.testBit v = true) := Lib.hid fun v hv hb => by
            by_cases hvj : v = j
            · subst hvj; rw [HT.out]; simp [h0]
            · exact HK.out v (by omega) hb
          clear h0
          go_wp2_with fail
          go_roundw
          case rel => exact ⟨j + 1, by omega, by go_num, HK3, by first | rfl | trivial⟩
          case measure => simp [intOf]; omega
        · have hd : ((k : Int) != (pq : Int)) = true := by rw [bne_iff_ne]; omega
          have HF : Hid (stB n (coE e) m.testBit = false) := Lib.hid (by
            rw [← Bool.not_eq_true]
            intro hs
            have h1 := (allAdj_iff HA.out hlt HBB.out).2 (stB_iff.1 hs j hlt HBB.out)
            rw [HT.out] at h1
            exact h0 (by simpa using h1))
          clear h0
          go_wp2_with fail
          go_ret
          exact ⟨ret_bool HF.out.symm, by first | rfl | trivial⟩
      | false =>
        have HK3 : Hid (∀ v, v < j + 1 → m.testBit v = true → allAdj n e m.testBit v = true) := Lib.hid fun v hv hb => by
          by_cases hvj : v = j
          · subst hvj; rw [HBB.out] at hb; cases hb
          · exact HK.out v (by omega) hb
        go_wp2_with fail
        go_roundw
        case rel => exact ⟨j + 1, by omega, by go_num, HK3, by first | rfl | trivial⟩
        case measure => simp [intOf]; omega
    · obtain rfl : j = n := by omega
      have HF : Hid (stB j (coE e) m.testBit = true) := Lib.hid (stB_iff.2 fun v hv hb u hu hpu => (allAdj_iff HA.out hv hb).1 (HK.out v hv hb) u hu hpu)
      go_wp2_with fail
      go_ret
      exact ⟨ret_bool HF.out.symm, by first | rfl | trivial⟩
end Go.Proofs.YtcjbobponlpkaaaDoor
