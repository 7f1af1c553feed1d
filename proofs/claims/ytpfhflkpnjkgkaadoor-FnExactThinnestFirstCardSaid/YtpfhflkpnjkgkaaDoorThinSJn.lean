import Derived.Test.YtpfhflkpnjkgkaaDoorBehind2Jn
import Derived.Test.YtpfhflkpnjkgkaaDoorSplitJn
import Derived.Test.YtpfhflkpnjkgkaaDoorThinKJn
/-
  'l10Wide', 'l10Code', 'l10Table' of the reference.
-/



namespace Go.Proofs.YtpfhflkpnjkgkaaDoor
open Go.RowKit

theorem flag_any (b : Bool) (w : World) : Calls Tryd.prog 65 #[.bool b] w fun e w' => e = .returned (.int .i64 (if b then 1 else 0)) ∧ w = w' := by
  cases b with
  | false =>
    go_enter Tryd.func65, Tryd.ntmps65
    go_wp2_with fail
    go_ret
    exact ⟨rfl, rfl⟩
  | true =>
    go_enter Tryd.func65, Tryd.ntmps65
    go_wp2_with fail
    go_ret
    exact ⟨rfl, rfl⟩
theorem div_step (S j : Nat) : S / 2 ^ j = 2 * (S / 2 ^ (j + 1)) + (if S.testBit j then 1 else 0) := by
  have h1 : S / 2 ^ (j + 1) = S / 2 ^ j / 2 := by rw [Nat.pow_succ, Nat.div_div_eq_div_mul]
  rw [h1]
  have h2 : S.testBit j = decide (S / 2 ^ j % 2 = 1) := Nat.testBit_eq_decide_div_mod_eq
  rw [h2]
  by_cases h : S / 2 ^ j % 2 = 1
  · rw [decide_eq_true h]; simp; omega
  · rw [decide_eq_false h]; simp; omega

set_option maxHeartbeats 1000000 in
theorem l10Code_any (v : Value) (n S : Nat) (hn : n ≤ 16) (hS : S < 2 ^ n) (w : World) (hr : Row w 1 v n (bools n S.testBit)) :
    Calls Tryd.prog 53 #[v] w fun e w' => e = .returned (.int .i64 (S : Nat)) ∧ w = w' := by
  obtain ⟨a, c, rfl, -, -, -⟩ := id hr
  have hS16 : S < 65536 := Nat.lt_of_lt_of_le hS (Nat.pow_le_pow_right (n := 2) (by decide) hn)
  have h0 : Hid (0 = S / 2 ^ n) := Lib.hid (Nat.div_eq_of_lt hS).symm
  go_enter Tryd.func53, Tryd.ntmps53
  go_wp2_with fail
  go_loopw [3, 4] (fun x i wr => ∃ j m : Nat, j ≤ n ∧ i = .int .i64 ((j : Int) - 1) ∧ x = .int .i64 m ∧ m ≤ 65536 ∧ Hid (m = S / 2 ^ j) ∧ w = wr) (fun _ i _ => (intOf i + 1).toNat)
  case atStart => exact ⟨n, 0, Nat.le_refl _, by simp, rfl, by omega, h0, rfl⟩
  case round =>
    clear h0
    obtain ⟨j, m, hj, rfl, rfl, hm, HM, rfl⟩ := hrel
    by_cases hlt : 0 < j
    · obtain ⟨d, hd⟩ : ∃ d, j = d + 1 := ⟨j - 1, by omega⟩
      subst hd
      obtain ⟨yb, yo, rfl, hcy⟩ := hr.boolAt (j := d) (by omega)
      obtain ⟨b, hb⟩ : ∃ b, S.testBit d = b := ⟨_, rfl⟩
      have hst := div_step S d
      rw [hb] at hst hcy
      have HST := Lib.hid hst
      have hji : ((d + 1 : Nat) : Int) - 1 = (d : Int) := by omega
      have hfl := fun W => Lib.hid (flag_any b W)
      have hle : S / 2 ^ d ≤ S := Nat.div_le_self _ _
      obtain ⟨m2, hm2⟩ : ∃ m2, S / 2 ^ d = m2 := ⟨_, rfl⟩
      have HM2 := Lib.hid hm2.symm
      have hm2l : m2 ≤ 65536 := by omega
      have hmm : m2 = 2 * m + (if b then 1 else 0) := by rw [← hm2, hst, HM.out]
      rw [hji]
      clear hb hst hm2 hle
      cases b with
      | false =>
        have hmi : 2 * (m : Int) + 0 = (m2 : Int) := by simp at hmm; omega
        clear hmm
        go_wp2_with fail
        refine (hfl _).out.mono ?_
        rintro e1 w' ⟨rfl, rfl⟩
        simp only [Bool.false_eq_true, if_false]
        go_wp2_with fail
        go_roundw
        case rel => exact ⟨d, m2, by omega, by go_num, by first | go_num | (simp; omega), hm2l, HM2, by first | rfl | trivial⟩
        case measure => simp [intOf]
      | true =>
        have hmi : 2 * (m : Int) + 1 = (m2 : Int) := by simp at hmm; omega
        clear hmm
        go_wp2_with fail
        refine (hfl _).out.mono ?_
        rintro e1 w' ⟨rfl, rfl⟩
        simp only [if_true]
        go_wp2_with fail
        go_roundw
        case rel => exact ⟨d, m2, by omega, by go_num, by first | go_num | (simp; omega), hm2l, HM2, by first | rfl | trivial⟩
        case measure => simp [intOf]
    · obtain rfl : j = 0 := by omega
      have HF : Hid (m = S) := Lib.hid (by rw [HM.out]; simp)
      go_wp2_with fail
      go_ret
      exact ⟨ret_int (by rw [HF.out]), rfl⟩
end Go.Proofs.YtpfhflkpnjkgkaaDoor
