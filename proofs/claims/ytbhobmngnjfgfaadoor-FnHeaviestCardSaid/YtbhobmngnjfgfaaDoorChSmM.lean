import Derived.Test.YtbhobmngnjfgfaaDoorGq13
/-
  'chooseSets' over the closure of 'smallestSet'.
-/

namespace Go.Proofs.YtbhobmngnjfgfaaDoor
open Go.RowKit

set_option maxHeartbeats 2000000 in
theorem choose_any_sm (a0 a1 : Nat) (n : Nat) (hn : n ≤ 16) (fit : Nat → Bool) (Inv : World → Prop) (After : Nat → World → Prop)
    (hcall : ∀ s W, s < 2 ^ n → Inv W → Calls Tryd.prog 174 #[.int .u32 (s : Nat), .pointer (some ⟨a0, 0, none⟩), .pointer (some ⟨a1, 0, none⟩)] W fun e W' => e = .returned (.bool (fit s)) ∧ Inv W' ∧ After s W') :
    ∀ (k : Nat), k ≤ 32 → ∀ (f c : Nat) (F K C : Int) (w : World), F = f → K = k → C = c → f ≤ n → (∀ j, f ≤ j → c.testBit j = false) → Inv w →
      Calls Tryd.prog 173 #[.int .i64 n, .int .i64 F, .int .i64 K, .int .u32 C, .func (.func 174) #[] #[.pointer (some ⟨a0, 0, none⟩), .pointer (some ⟨a1, 0, none⟩)]] w fun e w' => e = .returned (.bool ((combos n k f c).any fit)) ∧ Inv w' ∧ ∀ s, (combos n k f c).find? fit = some s → After s w'
  | 0, _, f, c, F, K, C, w, hF, hK, hC, hf, hc, hI => by
    obtain rfl : K = 0 := by simpa using hK
    have HC := Lib.hid (hcall c w (below_bits hf hc) hI)
    obtain ⟨b, HBB⟩ : ∃ b, Hid (fit c = b) := ⟨_, Lib.hid rfl⟩
    rw [HBB.out, ← hC] at HC
    clear hC hK hF hcall
    go_enter Tryd.func173, Tryd.ntmps173
    go_wp2_with fail
    refine HC.out.mono ?_
    rintro e1 w1 ⟨rfl, hI1, hA1⟩
    go_wp2_with fail
    go_ret
    refine ⟨ret_bool (by unfold combos; simp [HBB.out]), hI1, fun s hs => ?_⟩
    unfold combos at hs
    rw [List.find?_singleton] at hs
    split at hs
    · obtain rfl := Option.some.inj hs; exact hA1
    · cases hs
  | k + 1, hk, f, c, F, K, C, w, hF, hK, hC, hf, hc, hI => by
    obtain rfl : K = (k : Int) + 1 := by omega
    subst hF
    have hd0 : ((k : Int) + 1 == 0) = false := by rw [beq_eq_false_iff_ne]; omega
    have HCE := Lib.hid hC
    have hc32 : c < 4294967296 := by have := pow16 hn (below_bits hf hc); omega
    have HIH := Lib.hid (choose_any_sm a0 a1 n hn fit Inv After hcall k (by omega))
    have HBI := Lib.hid hc
    clear hC hK hcall
    go_enter Tryd.func173, Tryd.ntmps173
    go_wp2_with fail
    go_loopw [11] (fun v wr => ∃ d : Nat, v = .int .i64 ((f + d : Nat) : Int) ∧ d ≤ n - (f + k) ∧ Inv wr ∧ Hid ((tried n k f c d).any fit = false)) (fun v _ => n + 1 - (intOf v).toNat)
    case atStart => exact ⟨0, rfl, Nat.zero_le _, hI, Lib.hid rfl⟩
    case round =>
      clear hI
      obtain ⟨d, rfl, hd, hI, HT⟩ := hrel
      obtain ⟨v, hv⟩ : ∃ v, f + d = v := ⟨_, rfl⟩
      by_cases hlt : d < n - (f + k)
      · have hle : (v : Int) + ((k : Int) + 1) ≤ (n : Int) := by omega
        obtain ⟨z4, HZ4⟩ : ∃ z : Int, Hid (z = ((2 ^ v : Nat) : Int)) := ⟨_, Lib.hid rfl⟩
        obtain ⟨c2, HC2⟩ : ∃ q : Nat, Hid (q = c ||| 2 ^ v) := ⟨_, Lib.hid rfl⟩
        have hbo : bits BinOp.or IntKind.u32 C z4 = (c2 : Int) := by rw [HCE.out, HZ4.out, HC2.out, bits_or hc32 (pow_small (by omega))]
        have hvn : v < n := by omega
        have HCA := Lib.hid (HIH.out (v + 1) c2 ((v : Int) + 1) (k : Int) (c2 : Int) wr (by omega) rfl rfl (by omega) (fun j hj => by rw [HC2.out, bit_or_pow, HBI.out j (by omega), decide_eq_false (by omega)]; rfl) hI)
        have hts := tried_succ n k f c d
        rw [hv, ← HC2.out] at hts
        have HTS := Lib.hid hts
        obtain ⟨rest, hrest⟩ := combos_tried (c := c) hlt
        rw [hv, ← HC2.out] at hrest
        have HRE := Lib.hid hrest
        have HVE := Lib.hid hv
        rw [hv]
        clear hrest hv hts
        go_wp2_with fail
        refine (one_at _ v rfl (by omega) z4 HZ4.out _).mono ?_
        rintro e1 w' ⟨rfl, rfl⟩
        go_wp2_with fail
        refine HCA.out.mono ?_
        rintro e1 w1 ⟨rfl, hI1, hA1⟩
        have HA1 := Lib.hid hA1
        clear HCA hA1
        cases hany : (combos n k (v + 1) c2).any fit with
        | true =>
          have hfm := find_mid (rest := rest) HT.out hany
          rw [← HRE.out] at hfm
          have HFM := Lib.hid hfm
          clear hany hfm
          go_wp2_with fail
          go_ret
          exact ⟨ret_bool HFM.out.2.symm, hI1, fun s hs => HA1.out s (by rw [← HFM.out.1]; exact hs)⟩
        | false =>
          have HT2 : Hid ((tried n k f c (d + 1)).any fit = false) := Lib.hid (by rw [HTS.out, List.any_append, HT.out, hany]; rfl)
          have hv2 := HVE.out
          have HV2 : Hid (f + (d + 1) = v + 1) := Lib.hid (by omega)
          clear hany hv2
          go_wp2_with fail
          go_roundw
          case rel => exact ⟨d + 1, by rw [HV2.out]; go_num, by omega, hI1, HT2⟩
          case measure => have := HVE.out; simp [intOf]; omega
      · have hle : ¬ (v : Int) + ((k : Int) + 1) ≤ (n : Int) := by omega
        have hdd : d = n - (f + k) := by omega
        have HF : Hid ((combos n (k + 1) f c).any fit = false) := Lib.hid (by have := HT.out; rw [hdd] at this; exact this)
        have hvle : v ≤ n := by omega
        rw [hv]
        clear hdd hv
        go_wp2_with fail
        go_ret
        refine ⟨ret_bool HF.out.symm, hI, fun s hs => ?_⟩
        have h1 := List.mem_of_find?_eq_some hs
        have h2 := List.find?_some hs
        have := HF.out
        rw [List.any_eq_false] at this
        exact (this s h1 h2).elim
end Go.Proofs.YtbhobmngnjfgfaaDoor
