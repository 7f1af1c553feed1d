/-
  'canPrune', 'pruneOf' of the program.
-/
import Derived.Test.YtbhobmngnjfgfaaDoorPruU
import Derived.Test.YtbhobmngnjfgfaaDoorOther
namespace Go.Proofs.YtbhobmngnjfgfaaDoor
open Go.RowKit

theorem vhas_any (m v : Nat) (V : Int) (hV : V = v) (hm : m < 4294967296) (hv : v < 32) (M : Int) (hM : M = m) (b : Bool) (hb : m.testBit v = b) (w : World) :
    Calls Tryd.prog 184 #[.int .u32 M, .int .i64 V] w fun e w' => e = .returned (.bool b) ∧ w = w' := by
  subst hM
  subst hV; subst hb
  have hz : m / 2 ^ v ≤ m := Nat.div_le_self _ _
  have e1 : (bits BinOp.and IntKind.u32 ((m : Int) / 2 ^ v) 1 == 1) = m.testBit v := by
    have h1 : ((m : Int) / 2 ^ v) = ((m / 2 ^ v : Nat) : Int) := by simp
    rw [h1, show (1 : Int) = ((1 : Nat) : Int) from rfl, u32_and_nat (m / 2 ^ v) 1 (by omega) (by decide), Nat.and_one_is_mod, Nat.testBit_eq_decide_div_mod_eq, Bool.eq_iff_iff]
    simp
    omega
  have HE := Lib.hid e1
  clear e1 hz
  go_enter Tryd.func184, Tryd.ntmps184
  go_wp2_with fail
  go_ret
  exact ⟨ret_bool HE.out, rfl⟩
theorem cast_eq (a b : Nat) : ((a : Int) == (b : Int)) = decide (a = b) := by
  rw [Bool.eq_iff_iff, beq_iff_eq, decide_eq_true_eq]
  omega

section
variable {n : Nat} {e : Nat → Nat → Bool} {S : Nat → Bool}

set_option maxHeartbeats 1000000 in
theorem canAlone (va : Value) (hA : Adj n e) (v : Nat) (hv : v < n) (z : Int) (hz : z = (maskB n S : Nat)) (b : Int) (w : World) (hr : Row w 1 va n (sets (NB n e))) :
    Calls Tryd.prog 214 #[va, .int .u32 z, .int .i64 v, .int .i64 b, .int .i64 1] w fun r w' => r = .returned (.bool (decide (b = -1) && aloneB n e S v)) ∧ w = w' := by
  have hn := hA.le
  obtain ⟨a, c, rfl, -, -, -⟩ := id hr
  obtain ⟨gb, go, x, rfl, hcx, HX⟩ := hr.setAt (j := v) (by simpa using hv)
  obtain rfl : maskB n (e v) = x := by have h := HX.out; rw [NB_at e hv] at h; exact Option.some.inj h
  obtain ⟨xi, HXI⟩ : ∃ y : Int, Hid (((maskB n (e v) : Nat) : Int) = y) := ⟨_, Lib.hid rfl⟩
  obtain ⟨z1, HZ1⟩ : ∃ y : Int, Hid (y = (maskB n (fun u => e v u && S u) : Nat)) := ⟨_, Lib.hid rfl⟩
  have h1 : bits BinOp.and IntKind.u32 xi z = z1 := by rw [← HXI.out, hz, HZ1.out, mask_and (by omega)]
  have h2 : (z1 == 0) = aloneB n e S v := by rw [HZ1.out, cast_zero, mask_alone]
  rw [HXI.out] at hcx
  generalize aloneB n e S v = qa at *
  clear HX HXI HZ1 hz hr
  by_cases hb : b = -1
  · have hd : (b == -1) = true := by rw [beq_iff_eq]; exact hb
    have HQ : Hid ((decide (b = -1) && qa) = qa) := Lib.hid (by simp [hb])
    rw [HQ.out]
    clear hb
    go_enter Tryd.func214, Tryd.ntmps214
    go_wp2_with fail
    go_ret
    exact ⟨rfl, rfl⟩
  · have hd : (b == -1) = false := by rw [beq_eq_false_iff_ne]; exact hb
    have HQ : Hid ((decide (b = -1) && qa) = false) := Lib.hid (by simp [hb])
    rw [HQ.out]
    clear hb
    go_enter Tryd.func214, Tryd.ntmps214
    go_wp2_with fail
    go_ret
    exact ⟨rfl, rfl⟩

set_option maxHeartbeats 1000000 in
theorem canNone (va : Value) (hA : Adj n e) (v : Nat) (hv : v < n) (z : Int) (k : Nat) (hk : 2 ≤ k) (K : Int) (hK : K = k) (w : World) (hr : Row w 1 va n (sets (NB n e))) :
    Calls Tryd.prog 214 #[va, .int .u32 z, .int .i64 v, .int .i64 (-1), .int .i64 K] w fun r w' => r = .returned (.bool false) ∧ w = w' := by
  have hn := hA.le
  have hp := hA.pos
  obtain ⟨a, c, rfl, -, -, -⟩ := id hr
  obtain ⟨gb, go, x, rfl, hcx, HX⟩ := hr.setAt (j := v) (by simpa using hv)
  obtain ⟨xi, HXI⟩ : ∃ y : Int, Hid ((x : Int) = y) := ⟨_, Lib.hid rfl⟩
  rw [HXI.out] at hcx
  have hd : (K == 1) = false := by rw [beq_eq_false_iff_ne]; omega
  have hin : decide ((0 : Int) ≤ -1 ∧ (-1 : Int) ≤ (n : Int) - 1) = false := by simp
  clear HX HXI hr hK hk
  go_enter Tryd.func214, Tryd.ntmps214
  go_wp2_with fail
  refine (inRange_any _ _ _ _).mono ?_
  rintro e1 w' ⟨rfl, rfl⟩
  rw [hin]
  go_wp2_with fail
  go_ret
  exact ⟨rfl, rfl⟩

set_option maxHeartbeats 4000000 in
theorem canWith (va : Value) (hA : Adj n e) (v : Nat) (hv : v < n) (hSv : S v = true) (z : Int) (hz : z = (maskB n S : Nat)) (b : Nat) (hb : b < n) (k : Nat) (hk : k = 2 ∨ k = 3 ∨ k = 4) (K : Int) (hK : K = k) (w : World) (hr : Row w 1 va n (sets (NB n e))) :
    Calls Tryd.prog 214 #[va, .int .u32 z, .int .i64 v, .int .i64 b, .int .i64 K] w fun r w' => r = .returned (.bool (goB n e S v b k)) ∧ w = w' := by
  have hn := hA.le
  have hp := hA.pos
  obtain ⟨a, c, rfl, -, -, -⟩ := id hr
  obtain ⟨gb, go, x, rfl, hcx, HX⟩ := hr.setAt (j := v) (by simpa using hv)
  obtain rfl : maskB n (e v) = x := by have h := HX.out; rw [NB_at e hv] at h; exact Option.some.inj h
  obtain ⟨gb2, go2, x2, ha2, hcx2, HX2⟩ := hr.setAt (j := b) (by simpa using hb)
  obtain ⟨rfl, rfl⟩ : gb2 = gb ∧ go2 = go := by simpa [eq_comm] using ha2
  obtain rfl : maskB n (e b) = x2 := by have h := HX2.out; rw [NB_at e hb] at h; exact Option.some.inj h
  obtain ⟨xi, HXI⟩ : ∃ y : Int, Hid (((maskB n (e v) : Nat) : Int) = y) := ⟨_, Lib.hid rfl⟩
  obtain ⟨xj, HXJ⟩ : ∃ y : Int, Hid (((maskB n (e b) : Nat) : Int) = y) := ⟨_, Lib.hid rfl⟩
  obtain ⟨z1, HZ1⟩ : ∃ y : Int, Hid (y = (maskB n (fun u => e v u && S u) : Nat)) := ⟨_, Lib.hid rfl⟩
  obtain ⟨z2, HZ2⟩ : ∃ y : Int, Hid (y = (maskB n (fun u => e b u && S u) : Nat)) := ⟨_, Lib.hid rfl⟩
  obtain ⟨z3, HZ3⟩ : ∃ y : Int, Hid (y = (maskB n (fun u => (e v u && S u) && !decide (u = b)) : Nat)) := ⟨_, Lib.hid rfl⟩
  obtain ⟨z4, HZ4⟩ : ∃ y : Int, Hid (y = (maskB n (fun u => (e b u && S u) && !decide (u = v)) : Nat)) := ⟨_, Lib.hid rfl⟩
  obtain ⟨yb, HYB⟩ : ∃ y : Int, Hid (y = ((2 ^ b : Nat) : Int)) := ⟨_, Lib.hid rfl⟩
  obtain ⟨yv, HYV⟩ : ∃ y : Int, Hid (y = ((2 ^ v : Nat) : Int)) := ⟨_, Lib.hid rfl⟩
  have h1 : bits BinOp.and IntKind.u32 xi z = z1 := by rw [← HXI.out, hz, HZ1.out, mask_and (by omega)]
  have h2 : bits BinOp.and IntKind.u32 xj z = z2 := by rw [← HXJ.out, hz, HZ2.out, mask_and (by omega)]
  have h3 : bits BinOp.andNot IntKind.u32 z1 yb = z3 := by rw [HZ1.out, HYB.out, one_mask hb, mask_andNot (by omega), HZ3.out]
  have h4 : bits BinOp.andNot IntKind.u32 z2 yv = z4 := by rw [HZ2.out, HYV.out, one_mask hv, mask_andNot (by omega), HZ4.out]
  have hdk : (K == 1) = false := by rw [beq_eq_false_iff_ne]; omega
  have hin : decide ((0 : Int) ≤ (b : Int) ∧ (b : Int) ≤ (n : Int) - 1) = true := by simp; omega
  have CH : Hid (∀ W : World, Calls Tryd.prog 184 #[.int .u32 z, .int .i64 b] W fun r w' => r = .returned (.bool (S b)) ∧ W = w') := Lib.hid fun W =>
    vhas_any (maskB n S) b b rfl (maskB_small (by omega) S) (by omega) z hz (S b) (by rw [testBit_maskB]; simp [hb]) W
  have CO1 : Hid (∀ W : World, Calls Tryd.prog 106 #[.int .i64 b] W fun r w' => r = .returned (.int .u32 yb) ∧ W = w') := Lib.hid fun W => one_at b b rfl (by omega) yb HYB.out W
  have CO2 : Hid (∀ W : World, Calls Tryd.prog 106 #[.int .i64 v] W fun r w' => r = .returned (.int .u32 yv) ∧ W = w') := Lib.hid fun W => one_at v v rfl (by omega) yv HYV.out W
  have HKK := Lib.hid hK
  rw [HXI.out] at hcx
  rw [HXJ.out] at hcx2
  by_cases hbv : b = v
  · have hd : ((b : Int) == (v : Int)) = true := by rw [beq_iff_eq]; omega
    have HF : Hid (goB n e S v b k = false) := Lib.hid (by unfold goB; simp [hbv])
    rw [HF.out]
    clear hbv HX HX2 HXI HXJ HZ1 HZ2 HZ3 HZ4 HYB HYV hz hr hK
    go_enter Tryd.func214, Tryd.ntmps214
    go_wp2_with fail
    refine (inRange_any _ _ _ _).mono ?_
    rintro e1 w' ⟨rfl, rfl⟩
    rw [hin]
    go_wp2_with fail
    go_ret
    exact ⟨rfl, rfl⟩
  have hd : ((b : Int) == (v : Int)) = false := by rw [beq_eq_false_iff_ne]; omega
  by_cases hSb : S b = true
  case neg =>
    have hSf : S b = false := by simpa using hSb
    rw [hSf] at CH
    have HF : Hid (goB n e S v b k = false) := Lib.hid (by unfold goB; simp [hSf])
    rw [HF.out]
    clear hbv hSb hSf HX HX2 HXI HXJ HZ1 HZ2 HZ3 HZ4 HYB HYV hz hr hK
    go_enter Tryd.func214, Tryd.ntmps214
    go_wp2_with fail
    refine (inRange_any _ _ _ _).mono ?_
    rintro e1 w' ⟨rfl, rfl⟩
    rw [hin]
    go_wp2_with fail
    refine (CH.out _).mono ?_
    rintro e1 w' ⟨rfl, rfl⟩
    go_wp2_with fail
    go_ret
    exact ⟨rfl, rfl⟩
  rw [hSb] at CH
  rcases hk with rfl | rfl | rfl
  · obtain rfl : K = 2 := by have := HKK.out; omega
    have hq : (z1 == yb) = goB n e S v b 2 := by
      rw [HZ1.out, HYB.out, cast_eq, mask_pen hb hSb]
      unfold goB
      simp [hbv, hSb]
    generalize goB n e S v b 2 = q at *
    clear hbv hSb HX HX2 HXI HXJ HZ1 HZ2 HZ3 HZ4 HYB HYV hz hr hK HKK
    go_enter Tryd.func214, Tryd.ntmps214
    go_wp2_with fail
    refine (inRange_any _ _ _ _).mono ?_
    rintro e1 w' ⟨rfl, rfl⟩
    rw [hin]
    go_wp2_with fail
    refine (CH.out _).mono ?_
    rintro e1 w' ⟨rfl, rfl⟩
    go_wp2_with fail
    refine (CO1.out _).mono ?_
    rintro e1 w' ⟨rfl, rfl⟩
    go_wp2_with fail
    go_ret
    exact ⟨rfl, rfl⟩
  · obtain rfl : K = 3 := by have := HKK.out; omega
    have hq : (z1 == z2) = goB n e S v b 3 := by
      rw [HZ1.out, HZ2.out, cast_eq, mask_false hA hv hb hSb hSv]
      unfold goB
      simp [hbv, hSb]
    generalize goB n e S v b 3 = q at *
    clear hbv hSb HX HX2 HXI HXJ HZ1 HZ2 HZ3 HZ4 HYB HYV hz hr hK HKK
    go_enter Tryd.func214, Tryd.ntmps214
    go_wp2_with fail
    refine (inRange_any _ _ _ _).mono ?_
    rintro e1 w' ⟨rfl, rfl⟩
    rw [hin]
    go_wp2_with fail
    refine (CH.out _).mono ?_
    rintro e1 w' ⟨rfl, rfl⟩
    go_wp2_with fail
    go_ret
    exact ⟨rfl, rfl⟩
  · obtain rfl : K = 4 := by have := HKK.out; omega
    have CE : Hid (∀ W : World, Calls Tryd.prog 184 #[.int .u32 z1, .int .i64 b] W fun r w' => r = .returned (.bool (e v b)) ∧ W = w') := Lib.hid fun W =>
      vhas_any (maskB n (fun u => e v u && S u)) b b rfl (maskB_small (by omega) _) (by omega) z1 HZ1.out (e v b) (by rw [testBit_maskB]; simp [hb, hSb]) W
    have hq : (z3 == z4) = twinB n e S v b := by rw [HZ3.out, HZ4.out, cast_eq, mask_true]
    have HG : Hid (goB n e S v b 4 = (e v b && twinB n e S v b)) := Lib.hid (by unfold goB; simp [hbv, hSb])
    rw [HG.out]
    generalize twinB n e S v b = q at *
    generalize e v b = qe at *
    clear hbv hSb HX HX2 HXI HXJ HZ1 HZ2 HZ3 HZ4 HYB HYV hz hr hK HKK HG
    go_enter Tryd.func214, Tryd.ntmps214
    go_wp2_with fail
    refine (inRange_any _ _ _ _).mono ?_
    rintro e1 w' ⟨rfl, rfl⟩
    rw [hin]
    go_wp2_with fail
    refine (CH.out _).mono ?_
    rintro e1 w' ⟨rfl, rfl⟩
    go_wp2_with fail
    refine (CE.out _).mono ?_
    rintro e1 w' ⟨rfl, rfl⟩
    cases qe with
    | false =>
      go_wp2_with fail
      go_ret
      exact ⟨rfl, rfl⟩
    | true =>
      go_wp2_with fail
      refine (CO1.out _).mono ?_
      rintro e1 w' ⟨rfl, rfl⟩
      go_wp2_with fail
      refine (CO2.out _).mono ?_
      rintro e1 w' ⟨rfl, rfl⟩
      go_wp2_with fail
      go_ret
      exact ⟨rfl, rfl⟩
end

set_option maxHeartbeats 4000000 in
theorem pruneOf_any (va : Value) (n : Nat) (e : Nat → Nat → Bool) (S : Nat → Bool) (hA : Adj n e) (v : Nat) (hv : v < n) (hSv : S v = true) (z : Int) (hz : z = (maskB n S : Nat)) (w : World) (hr : Row w 1 va n (sets (NB n e))) :
    Calls Tryd.prog 200 #[va, .int .u32 z, .int .i64 v] w (PRes w (goesB n e S v)) := by
  have hn := hA.le
  obtain ⟨B, hB⟩ : ∃ B, w.heap.size = B := ⟨_, rfl⟩
  obtain ⟨W0, hW0⟩ : ∃ W0, W0 = w.alloc (.cells #[.int .i64 0, .int .i64 0, .int .i64 0] 175) := ⟨_, rfl⟩
  have u0 : Below B w W0 := by rw [hW0, ← hB]; exact below_alloc' _ _
  have VO : VC 175 B #[.int .i64 0, .int .i64 0, .int .i64 0] W0 := by rw [hW0]; exact VC.new hB
  have hz0 : W0.heap.size = B + 1 := by rw [hW0]; simp [hB]
  have hr0 : Row W0 1 va n (sets (NB n e)) := hr.below (hB ▸ u0)
  have CA : Hid (∀ b : Int, Calls Tryd.prog 214 #[va, .int .u32 z, .int .i64 v, .int .i64 b, .int .i64 1] W0 fun r w' => r = .returned (.bool (decide (b = -1) && aloneB n e S v)) ∧ W0 = w') := Lib.hid fun b => canAlone va hA v hv z hz b W0 hr0
  have CN : Hid (∀ k : Nat, 2 ≤ k → Calls Tryd.prog 214 #[va, .int .u32 z, .int .i64 v, .int .i64 (-1), .int .i64 k] W0 fun r w' => r = .returned (.bool false) ∧ W0 = w') := Lib.hid fun k hk => canNone va hA v hv z k hk k rfl W0 hr0
  have CW : Hid (∀ k b : Nat, b < n → (k = 2 ∨ k = 3 ∨ k = 4) → Calls Tryd.prog 214 #[va, .int .u32 z, .int .i64 v, .int .i64 b, .int .i64 k] W0 fun r w' => r = .returned (.bool (goB n e S v b k)) ∧ W0 = w') := Lib.hid fun k b hb hk => canWith va hA v hv hSv z hz b hb k hk k rfl W0 hr0
  have HRET : Hid (∀ x y u : Int, VC 175 B #[.int .i64 x, .int .i64 y, .int .i64 u] (put3 W0 B (.int .i64 x) (.int .i64 y) (.int .i64 u)) ∧ Below B w (put3 W0 B (.int .i64 x) (.int .i64 y) (.int .i64 u))) := Lib.hid fun x y u =>
    ⟨VO.put3 _ _ _, (put3_upd W0 B (.int .i64 x) (.int .i64 y) (.int .i64 u)).below u0 (by omega) (by omega)⟩
  obtain ⟨a, c, rfl, -, -, -⟩ := id hr
  clear hr hr0 hz hSv u0
  go_enter Tryd.func200, Tryd.ntmps200
  go_wp2_with fail
  rw [← hW0]
  clear hW0
  go_loopw [8] (fun kv wr => ∃ k : Nat, 1 ≤ k ∧ k ≤ 5 ∧ kv = .int .i64 k ∧ Hid (2 ≤ k → aloneB n e S v = false) ∧ Hid (∀ k' b, 2 ≤ k' → k' < k → b < n → goB n e S v b k' = false) ∧ W0 = wr) (fun kv _ => 5 - (intOf kv).toNat)
  case atStart => exact ⟨1, by omega, by omega, rfl, Lib.hid fun h => by omega, Lib.hid fun k' b h1 h2 => by omega, rfl⟩
  case round =>
    obtain ⟨k, hk1, hk5, rfl, HA, HK, rfl⟩ := hrel
    by_cases hlt : k < 5
    · have hle : (k : Int) ≤ 4 := by omega
      go_wp2_with fail
      go_loopw [9] (fun bv wr => ∃ j : Nat, j ≤ n + 1 ∧ bv = .int .i64 ((j : Int) - 1) ∧ Hid (k = 1 → 0 < j → aloneB n e S v = false) ∧ Hid (2 ≤ k → ∀ b, b + 1 < j → goB n e S v b k = false) ∧ W0 = wr) (fun bv _ => n + 1 - (intOf bv + 1).toNat)
      case atStart => exact ⟨0, by omega, rfl, Lib.hid fun _ h => by omega, Lib.hid fun _ b h => by omega, rfl⟩
      case round =>
        obtain ⟨j, hj, rfl, HJ, HB, rfl⟩ := hrel
        by_cases hlj : j < n + 1
        · have hlj2 : (j : Int) - 1 < n := by omega
          obtain ⟨q, CC, HQ⟩ : ∃ q, Hid (Calls Tryd.prog 214 #[.slice a n c, .int .u32 z, .int .i64 v, .int .i64 ((j : Int) - 1), .int .i64 k] W0 fun r w' => r = .returned (.bool q) ∧ W0 = w') ∧
              Hid ((q = true → goesB n e S v = true) ∧ (q = false → (k = 1 → j = 0 → aloneB n e S v = false) ∧ (2 ≤ k → ∀ b, b + 1 = j → goB n e S v b k = false))) := by
            by_cases h1 : k = 1
            · subst h1
              refine ⟨_, Lib.hid (CA.out _), Lib.hid ⟨fun h => ?_, fun h => ⟨fun _ h0 => ?_, fun h2 => by omega⟩⟩⟩
              · rw [Bool.and_eq_true] at h
                exact goesB_alone h.2
              · subst h0
                simpa using h
            · by_cases h0 : j = 0
              · subst h0
                exact ⟨_, Lib.hid (CN.out k (by omega)), Lib.hid ⟨fun h => by simp at h, fun h => ⟨fun h2 => by omega, fun _ b hb => by omega⟩⟩⟩
              · obtain ⟨b, rfl⟩ : ∃ b, j = b + 1 := ⟨j - 1, by omega⟩
                have hbn : b < n := by omega
                refine ⟨goB n e S v b k, Lib.hid ?_, Lib.hid ⟨fun h => goesB_some hbn (by omega) (by omega) h, fun h => ⟨fun h2 => by omega, fun _ b' hb' => ?_⟩⟩⟩
                · have := CW.out k b hbn (by omega)
                  rwa [show ((b + 1 : Nat) : Int) - 1 = (b : Int) by omega]
                · obtain rfl : b' = b := by omega
                  exact h
          cases q with
          | true =>
            have HG : Hid (goesB n e S v = true) := Lib.hid (HQ.out.1 rfl)
            have V1 := VO.step1 (.int .i64 v)
            have V2 := V1.step2 (.int .i64 ((j : Int) - 1))
            obtain ⟨g0, -, -⟩ := VO.at3
            obtain ⟨-, g1, -⟩ := V1.at3
            obtain ⟨-, -, g2⟩ := V2.at3
            have f0 := VO.frz 0
            have f1 := V1.frz 1
            have f2 := V2.frz 2
            obtain ⟨V3, hbe⟩ := HRET.out v ((j : Int) - 1) k
            obtain ⟨r0, r1, r2⟩ := V3.at3
            unfold put3 at r0 r1 r2
            have HR := Lib.hid (And.intro r0 (And.intro r1 r2))
            have HBE := Lib.hid hbe
            clear V1 V2 V3 r0 r1 r2 hbe
            go_wp2_with fail
            refine CC.out.mono ?_
            rintro e1 w' ⟨rfl, rfl⟩
            go_wp2_with fail
            refine bodyPost_ret (v := .tuple #[.agg #[.int .i64 v, .int .i64 ((j : Int) - 1), .int .i64 k], .bool true]) (by simp [results, Tryd.results200, go_sem, HR.out.1, HR.out.2.1, HR.out.2.2]) rfl ?_
            exact ⟨_, _, _, by rw [HG.out], by rw [hB]; exact HBE.out⟩
          | false =>
            have HG := Lib.hid (HQ.out.2 rfl)
            go_wp2_with fail
            refine CC.out.mono ?_
            rintro e1 w' ⟨rfl, rfl⟩
            go_wp2_with fail
            go_roundw
            case rel =>
              refine ⟨j + 1, by omega, by go_num, Lib.hid fun h1 _ => ?_, Lib.hid fun h2 b hb => ?_, by first | rfl | trivial⟩
              · by_cases h0 : j = 0
                · exact HG.out.1 h1 h0
                · exact HJ.out h1 (by omega)
              · by_cases h0 : b + 1 = j
                · exact HG.out.2 h2 b h0
                · exact HB.out h2 b (by omega)
            case measure => simp [intOf]; omega
        · obtain rfl : j = n + 1 := by omega
          go_wp2_with fail
          go_roundw
          case rel =>
            refine ⟨k + 1, by omega, by omega, by go_num, Lib.hid fun _ => ?_, Lib.hid fun k' b h1 h2 h3 => ?_, by first | rfl | trivial⟩
            · by_cases h1 : k = 1
              · exact HJ.out h1 (by omega)
              · exact HA.out (by omega)
            · by_cases hkk : k' = k
              · subst hkk
                exact HB.out h1 b (by omega)
              · exact HK.out k' b h1 (by omega) h3
          case measure => simp [intOf]; omega
    · have hle : ¬ (k : Int) ≤ 4 := by omega
      have HF : Hid (goesB n e S v = false) := Lib.hid (goesB_none (HA.out (by omega)) fun k' b h1 h2 h3 => HK.out k' b h1 (by omega) h3)
      have V1 := VO.step1 (.int .i64 0)
      have V2 := V1.step2 (.int .i64 0)
      obtain ⟨g0, -, -⟩ := VO.at3
      obtain ⟨-, g1, -⟩ := V1.at3
      obtain ⟨-, -, g2⟩ := V2.at3
      have f0 := VO.frz 0
      have f1 := V1.frz 1
      have f2 := V2.frz 2
      obtain ⟨V3, hbe⟩ := HRET.out 0 0 0
      obtain ⟨r0, r1, r2⟩ := V3.at3
      unfold put3 at r0 r1 r2
      have HR := Lib.hid (And.intro r0 (And.intro r1 r2))
      have HBE := Lib.hid hbe
      clear V1 V2 V3 r0 r1 r2 hbe
      go_wp2_with fail
      refine bodyPost_ret (v := .tuple #[.agg #[.int .i64 0, .int .i64 0, .int .i64 0], .bool false]) (by simp [results, Tryd.results200, go_sem, HR.out.1, HR.out.2.1, HR.out.2.2]) rfl ?_
      exact ⟨0, 0, 0, by rw [HF.out], by rw [hB]; exact HBE.out⟩
end Go.Proofs.YtbhobmngnjfgfaaDoor
