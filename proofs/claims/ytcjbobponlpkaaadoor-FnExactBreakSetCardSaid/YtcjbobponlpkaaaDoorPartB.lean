/-
  The reference's parts of a set of bits: 'l27Low', 'l27Part', 'l27Parts'.
-/
import Derived.Test.YtcjbobponlpkaaaDoorWide2
import Derived.Test.YtcjbobponlpkaaaDoorParts
namespace Go.Proofs.YtcjbobponlpkaaaDoor
open Go.RowKit

theorem shr_bit0 {m v : Nat} (hm : m < 4294967296) : (bits BinOp.and IntKind.i64 ((m : Int) / 2 ^ v) 1 == 0) = !m.testBit v := by
  have hz : m / 2 ^ v ≤ m := Nat.div_le_self _ _
  have h1 : ((m : Int) / 2 ^ v) = ((m / 2 ^ v : Nat) : Int) := by simp
  rw [h1, show (1 : Int) = ((1 : Nat) : Int) from rfl, i64_and_nat (m / 2 ^ v) 1 (by omega) (by decide), Nat.and_one_is_mod, Nat.testBit_eq_decide_div_mod_eq, Bool.eq_iff_iff]
  simp
  omega

set_option maxHeartbeats 1000000 in
theorem low27_any (m : Nat) (h0 : m ≠ 0) (hm : m < 4294967296) (M : Int) (hM : M = m) (w : World) :
    Calls Tryd.prog 126 #[.int .i64 M] w fun e w' => e = .returned (.int .i64 (low m : Nat)) ∧ w = w' := by
  subst hM
  have HLS := Lib.hid (low_spec h0 (by rw [two32]; exact hm))
  obtain ⟨l, HL⟩ : ∃ l, Hid (low m = l) := ⟨_, Lib.hid rfl⟩
  rw [HL.out] at HLS ⊢
  have hl32 := HLS.out.1
  clear h0
  go_enter Tryd.func126, Tryd.ntmps126
  go_wp2_with fail
  go_loopw [3] (fun i wr => ∃ (k : Nat), k ≤ l ∧ i = .int .i64 k ∧ wr = w) (fun i _ => 33 - (intOf i).toNat)
  case atStart => exact ⟨0, Nat.zero_le _, rfl, rfl⟩
  case round =>
    obtain ⟨k, hk, rfl, rfl⟩ := hrel
    have hbit := shr_bit0 (v := k) hm
    by_cases hlt : k < l
    · have hb := HLS.out.2.2 k hlt
      rw [hb] at hbit
      clear hb
      go_wp2_with fail
      go_roundw
      case rel => exact ⟨k + 1, by omega, by go_num, by first | rfl | trivial⟩
      case measure => simp [intOf]; omega
    · obtain rfl : k = l := by omega
      have hb := HLS.out.2.1
      rw [hb] at hbit
      clear hb
      go_wp2_with fail
      go_ret
      exact ⟨rfl, by first | rfl | trivial⟩

/-- Inside a round: the first j have been seen. -/
structure Seen (n : Nat) (e : Nat → Nat → Bool) (p : Nat → Bool) (v : Nat) (o : Nat → Bool) (j : Nat) (mo : Bool) (o' : Nat → Bool) : Prop where
  met : Met n e p v o'
  sub : ∀ b, o b = true → o' b = true
  grew : mo = true → ∃ b, b < n ∧ o' b = true ∧ o b = false
  same : mo = false → o' = o ∧ ∀ a b, a < j → o a = true → b < n → e a b = true → p b = true → o b = true
section
variable {n : Nat} {e : Nat → Nat → Bool} {p : Nat → Bool} {v : Nat} {o o' : Nat → Bool} {j : Nat} {mo : Bool}
theorem Seen.start (h : Met n e p v o) : Seen n e p v o 0 false o := ⟨h, fun _ h => h, fun h => (by cases h), fun _ => ⟨rfl, fun a b h => by omega⟩⟩
theorem Seen.skip (h : Seen n e p v o j mo o') (hs : o' j = true → maskB n (fun i => (e j i && p i) && !o' i) = 0) : Seen n e p v o (j + 1) mo o' := by
  refine ⟨h.met, h.sub, h.grew, fun hm => ?_⟩
  obtain ⟨h1, h2⟩ := h.same hm
  refine ⟨h1, fun a b ha hoa hb he hp => ?_⟩
  by_cases haj : a = j
  · subst haj
    have h3 := maskB_eq_zero.1 (hs (by rw [h1]; exact hoa)) b hb
    rw [he, hp, h1] at h3
    simpa using h3
  · exact h2 a b (by omega) hoa hb he hp
theorem Seen.grow (h : Seen n e p v o j mo o') (hj : o' j = true) (hs : maskB n (fun i => (e j i && p i) && !o' i) ≠ 0) : Seen n e p v o (j + 1) true (fun b => o' b || (decide (b < n) && (e j b && p b))) := by
  have hx : ∃ b, b < n ∧ ((e j b && p b) && !o' b) = true := by
    apply Classical.byContradiction
    intro hn
    refine hs (maskB_eq_zero.2 fun b hb => ?_)
    cases hc : ((e j b && p b) && !o' b) with
    | false => rfl
    | true => exact (hn ⟨b, hb, hc⟩).elim
  obtain ⟨b, hb, hc⟩ := hx
  simp at hc
  refine ⟨⟨by rw [h.met.start]; rfl, fun c hc => ?_⟩, fun c hc => by rw [h.sub c hc]; rfl, fun _ => ⟨b, hb, by simp [hb, hc.1.1, hc.1.2], ?_⟩, fun h => by cases h⟩
  · rw [Bool.or_eq_true] at hc
    rcases hc with hc | hc
    · exact h.met.ways c hc
    · simp at hc
      exact ⟨hc.1, .step (h.met.ways j hj).2 hc.1 hc.2.1 hc.2.2⟩
  · cases ho : o b with
    | false => rfl
    | true => rw [h.sub b ho] at hc; cases hc.2
theorem Seen.shut (h : Seen n e p v o n false o') (ho : Met n e p v o) : o' = wayB n e p v := by
  obtain ⟨rfl, h2⟩ := h.same rfl
  exact way_pt ho.start ho.ways fun a b ha hb he hp => h2 a b (ho.ways a ha).1 ha hb he hp
theorem Seen.more (h : Seen n e p v o j true o') : maskB n o < maskB n o' := by
  obtain ⟨b, hb, h1, h2⟩ := h.grew rfl
  exact mask_less hb h1 h2 h.sub
end
def flagOf : Value → Nat
  | .bool true => 1
  | _ => 0

set_option maxHeartbeats 4000000 in
theorem part27_any (v2 : Value) (n : Nat) (e : Nat → Nat → Bool) (hn : n ≤ 16) (p : Nat → Bool) (s : Nat) (hs : s < n) (S : Int) (hS : S = s) (z : Int) (hz : z = (maskB n p : Nat)) (w : World) (hr : RdS v2 (natL (NB n e)) w) :
    Calls Tryd.prog 125 #[v2, .int .i64 S, .int .i64 z] w fun r w' => r = .returned (.int .i64 (maskB n (wayB n e p s) : Nat)) ∧ w = w' := by
  obtain ⟨a2, c2, rfl, -, -, -⟩ := id hr
  have HL := Lib.hid (show (natL (NB n e)).length = n by rw [natL_length]; simp)
  rw [HL.out]
  subst hS
  have HZ := Lib.hid hz
  obtain ⟨pq, hpq⟩ : ∃ q2 : Nat, 2 ^ s = q2 := ⟨_, rfl⟩
  have hpi : (2 : Int) ^ s = (pq : Int) := by rw [← hpq]; simp
  have hps : pq ≤ 65536 := by rw [← hpq]; exact Nat.pow_le_pow_right (n := 2) (j := 16) (by decide) (by omega)
  have HM0 : Hid (pq = maskB n (fun b => decide (b = s))) := Lib.hid (by rw [← hpq, pow_maskB hs])
  have HMET : Hid (Met n e p s (fun b => decide (b = s))) := Lib.hid ⟨by simp, fun b hb => by simp at hb; subst hb; exact ⟨hs, .here⟩⟩
  clear hz hpq
  go_enter Tryd.func125, Tryd.ntmps125
  go_wp2_with fail
  go_loopw [7, 8] (fun t b wr => ∃ (m : Nat) (o : Nat → Bool) (mo : Bool), t = .int .i64 m ∧ b = .bool mo ∧ Hid (m = maskB n o) ∧ Hid (Met n e p s o ∧ (mo = false → o = wayB n e p s)) ∧ wr = w) (fun t b _ => 2 * (65536 - (intOf t).toNat) + flagOf b)
  case atStart => exact ⟨pq, _, true, by go_num, rfl, HM0, Lib.hid ⟨HMET.out, fun h => by cases h⟩, rfl⟩
  case round =>
    obtain ⟨m, o, mo, rfl, rfl, HM, HO, rfl⟩ := hrel
    cases mo with
    | false =>
      have HF := Lib.hid (HO.out.2 rfl)
      go_wp2_with fail
      go_ret
      exact ⟨ret_int (by rw [HM.out, HF.out]), by first | rfl | trivial⟩
    | true =>
      go_wp2_with fail
      generalize hw9 : wr = w9 at *
      go_loopw [7, 8, 9] (fun t b i wr => ∃ (j m' : Nat) (o' : Nat → Bool) (mo : Bool), j ≤ n ∧ t = .int .i64 m' ∧ b = .bool mo ∧ i = .int .i64 j ∧ Hid (m' = maskB n o') ∧ Hid (Seen n e p s o j mo o') ∧ wr = w9) (fun _ _ i _ => n - (intOf i).toNat)
      case atStart => exact ⟨0, m, o, false, Nat.zero_le _, rfl, rfl, rfl, HM, Lib.hid (Seen.start HO.out.1), rfl⟩
      case round =>
        obtain ⟨j, m', o', mo, hj, rfl, rfl, rfl, HM', HS, rfl⟩ := hrel
        have hm32 : m' < 4294967296 := by rw [HM'.out]; exact maskB_small (by omega) _
        by_cases hlt : j < n
        · have hbit := shr_bit (v := j) hm32
          have hbt : m'.testBit j = o' j := by rw [HM'.out, testBit_maskB]; simp [hlt]
          rw [hbt] at hbit
          obtain ⟨yb, yo, y, rfl, hcy, HY⟩ := Row.intAt hr (j := j) (by rw [HL.out]; exact hlt)
          have HYE := Lib.hid (natL_at hlt HY.out)
          obtain ⟨b, HBB⟩ : ∃ b, Hid (o' j = b) := ⟨_, Lib.hid rfl⟩
          rw [HBB.out] at hbit
          clear hbt
          cases b with
          | true =>
            obtain ⟨mi, HMI⟩ : ∃ z : Int, Hid ((m' : Int) = z) := ⟨_, Lib.hid rfl⟩
            obtain ⟨x1, HX1⟩ : ∃ z : Nat, Hid (z = maskB n (fun i => e j i && p i)) := ⟨_, Lib.hid rfl⟩
            obtain ⟨x2, HX2⟩ : ∃ z : Nat, Hid (z = maskB n (fun i => (e j i && p i) && !o' i)) := ⟨_, Lib.hid rfl⟩
            obtain ⟨x3, HX3⟩ : ∃ z : Nat, Hid (z = maskB n (fun b => o' b || (decide (b < n) && (e j b && p b)))) := ⟨_, Lib.hid rfl⟩
            have hb1 : bits BinOp.and IntKind.i64 y z = (x1 : Int) := by rw [HYE.out, HZ.out, HX1.out, bits_and_mask hn]
            have hb2 : bits BinOp.andNot IntKind.i64 (x1 : Int) mi = (x2 : Int) := by rw [← HMI.out, HX1.out, HM'.out, HX2.out, bits_andNot_mask hn]
            have hb3 : bits BinOp.or IntKind.i64 mi (x1 : Int) = (x3 : Int) := by
              rw [← HMI.out, HX1.out, HM'.out, HX3.out, bits_or_mask hn]
              congr 1
              exact maskB_ext fun i hi => by simp [hi]
            rw [HMI.out] at hbit ⊢
            by_cases h0 : x2 = 0
            · have hd : ((x2 : Int) != 0) = false := by simp [h0]
              have HS2 := Lib.hid (HS.out.skip fun _ => by rw [← HX2.out]; exact h0)
              have HMJ : Hid (mi = (m' : Int)) := Lib.hid HMI.out.symm
              clear h0
              go_wp2_with fail
              go_roundw
              case rel => exact ⟨j + 1, m', o', mo, by omega, by rw [HMJ.out], rfl, by go_num, HM', HS2, by first | rfl | trivial⟩
              case measure => simp [intOf]; omega
            · have hd : ((x2 : Int) != 0) = true := by simpa using h0
              have HS2 := Lib.hid (HS.out.grow HBB.out (by rw [← HX2.out]; exact h0))
              clear h0
              go_wp2_with fail
              go_roundw
              case rel => exact ⟨j + 1, x3, _, true, by omega, rfl, rfl, by go_num, HX3, HS2, by first | rfl | trivial⟩
              case measure => simp [intOf]; omega
          | false =>
            have HS2 := Lib.hid (HS.out.skip fun h => by rw [HBB.out] at h; cases h)
            go_wp2_with fail
            go_roundw
            case rel => exact ⟨j + 1, m', o', mo, by omega, rfl, rfl, by go_num, HM', HS2, by first | rfl | trivial⟩
            case measure => simp [intOf]; omega
        · obtain rfl : j = n := by omega
          have hlt6 : m' < 65536 := by rw [HM'.out]; exact mask_lt16 hn o'
          cases mo with
          | false =>
            have HF := Lib.hid (HS.out.shut HO.out.1)
            have HMM : Hid (m' = m) := Lib.hid (by rw [HM'.out, HM.out, (HS.out.same rfl).1])
            have HMT := Lib.hid HS.out.met
            go_wp2_with fail
            go_roundw
            case rel => exact ⟨m', o', false, rfl, rfl, HM', Lib.hid ⟨HMT.out, fun _ => HF.out⟩, by first | rfl | trivial | exact hw9.symm⟩
            case measure => have := HMM.out; simp [intOf, flagOf]; omega
          | true =>
            have HMM : Hid (m < m') := Lib.hid (by rw [HM'.out, HM.out]; exact HS.out.more)
            have HMT := Lib.hid HS.out.met
            go_wp2_with fail
            go_roundw
            case rel => exact ⟨m', o', true, rfl, rfl, HM', Lib.hid ⟨HMT.out, fun h => by cases h⟩, by first | rfl | trivial | exact hw9.symm⟩
            case measure => have := HMM.out; simp [intOf, flagOf]; omega

/-- How many parts, and how many of them are odd. -/
def PartsRes (k : Nat) (w : World) (e : Ending) (w' : World) : Prop := ∃ od : Int, e = .returned (.tuple #[.int .i64 k, .int .i64 od]) ∧ w = w'

set_option maxHeartbeats 4000000 in
theorem parts27_any (v2 : Value) (n : Nat) (e : Nat → Nat → Bool) (hn : n ≤ 16) (hA : Adj n e) (p : Nat → Bool) (hpn : ∀ b, p b = true → b < n) (z : Int) (hz : z = (maskB n p : Nat)) (w : World) (hr : RdS v2 (natL (NB n e)) w) :
    Calls Tryd.prog 101 #[v2, .int .i64 z] w (PartsRes (partsTo n e p n).length w) := by
  obtain ⟨m0, HM0⟩ : ∃ m : Nat, Hid (m = maskB n (leftB n e p 0)) := ⟨_, Lib.hid rfl⟩
  obtain rfl : z = (m0 : Int) := by rw [hz, HM0.out, leftB_zero]
  have HA := Lib.hid (And.intro hA hpn)
  clear hz hA hpn
  obtain ⟨a2, c2, rfl, -, -, -⟩ := id hr
  go_enter Tryd.func101, Tryd.ntmps101
  go_wp2_with fail
  go_loopw [1, 6, 7] (fun t c d wr => ∃ (m J k : Nat) (od : Int), t = .int .i64 m ∧ c = .int .i64 k ∧ d = .int .i64 od ∧ J ≤ n ∧ k ≤ J ∧ 0 ≤ od ∧ od ≤ J ∧ Hid (m = maskB n (leftB n e p J)) ∧ Hid ((partsTo n e p J).length = k) ∧ wr = w) (fun t _ _ _ => (intOf t).toNat)
  case atStart => exact ⟨m0, 0, 0, 0, rfl, rfl, rfl, Nat.zero_le _, Nat.le_refl _, by omega, by omega, HM0, Lib.hid rfl, rfl⟩
  case round =>
    obtain ⟨m, J, k, od, rfl, rfl, rfl, hJ, hk, ho0, ho1, HM, HK, rfl⟩ := hrel
    have hm32 : m < 4294967296 := by rw [HM.out]; exact maskB_small (by omega) _
    by_cases h0 : m = 0
    · have hd : ¬ (0 : Int) < m := by omega
      have HF : Hid ((partsTo n e p n).length = k) := Lib.hid (by rw [parts_end hJ (by rw [← HM.out]; exact h0)]; exact HK.out)
      clear h0
      go_wp2_with fail
      refine bodyPost_ret (v := .tuple #[.int .i64 k, .int .i64 od]) (by simp [results, Tryd.results101, go_sem]) rfl ?_
      rw [HF.out]
      exact ⟨od, rfl, by first | rfl | trivial⟩
    · have hd : (0 : Int) < m := by omega
      obtain ⟨hln, hway, hparts, hleft, hll⟩ := parts_step hn HA.out.1 HA.out.2 HM.out h0
      obtain ⟨mi, HMI⟩ : ∃ z : Int, Hid ((m : Int) = z) := ⟨_, Lib.hid rfl⟩
      have HLE := Lib.hid (low27_any m h0 hm32 mi HMI.out.symm wr)
      obtain ⟨l, hl⟩ : ∃ l, low m = l := ⟨_, rfl⟩
      rw [hl] at hln hway hparts hleft HLE hll
      have HRE := Lib.hid (part27_any (.slice a2 (natL (NB n e)).length c2) n e hn (leftB n e p J) l hln l rfl mi (by rw [← HMI.out, HM.out]) wr hr)
      rw [hway] at HRE
      obtain ⟨y, HY⟩ : ∃ y : Nat, Hid (y = maskB n (wayB n e p l)) := ⟨_, Lib.hid rfl⟩
      rw [← HY.out] at HRE
      have HMA := Lib.hid (many_any y (by rw [HY.out]; exact maskB_small (by omega) _) (y : Int) rfl wr)
      obtain ⟨sy, hsy⟩ : ∃ s, size y = s := ⟨_, rfl⟩
      have hsy32 : sy ≤ 32 := by rw [← hsy]; exact size_le y
      rw [hsy] at HMA
      obtain ⟨m2, HM2⟩ : ∃ y : Nat, Hid (y = maskB n (leftB n e p (l + 1))) := ⟨_, Lib.hid rfl⟩
      have HLT : Hid (m2 < m) := Lib.hid (by
        rw [HM2.out, HM.out]
        exact mask_less hln hll (by rw [hleft, wayB_iff.2 Way.here]; simp) fun b hb => by rw [hleft, Bool.and_eq_true] at hb; exact hb.1)
      have hbo : bits BinOp.andNot IntKind.i64 mi (y : Int) = (m2 : Int) := by
        rw [← HMI.out, HM.out, HY.out, HM2.out, bits_andNot_mask hn]
        congr 1
        exact maskB_ext fun i _ => (hleft i).symm
      have HK2 : Hid ((partsTo n e p (l + 1)).length = k + 1) := Lib.hid (by rw [hparts, List.length_append, HK.out]; rfl)
      have hJl : J ≤ l := (leftB_ge hll).1
      rw [HMI.out] at hd ⊢
      clear hway hparts hleft hll hl h0 hsy
      go_wp2_with fail
      refine HLE.out.mono ?_
      rintro e1 w' ⟨rfl, rfl⟩
      go_wp2_with fail
      refine HRE.out.mono ?_
      rintro e1 w' ⟨rfl, rfl⟩
      go_wp2_with fail
      refine HMA.out.mono ?_
      rintro e1 w' ⟨rfl, rfl⟩
      go_wp2_with fail
      go_roundw
      case rel => exact ⟨m2, l + 1, k + 1, _, rfl, by go_num, rfl, by omega, by omega, by omega, by omega, HM2, HK2, by first | rfl | trivial⟩
      case measure => rw [← HMI.out]; have := HLT.out; simp [intOf]; omega
end Go.Proofs.YtcjbobponlpkaaaDoor
