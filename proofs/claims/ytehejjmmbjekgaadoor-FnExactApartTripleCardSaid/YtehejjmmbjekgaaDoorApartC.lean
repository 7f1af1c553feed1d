/-
  'isApart', the closure of 'ApartTriple', 'ApartTriple' of the program.
-/
import Derived.Test.YtehejjmmbjekgaaDoorApartI
import Derived.Test.YtehejjmmbjekgaaDoorChAp
namespace Go.Proofs.YtehejjmmbjekgaaDoor
open Go.RowKit

theorem pow_le_32' {n : Nat} (hn : n ≤ 16) : 2 ^ n ≤ 65536 := Nat.pow_le_pow_right (n := 2) (j := 16) (by decide) hn
theorem mask_self' {n s : Nat} (hs : s < 2 ^ n) : maskB n s.testBit = s := by
  apply Nat.eq_of_testBit_eq
  intro i
  rw [testBit_maskB]
  by_cases hi : i < n
  · simp [hi]
  · rw [bits_above hs i (by omega)]; simp
theorem or_three {s x y z : Nat} (hx : x < 32) (hy : y < 32) (hz : z < 32) (hb : Bits3 s x y z) (p1 p2 p3 q1 q2 : Int) (h1 : p1 = ((2 ^ x : Nat) : Int)) (h2 : p2 = ((2 ^ y : Nat) : Int)) (h3 : p3 = ((2 ^ z : Nat) : Int)) (h4 : q1 = ((2 ^ x ||| 2 ^ y : Nat) : Int)) (h5 : q2 = (s : Int)) :
    bits BinOp.or IntKind.u32 p1 p2 = q1 ∧ bits BinOp.or IntKind.u32 q1 p3 = q2 := by
  have hs : s = (2 ^ x ||| 2 ^ y) ||| 2 ^ z := by
    apply Nat.eq_of_testBit_eq
    intro b
    rw [hb, Nat.testBit_or, Nat.testBit_or, Nat.testBit_two_pow, Nat.testBit_two_pow, Nat.testBit_two_pow, Bool.eq_iff_iff]
    simp
    omega
  refine ⟨by rw [h1, h2, h4]; exact bits_or (pow_small hx) (pow_small hy), ?_⟩
  rw [h4, h3, h5, hs]
  exact bits_or (Nat.or_lt_two_pow (n := 32) (pow_small hx) (pow_small hy)) (pow_small hz)

set_option maxHeartbeats 4000000 in
theorem isApart_any (v : Value) (n : Nat) (e : Nat → Nat → Bool) (hA : Adj n e) (x y z s : Nat) (hxy : x < y) (hyz : y < z) (hzn : z < n) (hs : s < 2 ^ n) (hr3 : rowB n s.testBit = [(x : Int), (y : Int), (z : Int)]) (hb3 : Bits3 s x y z)
    (w : World) (ht : Tab w) (hr : Row w 1 v n (sets (NB n e))) (b : Bool) (hb : fitA n e s = b) :
    Calls Tryd.prog 111 #[v, .int .i64 x, .int .i64 y, .int .i64 z] w fun r w' => r = .returned (.bool b) ∧ Below w.heap.size w w' := by
  have hn := hA.le
  obtain ⟨a, c, rfl, -, -, -⟩ := id hr
  obtain ⟨B, hB⟩ : ∃ B, w.heap.size = B := ⟨_, rfl⟩
  have hTB : 0 < B := by rw [← hB]; exact ht.lt
  have hnn : ∀ (W : World) (a' : Option Addr) (l c' : Nat), (binOp .neq 92 (.slice a' l c') (.slice none 0 0)).run Tryd.prog W = .ok (.bool (!a'.isNone)) W := fun W a' l c' => run_neq_slice_nil W 92 3 a' l c' Tryd.underlying92
  obtain ⟨p1, HP1⟩ : ∃ z : Int, Hid (z = ((2 ^ x : Nat) : Int)) := ⟨_, Lib.hid rfl⟩
  obtain ⟨p2, HP2⟩ : ∃ z : Int, Hid (z = ((2 ^ y : Nat) : Int)) := ⟨_, Lib.hid rfl⟩
  obtain ⟨p3, HP3⟩ : ∃ q : Int, Hid (q = ((2 ^ z : Nat) : Int)) := ⟨_, Lib.hid rfl⟩
  obtain ⟨q1, HQ1⟩ : ∃ z : Int, Hid (z = ((2 ^ x ||| 2 ^ y : Nat) : Int)) := ⟨_, Lib.hid rfl⟩
  obtain ⟨q2, HQ2⟩ : ∃ z : Int, Hid (z = (s : Int)) := ⟨_, Lib.hid rfl⟩
  obtain ⟨ho1, ho2⟩ := or_three (by omega) (by omega) (by omega) hb3 p1 p2 p3 q1 q2 HP1.out HP2.out HP3.out HQ1.out HQ2.out
  obtain ⟨K, HK⟩ : ∃ K : Nat, Hid (lackSum n e s.testBit (rowB n s.testBit) / 2 = K) := ⟨_, Lib.hid rfl⟩
  have HMI : Hid (Calls Tryd.prog 106 #[.slice a n c, .int .u32 q2] w fun r w' => r = .returned (.int .i64 (K : Nat)) ∧ Below w.heap.size w w') := Lib.hid (by rw [HQ2.out, ← HK.out]; exact missing_exact (.slice a n c) n e hn s.testBit s (mask_self' hs).symm w ht hr)
  obtain ⟨b1, HB1⟩ : ∃ b1, Hid (offWay n e x y z = b1) := ⟨_, Lib.hid rfl⟩
  obtain ⟨b2, HB2⟩ : ∃ b2, Hid (offWay n e x z y = b2) := ⟨_, Lib.hid rfl⟩
  obtain ⟨b3, HB3⟩ : ∃ b3, Hid (offWay n e y z x = b3) := ⟨_, Lib.hid rfl⟩
  have HFT : Hid (b = (decide (K = 3) && (b1 && (b2 && b3)))) := Lib.hid (by rw [← hb, fitA_three hr3, HK.out, HB1.out, HB2.out, HB3.out])
  have HA1 : Hid (∀ W, Below B w W → _) := Lib.hid fun W (hbW : Below B w W) => around_any (.slice a n c) n e hA x y z (by omega) (by omega) hzn W (ht.keep hbW hTB) (hr.below (hB.symm ▸ hbW)) b1 HB1.out
  have HA2 : Hid (∀ W, Below B w W → _) := Lib.hid fun W (hbW : Below B w W) => around_any (.slice a n c) n e hA x z y (by omega) hzn (by omega) W (ht.keep hbW hTB) (hr.below (hB.symm ▸ hbW)) b2 HB2.out
  have HA3 : Hid (∀ W, Below B w W → _) := Lib.hid fun W (hbW : Below B w W) => around_any (.slice a n c) n e hA y z x (by omega) hzn (by omega) W (ht.keep hbW hTB) (hr.below (hB.symm ▸ hbW)) b3 HB3.out
  have hO1 := Lib.hid (one_at (x : Int) x rfl (by omega) p1 HP1.out w)
  have hO2 := Lib.hid (one_at (y : Int) y rfl (by omega) p2 HP2.out w)
  have hO3 := Lib.hid (one_at (z : Int) z rfl (by omega) p3 HP3.out w)
  clear hb hs hr3 hb3
  go_enter Tryd.func111, Tryd.ntmps111
  go_wp2_with fail
  refine hO1.out.mono ?_
  rintro e1 w1 ⟨rfl, rfl⟩
  go_wp2_with fail
  refine hO2.out.mono ?_
  rintro e1 w1 ⟨rfl, rfl⟩
  go_wp2_with fail
  refine hO3.out.mono ?_
  rintro e1 w1 ⟨rfl, rfl⟩
  go_wp2_with fail
  refine HMI.out.mono ?_
  rintro e1 w1 ⟨rfl, hb1⟩
  rw [hB] at hb1
  clear ho1 ho2
  by_cases hK : K = 3
  case neg =>
    have hd : ((K : Int) == 3) = false := by rw [beq_eq_false_iff_ne]; omega
    have HF : Hid (b = false) := Lib.hid (by rw [HFT.out, decide_eq_false hK]; rfl)
    clear hK
    go_wp2_with fail
    go_ret
    exact ⟨ret_bool HF.out.symm, by rw [hB]; exact hb1⟩
  have hd : ((K : Int) == 3) = true := by simp [hK]
  have HF0 : Hid (b = (b1 && (b2 && b3))) := Lib.hid (by rw [HFT.out, decide_eq_true hK, Bool.true_and])
  have hz1 := hb1.size
  clear hK
  go_wp2_with fail
  refine (HA1.out w1 hb1).mono ?_
  rintro e1 w2 ⟨u, rfl, HU, hb2⟩
  have hb02 := hb1.trans (hb2.mono (by omega))
  have hz2 := hb02.size
  clear hb1 hb2
  rcases HU.out with ⟨rfl, rfl⟩ | ⟨rfl, g, l', c', rfl⟩
  · have HF : Hid (b = false) := Lib.hid (by rw [HF0.out]; rfl)
    go_wp2_with fail
    go_ret
    exact ⟨ret_bool HF.out.symm, by rw [hB]; exact hb02⟩
  go_wp2_with fail
  refine (HA2.out w2 hb02).mono ?_
  rintro e1 w3 ⟨u, rfl, HU, hb3⟩
  have hb03 := hb02.trans (hb3.mono (by omega))
  have hz3 := hb03.size
  clear hb02 hb3
  rcases HU.out with ⟨rfl, rfl⟩ | ⟨rfl, g2, l2, c2, rfl⟩
  · have HF : Hid (b = false) := Lib.hid (by rw [HF0.out]; rfl)
    go_wp2_with fail
    go_ret
    exact ⟨ret_bool HF.out.symm, by rw [hB]; exact hb03⟩
  go_wp2_with fail
  refine (HA3.out w3 hb03).mono ?_
  rintro e1 w4 ⟨u, rfl, HU, hb4⟩
  have hb04 := hb03.trans (hb4.mono (by omega))
  clear hb03 hb4
  rcases HU.out with ⟨rfl, rfl⟩ | ⟨rfl, g3, l3, c3, rfl⟩
  · have HF : Hid (b = false) := Lib.hid (by rw [HF0.out]; rfl)
    go_wp2_with fail
    go_ret
    exact ⟨ret_bool HF.out.symm, by rw [hB]; exact hb04⟩
  · have HF : Hid (b = true) := Lib.hid (by rw [HF0.out]; rfl)
    go_wp2_with fail
    go_ret
    exact ⟨ret_bool HF.out.symm, by rw [hB]; exact hb04⟩

theorem three_cells {w : World} {a : Option Addr} {c : Nat} {x y z : Int} (h : Row w 1 (.slice a 3 c) 3 (ints [x, y, z])) :
    ∃ b o, a = some ⟨b, o, none⟩ ∧ w.cell? ⟨b, o, none⟩ = some (.int .i64 x) ∧ w.cell? ⟨b, o + 1, none⟩ = some (.int .i64 y) ∧ w.cell? ⟨b, o + 2, none⟩ = some (.int .i64 z) := by
  obtain ⟨a', c', e0, h1, h2, h3, h4, h5⟩ := h
  obtain ⟨rfl, rfl⟩ : a = a' ∧ c = c' := by simpa using e0
  obtain ⟨b, o, rfl, hc⟩ := h5 0 (.int .i64 x) rfl
  obtain ⟨b', o', e, hc'⟩ := h5 1 (.int .i64 y) rfl
  obtain ⟨rfl, rfl⟩ : b = b' ∧ o = o' := by simpa using e
  obtain ⟨b', o', e, hc2⟩ := h5 2 (.int .i64 z) rfl
  obtain ⟨rfl, rfl⟩ : b = b' ∧ o = o' := by simpa using e
  exact ⟨b, o, rfl, hc, hc', hc2⟩

set_option maxHeartbeats 4000000 in
theorem apart1_any (u : Value) (n : Nat) (e : Nat → Nat → Bool) (hA : Adj n e) (s x y z : Nat) (hs : s < 2 ^ n) (hxy : x < y) (hyz : y < z) (hzn : z < n) (hr3 : rowB n s.testBit = [(x : Int), (y : Int), (z : Int)]) (hb3 : Bits3 s x y z)
    (F A : Nat) (xv : Value) (W WS : World) (hWS : W.setCell ⟨F, 0, none⟩ (.int .u32 (s : Nat)) = WS) (ht : Tab WS) (hF : VC 116 F #[xv] W) (hAc : VC 94 A #[u] WS) (hr : Row WS 1 u n (sets (NB n e))) (b : Bool) (hb : fitA n e s = b) :
    Calls Tryd.prog 109 #[.int .u32 (s : Nat), .pointer (some ⟨F, 0, none⟩), .pointer (some ⟨A, 0, none⟩)] W fun r W' => r = .returned (.bool b) ∧ Below WS.heap.size WS W' := by
  obtain ⟨a, c, rfl, -, -, -⟩ := id hr
  have hc := hF.cell
  have hf := hF.free
  have hn := hA.le
  obtain ⟨si, HSI⟩ : ∃ z : Int, Hid ((s : Int) = z) := ⟨_, Lib.hid rfl⟩
  have HLI := listB_any (n := n) (by omega) s.testBit si (by rw [← HSI.out, mask_self' hs]) WS ht
  obtain ⟨C, hC⟩ : ∃ C, WS.heap.size = C := ⟨_, rfl⟩
  have hTC : 0 < C := by rw [← hC]; exact ht.lt
  have hAl := hAc.lt
  have HIS : Hid (∀ W2, Below C WS W2 → Calls Tryd.prog 111 #[.slice a n c, .int .i64 x, .int .i64 y, .int .i64 z] W2 fun r w' => r = .returned (.bool b) ∧ Below W2.heap.size W2 w') := Lib.hid fun W2 hb2 =>
    isApart_any (.slice a n c) n e hA x y z s hxy hyz hzn hs hr3 hb3 W2 (ht.keep hb2 hTC) (hr.below (hC.symm ▸ hb2)) b hb
  rw [hr3] at HLI
  have HLH := Lib.hid HLI
  rw [HSI.out] at hWS ⊢
  clear hs hb hr3 hb3 HLI
  go_enter Tryd.func109, Tryd.ntmps109
  go_wp2_with fail
  try rw [hWS]
  go_wp2_with fail
  refine HLH.out.mono ?_
  rintro e1 w1 ⟨u1, rfl, hL1, hb1⟩
  rw [hC] at hb1
  obtain ⟨la, lc, rfl⟩ := owns_shape hL1
  obtain ⟨yb, yo, rfl, hc0, hc1, hc2⟩ := three_cells (Row.of_owns hL1)
  have hca := (hAc.belowAt hb1 (by omega)).cell
  have hz1 := hb1.size
  have hbd : Below C WS w1.drew := hb1.drew
  have HI2 := Lib.hid (HIS.out w1.drew hbd)
  clear hL1 HLH hb1 hc hf hAc hF
  go_wp2_with fail
  refine wp_region_ord [1, 2, 4, 5, 7, 8] [0, 3, 6, 9] [] [10, 11] (by kernel_rfl) (by kernel_rfl) (fun _ _ d _ _ h => by cases d <;> exact h) ?_
  simp only [pickOps, List.filterMap_cons, List.filterMap_nil, List.getElem?_cons_succ, List.getElem?_cons_zero]
  repeat quiet_step (fail)
  simp only [wpQuiet_nil_eq, wpSegs_nil_eq]
  go_wp2_with fail
  refine HI2.out.mono ?_
  rintro e1 w2 ⟨rfl, hb2⟩
  go_wp2_with fail
  go_ret
  have hbe := hbd.trans (hb2.mono (by have := hbd.size; omega))
  exact ⟨rfl, by rw [hC]; exact hbe⟩
end Go.Proofs.YtehejjmmbjekgaaDoor
