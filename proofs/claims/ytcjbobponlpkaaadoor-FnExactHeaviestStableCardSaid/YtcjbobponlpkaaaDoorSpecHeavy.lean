/-
  'HeaviestStable' of the reference; both.
-/
import Derived.Test.YtcjbobponlpkaaaDoorHeavy
import Derived.Test.YtcjbobponlpkaaaDoorSpecCover
namespace Go.Proofs.YtcjbobponlpkaaaDoor
open Go.RowKit

theorem shr_val {m v : Nat} (hm : m < 4294967296) : bits BinOp.and IntKind.i64 ((m : Int) / 2 ^ v) 1 = if m.testBit v = true then 1 else 0 := by
  have hz : m / 2 ^ v ≤ m := Nat.div_le_self _ _
  have h1 : ((m : Int) / 2 ^ v) = ((m / 2 ^ v : Nat) : Int) := by simp
  rw [h1, show (1 : Int) = ((1 : Nat) : Int) from rfl, i64_and_nat (m / 2 ^ v) 1 (by omega) (by decide), Nat.and_one_is_mod, Nat.testBit_eq_decide_div_mod_eq]
  by_cases h : m / 2 ^ v % 2 = 1
  · simp [h]
  · simp [h]; omega
theorem heavyP_has (xss : List (List Int)) (ws : List Int) : ∃ (rs : List Int) (num : Int), 1 + rs.length ≤ 1000000000 ∧ HeavyP xss ws rs num := by
  cases hok : (okB xss && goodW ws xss.length) with
  | false => exact ⟨[], -1, by simp, .inl ⟨hok, rfl, rfl⟩⟩
  | true =>
    rw [Bool.and_eq_true] at hok
    obtain ⟨e, hA, hx⟩ := (okB_iff xss).1 hok.1
    obtain ⟨r, hr⟩ := exists_best (keyH ws xss.length) (stF xss.length e) (n := xss.length) (i0 := 0) (Nat.two_pow_pos _) (st_none _ _)
    have hn := hA.le
    have hl := rowB_length xss.length r.testBit
    exact ⟨_, _, by omega, .inr ⟨e, r, hA, hx, hok.2, hr, rfl, rfl⟩⟩

set_option maxHeartbeats 8000000 in
theorem specHeaviestStable (g : Value) (xss : List (List Int)) (v1 : Value) (ws : List Int) (w : World) (hr : RdSS g xss w) (hrw : RdS v1 ws w) (rs : List Int) (num : Int) (h : HeavyP xss ws rs num) :
    Calls Tryd.prog 48 #[.agg #[g], v1] w (SIRes w rs num) := by
  obtain ⟨a, c, rfl⟩ := hr.shape
  obtain ⟨a1, c1, rfl, -, -, -⟩ := id hrw
  have hl0 : xss.length ≤ maxLen := (let ⟨_, h⟩ := hr.ex; by have := h.outer.len; have := h.len; simp at *; omega)
  unfold maxLen at hl0
  obtain ⟨B, hB⟩ : ∃ B, w.heap.size = B := ⟨_, rfl⟩
  have u1 : Below B w (w.alloc (.cells #[.slice a xss.length c] 28)) := by subst hB; exact below_alloc' _ _
  have VG0 : VC 28 B #[.slice a xss.length c] (w.alloc (.cells #[.slice a xss.length c] 28)) := VC.new hB
  have hz0 : (w.alloc (.cells #[.slice a xss.length c] 28)).heap.size = B + 1 := by simp [hB]
  have H := Lib.hid h
  have hcg := VG0.cell
  clear h
  go_enter Tryd.func48, Tryd.ntmps48
  go_wp2_with fail
  generalize w.alloc (.cells #[.slice a xss.length c] 28) = W at *
  refine (specOk _ xss W (hr.below u1 hB)).mono ?_
  rintro e1 w1 ⟨rfl, hb1⟩
  have VG1 := VG0.upd (Upd.of_below hb1) (by omega)
  have hb := u1.trans (hb1.mono (by omega))
  have hz1 : B + 1 ≤ w1.heap.size := by have := hb1.size; omega
  clear hb1 hcg u1
  have hcg := VG1.cell
  have hno : (okB xss && goodW ws xss.length) = false → rs = [] ∧ num = -1 := fun hn => by
    rcases H.out with ⟨_, h⟩ | ⟨e, r, hA, hx, hg, _⟩
    · exact h
    · have h1 : okB xss = true := by rw [hx]; exact okB_adj hA
      rw [h1, hg] at hn; cases hn
  cases hok : okB xss with
  | false =>
    obtain ⟨rfl, rfl⟩ := hno (by rw [hok]; rfl)
    have ho0 := World.ownsRow_lit (base := B) (e := 2) (size := 1) w1 #[] 0 (by omega) (by simp [maxLen]) rfl
    clear hok hno
    go_wp2_with fail
    refine bodyPost_ret (v := .tuple #[.slice (some ⟨w1.heap.size, 0, none⟩) 0 0, .int .i64 (-1)]) (by simp [results, Tryd.results48, go_sem]) rfl ?_
    exact ⟨_, rfl, by rw [hB]; simpa [ints] using ho0, by rw [hB]; exact hb.alloc (by omega) _⟩
  | true =>
    have HGW := fun W (hW : Below B w W) => Lib.hid (weights25_any a xss.length c (.slice a1 ws.length c1) ws W (Row.below hrw (hB.symm ▸ hW)) (by
      have := (okB_iff xss).1 hok
      obtain ⟨e, hA, _⟩ := this
      have := hA.le
      omega))
    have HNO : Hid (goodW ws xss.length = false → rs = [] ∧ num = -1) := Lib.hid fun h => hno (by rw [h]; simp)
    have HOK := Lib.hid hok
    clear hok hno
    go_wp2_with fail
    refine (HGW w1 hb).out.mono ?_
    rintro e1 w0 ⟨rfl, hb0⟩
    have VG1' := VG1.belowAt hb0 (by omega)
    replace hb := hb.trans (hb0.mono (by omega))
    have hz1' : B + 1 ≤ w0.heap.size := by have := hb0.size; omega
    clear hb0 hcg VG1 HGW
    have hcg := VG1'.cell
    cases hgw : goodW ws xss.length with
    | false =>
      obtain ⟨rfl, rfl⟩ := HNO.out hgw
      have ho0 := World.ownsRow_lit (base := B) (e := 2) (size := 1) w0 #[] 0 (by omega) (by simp [maxLen]) rfl
      clear hgw
      go_wp2_with fail
      refine bodyPost_ret (v := .tuple #[.slice (some ⟨w0.heap.size, 0, none⟩) 0 0, .int .i64 (-1)]) (by simp [results, Tryd.results48, go_sem]) rfl ?_
      exact ⟨_, rfl, by rw [hB]; simpa [ints] using ho0, by rw [hB]; exact hb.alloc (by omega) _⟩
    | true =>
      obtain ⟨e, r0, hA, hx, hbe, hrs, hnum⟩ : ∃ e r, Adj xss.length e ∧ xss = rowsB xss.length e ∧ IsBest (keyH ws xss.length) (fun s => stF xss.length e s = true) (2 ^ xss.length) r ∧ rs = rowB xss.length r.testBit ∧ num = wt ws xss.length r := by
        rcases H.out with ⟨h, _⟩ | ⟨e, r, h1, h2, _, h3⟩
        · rw [HOK.out, hgw] at h; cases h
        · exact ⟨e, r, h1, h2, h3⟩
      obtain ⟨hwl, hwb⟩ := goodW_iff hgw
      have hn16 := hA.le
      have HRS := Lib.hid (And.intro hrs hnum)
      have HBE := Lib.hid hbe
      have HWL := Lib.hid hwl
      have HWB := Lib.hid hwb
      have hr' := hr.below hb hB
      rw [hx] at hr'
      have HBI := Lib.hid (bits25_any _ xss.length e hn16 w0 (by rw [rowsB_length] at hr'; exact hr'))
      have HLN := Lib.hid (show (natL (NB xss.length e)).length = xss.length by rw [natL_length]; simp)
      clear hgw hx hrs hr' H hA hbe hwl hwb hnum HNO HOK
      obtain ⟨N, HNN⟩ : ∃ N, Hid (2 ^ xss.length = N) := ⟨_, Lib.hid rfl⟩
      have hN1 : 1 ≤ N := by rw [← HNN.out]; exact Nat.one_le_two_pow
      have hN2 : N ≤ 65536 := by rw [← HNN.out]; exact Nat.pow_le_pow_right (n := 2) (j := 16) (by decide) hn16
      obtain ⟨fi, HFI⟩ : ∃ z : Int, Hid (((N - 1 : Nat) : Int) = z) := ⟨_, Lib.hid rfl⟩
      have HFN : Hid (fi = (N : Int) - 1) := Lib.hid (by rw [← HFI.out]; omega)
      have HAL : Hid (∀ W, Calls Tryd.prog 87 #[.agg #[.slice a xss.length c]] W fun e w' => e = .returned (.int .i64 fi) ∧ Below W.heap.size W w') := Lib.hid fun W => by rw [← HFI.out, ← HNN.out]; exact all25_any a xss.length c hn16 W
      have HM0 : Hid ((0 : Int) = wt ws xss.length 0) := Lib.hid (wt_zero ws xss.length).symm
      have HR0 : Hid (Run (keyH ws xss.length) (fun s => stF xss.length e s = true) 0 0 0) := Lib.hid (Run.start _ _ _)
      go_wp2_with fail
      refine HBI.out.mono ?_
      rintro e1 w2 ⟨u2, rfl, hL2, hb2⟩
      obtain ⟨na, nc, rfl⟩ := owns_shape hL2
      have hNr := Row.of_owns hL2
      have hb02 := hb.trans (hb2.mono (by omega))
      have VG2 := VG1'.belowAt hb2 (by omega)
      have hz2 : w0.heap.size ≤ w2.heap.size := hb2.size
      clear hL2 HBI hb2 hcg
      obtain ⟨C, hC⟩ : ∃ C, w2.heap.size = C := ⟨_, rfl⟩
      have hcl : Below C w2 w2 := Below.refl _ _
      go_wp2_with fail
      go_loopw [7, 8, 9] (fun b m i wr => ∃ (k r : Nat) (M : Int), k ≤ N ∧ r < N ∧ i = .int .i64 k ∧ b = .int .i64 r ∧ m = .int .i64 M ∧ 0 ≤ M ∧ M ≤ 16000 ∧ Hid (M = wt ws xss.length r) ∧ Hid (Run (keyH ws xss.length) (fun s => stF xss.length e s = true) 0 k r) ∧ Below C w2 wr) (fun _ _ i _ => 65537 - (intOf i).toNat)
      case atStart => exact ⟨0, 0, 0, Nat.zero_le _, by omega, rfl, rfl, rfl, by omega, by omega, HM0, HR0, hcl⟩
      case round =>
        clear hcl
        obtain ⟨k, r, M, hk, hrN, rfl, rfl, rfl, hM0, hM1, HM, HR, hb'⟩ := hrel
        have hsz := hb'.size
        have VGr := VG2.belowAt hb' (by omega)
        have hcg := VGr.cell
        go_wp2_with fail
        refine (HAL.out _).mono ?_
        rintro e1 w4 ⟨rfl, hb4⟩
        replace hb' := hb'.trans (hb4.mono (by omega))
        have hsz4 := hb'.size
        have hbw := hb02.trans (hb'.mono (by omega))
        have hrw4 := Row.below hrw (hB.symm ▸ hbw)
        have hNr4 := Row.below hNr (hC.symm ▸ hb')
        clear hb4 hcg VGr
        by_cases hlt : k < N
        · have hle : (k : Int) ≤ fi := by have := HFN.out; omega
          have HKN : Hid (k < 2 ^ xss.length) := Lib.hid (by rw [HNN.out]; exact hlt)
          have HW0 : Hid ((0 : Int) = wsum ws (rowB 0 k.testBit)) := Lib.hid rfl
          go_wp2_with fail
          go_loopw [10, 11] (fun s i wr' => ∃ (j : Nat) (S : Int), j ≤ ws.length ∧ i = .int .i64 j ∧ s = .int .i64 S ∧ 0 ≤ S ∧ S ≤ 1000 * j ∧ Hid (S = wsum ws (rowB j k.testBit)) ∧ wr' = w4) (fun _ i _ => ws.length - (intOf i).toNat)
          case atStart => exact ⟨0, 0, Nat.zero_le _, rfl, rfl, by omega, by omega, HW0, rfl⟩
          case round =>
            obtain ⟨j, S, hj, rfl, rfl, hS0, hS1, HS, rfl⟩ := hrel
            have hj16 : ws.length ≤ 16 := by rw [HWL.out]; exact hn16
            by_cases hlj : j < ws.length
            · obtain ⟨xb, xo, x, rfl, hcx, HX⟩ := Row.intAt hrw4 hlj
              have hx := HWB.out x (List.mem_of_getElem? HX.out)
              have hval := shr_val (m := k) (v := j) (by omega)
              obtain ⟨b, HBB⟩ : ∃ b, Hid (k.testBit j = b) := ⟨_, Lib.hid rfl⟩
              rw [HBB.out] at hval
              cases b with
              | true =>
                have HS2 : Hid (S + x = wsum ws (rowB (j + 1) k.testBit)) := Lib.hid (by
                  rw [rowB_succ, HBB.out, if_pos rfl, wsum_snoc, ← HS.out, List.getD_eq_getElem?_getD]
                  simp [HX.out])
                rw [if_pos rfl] at hval
                go_wp2_with fail
                go_roundw
                case rel => exact ⟨j + 1, S + x, by omega, by go_num, by go_num, by omega, by omega, HS2, by first | rfl | trivial⟩
                case measure => simp [intOf]; omega
              | false =>
                have HS2 : Hid (S = wsum ws (rowB (j + 1) k.testBit)) := Lib.hid (by
                  rw [rowB_succ, HBB.out]
                  simpa using HS.out)
                rw [if_neg (by decide)] at hval
                go_wp2_with fail
                go_roundw
                case rel => exact ⟨j + 1, S, by omega, by go_num, by go_num, by omega, by omega, HS2, by first | rfl | trivial⟩
                case measure => simp [intOf]; omega
            · obtain rfl : j = ws.length := by omega
              have HSW : Hid (S = wt ws xss.length k) := Lib.hid (by rw [HS.out, HWL.out]; rfl)
              have HAH := Lib.hid (ahead_keyH HWB.out hn16 (k := k) (r := r) (by omega) (by omega))
              rw [← HSW.out, ← HM.out] at HAH
              have hSB : S ≤ 16000 := by have := (wt_bound HWB.out hn16 k).2; rw [← HSW.out] at this; exact this
              have HMK := Lib.hid (many_any k (by omega) (k : Int) rfl wr)
              have HMR := Lib.hid (many_any r (by omega) (r : Int) rfl wr)
              have hLE := less_any k r (by omega) (by omega) (k : Int) (r : Int) rfl rfl wr
              obtain ⟨sk, HSK⟩ : ∃ s, Hid (size k = s) := ⟨_, Lib.hid rfl⟩
              obtain ⟨sr, HSR⟩ : ∃ s, Hid (size r = s) := ⟨_, Lib.hid rfl⟩
              obtain ⟨lx, HLX⟩ : ∃ b, Hid (lexB k r = b) := ⟨_, Lib.hid rfl⟩
              have hk32 : sk ≤ 32 := by rw [← HSK.out]; exact size_le k
              have hr32 : sr ≤ 32 := by rw [← HSR.out]; exact size_le r
              rw [HSK.out] at HMK
              rw [HSR.out] at HMR
              rw [HLX.out] at hLE
              rw [HSK.out, HSR.out, HLX.out] at HAH
              have HLE := Lib.hid hLE
              obtain ⟨st, HST⟩ : ∃ b, Hid (stF xss.length e k = b) := ⟨_, Lib.hid rfl⟩
              have HIS : Hid (Calls Tryd.prog 95 #[.slice na (natL (NB xss.length e)).length nc, .int .i64 k] wr fun r w' => r = .returned (.bool st) ∧ wr = w') := Lib.hid (by rw [← HST.out]; exact stable25_any _ xss.length e hn16 k HKN.out (k : Int) rfl wr hNr4)
              clear hLE
              go_wp2_with fail
              refine HMK.out.mono ?_
              rintro e1 w' ⟨rfl, rfl⟩
              go_wp2_with fail
              refine HMR.out.mono ?_
              rintro e1 w' ⟨rfl, rfl⟩
              clear HMK HMR
              by_cases h1 : S < M
              · have HNA : Hid (¬ Ahead (keyH ws xss.length) k r) := Lib.hid fun h => by
                  rcases HAH.out.1 h with h | h
                  · omega
                  · omega
                go_wp2_with fail
                go_roundw
                case rel => exact ⟨k + 1, r, M, by omega, hrN, by go_num, rfl, (by first | rfl | rw [h2]), hM0, hM1, HM, Lib.hid (HR.out.no fun h => HNA.out h.2), hb'⟩
                case measure => simp [intOf]; omega
              · by_cases h2 : S = M
                · have hd2 : (S == M) = true := by rw [beq_iff_eq]; exact h2
                  by_cases h3 : sr < sk
                  · have hd3 : (sr : Int) < sk := by omega
                    have HNA : Hid (¬ Ahead (keyH ws xss.length) k r) := Lib.hid fun h => by
                      rcases HAH.out.1 h with h | ⟨_, h | h⟩ <;> omega
                    go_wp2_with fail
                    go_roundw
                    case rel => exact ⟨k + 1, r, M, by omega, hrN, by go_num, rfl, (by first | rfl | rw [h2]), hM0, hM1, HM, Lib.hid (HR.out.no fun h => HNA.out h.2), hb'⟩
                    case measure => simp [intOf]; omega
                  · have hd3 : ¬ (sr : Int) < sk := by omega
                    by_cases h4 : sk = sr
                    · have hd4 : ((sk : Int) == sr) = true := by rw [beq_iff_eq]; omega
                      cases lx with
                      | false =>
                        have HNA : Hid (¬ Ahead (keyH ws xss.length) k r) := Lib.hid fun h => by
                          rcases HAH.out.1 h with h | ⟨_, h | h⟩
                          · omega
                          · omega
                          · cases h.2
                        go_wp2_with fail
                        refine HLE.out.mono ?_
                        rintro e1 w' ⟨rfl, rfl⟩
                        go_wp2_with fail
                        go_roundw
                        case rel => exact ⟨k + 1, r, M, by omega, hrN, by go_num, rfl, (by first | rfl | rw [h2]), hM0, hM1, HM, Lib.hid (HR.out.no fun h => HNA.out h.2), hb'⟩
                        case measure => simp [intOf]; omega
                      | true =>
                        have HAK : Hid (Ahead (keyH ws xss.length) k r) := Lib.hid (HAH.out.2 (.inr ⟨h2, .inr ⟨h4, rfl⟩⟩))
                        go_wp2_with fail
                        refine HLE.out.mono ?_
                        rintro e1 w' ⟨rfl, rfl⟩
                        go_wp2_with fail
                        refine HIS.out.mono ?_
                        rintro e1 w' ⟨rfl, rfl⟩
                        cases st with
                        | true =>
                          go_wp2_with fail
                          go_roundw
                          case rel => exact ⟨k + 1, k, S, by omega, hlt, by go_num, rfl, (by first | rfl | rw [h2]), hS0, hSB, HSW, Lib.hid (HR.out.yes HST.out HAK.out), hb'⟩
                          case measure => simp [intOf]; omega
                        | false =>
                          go_wp2_with fail
                          go_roundw
                          case rel => exact ⟨k + 1, r, M, by omega, hrN, by go_num, rfl, (by first | rfl | rw [h2]), hM0, hM1, HM, Lib.hid (HR.out.no fun h => by have := h.1; rw [HST.out] at this; cases this), hb'⟩
                          case measure => simp [intOf]; omega
                    · have hd4 : ((sk : Int) == sr) = false := by rw [beq_eq_false_iff_ne]; omega
                      have HAK : Hid (Ahead (keyH ws xss.length) k r) := Lib.hid (HAH.out.2 (.inr ⟨h2, .inl (by omega)⟩))
                      go_wp2_with fail
                      refine HIS.out.mono ?_
                      rintro e1 w' ⟨rfl, rfl⟩
                      cases st with
                      | true =>
                        go_wp2_with fail
                        go_roundw
                        case rel => exact ⟨k + 1, k, S, by omega, hlt, by go_num, rfl, (by first | rfl | rw [h2]), hS0, hSB, HSW, Lib.hid (HR.out.yes HST.out HAK.out), hb'⟩
                        case measure => simp [intOf]; omega
                      | false =>
                        go_wp2_with fail
                        go_roundw
                        case rel => exact ⟨k + 1, r, M, by omega, hrN, by go_num, rfl, (by first | rfl | rw [h2]), hM0, hM1, HM, Lib.hid (HR.out.no fun h => by have := h.1; rw [HST.out] at this; cases this), hb'⟩
                        case measure => simp [intOf]; omega
                · have hd2 : (S == M) = false := by rw [beq_eq_false_iff_ne]; exact h2
                  have HAK : Hid (Ahead (keyH ws xss.length) k r) := Lib.hid (HAH.out.2 (.inl (by omega)))
                  go_wp2_with fail
                  refine HIS.out.mono ?_
                  rintro e1 w' ⟨rfl, rfl⟩
                  cases st with
                  | true =>
                    go_wp2_with fail
                    go_roundw
                    case rel => exact ⟨k + 1, k, S, by omega, hlt, by go_num, rfl, (by first | rfl | rw [h2]), hS0, hSB, HSW, Lib.hid (HR.out.yes HST.out HAK.out), hb'⟩
                    case measure => simp [intOf]; omega
                  | false =>
                    go_wp2_with fail
                    go_roundw
                    case rel => exact ⟨k + 1, r, M, by omega, hrN, by go_num, rfl, (by first | rfl | rw [h2]), hM0, hM1, HM, Lib.hid (HR.out.no fun h => by have := h.1; rw [HST.out] at this; cases this), hb'⟩
                    case measure => simp [intOf]; omega
        · obtain rfl : k = N := by omega
          have hle : ¬ (k : Int) ≤ fi := by have := HFN.out; omega
          have hr0 : r = r0 := by
            have h1 := HR.out.best (by omega) (st_none _ _)
            exact h1.unique (by omega) (by rw [← HNN.out]; exact HBE.out)
          subst hr0
          obtain ⟨ri, HRI⟩ : ∃ z : Int, Hid ((r : Int) = z) := ⟨_, Lib.hid rfl⟩
          have HSE := Lib.hid (set25_any xss.length (by omega) r.testBit ri (by rw [← HRI.out, mask_self HBE.out.lt]) w4)
          rw [← HRS.out.1] at HSE
          have HNM : Hid (num = M) := Lib.hid (by rw [HRS.out.2, HM.out])
          rw [HRI.out]
          go_wp2_with fail
          refine HSE.out.mono ?_
          rintro e1 w5 ⟨u5, rfl, hL5, hb5⟩
          have hbf := hbw.trans (hb5.mono (by omega))
          have HL := Lib.hid (owns_base hL5 (show B ≤ w4.heap.size by omega))
          obtain ⟨la, lc, rfl⟩ := owns_shape hL5
          clear hb5 hL5 HSE
          go_wp2_with fail
          refine bodyPost_ret (v := .tuple #[.slice la rs.length lc, .int .i64 M]) (by simp [results, Tryd.results48, go_sem]) rfl ?_
          exact ⟨_, by rw [HNM.out], by rw [hB]; exact HL.out, by rw [hB]; exact hbf⟩
theorem both_HeaviestStable (xss : List (List Int)) (ws : List Int) : ∃ (rs : List Int) (num : Int), 1 + rs.length ≤ 1000000000 ∧
    (∀ (w : World) (g v1 : Value), Tab w → RdSS g xss w → RdS v1 ws w → Calls Tryd.prog 48 #[.agg #[g], v1] w (SIRes w rs num)) ∧
    (∀ (w : World) (g v1 : Value), Tab w → RdSS g xss w → RdS v1 ws w → Calls Tryd.prog 49 #[.agg #[g], v1] w (SIRes w rs num)) := by
  obtain ⟨rs, num, hl, hP⟩ := heavyP_has xss ws
  exact ⟨rs, num, hl, fun w g v1 _ hr hrw => specHeaviestStable g xss v1 ws w hr hrw rs num hP, fun w g v1 ht hr hrw => implHeaviestStable g xss v1 ws w ht hr hrw rs num hP⟩
end Go.Proofs.YtcjbobponlpkaaaDoor
