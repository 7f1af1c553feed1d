import Derived.Test.YtbhobmngnjfgfaaDoorSpecCoverM
/-
  'BestStable', 'BestClique' of the reference; both.
-/

namespace Go.Proofs.YtbhobmngnjfgfaaDoor
open Go.RowKit

def bestF (cl : Bool) (n : Nat) (e : Nat → Nat → Bool) (m : Nat) : Bool := if cl then clF n e m else stF n e m
theorem best_none (cl : Bool) (n : Nat) (e : Nat → Nat → Bool) : bestF cl n e 0 = true := by
  cases cl
  · exact st_none n e
  · exact cl_none n e

set_option maxHeartbeats 8000000 in
theorem best25_any (g : Value) (n : Nat) (e : Nat → Nat → Bool) (hA : Adj n e) (cl : Bool) (w : World) (hr : RdSS g (rowsB n e) w) (r0 : Nat) (hbe : IsBest keyM (fun s => bestF cl n e s = true) (2 ^ n) r0) :
    Calls Tryd.prog 126 #[.agg #[g], .bool cl] w fun e w' => e = .returned (.int .i64 (r0 : Nat)) ∧ Below w.heap.size w w' := by
  have hn16 := hA.le
  obtain ⟨a, c, rfl⟩ := hr.shape
  rw [rowsB_length] at hr ⊢
  obtain ⟨B, hB⟩ : ∃ B, w.heap.size = B := ⟨_, rfl⟩
  have u1 : Below B w (w.alloc (.cells #[.slice a n c] 56)) := by subst hB; exact below_alloc' _ _
  have VG1 : VC 56 B #[.slice a n c] (w.alloc (.cells #[.slice a n c] 56)) := VC.new hB
  have hz1 : (w.alloc (.cells #[.slice a n c] 56)).heap.size = B + 1 := by simp [hB]
  have hcg := VG1.cell
  have HBE := Lib.hid hbe
  have HA := Lib.hid hA
  have HBI := Lib.hid (bits25_any (.slice a n c) n e hn16 _ (hr.below u1 hB))
  obtain ⟨N, HN⟩ : ∃ N, Hid (2 ^ n = N) := ⟨_, Lib.hid rfl⟩
  have hN1 : 1 ≤ N := by rw [← HN.out]; exact Nat.one_le_two_pow
  have hN2 : N ≤ 65536 := by rw [← HN.out]; exact Nat.pow_le_pow_right (n := 2) (j := 16) (by decide) hn16
  have HAL : Hid (∀ W, Calls Tryd.prog 118 #[.agg #[.slice a n c]] W fun e w' => e = .returned (.int .i64 ((N - 1 : Nat) : Int)) ∧ Below W.heap.size W w') := Lib.hid fun W => by rw [← HN.out]; exact all25_any a n c hn16 W
  have HLN := Lib.hid (show (natL (NB n e)).length = n by rw [natL_length]; simp)
  clear hbe hA
  go_enter Tryd.func126, Tryd.ntmps126
  go_wp2_with fail
  generalize w.alloc (.cells #[.slice a n c] 56) = w1 at *
  refine HBI.out.mono ?_
  rintro e1 w3 ⟨u2, rfl, hL2, hb2⟩
  obtain ⟨na, nc, rfl⟩ := owns_shape hL2
  have hNr3 := Row.of_owns hL2
  have hb03 := u1.trans (hb2.mono (by omega))
  have VG3 := VG1.belowAt hb2 (by omega)
  have hz3 : w1.heap.size ≤ w3.heap.size := hb2.size
  obtain ⟨C, hC⟩ : ∃ C, w3.heap.size = C := ⟨_, rfl⟩
  have hcl : Below C w3 w3 := Below.refl _ _
  have HR0 : Hid (Run keyM (fun s => bestF cl n e s = true) 0 0 0) := Lib.hid (Run.start _ _ _)
  clear hL2 HBI hb2 hcg
  go_wp2_with fail
  go_loopw [6, 7] (fun b i wr => ∃ k r : Nat, k ≤ N ∧ r < N ∧ i = .int .i64 k ∧ b = .int .i64 r ∧ Hid (Run keyM (fun s => bestF cl n e s = true) 0 k r) ∧ Below C w3 wr) (fun _ i _ => 65537 - (intOf i).toNat)
  case atStart => exact ⟨0, 0, Nat.zero_le _, by omega, rfl, rfl, HR0, hcl⟩
  case round =>
    clear hcl
    obtain ⟨k, r, hk, hrN, rfl, rfl, HR, hb⟩ := hrel
    have hsz := hb.size
    have VGr := VG3.belowAt hb (by omega)
    have hcg := VGr.cell
    go_wp2_with fail
    refine (HAL.out _).mono ?_
    rintro e1 w4 ⟨rfl, hb4⟩
    replace hb := hb.trans (hb4.mono (by omega))
    have hsz4 := hb.size
    clear hb4 hcg VGr
    by_cases hlt : k < N
    · have hle : (k : Int) ≤ ((N - 1 : Nat) : Int) := by omega
      have HMK := fun W => Lib.hid (many_any k (by omega) (k : Int) rfl W)
      have HMR := fun W => Lib.hid (many_any r (by omega) (r : Int) rfl W)
      have hAH := ahead_keyM (k := k) (r := r) (by omega) (by omega)
      have hLE := less_any k r (by omega) (by omega) (k : Int) (r : Int) rfl rfl
      obtain ⟨sk, hsk⟩ : ∃ s, size k = s := ⟨_, rfl⟩
      obtain ⟨sr, hsr⟩ : ∃ s, size r = s := ⟨_, rfl⟩
      obtain ⟨lx, HLX⟩ : ∃ b, Hid (lexB k r = b) := ⟨_, Lib.hid rfl⟩
      have hk32 : sk ≤ 32 := by rw [← hsk]; exact size_le k
      have hr32 : sr ≤ 32 := by rw [← hsr]; exact size_le r
      rw [hsk] at HMK hAH
      rw [hsr] at HMR hAH
      rw [HLX.out] at hAH hLE
      have HAH := Lib.hid hAH
      have HLE := Lib.hid hLE
      have hkn : k < 2 ^ n := by rw [HN.out]; exact hlt
      have hNw := Row.below hNr3 (hC.symm ▸ hb)
      have HST := Lib.hid (stable25_any (.slice na (natL (NB n e)).length nc) n e hn16 k hkn (k : Int) rfl w4 hNw)
      have HCL := Lib.hid (clique25_any (.slice na (natL (NB n e)).length nc) n e HA.out k hkn (k : Int) rfl w4 hNw)
      obtain ⟨fb, HFB⟩ : ∃ b, Hid (bestF cl n e k = b) := ⟨_, Lib.hid rfl⟩
      clear hsk hsr hAH hLE hkn hNw
      go_wp2_with fail
      refine (HMK _).out.mono ?_
      rintro e1 w' ⟨rfl, rfl⟩
      go_wp2_with fail
      refine (HMR _).out.mono ?_
      rintro e1 w' ⟨rfl, rfl⟩
      clear HMK HMR
      by_cases h1 : sk < sr
      · have hd1 : (sk : Int) < sr := by omega
        have HNA : Hid (¬ Ahead keyM k r) := Lib.hid fun h => by rcases HAH.out.1 h with h | h <;> omega
        go_wp2_with fail
        go_roundw
        case rel => exact ⟨k + 1, r, by omega, hrN, by go_num, rfl, Lib.hid (HR.out.no fun h => HNA.out h.2), hb⟩
        case measure => simp [intOf]; omega
      have hd1 : ¬ (sk : Int) < sr := by omega
      by_cases h2 : sk = sr
      · have hd2 : ((sk : Int) == sr) = true := by rw [beq_iff_eq]; omega
        cases lx with
        | false =>
          have HNA : Hid (¬ Ahead keyM k r) := Lib.hid fun h => by
            rcases HAH.out.1 h with h | h
            · omega
            · cases h.2
          go_wp2_with fail
          refine (HLE.out _).mono ?_
          rintro e1 w' ⟨rfl, rfl⟩
          go_wp2_with fail
          go_roundw
          case rel => exact ⟨k + 1, r, by omega, hrN, by go_num, rfl, Lib.hid (HR.out.no fun h => HNA.out h.2), hb⟩
          case measure => simp [intOf]; omega
        | true =>
          have HAK : Hid (Ahead keyM k r) := Lib.hid (HAH.out.2 (.inr ⟨h2, rfl⟩))
          go_wp2_with fail
          refine (HLE.out _).mono ?_
          rintro e1 w' ⟨rfl, rfl⟩
          cases cl with
          | false =>
            have hst : stB n e k.testBit = fb := HFB.out
            rw [hst] at HST
            clear hst
            go_wp2_with fail
            refine HST.out.mono ?_
            rintro e1 w' ⟨rfl, rfl⟩
            cases fb with
            | false =>
              go_wp2_with fail
              go_roundw
              case rel => exact ⟨k + 1, r, by omega, hrN, by go_num, rfl, Lib.hid (HR.out.no fun h => by have := h.1; simp only [HFB.out] at this; cases this), hb⟩
              case measure => simp [intOf]; omega
            | true =>
              go_wp2_with fail
              go_roundw
              case rel => exact ⟨k + 1, k, by omega, hlt, by go_num, rfl, Lib.hid (HR.out.yes HFB.out HAK.out), hb⟩
              case measure => simp [intOf]; omega
          | true =>
            have hst : stB n (coE e) k.testBit = fb := HFB.out
            rw [hst] at HCL
            clear hst
            go_wp2_with fail
            refine HCL.out.mono ?_
            rintro e1 w' ⟨rfl, rfl⟩
            cases fb with
            | false =>
              go_wp2_with fail
              go_roundw
              case rel => exact ⟨k + 1, r, by omega, hrN, by go_num, rfl, Lib.hid (HR.out.no fun h => by have := h.1; simp only [HFB.out] at this; cases this), hb⟩
              case measure => simp [intOf]; omega
            | true =>
              go_wp2_with fail
              go_roundw
              case rel => exact ⟨k + 1, k, by omega, hlt, by go_num, rfl, Lib.hid (HR.out.yes HFB.out HAK.out), hb⟩
              case measure => simp [intOf]; omega
      · have hd2 : ((sk : Int) == sr) = false := by rw [beq_eq_false_iff_ne]; omega
        have HAK : Hid (Ahead keyM k r) := Lib.hid (HAH.out.2 (.inl (by omega)))
        cases cl with
        | false =>
          have hst : stB n e k.testBit = fb := HFB.out
          rw [hst] at HST
          clear hst
          go_wp2_with fail
          refine HST.out.mono ?_
          rintro e1 w' ⟨rfl, rfl⟩
          cases fb with
          | false =>
            go_wp2_with fail
            go_roundw
            case rel => exact ⟨k + 1, r, by omega, hrN, by go_num, rfl, Lib.hid (HR.out.no fun h => by have := h.1; simp only [HFB.out] at this; cases this), hb⟩
            case measure => simp [intOf]; omega
          | true =>
            go_wp2_with fail
            go_roundw
            case rel => exact ⟨k + 1, k, by omega, hlt, by go_num, rfl, Lib.hid (HR.out.yes HFB.out HAK.out), hb⟩
            case measure => simp [intOf]; omega
        | true =>
          have hst : stB n (coE e) k.testBit = fb := HFB.out
          rw [hst] at HCL
          clear hst
          go_wp2_with fail
          refine HCL.out.mono ?_
          rintro e1 w' ⟨rfl, rfl⟩
          cases fb with
          | false =>
            go_wp2_with fail
            go_roundw
            case rel => exact ⟨k + 1, r, by omega, hrN, by go_num, rfl, Lib.hid (HR.out.no fun h => by have := h.1; simp only [HFB.out] at this; cases this), hb⟩
            case measure => simp [intOf]; omega
          | true =>
            go_wp2_with fail
            go_roundw
            case rel => exact ⟨k + 1, k, by omega, hlt, by go_num, rfl, Lib.hid (HR.out.yes HFB.out HAK.out), hb⟩
            case measure => simp [intOf]; omega
    · obtain rfl : k = N := by omega
      have hle : ¬ (k : Int) ≤ ((k - 1 : Nat) : Int) := by omega
      have hr0 : r = r0 := by
        have h1 := HR.out.best (by omega) (best_none _ _ _)
        exact h1.unique (by omega) (by rw [← HN.out]; exact HBE.out)
      subst hr0
      go_wp2_with fail
      go_ret
      exact ⟨rfl, by rw [hB]; exact hb03.trans (hb.mono (by omega))⟩

set_option maxHeartbeats 1000000 in
theorem specBestStable (g : Value) (xss : List (List Int)) (w : World) (hr : RdSS g xss w) (rs : List Int) (h : SearchP keyM stF xss rs) :
    Calls Tryd.prog 52 #[.agg #[g]] w (SRes w rs) := by
  obtain ⟨a, c, rfl⟩ := hr.shape
  obtain ⟨B, hB⟩ : ∃ B, w.heap.size = B := ⟨_, rfl⟩
  have u1 : Below B w (w.alloc (.cells #[.slice a xss.length c] 56)) := by subst hB; exact below_alloc' _ _
  have VG0 : VC 56 B #[.slice a xss.length c] (w.alloc (.cells #[.slice a xss.length c] 56)) := VC.new hB
  have hz0 : (w.alloc (.cells #[.slice a xss.length c] 56)).heap.size = B + 1 := by simp [hB]
  have H := Lib.hid h
  have hcg := VG0.cell
  clear h
  go_enter Tryd.func52, Tryd.ntmps52
  go_wp2_with fail
  generalize w.alloc (.cells #[.slice a xss.length c] 56) = W at *
  refine (specOk _ xss W (hr.below u1 hB)).mono ?_
  rintro e1 w1 ⟨rfl, hb1⟩
  have VG1 := VG0.upd (Upd.of_below hb1) (by omega)
  have hb := u1.trans (hb1.mono (by omega))
  have hz1 : B + 1 ≤ w1.heap.size := by have := hb1.size; omega
  clear hb1 hcg u1
  have hcg := VG1.cell
  cases hok : okB xss with
  | false =>
    obtain rfl : rs = [] := by
      rcases H.out with ⟨_, h⟩ | ⟨e, _, hA, hx, _⟩
      · exact h
      · rw [hx, okB_adj hA] at hok; cases hok
    have ho0 := World.ownsRow_lit (base := B) (e := 2) (size := 1) w1 #[] 0 (by omega) (by simp [maxLen]) rfl
    clear hok
    go_wp2_with fail
    go_ret
    exact ⟨_, rfl, by rw [hB]; simpa [ints] using ho0, by rw [hB]; exact hb.alloc (by omega) _⟩
  | true =>
    obtain ⟨e, r0, hA, hx, hbe, hrs⟩ : ∃ e r, Adj xss.length e ∧ xss = rowsB xss.length e ∧ IsBest keyM (fun s => stF xss.length e s = true) (2 ^ xss.length) r ∧ rs = rowB xss.length r.testBit := by
      rcases H.out with ⟨h, _⟩ | h
      · rw [hok] at h; cases h
      · exact h
    have hn16 := hA.le
    have hr' := hr.below hb hB
    rw [hx] at hr'
    have HB5 := Lib.hid (best25_any (.slice a (rowsB xss.length e).length c) xss.length e hA false w1 hr' r0 hbe)
    rw [rowsB_length] at HB5
    obtain ⟨ri, HRI⟩ : ∃ z : Int, Hid ((r0 : Int) = z) := ⟨_, Lib.hid rfl⟩
    have HSE := fun W => Lib.hid (set25_any xss.length (by omega) r0.testBit ri (by rw [← HRI.out, mask_self hbe.lt]) W)
    rw [← hrs] at HSE
    rw [HRI.out] at HB5
    clear hok hx hrs hr' H hA hbe
    go_wp2_with fail
    refine HB5.out.mono ?_
    rintro e1 w2 ⟨rfl, hb2⟩
    have hb02 := hb.trans (hb2.mono (by omega))
    have hz2 : B ≤ w2.heap.size := by have := hb2.size; omega
    clear HB5 hb2 hcg
    go_wp2_with fail
    refine (HSE w2).out.mono ?_
    rintro e1 w5 ⟨u5, rfl, hL5, hb5⟩
    have hbf := hb02.trans (hb5.mono hz2)
    have HL := Lib.hid (owns_base hL5 hz2)
    obtain ⟨la, lc, rfl⟩ := owns_shape hL5
    clear hb5 hL5 HSE
    go_wp2_with fail
    go_ret
    exact ⟨_, rfl, by rw [hB]; exact HL.out, by rw [hB]; exact hbf⟩
end Go.Proofs.YtbhobmngnjfgfaaDoor
