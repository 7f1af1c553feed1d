/-
  'LeastRule' of the reference; both.
-/
import Derived.Test.YtcjbobponlpkaaaDoorSpecCover
import Derived.BigQuiet
namespace Go.Proofs.YtcjbobponlpkaaaDoor
open Go.RowKit


set_option maxHeartbeats 8000000 in
theorem specLeastRule (g : Value) (xss : List (List Int)) (w : World) (hr : RdSS g xss w) (rs : List Int) (h : SearchP size ruleF xss rs) :
    Calls Tryd.prog 38 #[.agg #[g]] w (SRes w rs) := by
  obtain ⟨a, c, rfl⟩ := hr.shape
  obtain ⟨B, hB⟩ : ∃ B, w.heap.size = B := ⟨_, rfl⟩
  have u1 : Below B w (w.alloc (.cells #[.slice a xss.length c] 28)) := by subst hB; exact below_alloc' _ _
  have VG0 : VC 28 B #[.slice a xss.length c] (w.alloc (.cells #[.slice a xss.length c] 28)) := VC.new hB
  have hz0 : (w.alloc (.cells #[.slice a xss.length c] 28)).heap.size = B + 1 := by simp [hB]
  have H := Lib.hid h
  have hcg := VG0.cell
  clear h
  go_enter Tryd.func38, Tryd.ntmps38
  go_wp2_with fail
  generalize w.alloc (.cells #[.slice a xss.length c] 28) = W at *
  refine (specOk _ xss W (hr.below u1 hB)).mono ?_
  rintro e1 w1 ⟨rfl, hb1⟩
  have VG1 := VG0.upd (Upd.of_below hb1) (by omega)
  have hb := u1.trans (hb1.mono (by omega))
  have hz1 : B + 1 ≤ w1.heap.size := by have := hb1.size; omega
  clear hb1 hcg u1
  have hcg := VG1.cell
  cases hok : okB xss with
  | false =>
    obtain rfl : rs = [] := by
      rcases H.out with ⟨_, h⟩ | ⟨e, _, hA, hx, _⟩
      · exact h
      · rw [hx, okB_adj hA] at hok; cases hok
    have ho0 := World.ownsRow_lit (base := B) (e := 2) (size := 1) w1 #[] 0 (by omega) (by simp [maxLen]) rfl
    clear hok
    go_wp2_with fail
    go_ret
    exact ⟨_, rfl, by rw [hB]; simpa [ints] using ho0, by rw [hB]; exact hb.alloc (by omega) _⟩
  | true =>
    obtain ⟨e, r0, hA, hx, hbe, hrs⟩ : ∃ e r, Adj xss.length e ∧ xss = rowsB xss.length e ∧ IsBest size (fun s => ruleF xss.length e s = true) (2 ^ xss.length) r ∧ rs = rowB xss.length r.testBit := by
      rcases H.out with ⟨h, _⟩ | h
      · rw [hok] at h; cases h
      · exact h
    have hn16 := hA.le
    have HRS := Lib.hid hrs
    have HBE := Lib.hid hbe
    have hr' := hr.below hb hB
    rw [hx] at hr'
    have HBI := Lib.hid (bits25_any _ xss.length e hn16 w1 (by rw [rowsB_length] at hr'; exact hr'))
    obtain ⟨N, HN⟩ : ∃ N, Hid (2 ^ xss.length = N) := ⟨_, Lib.hid rfl⟩
    have hN1 : 1 ≤ N := by rw [← HN.out]; exact Nat.one_le_two_pow
    have hN2 : N ≤ 65536 := by rw [← HN.out]; exact Nat.pow_le_pow_right (n := 2) (j := 16) (by decide) hn16
    have HAL : Hid (∀ W, Calls Tryd.prog 87 #[.agg #[.slice a xss.length c]] W fun e w' => e = .returned (.int .i64 ((N - 1 : Nat) : Int)) ∧ Below W.heap.size W w') := Lib.hid fun W => by rw [← HN.out]; exact all25_any a xss.length c hn16 W
    have HLN := Lib.hid (show (natL (NB xss.length e)).length = xss.length by rw [natL_length]; simp)
    clear hok hx hrs hr' H hA hbe
    go_wp2_with fail
    refine HBI.out.mono ?_
    rintro e1 w2 ⟨u2, rfl, hL2, hb2⟩
    obtain ⟨na, nc, rfl⟩ := owns_shape hL2
    have hNr := Row.of_owns hL2
    have hb02 := hb.trans (hb2.mono (by omega))
    have VG2 := VG1.belowAt hb2 (by omega)
    have hz2 : w1.heap.size ≤ w2.heap.size := hb2.size
    clear hL2 HBI hb2 hcg hb
    have hcg := VG2.cell
    go_wp2_with fail
    refine (HAL.out _).mono ?_
    rintro e1 w3 ⟨rfl, hb3⟩
    have hb03 := hb02.trans (hb3.mono (by omega))
    have hz3 : w1.heap.size ≤ w3.heap.size := by have := hb3.size; omega
    have VG3 := VG2.belowAt hb3 (by omega)
    have hNr3 := hNr.below hb3
    obtain ⟨C, hC⟩ : ∃ C, w3.heap.size = C := ⟨_, rfl⟩
    have hcl : Below C w3 w3 := Below.refl _ _
    have HR0 : Hid (Run size (fun s => ruleF xss.length e s = true) (N - 1) 0 (N - 1)) := Lib.hid (Run.start _ _ _)
    clear hcg hb3 hNr hb02 VG2
    go_wp2_with fail
    go_loopw [4, 5] (fun b i wr => ∃ k r : Nat, k ≤ N ∧ r < N ∧ i = .int .i64 k ∧ b = .int .i64 r ∧ Hid (Run size (fun s => ruleF xss.length e s = true) (N - 1) k r) ∧ Below C w3 wr) (fun _ i _ => 65537 - (intOf i).toNat)
    case atStart => exact ⟨0, N - 1, Nat.zero_le _, by omega, rfl, rfl, HR0, hcl⟩
    case round =>
      clear hcl
      obtain ⟨k, r, hk, hrN, rfl, rfl, HR, hb⟩ := hrel
      have hsz := hb.size
      have VGr := VG3.belowAt hb (by omega)
      have hcg := VGr.cell
      go_wp2_with fail
      refine (HAL.out _).mono ?_
      rintro e1 w4 ⟨rfl, hb4⟩
      replace hb := hb.trans (hb4.mono (by omega))
      have hsz4 := hb.size
      have VG4 := VGr.belowAt hb4 (by omega)
      clear hb4 hcg
      have hcg := VG4.cell
      by_cases hlt : k < N
      · have hle : (k : Int) ≤ ((N - 1 : Nat) : Int) := by omega
        have HMK := fun W => Lib.hid (many_any k (by omega) (k : Int) rfl W)
        have HMR := fun W => Lib.hid (many_any r (by omega) (r : Int) rfl W)
        have hAH := ahead_size (k := k) (r := r) (by omega) (by omega)
        have hLE := less_any k r (by omega) (by omega) (k : Int) (r : Int) rfl rfl
        obtain ⟨sk, hsk⟩ : ∃ s, size k = s := ⟨_, rfl⟩
        obtain ⟨sr, hsr⟩ : ∃ s, size r = s := ⟨_, rfl⟩
        obtain ⟨lx, HLX⟩ : ∃ b, Hid (lexB k r = b) := ⟨_, Lib.hid rfl⟩
        have hk32 : sk ≤ 32 := by rw [← hsk]; exact size_le k
        have hr32 : sr ≤ 32 := by rw [← hsr]; exact size_le r
        rw [hsk] at HMK hAH
        rw [hsr] at HMR hAH
        rw [HLX.out] at hAH hLE
        have HAH := Lib.hid hAH
        have HLE := Lib.hid hLE
        have hkn : k < 2 ^ xss.length := by rw [HN.out]; exact hlt
        have HKN := Lib.hid hkn
        clear hsk hsr hAH hLE hkn
        go_wp2_with fail
        refine (HMK _).out.mono ?_
        rintro e1 w' ⟨rfl, rfl⟩
        go_wp2_with fail
        refine (HMR _).out.mono ?_
        rintro e1 w' ⟨rfl, rfl⟩
        clear HMK HMR
        obtain ⟨y, HY⟩ : ∃ y : Nat, Hid (y = maskB xss.length (domB xss.length e k.testBit)) := ⟨_, Lib.hid rfl⟩
        have HFY : Hid (ruleF xss.length e k = decide (y = N - 1)) := Lib.hid (by unfold ruleF ruleB; rw [← HY.out, ← mask_allB, ← full_maskB, HN.out])
        have HLO : Hid (∀ x, Calls Tryd.prog 89 #[.int .i64 (k : Int), .int .i64 (r : Int)] (over w4 x) fun e w' => e = .returned (.bool lx) ∧ Below (over w4 x).heap.size (over w4 x) w') := Lib.hid fun x => less_over k r (by omega) (by omega) _ _ rfl rfl lx HLX.out x
        have HNE : Hid (∀ x, Calls Tryd.prog 90 #[.slice na (natL (NB xss.length e)).length nc, .int .i64 (k : Int)] (over w4 x) fun r w' => r = .returned (.int .i64 (y : Int)) ∧ Below (over w4 x).heap.size (over w4 x) w') := Lib.hid fun x => near_over (.slice na (natL (NB xss.length e)).length nc) xss.length e hn16 k HKN.out _ rfl (y : Int) (by rw [HY.out]) (Row.below hNr3 (hC.symm ▸ hb)) x
        have HAO : Hid (∀ x, Calls Tryd.prog 87 #[.agg #[.slice a xss.length c]] (over w4 x) fun e w' => e = .returned (.int .i64 ((N - 1 : Nat) : Int)) ∧ Below (over w4 x).heap.size (over w4 x) w') := Lib.hid fun x => all_over a xss.length c hn16 _ (by rw [HN.out]) x
        by_cases h1 : sk < sr
        · have hd1 : (sk : Int) < sr := by omega
          have HAK : Hid (Ahead size k r) := Lib.hid (HAH.out.2 (.inl h1))
          cases hf : decide (y = N - 1) with
          | false =>
            have hd3 : ((y : Int) == ((N - 1 : Nat) : Int)) = false := by rw [beq_eq_false_iff_ne]; simp at hf; omega
            have HF : Hid (ruleF xss.length e k = false) := Lib.hid (by rw [HFY.out, hf])
            clear hf
            go_wp2_with fail
            refine wp_region_calm (by kernel_rfl) (by kernel_rfl) ?_
            repeat (first | go_big_quiet_step ((first | (go_at_call 89; with_reducible exact calls_over (HLO.out _)) | (go_at_call 90; with_reducible exact calls_over (HNE.out _)) | (go_at_call 87; with_reducible exact calls_over (HAO.out _)))) | quiet_step ((first | (go_at_call 89; with_reducible exact calls_over (HLO.out _)) | (go_at_call 90; with_reducible exact calls_over (HNE.out _)) | (go_at_call 87; with_reducible exact calls_over (HAO.out _)))))
            refine wpQuiet_nil ?_
            intro W' hbW'
            have hb5 : Below C w3 W' := hb.trans (hbW'.mono (by omega))
            clear hcg hb hbW'
            go_wp2_with fail
            go_roundw
            case rel => exact ⟨k + 1, r, by omega, hrN, by go_num, rfl, Lib.hid (HR.out.no fun h => by have := h.1; simp only [HF.out] at this; cases this), hb5⟩
            case measure => simp [intOf]; omega
          | true =>
            have hd3 : ((y : Int) == ((N - 1 : Nat) : Int)) = true := by rw [beq_iff_eq]; simp at hf; omega
            have HF : Hid (ruleF xss.length e k = true) := Lib.hid (by rw [HFY.out, hf])
            clear hf
            go_wp2_with fail
            refine wp_region_calm (by kernel_rfl) (by kernel_rfl) ?_
            repeat (first | go_big_quiet_step ((first | (go_at_call 89; with_reducible exact calls_over (HLO.out _)) | (go_at_call 90; with_reducible exact calls_over (HNE.out _)) | (go_at_call 87; with_reducible exact calls_over (HAO.out _)))) | quiet_step ((first | (go_at_call 89; with_reducible exact calls_over (HLO.out _)) | (go_at_call 90; with_reducible exact calls_over (HNE.out _)) | (go_at_call 87; with_reducible exact calls_over (HAO.out _)))))
            refine wpQuiet_nil ?_
            intro W' hbW'
            have hb5 : Below C w3 W' := hb.trans (hbW'.mono (by omega))
            clear hcg hb hbW'
            go_wp2_with fail
            go_roundw
            case rel => exact ⟨k + 1, k, by omega, hlt, by go_num, rfl, Lib.hid (HR.out.yes HF.out HAK.out), hb5⟩
            case measure => simp [intOf]; omega
        have hd1 : ¬ (sk : Int) < sr := by omega
        by_cases h2 : sk = sr
        · have hd2 : ((sk : Int) == sr) = true := by rw [beq_iff_eq]; omega
          cases lx with
          | false =>
            have HNA : Hid (¬ Ahead size k r) := Lib.hid fun h => by
              rcases HAH.out.1 h with h | h
              · omega
              · cases h.2
            go_wp2_with fail
            refine wp_region_calm (by kernel_rfl) (by kernel_rfl) ?_
            repeat (first | go_big_quiet_step ((first | (go_at_call 89; with_reducible exact calls_over (HLO.out _)) | (go_at_call 90; with_reducible exact calls_over (HNE.out _)) | (go_at_call 87; with_reducible exact calls_over (HAO.out _)))) | quiet_step ((first | (go_at_call 89; with_reducible exact calls_over (HLO.out _)) | (go_at_call 90; with_reducible exact calls_over (HNE.out _)) | (go_at_call 87; with_reducible exact calls_over (HAO.out _)))))
            refine wpQuiet_nil ?_
            intro W' hbW'
            have hb5 : Below C w3 W' := hb.trans (hbW'.mono (by omega))
            clear hcg hb hbW'
            go_wp2_with fail
            go_roundw
            case rel => exact ⟨k + 1, r, by omega, hrN, by go_num, rfl, Lib.hid (HR.out.no fun h => HNA.out h.2), hb5⟩
            case measure => simp [intOf]; omega
          | true =>
            have HAK : Hid (Ahead size k r) := Lib.hid (HAH.out.2 (.inr ⟨h2, rfl⟩))
            cases hf : decide (y = N - 1) with
            | false =>
              have hd3 : ((y : Int) == ((N - 1 : Nat) : Int)) = false := by rw [beq_eq_false_iff_ne]; simp at hf; omega
              have HF : Hid (ruleF xss.length e k = false) := Lib.hid (by rw [HFY.out, hf])
              clear hf
              go_wp2_with fail
              refine wp_region_calm (by kernel_rfl) (by kernel_rfl) ?_
              repeat (first | go_big_quiet_step ((first | (go_at_call 89; with_reducible exact calls_over (HLO.out _)) | (go_at_call 90; with_reducible exact calls_over (HNE.out _)) | (go_at_call 87; with_reducible exact calls_over (HAO.out _)))) | quiet_step ((first | (go_at_call 89; with_reducible exact calls_over (HLO.out _)) | (go_at_call 90; with_reducible exact calls_over (HNE.out _)) | (go_at_call 87; with_reducible exact calls_over (HAO.out _)))))
              refine wpQuiet_nil ?_
              intro W' hbW'
              have hb5 : Below C w3 W' := hb.trans (hbW'.mono (by omega))
              clear hcg hb hbW'
              go_wp2_with fail
              go_roundw
              case rel => exact ⟨k + 1, r, by omega, hrN, by go_num, rfl, Lib.hid (HR.out.no fun h => by have := h.1; simp only [HF.out] at this; cases this), hb5⟩
              case measure => simp [intOf]; omega
            | true =>
              have hd3 : ((y : Int) == ((N - 1 : Nat) : Int)) = true := by rw [beq_iff_eq]; simp at hf; omega
              have HF : Hid (ruleF xss.length e k = true) := Lib.hid (by rw [HFY.out, hf])
              clear hf
              go_wp2_with fail
              refine wp_region_calm (by kernel_rfl) (by kernel_rfl) ?_
              repeat (first | go_big_quiet_step ((first | (go_at_call 89; with_reducible exact calls_over (HLO.out _)) | (go_at_call 90; with_reducible exact calls_over (HNE.out _)) | (go_at_call 87; with_reducible exact calls_over (HAO.out _)))) | quiet_step ((first | (go_at_call 89; with_reducible exact calls_over (HLO.out _)) | (go_at_call 90; with_reducible exact calls_over (HNE.out _)) | (go_at_call 87; with_reducible exact calls_over (HAO.out _)))))
              refine wpQuiet_nil ?_
              intro W' hbW'
              have hb5 : Below C w3 W' := hb.trans (hbW'.mono (by omega))
              clear hcg hb hbW'
              go_wp2_with fail
              go_roundw
              case rel => exact ⟨k + 1, k, by omega, hlt, by go_num, rfl, Lib.hid (HR.out.yes HF.out HAK.out), hb5⟩
              case measure => simp [intOf]; omega
        · have hd2 : ((sk : Int) == sr) = false := by rw [beq_eq_false_iff_ne]; omega
          have HNA : Hid (¬ Ahead size k r) := Lib.hid fun h => by rcases HAH.out.1 h with h | h <;> omega
          go_wp2_with fail
          refine wp_region_calm (by kernel_rfl) (by kernel_rfl) ?_
          repeat (first | go_big_quiet_step ((first | (go_at_call 89; with_reducible exact calls_over (HLO.out _)) | (go_at_call 90; with_reducible exact calls_over (HNE.out _)) | (go_at_call 87; with_reducible exact calls_over (HAO.out _)))) | quiet_step ((first | (go_at_call 89; with_reducible exact calls_over (HLO.out _)) | (go_at_call 90; with_reducible exact calls_over (HNE.out _)) | (go_at_call 87; with_reducible exact calls_over (HAO.out _)))))
          refine wpQuiet_nil ?_
          intro W' hbW'
          have hb5 : Below C w3 W' := hb.trans (hbW'.mono (by omega))
          clear hcg hb hbW'
          go_wp2_with fail
          go_roundw
          case rel => exact ⟨k + 1, r, by omega, hrN, by go_num, rfl, Lib.hid (HR.out.no fun h => HNA.out h.2), hb5⟩
          case measure => simp [intOf]; omega
      · obtain rfl : k = N := by omega
        have hle : ¬ (k : Int) ≤ ((k - 1 : Nat) : Int) := by omega
        have hr0 : r = r0 := by
          have h1 := HR.out.best (by omega) (by rw [← HN.out]; exact rule_all _ _)
          exact h1.unique (by omega) (by rw [← HN.out]; exact HBE.out)
        subst hr0
        obtain ⟨ri, HRI⟩ : ∃ z : Int, Hid ((r : Int) = z) := ⟨_, Lib.hid rfl⟩
        have HSE := Lib.hid (set25_any xss.length (by omega) r.testBit ri (by rw [← HRI.out, mask_self HBE.out.lt]) w4)
        rw [← HRS.out] at HSE
        rw [HRI.out]
        go_wp2_with fail
        refine HSE.out.mono ?_
        rintro e1 w5 ⟨u5, rfl, hL5, hb5⟩
        have hbf := hb03.trans ((hb.trans (hb5.mono (by omega))).mono (by omega))
        have HL := Lib.hid (owns_base hL5 (show B ≤ w4.heap.size by omega))
        obtain ⟨la, lc, rfl⟩ := owns_shape hL5
        clear hb5 hL5 HSE
        go_wp2_with fail
        go_ret
        exact ⟨_, rfl, by rw [hB]; exact HL.out, by rw [hB]; exact hbf⟩
theorem both_LeastRule (xss : List (List Int)) : ∃ rs : List Int, 1 + rs.length ≤ 1000000000 ∧
    (∀ (w : World) (g : Value), Tab w → RdSS g xss w → Calls Tryd.prog 38 #[.agg #[g]] w (SRes w rs)) ∧
    (∀ (w : World) (g : Value), Tab w → RdSS g xss w → Calls Tryd.prog 39 #[.agg #[g]] w (SRes w rs)) := by
  obtain ⟨rs, hl, hP⟩ := searchP_has size ruleF (fun n => 2 ^ n - 1) (fun n => by have := Nat.one_le_two_pow (n := n); omega) rule_all xss
  exact ⟨rs, hl, fun w g _ hr => specLeastRule g xss w hr rs hP, fun w g ht hr => implLeastRule g xss w ht hr rs hP⟩
end Go.Proofs.YtcjbobponlpkaaaDoor
