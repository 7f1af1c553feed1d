/-
  'BreakSet' of the reference; both.
-/
import Derived.Test.YtcjbobponlpkaaaDoorPartB
import Derived.Test.YtcjbobponlpkaaaDoorBreak
import Derived.Test.YtcjbobponlpkaaaDoorSpecCover
namespace Go.Proofs.YtcjbobponlpkaaaDoor
open Go.RowKit

/-- The empty set stands behind all others. -/
def key0 (s : Nat) : Nat := if s = 0 then 33 else size s
theorem key0_pos {s : Nat} (h : 1 ≤ s) : key0 s = size s := if_neg (by omega)
theorem ahead_key0 {k r : Nat} (hk0 : 1 ≤ k) (hr0 : 1 ≤ r) (hk : k < 4294967296) (hr : r < 4294967296) : Ahead key0 k r ↔ size k < size r ∨ (size k = size r ∧ lexB k r = true) := by
  unfold Ahead
  rw [key0_pos hk0, key0_pos hr0, lexB_iff hk hr]
theorem ahead_key00 {k : Nat} (hk0 : 1 ≤ k) : Ahead key0 k 0 := .inl (by
  rw [key0_pos hk0]
  have := size_le k
  show size k < 33
  omega)
theorem run_break {n : Nat} {e : Nat → Nat → Bool} {N r : Nat} (h : Run key0 (fun s => brkF n e s = true) 0 N r) : (r = 0 ∧ ∀ t, t < N → brkF n e t = false) ∨ (1 ≤ r ∧ r < N ∧ IsBest size (fun s => brkF n e s = true) N r) := by
  have hz : ∀ t, brkF n e t = true → 1 ≤ t := fun t ht => by
    rcases Nat.eq_zero_or_pos t with rfl | h0
    · rw [brkF_zero] at ht; cases ht
    · exact h0
  rcases h.from_ with rfl | ⟨h1, h2, -⟩
  · refine .inl ⟨rfl, fun t ht => ?_⟩
    cases hb : brkF n e t with
    | false => rfl
    | true => exact (h.least t ht hb (ahead_key00 (hz t hb))).elim
  · have hr := hz r h2
    refine .inr ⟨hr, h1, h1, h2, fun t ht hft ha => h.least t ht hft ?_⟩
    have ht1 := hz t hft
    unfold Ahead at ha ⊢
    rw [key0_pos ht1, key0_pos hr]
    exact ha
def BreakC (n : Nat) (e : Nat → Nat → Bool) (rs : List Int) (ok : Bool) : Prop :=
  (∃ r, IsBest size (fun s => brkF n e s = true) (2 ^ n) r ∧ rs = rowB n r.testBit ∧ ok = true) ∨ ((∀ t, t < 2 ^ n → brkF n e t = false) ∧ rs = [] ∧ ok = false)
theorem break_res {n : Nat} {e : Nat → Nat → Bool} {rs : List Int} {ok : Bool} (hn : n ≤ 16) (hc : BreakC n e rs ok) {r : Nat} (hr : Run key0 (fun s => brkF n e s = true) 0 (2 ^ n) r) :
    rs = rowB n r.testBit ∧ ok = decide ((0 : Int) < r) := by
  rcases run_break hr with ⟨rfl, h1⟩ | ⟨h0, h1, h2⟩
  · rcases hc with ⟨r', hb, _, _⟩ | ⟨_, h3, h4⟩
    · have := h1 r' hb.lt
      have h5 := hb.fits
      rw [this] at h5
      cases h5
    · exact ⟨by rw [h3]; simp [rowB], by rw [h4]; rfl⟩
  · rcases hc with ⟨r', hb, h3, h4⟩ | ⟨h3, _, _⟩
    · have := hb.unique (pow_le_32 hn) h2
      subst this
      exact ⟨h3, by rw [h4]; simp; omega⟩
    · have := h3 r h1
      have h5 := h2.fits
      rw [this] at h5
      cases h5
theorem breakP_has (xss : List (List Int)) : ∃ (rs : List Int) (ok : Bool), 1 + rs.length ≤ 1000000000 ∧ BreakP xss rs ok := by
  cases hok : okB xss with
  | false => exact ⟨[], false, by simp, .inl ⟨hok, rfl, rfl⟩⟩
  | true =>
    obtain ⟨e, hA, hx⟩ := (okB_iff xss).1 hok
    obtain ⟨r, hr⟩ := exists_run key0 (fun s => brkF xss.length e s = true) 0 (2 ^ xss.length)
    have hn := hA.le
    have hl := rowB_length xss.length r.testBit
    rcases run_break hr with ⟨rfl, h1⟩ | ⟨h0, h1, h2⟩
    · exact ⟨[], false, by simp, .inr ⟨e, hA, hx, .inr ⟨h1, rfl, rfl⟩⟩⟩
    · exact ⟨_, true, by omega, .inr ⟨e, hA, hx, .inl ⟨r, h2, rfl, rfl⟩⟩⟩

set_option maxHeartbeats 8000000 in
theorem specBreakSet (g : Value) (xss : List (List Int)) (w : World) (hr : RdSS g xss w) (rs : List Int) (ok : Bool) (h : BreakP xss rs ok) :
    Calls Tryd.prog 46 #[.agg #[g]] w (SBRes w rs ok) := by
  obtain ⟨a, c, rfl⟩ := hr.shape
  obtain ⟨B, hB⟩ : ∃ B, w.heap.size = B := ⟨_, rfl⟩
  have u1 : Below B w (w.alloc (.cells #[.slice a xss.length c] 28)) := by subst hB; exact below_alloc' _ _
  have VG0 : VC 28 B #[.slice a xss.length c] (w.alloc (.cells #[.slice a xss.length c] 28)) := VC.new hB
  have hz0 : (w.alloc (.cells #[.slice a xss.length c] 28)).heap.size = B + 1 := by simp [hB]
  have H := Lib.hid h
  have hcg := VG0.cell
  clear h
  go_enter Tryd.func46, Tryd.ntmps46
  go_wp2_with fail
  generalize w.alloc (.cells #[.slice a xss.length c] 28) = W at *
  refine (specOk _ xss W (hr.below u1 hB)).mono ?_
  rintro e1 w1 ⟨rfl, hb1⟩
  have VG1 := VG0.upd (Upd.of_below hb1) (by omega)
  have hb := u1.trans (hb1.mono (by omega))
  have hz1 : B + 1 ≤ w1.heap.size := by have := hb1.size; omega
  clear hb1 hcg u1
  have hcg := VG1.cell
  cases hok : okB xss with
  | false =>
    obtain ⟨rfl, rfl⟩ : rs = [] ∧ ok = false := by
      rcases H.out with ⟨_, h⟩ | ⟨e, hA, hx, _⟩
      · exact h
      · rw [hx, okB_adj hA] at hok; cases hok
    have ho0 := World.ownsRow_lit (base := B) (e := 2) (size := 1) w1 #[] 0 (by omega) (by simp [maxLen]) rfl
    clear hok
    go_wp2_with fail
    refine bodyPost_ret (v := .tuple #[.slice (some ⟨w1.heap.size, 0, none⟩) 0 0, .bool false]) (by simp [results, Tryd.results46, go_sem]) rfl ?_
    exact ⟨_, rfl, by rw [hB]; simpa [ints] using ho0, by rw [hB]; exact hb.alloc (by omega) _⟩
  | true =>
    obtain ⟨e, hA, hx, hcase⟩ : ∃ e, Adj xss.length e ∧ xss = rowsB xss.length e ∧ BreakC xss.length e rs ok := by
      rcases H.out with ⟨h, _⟩ | h
      · rw [hok] at h; cases h
      · exact h
    have hn16 := hA.le
    have HCA := Lib.hid hcase
    have HAA := Lib.hid hA
    have hr' := hr.below hb hB
    rw [hx] at hr'
    have HBI := Lib.hid (bits25_any _ xss.length e hn16 w1 (by rw [rowsB_length] at hr'; exact hr'))
    obtain ⟨N, HN⟩ : ∃ N, Hid (2 ^ xss.length = N) := ⟨_, Lib.hid rfl⟩
    have hN1 : 1 ≤ N := by rw [← HN.out]; exact Nat.one_le_two_pow
    have hN2 : N ≤ 65536 := by rw [← HN.out]; exact Nat.pow_le_pow_right (n := 2) (j := 16) (by decide) hn16
    obtain ⟨ni, HNI⟩ : ∃ z : Int, Hid (((N - 1 : Nat) : Int) = z) := ⟨_, Lib.hid rfl⟩
    have HNJ : Hid (ni = (N : Int) - 1) := Lib.hid (by rw [← HNI.out]; omega)
    have HAL : Hid (∀ W, Calls Tryd.prog 87 #[.agg #[.slice a xss.length c]] W fun e w' => e = .returned (.int .i64 ni) ∧ Below W.heap.size W w') := Lib.hid fun W => by rw [← HNI.out, ← HN.out]; exact all25_any a xss.length c hn16 W
    have HLN := Lib.hid (show (natL (NB xss.length e)).length = xss.length by rw [natL_length]; simp)
    have HR0 : Hid (Run key0 (fun s => brkF xss.length e s = true) 0 1 0) := Lib.hid ((Run.start _ _ _).no fun h => by have := h.1; rw [brkF_zero] at this; cases this)
    clear hok hx hr' hA hcase H
    go_wp2_with fail
    refine HBI.out.mono ?_
    rintro e1 w2 ⟨u2, rfl, hL2, hb2⟩
    obtain ⟨na, nc, rfl⟩ := owns_shape hL2
    have hNr := Row.of_owns hL2
    have hb02 := hb.trans (hb2.mono (by omega))
    have VG2 := VG1.belowAt hb2 (by omega)
    have hz2 : w1.heap.size ≤ w2.heap.size := hb2.size
    clear hL2 HBI hb2 hcg hb
    obtain ⟨C, hC⟩ : ∃ C, w2.heap.size = C := ⟨_, rfl⟩
    have hcl : Below C w2 w2 := Below.refl _ _
    go_wp2_with fail
    go_loopw [5, 6] (fun b i wr => ∃ k r : Nat, 1 ≤ k ∧ k ≤ N ∧ r < N ∧ i = .int .i64 k ∧ b = .int .i64 r ∧ Hid (Run key0 (fun s => brkF xss.length e s = true) 0 k r) ∧ Below C w2 wr) (fun _ i _ => 65537 - (intOf i).toNat)
    case atStart => exact ⟨1, 0, Nat.le_refl _, hN1, by omega, rfl, rfl, HR0, hcl⟩
    case round =>
      clear hcl
      obtain ⟨k, r, hk1, hk, hrN, rfl, rfl, HR, hb⟩ := hrel
      have hsz := hb.size
      have VGr := VG2.belowAt hb (by omega)
      have hcg := VGr.cell
      go_wp2_with fail
      refine (HAL.out _).mono ?_
      rintro e1 w4 ⟨rfl, hb4⟩
      replace hb := hb.trans (hb4.mono (by omega))
      have hsz4 := hb.size
      have VG4 := VGr.belowAt hb4 (by omega)
      clear hb4 hcg
      have hcg := VG4.cell
      by_cases hlt : k < N
      · have hle : (k : Int) ≤ ni := by have := HNJ.out; omega
        have HMK := fun W => Lib.hid (many_any k (by omega) (k : Int) rfl W)
        have HMR := fun W => Lib.hid (many_any r (by omega) (r : Int) rfl W)
        have hLE := less_any k r (by omega) (by omega) (k : Int) (r : Int) rfl rfl
        obtain ⟨sk, HSK⟩ : ∃ s, Hid (size k = s) := ⟨_, Lib.hid rfl⟩
        obtain ⟨sr, HSR⟩ : ∃ s, Hid (size r = s) := ⟨_, Lib.hid rfl⟩
        obtain ⟨lx, HLX⟩ : ∃ b, Hid (lexB k r = b) := ⟨_, Lib.hid rfl⟩
        have hk32 : sk ≤ 32 := by rw [← HSK.out]; exact size_le k
        have hr32 : sr ≤ 32 := by rw [← HSR.out]; exact size_le r
        rw [HSK.out] at HMK
        rw [HSR.out] at HMR
        rw [HLX.out] at hLE
        have HLE := Lib.hid hLE
        have hkn : k < 2 ^ xss.length := by rw [HN.out]; exact hlt
        have HKN := Lib.hid hkn
        obtain ⟨yi, HYI⟩ : ∃ z : Int, Hid (z = (maskB xss.length (restB xss.length k) : Nat)) := ⟨_, Lib.hid rfl⟩
        have hba : bits BinOp.andNot IntKind.i64 ni (k : Int) = yi := by
          rw [← HNI.out, HYI.out, ← HN.out, full_maskB, mask_allB, ← mask_self HKN.out, bits_andNot_mask hn16, mask_self HKN.out]
          rfl
        obtain ⟨K, HK⟩ : ∃ K, Hid ((partsTo xss.length e (restB xss.length k) xss.length).length = K) := ⟨_, Lib.hid rfl⟩
        have HPS := fun W hw => Lib.hid (parts27_any (.slice na (natL (NB xss.length e)).length nc) xss.length e hn16 HAA.out (restB xss.length k) restB_lt yi HYI.out W hw)
        rw [HK.out] at HPS
        have HFB : Hid (brkF xss.length e k = decide (sk < K)) := Lib.hid (by unfold brkF; rw [decide_eq_true (by omega : k ≠ 0), Bool.true_and, HSK.out, HK.out])
        clear hLE hkn
        go_wp2_with fail
        refine (HMK _).out.mono ?_
        rintro e1 w' ⟨rfl, rfl⟩
        go_wp2_with fail
        refine (HMR _).out.mono ?_
        rintro e1 w' ⟨rfl, rfl⟩
        clear HMK HMR
        by_cases h0 : r = 0
        · subst h0
          have HAK : Hid (Ahead key0 k 0) := Lib.hid (ahead_key00 hk1)
          go_wp2_with fail
          refine (HAL.out _).mono ?_
          rintro e1 w5 ⟨rfl, hb5⟩
          replace hb := hb.trans (hb5.mono (by omega))
          have hsz5 := hb.size
          have HP5 := HPS w5 (Row.below hNr (hC.symm ▸ hb))
          clear hb5 hcg HPS
          go_wp2_with fail
          refine HP5.out.mono ?_
          rintro e1 w' ⟨od, rfl, rfl⟩
          by_cases hsK : sk < K
          · have hd9 : (sk : Int) < K := by omega
            have HF : Hid (brkF xss.length e k = true) := Lib.hid (by rw [HFB.out]; simpa using hsK)
            go_wp2_with fail
            go_roundw
            case rel => exact ⟨k + 1, k, by omega, by omega, hlt, by go_num, rfl, Lib.hid (HR.out.yes HF.out HAK.out), hb⟩
            case measure => simp [intOf]; omega
          · have hd9 : ¬ (sk : Int) < K := by omega
            have HF : Hid (brkF xss.length e k = false) := Lib.hid (by rw [HFB.out]; simpa using hsK)
            go_wp2_with fail
            go_roundw
            case rel => exact ⟨k + 1, 0, by omega, by omega, hrN, by go_num, rfl, Lib.hid (HR.out.no fun h => by have := h.1; rw [HF.out] at this; cases this), hb⟩
            case measure => simp [intOf]; omega
        · have hd0 : (0 : Int) < r := by omega
          have HAH := Lib.hid (ahead_key0 (k := k) (r := r) hk1 (by omega) (by omega) (by omega))
          rw [HSK.out, HSR.out, HLX.out] at HAH
          by_cases h1 : sr < sk
          · have hd1 : (sr : Int) < sk := by omega
            have HNA : Hid (¬ Ahead key0 k r) := Lib.hid fun h => by rcases HAH.out.1 h with h | h <;> omega
            go_wp2_with fail
            go_roundw
            case rel => exact ⟨k + 1, r, by omega, by omega, hrN, by go_num, rfl, Lib.hid (HR.out.no fun h => HNA.out h.2), hb⟩
            case measure => simp [intOf]; omega
          have hd1 : ¬ (sr : Int) < sk := by omega
          by_cases h2 : sk = sr
          · have hd2 : ((sk : Int) == sr) = true := by rw [beq_iff_eq]; omega
            cases lx with
            | false =>
              have HNA : Hid (¬ Ahead key0 k r) := Lib.hid fun h => by
                rcases HAH.out.1 h with h | h
                · omega
                · cases h.2
              go_wp2_with fail
              refine (HLE.out _).mono ?_
              rintro e1 w' ⟨rfl, rfl⟩
              go_wp2_with fail
              go_roundw
              case rel => exact ⟨k + 1, r, by omega, by omega, hrN, by go_num, rfl, Lib.hid (HR.out.no fun h => HNA.out h.2), hb⟩
              case measure => simp [intOf]; omega
            | true =>
              have HAK : Hid (Ahead key0 k r) := Lib.hid (HAH.out.2 (.inr ⟨h2, rfl⟩))
              go_wp2_with fail
              refine (HLE.out _).mono ?_
              rintro e1 w' ⟨rfl, rfl⟩
              go_wp2_with fail
              refine (HAL.out _).mono ?_
              rintro e1 w5 ⟨rfl, hb5⟩
              replace hb := hb.trans (hb5.mono (by omega))
              have hsz5 := hb.size
              have HP5 := HPS w5 (Row.below hNr (hC.symm ▸ hb))
              clear hb5 hcg HPS
              go_wp2_with fail
              refine HP5.out.mono ?_
              rintro e1 w' ⟨od, rfl, rfl⟩
              by_cases hsK : sk < K
              · have hd9 : (sk : Int) < K := by omega
                have HF : Hid (brkF xss.length e k = true) := Lib.hid (by rw [HFB.out]; simpa using hsK)
                go_wp2_with fail
                go_roundw
                case rel => exact ⟨k + 1, k, by omega, by omega, hlt, by go_num, rfl, Lib.hid (HR.out.yes HF.out HAK.out), hb⟩
                case measure => simp [intOf]; omega
              · have hd9 : ¬ (sk : Int) < K := by omega
                have HF : Hid (brkF xss.length e k = false) := Lib.hid (by rw [HFB.out]; simpa using hsK)
                go_wp2_with fail
                go_roundw
                case rel => exact ⟨k + 1, r, by omega, by omega, hrN, by go_num, rfl, Lib.hid (HR.out.no fun h => by have := h.1; rw [HF.out] at this; cases this), hb⟩
                case measure => simp [intOf]; omega
          · have hd2 : ((sk : Int) == sr) = false := by rw [beq_eq_false_iff_ne]; omega
            have HAK : Hid (Ahead key0 k r) := Lib.hid (HAH.out.2 (.inl (by omega)))
            go_wp2_with fail
            refine (HAL.out _).mono ?_
            rintro e1 w5 ⟨rfl, hb5⟩
            replace hb := hb.trans (hb5.mono (by omega))
            have hsz5 := hb.size
            have HP5 := HPS w5 (Row.below hNr (hC.symm ▸ hb))
            clear hb5 hcg HPS
            go_wp2_with fail
            refine HP5.out.mono ?_
            rintro e1 w' ⟨od, rfl, rfl⟩
            by_cases hsK : sk < K
            · have hd9 : (sk : Int) < K := by omega
              have HF : Hid (brkF xss.length e k = true) := Lib.hid (by rw [HFB.out]; simpa using hsK)
              go_wp2_with fail
              go_roundw
              case rel => exact ⟨k + 1, k, by omega, by omega, hlt, by go_num, rfl, Lib.hid (HR.out.yes HF.out HAK.out), hb⟩
              case measure => simp [intOf]; omega
            · have hd9 : ¬ (sk : Int) < K := by omega
              have HF : Hid (brkF xss.length e k = false) := Lib.hid (by rw [HFB.out]; simpa using hsK)
              go_wp2_with fail
              go_roundw
              case rel => exact ⟨k + 1, r, by omega, by omega, hrN, by go_num, rfl, Lib.hid (HR.out.no fun h => by have := h.1; rw [HF.out] at this; cases this), hb⟩
              case measure => simp [intOf]; omega
      · obtain rfl : k = N := by omega
        have hle : ¬ (k : Int) ≤ ni := by have := HNJ.out; omega
        have HRS := Lib.hid (break_res hn16 HCA.out (by rw [HN.out]; exact HR.out))
        have hrlt : r < 2 ^ xss.length := by rw [HN.out]; exact hrN
        obtain ⟨ri, HRI⟩ : ∃ z : Int, Hid ((r : Int) = z) := ⟨_, Lib.hid rfl⟩
        have HSE := Lib.hid (set25_any xss.length (by omega) r.testBit ri (by rw [← HRI.out, mask_self hrlt]) w4)
        rw [← HRS.out.1] at HSE
        have HOK := Lib.hid HRS.out.2
        rw [HRI.out] at HOK ⊢
        clear hrlt
        go_wp2_with fail
        refine HSE.out.mono ?_
        rintro e1 w5 ⟨u5, rfl, hL5, hb5⟩
        have hbf := hb02.trans ((hb.trans (hb5.mono (by omega))).mono (by omega))
        have HL := Lib.hid (owns_base hL5 (show B ≤ w4.heap.size by omega))
        obtain ⟨la, lc, rfl⟩ := owns_shape hL5
        clear hb5 hL5 HSE
        go_wp2_with fail
        refine bodyPost_ret (v := .tuple #[.slice la rs.length lc, .bool (decide ((0 : Int) < ri))]) (by simp [results, Tryd.results46, go_sem]) rfl ?_
        exact ⟨_, by rw [HOK.out], by rw [hB]; exact HL.out, by rw [hB]; exact hbf⟩
theorem both_BreakSet (xss : List (List Int)) : ∃ (rs : List Int) (ok : Bool), 1 + rs.length ≤ 1000000000 ∧
    (∀ (w : World) (g : Value), Tab w → RdSS g xss w → Calls Tryd.prog 46 #[.agg #[g]] w (SBRes w rs ok)) ∧
    (∀ (w : World) (g : Value), Tab w → RdSS g xss w → Calls Tryd.prog 47 #[.agg #[g]] w (SBRes w rs ok)) := by
  obtain ⟨rs, ok, hl, hP⟩ := breakP_has xss
  exact ⟨rs, ok, hl, fun w g _ hr => specBreakSet g xss w hr rs ok hP, fun w g ht hr => implBreakSet g xss w ht hr rs ok hP⟩
end Go.Proofs.YtcjbobponlpkaaaDoor
