/-
  The reference's searches over all sets: 'LeastRule', 'LeastCover', 'BestStable', 'BestClique'; both.
-/
import Derived.Test.YtcjbobponlpkaaaDoorWide2
import Derived.Test.YtcjbobponlpkaaaDoorSearchImpl
namespace Go.Proofs.YtcjbobponlpkaaaDoor
open Go.RowKit

theorem ahead_size {k r : Nat} (hk : k < 4294967296) (hr : r < 4294967296) : Ahead size k r ↔ size k < size r ∨ (size k = size r ∧ lexB k r = true) := by
  unfold Ahead
  rw [lexB_iff hk hr]
theorem ahead_keyM {k r : Nat} (hk : k < 4294967296) (hr : r < 4294967296) : Ahead keyM k r ↔ size r < size k ∨ (size k = size r ∧ lexB k r = true) := by
  unfold Ahead keyM
  rw [lexB_iff hk hr]
  have := size_le k
  have := size_le r
  constructor
  · rintro (h | ⟨h, h2⟩)
    · exact .inl (by omega)
    · exact .inr ⟨by omega, h2⟩
  · rintro (h | ⟨h, h2⟩)
    · exact .inl (by omega)
    · exact .inr ⟨by omega, h2⟩
theorem exists_best (key : Nat → Nat) (fit : Nat → Bool) {n i0 : Nat} (h0 : i0 < 2 ^ n) (hf : fit i0 = true) : ∃ r, IsBest key (fun s => fit s = true) (2 ^ n) r := by
  obtain ⟨r, hr⟩ := exists_run key (fun s => fit s = true) i0 (2 ^ n)
  exact ⟨r, hr.best h0 hf⟩
theorem bits_all {n b : Nat} (hb : b < n) : (2 ^ n - 1).testBit b = true := by rw [Nat.testBit_two_pow_sub_one]; simpa using hb
theorem rule_all (n : Nat) (e : Nat → Nat → Bool) : ruleF n e (2 ^ n - 1) = true := by
  unfold ruleF ruleB
  rw [decide_eq_true_eq]
  refine maskB_ext fun b hb => ?_
  unfold domB allB
  rw [bits_all hb]
  simp [hb]
theorem cov_all (n : Nat) (e : Nat → Nat → Bool) : covF n e (2 ^ n - 1) = true := by
  unfold covF covB
  refine stB_iff.2 fun v hv h => ?_
  rw [bits_all hv] at h
  simp at h
theorem st_none (n : Nat) (e : Nat → Nat → Bool) : stF n e 0 = true := stB_iff.2 fun v _ h => by simp at h
theorem cl_none (n : Nat) (e : Nat → Nat → Bool) : clF n e 0 = true := stB_iff.2 fun v _ h => by simp at h
theorem searchP_has (key : Nat → Nat) (fit : Nat → (Nat → Nat → Bool) → Nat → Bool) (i0 : Nat → Nat) (h0 : ∀ n, i0 n < 2 ^ n) (hf : ∀ n e, fit n e (i0 n) = true) (xss : List (List Int)) : ∃ rs : List Int, 1 + rs.length ≤ 1000000000 ∧ SearchP key fit xss rs := by
  cases hok : okB xss with
  | false => exact ⟨[], by simp, .inl ⟨hok, rfl⟩⟩
  | true =>
    obtain ⟨e, hA, hx⟩ := (okB_iff xss).1 hok
    obtain ⟨r, hr⟩ := exists_best key (fit xss.length e) (h0 xss.length) (hf xss.length e)
    have hn := hA.le
    have hl := rowB_length xss.length r.testBit
    exact ⟨_, by omega, .inr ⟨e, r, hA, hx, hr, rfl⟩⟩

theorem less_over (a b : Nat) (ha : a < 4294967296) (hb : b < 4294967296) (A X : Int) (hA : A = a) (hX : X = b) (q : Bool) (hq : lexB a b = q) {w : World} (x : More) :
    Calls Tryd.prog 89 #[.int .i64 A, .int .i64 X] (over w x) fun e w' => e = .returned (.bool q) ∧ Below (over w x).heap.size (over w x) w' := by
  refine (less_any a b ha hb A X hA hX _).mono ?_
  rintro e w' ⟨rfl, rfl⟩
  exact ⟨ret_bool hq, Below.refl _ _⟩
theorem near_over (v2 : Value) (n : Nat) (e : Nat → Nat → Bool) (hn : n ≤ 16) (m : Nat) (hm : m < 2 ^ n) (M : Int) (hM : M = m) (d : Int) (hd : d = (maskB n (domB n e m.testBit) : Nat)) {w : World} (hr : RdS v2 (natL (NB n e)) w) (x : More) :
    Calls Tryd.prog 90 #[v2, .int .i64 M] (over w x) fun r w' => r = .returned (.int .i64 d) ∧ Below (over w x).heap.size (over w x) w' := by
  subst hd
  refine (near25_any v2 n e hn m hm M hM _ (Row.below hr (below_over w x))).mono ?_
  rintro e w' ⟨rfl, rfl⟩
  exact ⟨rfl, Below.refl _ _⟩
theorem all_over (a : Option Addr) (n c : Nat) (hn : n ≤ 16) (d : Int) (hd : d = ((2 ^ n - 1 : Nat) : Int)) {w : World} (x : More) :
    Calls Tryd.prog 87 #[.agg #[.slice a n c]] (over w x) fun e w' => e = .returned (.int .i64 d) ∧ Below (over w x).heap.size (over w x) w' := by
  subst hd
  exact all25_any a n c hn _

set_option maxHeartbeats 8000000 in
theorem specLeastCover (g : Value) (xss : List (List Int)) (w : World) (hr : RdSS g xss w) (rs : List Int) (h : SearchP size covF xss rs) :
    Calls Tryd.prog 40 #[.agg #[g]] w (SRes w rs) := by
  obtain ⟨a, c, rfl⟩ := hr.shape
  obtain ⟨B, hB⟩ : ∃ B, w.heap.size = B := ⟨_, rfl⟩
  have u1 : Below B w (w.alloc (.cells #[.slice a xss.length c] 28)) := by subst hB; exact below_alloc' _ _
  have VG0 : VC 28 B #[.slice a xss.length c] (w.alloc (.cells #[.slice a xss.length c] 28)) := VC.new hB
  have hz0 : (w.alloc (.cells #[.slice a xss.length c] 28)).heap.size = B + 1 := by simp [hB]
  have H := Lib.hid h
  have hcg := VG0.cell
  clear h
  go_enter Tryd.func40, Tryd.ntmps40
  go_wp2_with fail
  generalize w.alloc (.cells #[.slice a xss.length c] 28) = W at *
  refine (specOk _ xss W (hr.below u1 hB)).mono ?_
  rintro e1 w1 ⟨rfl, hb1⟩
  have VG1 := VG0.upd (Upd.of_below hb1) (by omega)
  have hb := u1.trans (hb1.mono (by omega))
  have hz1 : B + 1 ≤ w1.heap.size := by have := hb1.size; omega
  clear hb1 hcg u1
  have hcg := VG1.cell
  cases hok : okB xss with
  | false =>
    obtain rfl : rs = [] := by
      rcases H.out with ⟨_, h⟩ | ⟨e, _, hA, hx, _⟩
      · exact h
      · rw [hx, okB_adj hA] at hok; cases hok
    have ho0 := World.ownsRow_lit (base := B) (e := 2) (size := 1) w1 #[] 0 (by omega) (by simp [maxLen]) rfl
    clear hok
    go_wp2_with fail
    go_ret
    exact ⟨_, rfl, by rw [hB]; simpa [ints] using ho0, by rw [hB]; exact hb.alloc (by omega) _⟩
  | true =>
    obtain ⟨e, r0, hA, hx, hbe, hrs⟩ : ∃ e r, Adj xss.length e ∧ xss = rowsB xss.length e ∧ IsBest size (fun s => covF xss.length e s = true) (2 ^ xss.length) r ∧ rs = rowB xss.length r.testBit := by
      rcases H.out with ⟨h, _⟩ | h
      · rw [hok] at h; cases h
      · exact h
    have hn16 := hA.le
    have HRS := Lib.hid hrs
    have HBE := Lib.hid hbe
    have hr' := hr.below hb hB
    rw [hx] at hr'
    have HBI := Lib.hid (bits25_any _ xss.length e hn16 w1 (by rw [rowsB_length] at hr'; exact hr'))
    obtain ⟨N, HN⟩ : ∃ N, Hid (2 ^ xss.length = N) := ⟨_, Lib.hid rfl⟩
    have hN1 : 1 ≤ N := by rw [← HN.out]; exact Nat.one_le_two_pow
    have hN2 : N ≤ 65536 := by rw [← HN.out]; exact Nat.pow_le_pow_right (n := 2) (j := 16) (by decide) hn16
    have HAL : Hid (∀ W, Calls Tryd.prog 87 #[.agg #[.slice a xss.length c]] W fun e w' => e = .returned (.int .i64 ((N - 1 : Nat) : Int)) ∧ Below W.heap.size W w') := Lib.hid fun W => by rw [← HN.out]; exact all25_any a xss.length c hn16 W
    have HLN := Lib.hid (show (natL (NB xss.length e)).length = xss.length by rw [natL_length]; simp)
    clear hok hx hrs hr' H hA hbe
    go_wp2_with fail
    refine HBI.out.mono ?_
    rintro e1 w2 ⟨u2, rfl, hL2, hb2⟩
    obtain ⟨na, nc, rfl⟩ := owns_shape hL2
    have hNr := Row.of_owns hL2
    have hb02 := hb.trans (hb2.mono (by omega))
    have VG2 := VG1.belowAt hb2 (by omega)
    have hz2 : w1.heap.size ≤ w2.heap.size := hb2.size
    clear hL2 HBI hb2 hcg hb
    have hcg := VG2.cell
    go_wp2_with fail
    refine (HAL.out _).mono ?_
    rintro e1 w3 ⟨rfl, hb3⟩
    have hb03 := hb02.trans (hb3.mono (by omega))
    have hz3 : w1.heap.size ≤ w3.heap.size := by have := hb3.size; omega
    have VG3 := VG2.belowAt hb3 (by omega)
    have hNr3 := hNr.below hb3
    obtain ⟨C, hC⟩ : ∃ C, w3.heap.size = C := ⟨_, rfl⟩
    have hcl : Below C w3 w3 := Below.refl _ _
    have HR0 : Hid (Run size (fun s => covF xss.length e s = true) (N - 1) 0 (N - 1)) := Lib.hid (Run.start _ _ _)
    clear hcg hb3 hNr hb02 VG2
    go_wp2_with fail
    go_loopw [4, 5] (fun b i wr => ∃ k r : Nat, k ≤ N ∧ r < N ∧ i = .int .i64 k ∧ b = .int .i64 r ∧ Hid (Run size (fun s => covF xss.length e s = true) (N - 1) k r) ∧ Below C w3 wr) (fun _ i _ => 65537 - (intOf i).toNat)
    case atStart => exact ⟨0, N - 1, Nat.zero_le _, by omega, rfl, rfl, HR0, hcl⟩
    case round =>
      clear hcl
      obtain ⟨k, r, hk, hrN, rfl, rfl, HR, hb⟩ := hrel
      have hsz := hb.size
      have VGr := VG3.belowAt hb (by omega)
      have hcg := VGr.cell
      go_wp2_with fail
      refine (HAL.out _).mono ?_
      rintro e1 w4 ⟨rfl, hb4⟩
      replace hb := hb.trans (hb4.mono (by omega))
      have hsz4 := hb.size
      have VG4 := VGr.belowAt hb4 (by omega)
      clear hb4 hcg
      have hcg := VG4.cell
      by_cases hlt : k < N
      · have hle : (k : Int) ≤ ((N - 1 : Nat) : Int) := by omega
        have HMK := fun W => Lib.hid (many_any k (by omega) (k : Int) rfl W)
        have HMR := fun W => Lib.hid (many_any r (by omega) (r : Int) rfl W)
        have hAH := ahead_size (k := k) (r := r) (by omega) (by omega)
        have hLE := less_any k r (by omega) (by omega) (k : Int) (r : Int) rfl rfl
        obtain ⟨sk, hsk⟩ : ∃ s, size k = s := ⟨_, rfl⟩
        obtain ⟨sr, hsr⟩ : ∃ s, size r = s := ⟨_, rfl⟩
        obtain ⟨lx, HLX⟩ : ∃ b, Hid (lexB k r = b) := ⟨_, Lib.hid rfl⟩
        have hk32 : sk ≤ 32 := by rw [← hsk]; exact size_le k
        have hr32 : sr ≤ 32 := by rw [← hsr]; exact size_le r
        rw [hsk] at HMK hAH
        rw [hsr] at HMR hAH
        rw [HLX.out] at hAH hLE
        have HAH := Lib.hid hAH
        have HLE := Lib.hid hLE
        have hkn : k < 2 ^ xss.length := by rw [HN.out]; exact hlt
        have HKN := Lib.hid hkn
        clear hsk hsr hAH hLE hkn
        go_wp2_with fail
        refine (HMK _).out.mono ?_
        rintro e1 w' ⟨rfl, rfl⟩
        go_wp2_with fail
        refine (HMR _).out.mono ?_
        rintro e1 w' ⟨rfl, rfl⟩
        clear HMK HMR
        by_cases h1 : sr < sk
        · have hd1 : (sr : Int) < sk := by omega
          have HNA : Hid (¬ Ahead size k r) := Lib.hid fun h => by rcases HAH.out.1 h with h | h <;> omega
          go_wp2_with fail
          go_roundw
          case rel => exact ⟨k + 1, r, by omega, hrN, by go_num, rfl, Lib.hid (HR.out.no fun h => HNA.out h.2), hb⟩
          case measure => simp [intOf]; omega
        have hd1 : ¬ (sr : Int) < sk := by omega
        have hgo : ∀ (hAK : Hid (Ahead size k r)), Hid (True) := fun _ => Lib.hid trivial
        by_cases h2 : sk = sr
        · have hd2 : ((sk : Int) == sr) = true := by rw [beq_iff_eq]; omega
          cases lx with
          | false =>
            have HNA : Hid (¬ Ahead size k r) := Lib.hid fun h => by
              rcases HAH.out.1 h with h | h
              · omega
              · cases h.2
            go_wp2_with fail
            refine (HLE.out _).mono ?_
            rintro e1 w' ⟨rfl, rfl⟩
            go_wp2_with fail
            go_roundw
            case rel => exact ⟨k + 1, r, by omega, hrN, by go_num, rfl, Lib.hid (HR.out.no fun h => HNA.out h.2), hb⟩
            case measure => simp [intOf]; omega
          | true =>
            have HAK : Hid (Ahead size k r) := Lib.hid (HAH.out.2 (.inr ⟨h2, rfl⟩))
            go_wp2_with fail
            refine (HLE.out _).mono ?_
            rintro e1 w' ⟨rfl, rfl⟩
            obtain ⟨y, HY⟩ : ∃ y : Nat, Hid (y = maskB xss.length (fun b => allB xss.length b && !k.testBit b)) := ⟨_, Lib.hid rfl⟩
            obtain ⟨ki, HKI⟩ : ∃ z : Int, Hid ((k : Int) = z) := ⟨_, Lib.hid rfl⟩
            obtain ⟨ni, HNI⟩ : ∃ z : Int, Hid (((N - 1 : Nat) : Int) = z) := ⟨_, Lib.hid rfl⟩
            have hba : bits BinOp.andNot IntKind.i64 ni ki = (y : Int) := by
              rw [← HNI.out, ← HKI.out, HY.out, ← HN.out, full_maskB, mask_allB, ← bits_andNot_mask hn16, mask_self HKN.out]
            have hyl : y < 2 ^ xss.length := by rw [HY.out]; exact lt_of_bits fun i hi => by rw [testBit_maskB]; simp; omega
            have HST := fun W hw => Lib.hid (stable25_any (.slice na (natL (NB xss.length e)).length nc) xss.length e hn16 y hyl (y : Int) rfl W hw)
            have hfe : stB xss.length e y.testBit = covF xss.length e k := stB_ext (fun _ _ _ _ => rfl) fun b hb => by rw [HY.out, testBit_maskB]; simp [hb]
            rw [hfe] at HST
            obtain ⟨fb, HFB⟩ : ∃ b, Hid (covF xss.length e k = b) := ⟨_, Lib.hid rfl⟩
            rw [HFB.out] at HST
            have HALI : Hid (∀ W, Calls Tryd.prog 87 #[.agg #[.slice a xss.length c]] W fun e w' => e = .returned (.int .i64 ni) ∧ Below W.heap.size W w') := Lib.hid fun W => by rw [← HNI.out]; exact HAL.out W
            have hki0 : 0 ≤ ki := by rw [← HKI.out]; omega
            have hki1 : ki ≤ 65536 := by rw [← HKI.out]; omega
            rw [HKI.out] at hle ⊢
            clear hyl hfe
            go_wp2_with fail
            refine (HALI.out _).mono ?_
            rintro e1 w5 ⟨rfl, hb5⟩
            replace hb := hb.trans (hb5.mono (by omega))
            have hsz5 := hb.size
            have HS5 := HST w5 (Row.below hNr3 (hC.symm ▸ hb))
            have HKI2 : Hid (ki = (k : Int)) := Lib.hid HKI.out.symm
            clear hb5 hcg HST
            go_wp2_with fail
            refine HS5.out.mono ?_
            rintro e1 w' ⟨rfl, rfl⟩
            cases fb with
            | false =>
              go_wp2_with fail
              go_roundw
              case rel => exact ⟨k + 1, r, by omega, hrN, by rw [HKI2.out]; go_num, rfl, Lib.hid (HR.out.no fun h => by have := h.1; simp only [HFB.out] at this; cases this), hb⟩
              case measure => rw [HKI2.out]; simp [intOf]; omega
            | true =>
              go_wp2_with fail
              go_roundw
              case rel => exact ⟨k + 1, k, by omega, hlt, by rw [HKI2.out]; go_num, by rw [HKI2.out], Lib.hid (HR.out.yes HFB.out HAK.out), hb⟩
              case measure => rw [HKI2.out]; simp [intOf]; omega
        · have hd2 : ((sk : Int) == sr) = false := by rw [beq_eq_false_iff_ne]; omega
          have HAK : Hid (Ahead size k r) := Lib.hid (HAH.out.2 (.inl (by omega)))
          obtain ⟨y, HY⟩ : ∃ y : Nat, Hid (y = maskB xss.length (fun b => allB xss.length b && !k.testBit b)) := ⟨_, Lib.hid rfl⟩
          obtain ⟨ki, HKI⟩ : ∃ z : Int, Hid ((k : Int) = z) := ⟨_, Lib.hid rfl⟩
          obtain ⟨ni, HNI⟩ : ∃ z : Int, Hid (((N - 1 : Nat) : Int) = z) := ⟨_, Lib.hid rfl⟩
          have hba : bits BinOp.andNot IntKind.i64 ni ki = (y : Int) := by
            rw [← HNI.out, ← HKI.out, HY.out, ← HN.out, full_maskB, mask_allB, ← bits_andNot_mask hn16, mask_self HKN.out]
          have hyl : y < 2 ^ xss.length := by rw [HY.out]; exact lt_of_bits fun i hi => by rw [testBit_maskB]; simp; omega
          have HST := fun W hw => Lib.hid (stable25_any (.slice na (natL (NB xss.length e)).length nc) xss.length e hn16 y hyl (y : Int) rfl W hw)
          have hfe : stB xss.length e y.testBit = covF xss.length e k := stB_ext (fun _ _ _ _ => rfl) fun b hb => by rw [HY.out, testBit_maskB]; simp [hb]
          rw [hfe] at HST
          obtain ⟨fb, HFB⟩ : ∃ b, Hid (covF xss.length e k = b) := ⟨_, Lib.hid rfl⟩
          rw [HFB.out] at HST
          have HALI : Hid (∀ W, Calls Tryd.prog 87 #[.agg #[.slice a xss.length c]] W fun e w' => e = .returned (.int .i64 ni) ∧ Below W.heap.size W w') := Lib.hid fun W => by rw [← HNI.out]; exact HAL.out W
          have hki0 : 0 ≤ ki := by rw [← HKI.out]; omega
          have hki1 : ki ≤ 65536 := by rw [← HKI.out]; omega
          rw [HKI.out] at hle ⊢
          clear hyl hfe
          go_wp2_with fail
          refine (HALI.out _).mono ?_
          rintro e1 w5 ⟨rfl, hb5⟩
          replace hb := hb.trans (hb5.mono (by omega))
          have hsz5 := hb.size
          have HS5 := HST w5 (Row.below hNr3 (hC.symm ▸ hb))
          have HKI2 : Hid (ki = (k : Int)) := Lib.hid HKI.out.symm
          clear hb5 hcg HST
          go_wp2_with fail
          refine HS5.out.mono ?_
          rintro e1 w' ⟨rfl, rfl⟩
          cases fb with
          | false =>
            go_wp2_with fail
            go_roundw
            case rel => exact ⟨k + 1, r, by omega, hrN, by rw [HKI2.out]; go_num, rfl, Lib.hid (HR.out.no fun h => by have := h.1; simp only [HFB.out] at this; cases this), hb⟩
            case measure => rw [HKI2.out]; simp [intOf]; omega
          | true =>
            go_wp2_with fail
            go_roundw
            case rel => exact ⟨k + 1, k, by omega, hlt, by rw [HKI2.out]; go_num, by rw [HKI2.out], Lib.hid (HR.out.yes HFB.out HAK.out), hb⟩
            case measure => rw [HKI2.out]; simp [intOf]; omega
      · obtain rfl : k = N := by omega
        have hle : ¬ (k : Int) ≤ ((k - 1 : Nat) : Int) := by omega
        have hr0 : r = r0 := by
          have h1 := HR.out.best (by omega) (by rw [← HN.out]; exact cov_all _ _)
          exact h1.unique (by omega) (by rw [← HN.out]; exact HBE.out)
        subst hr0
        obtain ⟨ri, HRI⟩ : ∃ z : Int, Hid ((r : Int) = z) := ⟨_, Lib.hid rfl⟩
        have HSE := Lib.hid (set25_any xss.length (by omega) r.testBit ri (by rw [← HRI.out, mask_self HBE.out.lt]) w4)
        rw [← HRS.out] at HSE
        rw [HRI.out]
        go_wp2_with fail
        refine HSE.out.mono ?_
        rintro e1 w5 ⟨u5, rfl, hL5, hb5⟩
        have hbf := hb03.trans ((hb.trans (hb5.mono (by omega))).mono (by omega))
        have HL := Lib.hid (owns_base hL5 (show B ≤ w4.heap.size by omega))
        obtain ⟨la, lc, rfl⟩ := owns_shape hL5
        clear hb5 hL5 HSE
        go_wp2_with fail
        go_ret
        exact ⟨_, rfl, by rw [hB]; exact HL.out, by rw [hB]; exact hbf⟩
theorem both_LeastCover (xss : List (List Int)) : ∃ rs : List Int, 1 + rs.length ≤ 1000000000 ∧
    (∀ (w : World) (g : Value), Tab w → RdSS g xss w → Calls Tryd.prog 40 #[.agg #[g]] w (SRes w rs)) ∧
    (∀ (w : World) (g : Value), Tab w → RdSS g xss w → Calls Tryd.prog 41 #[.agg #[g]] w (SRes w rs)) := by
  obtain ⟨rs, hl, hP⟩ := searchP_has size covF (fun n => 2 ^ n - 1) (fun n => by have := Nat.one_le_two_pow (n := n); omega) cov_all xss
  exact ⟨rs, hl, fun w g _ hr => specLeastCover g xss w hr rs hP, fun w g ht hr => implLeastCover g xss w ht hr rs hP⟩
end Go.Proofs.YtcjbobponlpkaaaDoor
