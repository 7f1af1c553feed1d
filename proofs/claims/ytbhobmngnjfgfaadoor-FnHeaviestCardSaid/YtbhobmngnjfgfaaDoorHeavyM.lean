import Derived.Test.YtbhobmngnjfgfaaDoorGq13
import Derived.Test.YtbhobmngnjfgfaaDoorGq15
import Derived.Test.YtbhobmngnjfgfaaDoorSearchImplM
/-
  'HeaviestStable' of the program.
-/



namespace Go.Proofs.YtbhobmngnjfgfaaDoor
open Go.RowKit

/-- Heavier ones first, then smaller ones. -/
def keyH (ws : List Int) (n s : Nat) : Nat := (16000 - wt ws n s).toNat * 33 + size s
theorem wt_bound {ws : List Int} {n : Nat} (hw : ∀ x ∈ ws, 0 ≤ x ∧ x ≤ 1000) (hn : n ≤ 16) (s : Nat) : 0 ≤ wt ws n s ∧ wt ws n s ≤ 16000 := by
  have h := wsum_bound hw (rowB n s.testBit)
  have hl := rowB_length n s.testBit
  unfold wt
  omega
theorem ahead_keyH {ws : List Int} {n : Nat} (hw : ∀ x ∈ ws, 0 ≤ x ∧ x ≤ 1000) (hn : n ≤ 16) {k r : Nat} (hk : k < 4294967296) (hr : r < 4294967296) :
    Ahead (keyH ws n) k r ↔ wt ws n r < wt ws n k ∨ (wt ws n k = wt ws n r ∧ (size k < size r ∨ (size k = size r ∧ lexB k r = true))) := by
  unfold Ahead keyH
  rw [lexB_iff hk hr]
  have h1 := wt_bound hw hn k
  have h2 := wt_bound hw hn r
  have h3 := size_le k
  have h4 := size_le r
  generalize wt ws n k = a at *
  generalize wt ws n r = b at *
  generalize size k = c at *
  generalize size r = d at *
  constructor
  · rintro (h | ⟨h, hl⟩)
    · by_cases hab : b < a
      · exact .inl hab
      · exact .inr ⟨by omega, .inl (by omega)⟩
    · exact .inr ⟨by omega, .inr ⟨by omega, hl⟩⟩
  · rintro (h | ⟨h, h5 | ⟨h5, hl⟩⟩)
    · exact .inl (by omega)
    · exact .inl (by omega)
    · exact .inr ⟨by omega, hl⟩
def HeavyP (xss : List (List Int)) (ws : List Int) (rs : List Int) (num : Int) : Prop :=
  ((okB xss && goodW ws xss.length) = false ∧ rs = [] ∧ num = -1) ∨ ∃ e r, Adj xss.length e ∧ xss = rowsB xss.length e ∧ goodW ws xss.length = true ∧
    IsBest (keyH ws xss.length) (fun s => stF xss.length e s = true) (2 ^ xss.length) r ∧ rs = rowB xss.length r.testBit ∧ num = wt ws xss.length r
theorem wt_zero (ws : List Int) (n : Nat) : wt ws n 0 = 0 := by
  have : rowB n (Nat.testBit 0) = [] := by simp [rowB]
  unfold wt
  rw [this, wsum_nil]

set_option maxHeartbeats 8000000 in
theorem implHeaviestStable (g : Value) (xss : List (List Int)) (v1 : Value) (ws : List Int) (w : World) (ht : Tab w) (hr : RdSS g xss w) (hrw : RdS v1 ws w) (rs : List Int) (num : Int) (h : HeavyP xss ws rs num) :
    Calls Tryd.prog 49 #[.agg #[g], v1] w (SIRes w rs num) := by
  obtain ⟨a, c, rfl⟩ := hr.shape
  obtain ⟨a1, c1, rfl, -, -, -⟩ := id hrw
  have hl0 : xss.length ≤ maxLen := (let ⟨_, h⟩ := hr.ex; by have := h.outer.len; have := h.len; simp at *; omega)
  unfold maxLen at hl0
  obtain ⟨B, hB⟩ : ∃ B, w.heap.size = B := ⟨_, rfl⟩
  have hTB : 2 < B := by rw [← hB]; exact ht.lt
  have u1 : Below B w (w.alloc (.cells #[.slice a xss.length c] 56)) := by subst hB; exact below_alloc' _ _
  have VG0 : VC 56 B #[.slice a xss.length c] (w.alloc (.cells #[.slice a xss.length c] 56)) := VC.new hB
  have hz0 : (w.alloc (.cells #[.slice a xss.length c] 56)).heap.size = B + 1 := by simp [hB]
  have H := Lib.hid h
  have hcg := VG0.cell
  clear h
  go_enter Tryd.func49, Tryd.ntmps49
  go_wp2_with fail
  generalize w.alloc (.cells #[.slice a xss.length c] 56) = W at *
  refine (implOk _ xss W (hr.below u1 hB)).mono ?_
  rintro e1 w1 ⟨rfl, hb1⟩
  have VG1 := VG0.upd (Upd.of_below hb1) (by omega)
  have hb := u1.trans (hb1.mono (by omega))
  have hz1 : B + 1 ≤ w1.heap.size := by have := hb1.size; omega
  clear hb1 hcg u1
  have hcg := VG1.cell
  have hno : (okB xss && goodW ws xss.length) = false → rs = [] ∧ num = -1 := fun hn => by
    rcases H.out with ⟨_, h⟩ | ⟨e, r, hA, hx, hg, _⟩
    · exact h
    · have h1 : okB xss = true := by rw [hx]; exact okB_adj hA
      rw [h1, hg] at hn; cases hn
  cases hok : okB xss with
  | false =>
    obtain ⟨rfl, rfl⟩ := hno (by rw [hok]; rfl)
    clear hok hno
    go_wp2_with fail
    refine bodyPost_ret (v := .tuple #[.slice none 0 0, .int .i64 (-1)]) (by simp [results, Tryd.results49, go_sem]) rfl ?_
    exact ⟨_, rfl, World.ownsRow_nil _ _ _ 1, by rw [hB]; exact hb⟩
  | true =>
    have HGW := fun W (hW : Below B w W) => Lib.hid (goodWeights_any a xss.length c (.slice a1 ws.length c1) ws W (Row.below hrw (hB.symm ▸ hW)) (by
      have := (okB_iff xss).1 hok
      obtain ⟨e, hA, _⟩ := this
      have := hA.le
      omega))
    have HNO : Hid (goodW ws xss.length = false → rs = [] ∧ num = -1) := Lib.hid fun h => hno (by rw [h]; simp)
    have HOK := Lib.hid hok
    clear hok hno
    go_wp2_with fail
    refine (HGW w1 hb).out.mono ?_
    rintro e1 w0 ⟨rfl, hb0⟩
    have VG1' := VG1.belowAt hb0 (by omega)
    replace hb := hb.trans (hb0.mono (by omega))
    have hz1' : B + 1 ≤ w0.heap.size := by have := hb0.size; omega
    clear hb0 hcg VG1 HGW
    have hcg := VG1'.cell
    cases hgw : goodW ws xss.length with
    | false =>
      obtain ⟨rfl, rfl⟩ := HNO.out hgw
      clear hgw
      go_wp2_with fail
      refine bodyPost_ret (v := .tuple #[.slice none 0 0, .int .i64 (-1)]) (by simp [results, Tryd.results49, go_sem]) rfl ?_
      exact ⟨_, rfl, World.ownsRow_nil _ _ _ 1, by rw [hB]; exact hb⟩
    | true =>
      obtain ⟨e, r0, hA, hx, hbe, hrs, hnum⟩ : ∃ e r, Adj xss.length e ∧ xss = rowsB xss.length e ∧ IsBest (keyH ws xss.length) (fun s => stF xss.length e s = true) (2 ^ xss.length) r ∧ rs = rowB xss.length r.testBit ∧ num = wt ws xss.length r := by
        rcases H.out with ⟨h, _⟩ | ⟨e, r, h1, h2, _, h3⟩
        · rw [HOK.out, hgw] at h; cases h
        · exact ⟨e, r, h1, h2, h3⟩
      obtain ⟨hwl, hwb⟩ := goodW_iff hgw
      have hn16 := hA.le
      have HRS := Lib.hid (And.intro hrs hnum)
      have HBE := Lib.hid hbe
      have HWL := Lib.hid hwl
      have HWB := Lib.hid hwb
      have hr' := hr.below hb hB
      rw [hx, rowsB_length] at hr'
      have HN := Lib.hid (netsOf_any _ xss.length e hn16 w0 hr')
      clear hgw hx hrs hr' H hA hbe hwl hwb hnum HNO HOK
      obtain ⟨N, HNN⟩ : ∃ N, Hid (2 ^ xss.length = N) := ⟨_, Lib.hid rfl⟩
      have hN1 : 1 ≤ N := by rw [← HNN.out]; exact Nat.one_le_two_pow
      have hN2 : N ≤ 65536 := by rw [← HNN.out]; exact Nat.pow_le_pow_right (n := 2) (j := 16) (by decide) hn16
      obtain ⟨fi, HFI⟩ : ∃ z : Int, Hid (z = (maskB xss.length (fun _ => true) : Nat)) := ⟨_, Lib.hid rfl⟩
      have HFN : Hid (fi = (N : Int) - 1) := Lib.hid (by rw [HFI.out, ← full_maskB, HNN.out]; omega)
      have HM0 : Hid ((0 : Int) = wt ws xss.length 0) := Lib.hid (wt_zero ws xss.length).symm
      have HR0 : Hid (Run (keyH ws xss.length) (fun s => stF xss.length e s = true) 0 0 0) := Lib.hid (Run.start _ _ _)
      go_wp2_with fail
      refine HN.out.mono ?_
      rintro e1 w2 ⟨u2, rfl, hN2', hb2⟩
      obtain ⟨na, nc, rfl⟩ := owns_shape hN2'
      have hNr := Row.of_owns hN2'
      have hb02 := hb.trans (hb2.mono (by omega))
      have hz2 : w0.heap.size ≤ w2.heap.size := hb2.size
      have hrw2 := Row.below hrw (hB.symm ▸ hb02)
      clear hN2' HN hb2 hcg
      obtain ⟨C, hC⟩ : ∃ C, w2.heap.size = C := ⟨_, rfl⟩
      have hcl : Below C w2 w2 := Below.refl _ _
      go_wp2_with fail
      go_loopw [7, 8, 9] (fun b m i wr => ∃ (k r : Nat) (M : Int), k ≤ N ∧ r < N ∧ i = .int .u32 k ∧ b = .int .u32 r ∧ m = .int .i64 M ∧ 0 ≤ M ∧ M ≤ 16000 ∧ Hid (M = wt ws xss.length r) ∧ Hid (Run (keyH ws xss.length) (fun s => stF xss.length e s = true) 0 k r) ∧ Below C w2 wr) (fun _ _ i _ => 65537 - (intOf i).toNat)
      case atStart => exact ⟨0, 0, 0, Nat.zero_le _, by omega, rfl, rfl, rfl, by omega, by omega, HM0, HR0, hcl⟩
      case round =>
        clear hcl
        obtain ⟨k, r, M, hk, hrN, rfl, rfl, rfl, hM0, hM1, HM, HR, hb'⟩ := hrel
        have hsz := hb'.size
        have hbw := hb02.trans (hb'.mono (by omega))
        have HAL := Lib.hid (all_netsAt (.slice na xss.length nc) xss.length hn16 fi HFI.out ⟨na, nc, rfl⟩ wr)
        go_wp2_with fail
        refine HAL.out.mono ?_
        rintro e1 w' ⟨rfl, rfl⟩
        clear HAL
        by_cases hlt : k < N
        · have hle : (k : Int) ≤ fi := by have := HFN.out; omega
          have hkn : k < 2 ^ xss.length := by rw [HNN.out]; exact hlt
          have hrn : r < 2 ^ xss.length := by rw [HNN.out]; exact hrN
          obtain ⟨ki, HKI⟩ : ∃ z : Int, Hid (z = (k : Int)) := ⟨_, Lib.hid rfl⟩
          have HIS := Lib.hid (isStable_any (.slice na xss.length nc) xss.length e hn16 k.testBit ki (by rw [HKI.out, mask_self hkn]) wr (ht.keep hbw hTB) (hNr.below (hC.symm ▸ hb')))
          have hki : (k : Int) = ki := HKI.out.symm
          rw [hki] at hle ⊢
          clear hki
          obtain ⟨st, HST⟩ : ∃ b, Hid (stF xss.length e k = b) := ⟨_, Lib.hid rfl⟩
          have HIS' : Hid (Calls Tryd.prog 122 #[.slice na xss.length nc, .int .u32 ki] wr fun r w' => r = .returned (.bool st) ∧ Below wr.heap.size wr w') := Lib.hid (by rw [← HST.out]; exact HIS.out)
          have hki0 : 0 ≤ ki := by rw [HKI.out]; omega
          have hki1 : ki < 65536 := by rw [HKI.out]; omega
          have HKN := Lib.hid hkn
          have HRN := Lib.hid hrn
          clear HIS hkn hrn
          go_wp2_with fail
          refine HIS'.out.mono ?_
          rintro e1 w3 ⟨rfl, hb3⟩
          have hb3' := hb'.trans (hb3.mono (by omega))
          have hsz3 := hb3'.size
          have hbw3 := hb02.trans (hb3'.mono (by omega))
          clear hb3 HIS' hb' hbw
          cases st with
          | false =>
            go_wp2_with fail
            go_roundw
            case rel => exact ⟨k + 1, r, M, by omega, hrN, by rw [HKI.out]; go_num, rfl, rfl, hM0, hM1, HM, Lib.hid (HR.out.no fun h => by have := h.1; rw [HST.out] at this; cases this), hb3'⟩
            case measure => rw [HKI.out]; simp [intOf]; omega
          | true =>
            have HLI := Lib.hid (listB_any (n := xss.length) (by omega) k.testBit ki (by rw [HKI.out, mask_self HKN.out]) w3 (ht.keep hbw3 hTB))
            go_wp2_with fail
            refine HLI.out.mono ?_
            rintro e1 w4 ⟨u4, rfl, hL4, hb4⟩
            obtain ⟨la, lc, rfl⟩ := owns_shape hL4
            have hRL := Row.of_owns hL4
            have hyl := rowB_length xss.length k.testBit
            have hb4' := hb3'.trans (hb4.mono (by omega))
            have hsz4 := hb4'.size
            have hbw4 := hb02.trans (hb4'.mono (by omega))
            have hrw4 := Row.below hrw (hB.symm ▸ hbw4)
            clear hL4 HLI hb4 hb3' hbw3
            have HW0 : Hid ((0 : Int) = wsum ws ((rowB xss.length k.testBit).take 0)) := Lib.hid (by simp [wsum])
            go_wp2_with fail
            go_loopw [10, 37] (fun s i wr' => ∃ (j : Nat) (S : Int), j ≤ (rowB xss.length k.testBit).length ∧ i = .int .i64 j ∧ s = .int .i64 S ∧ 0 ≤ S ∧ S ≤ 1000 * j ∧ Hid (S = wsum ws ((rowB xss.length k.testBit).take j)) ∧ wr' = w4) (fun _ i _ => (rowB xss.length k.testBit).length - (intOf i).toNat)
            case atStart => exact ⟨0, 0, Nat.zero_le _, rfl, rfl, by omega, by omega, HW0, rfl⟩
            case round =>
              obtain ⟨j, S, hj, rfl, rfl, hS0, hS1, HS, rfl⟩ := hrel
              by_cases hlj : j < (rowB xss.length k.testBit).length
              · obtain ⟨yb, yo, y, rfl, hcy, HY⟩ := Row.intAt hRL hlj
                obtain ⟨q, hq, hpq, rfl⟩ := row_at HY.out
                obtain ⟨xb, xo, x, rfl, hcx, HX⟩ := Row.intAt hrw4 (j := q) (by rw [HWL.out]; exact hq)
                have hx := HWB.out x (List.mem_of_getElem? HX.out)
                have HS2 : Hid (S + x = wsum ws ((rowB xss.length k.testBit).take (j + 1))) := Lib.hid (by
                  rw [take_snoc HY.out, wsum_snoc, ← HS.out, List.getD_eq_getElem?_getD]
                  simp [HX.out])
                have hqw : q < ws.length := by rw [HWL.out]; exact hq
                go_wp2_with fail
                go_roundw
                case rel => exact ⟨j + 1, S + x, by omega, by go_num, by go_num, by omega, by omega, HS2, by first | rfl | trivial⟩
                case measure => simp [intOf]; omega
              · obtain rfl : j = (rowB xss.length k.testBit).length := by omega
                have HSW : Hid (S = wt ws xss.length k) := Lib.hid (by rw [HS.out, List.take_length]; rfl)
                have HAH := Lib.hid (ahead_keyH HWB.out hn16 (k := k) (r := r) (by omega) (by omega))
                rw [← HSW.out, ← HM.out] at HAH
                have hSB : S ≤ 16000 := by have := (wt_bound HWB.out hn16 k).2; rw [← HSW.out] at this; exact this
                by_cases h1 : M < S
                · have HAK : Hid (Ahead (keyH ws xss.length) k r) := Lib.hid (HAH.out.2 (.inl h1))
                  go_wp2_with fail
                  go_roundw
                  case rel => exact ⟨k + 1, k, S, by omega, hlt, by rw [HKI.out]; go_num, by rw [HKI.out], rfl, hS0, hSB, HSW, Lib.hid (HR.out.yes HST.out HAK.out), hb4'⟩
                  case measure => rw [HKI.out]; simp [intOf]; omega
                · by_cases h2 : S = M
                  · subst h2
                    have HBY := Lib.hid (bySize_any xss.length k r hn16 HKN.out HRN.out ki (r : Int) HKI.out rfl wr (ht.keep hbw4 hTB))
                    go_wp2_with fail
                    refine HBY.out.mono ?_
                    rintro e1 w5 ⟨d, rfl, HD, hb5⟩
                    have hb5' := hb4'.trans (hb5.mono (by omega))
                    clear hb5 HBY
                    by_cases hd : d < 0
                    · have HAK : Hid (Ahead (keyH ws xss.length) k r) := Lib.hid (HAH.out.2 (.inr ⟨by first | rfl | trivial, HD.out.1 hd⟩))
                      go_wp2_with fail
                      go_roundw
                      case rel => exact ⟨k + 1, k, S, by omega, hlt, by rw [HKI.out]; go_num, by rw [HKI.out], rfl, hS0, hSB, HSW, Lib.hid (HR.out.yes HST.out HAK.out), hb5'⟩
                      case measure => rw [HKI.out]; simp [intOf]; omega
                    · have HNA : Hid (¬ Ahead (keyH ws xss.length) k r) := Lib.hid fun h => by
                        rcases HAH.out.1 h with h | h
                        · omega
                        · exact hd (HD.out.2 h.2)
                      go_wp2_with fail
                      go_roundw
                      case rel => exact ⟨k + 1, r, S, by omega, hrN, by rw [HKI.out]; go_num, rfl, rfl, hM0, hM1, HM, Lib.hid (HR.out.no fun h => HNA.out h.2), hb5'⟩
                      case measure => rw [HKI.out]; simp [intOf]; omega
                  · have hd2 : (S == M) = false := by rw [beq_eq_false_iff_ne]; exact h2
                    have HNA : Hid (¬ Ahead (keyH ws xss.length) k r) := Lib.hid fun h => by
                      rcases HAH.out.1 h with h | h
                      · omega
                      · exact h2 h.1
                    go_wp2_with fail
                    go_roundw
                    case rel => exact ⟨k + 1, r, M, by omega, hrN, by rw [HKI.out]; go_num, rfl, rfl, hM0, hM1, HM, Lib.hid (HR.out.no fun h => HNA.out h.2), hb4'⟩
                    case measure => rw [HKI.out]; simp [intOf]; omega
        · obtain rfl : k = N := by omega
          have hle : ¬ (k : Int) ≤ fi := by have := HFN.out; omega
          have hr0 : r = r0 := by
            have h1 := HR.out.best (by omega) (stB_iff.2 fun v _ h => by simp at h)
            exact h1.unique (by omega) (by rw [← HNN.out]; exact HBE.out)
          subst hr0
          obtain ⟨ri, HRI⟩ : ∃ z : Int, Hid ((r : Int) = z) := ⟨_, Lib.hid rfl⟩
          have HNU := Lib.hid (numbersB_any (n := xss.length) (by omega) r.testBit ri (by rw [← HRI.out, mask_self HBE.out.lt]) wr (ht.keep hbw hTB))
          rw [← HRS.out.1] at HNU
          have HNM : Hid (num = M) := Lib.hid (by rw [HRS.out.2, HM.out])
          rw [HRI.out]
          go_wp2_with fail
          refine HNU.out.mono ?_
          rintro e1 w5 ⟨u5, rfl, hL5, hb5⟩
          have hbf := hbw.trans (hb5.mono (by omega))
          have HL := Lib.hid (owns_base hL5 (show B ≤ wr.heap.size by omega))
          obtain ⟨la, lc, rfl⟩ := owns_shape hL5
          clear hb5 hL5 HNU
          go_wp2_with fail
          refine bodyPost_ret (v := .tuple #[.slice la rs.length lc, .int .i64 M]) (by simp [results, Tryd.results49, go_sem]) rfl ?_
          exact ⟨_, by rw [HNM.out], by rw [hB]; exact HL.out, by rw [hB]; exact hbf⟩
end Go.Proofs.YtbhobmngnjfgfaaDoor
