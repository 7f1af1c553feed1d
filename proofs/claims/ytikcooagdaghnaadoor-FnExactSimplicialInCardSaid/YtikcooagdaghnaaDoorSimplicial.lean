/-
  'SimplicialIn' of the program.
-/
import Derived.Test.YtikcooagdaghnaaDoorLackLaw
namespace Go.Proofs.YtikcooagdaghnaaDoor
open Go.RowKit

set_option maxHeartbeats 2000000 in
theorem implSimplicial (g : Value) (xss : List (List Int)) (w : World) (ht : Tab w) (hr : RdSS g xss w) (rs : List Int)
    (h : (okB xss = false ∧ rs = []) ∨ ∃ e, Adj xss.length e ∧ xss = rowsB xss.length e ∧ rs = preB (simB xss.length e) xss.length) :
    Calls Tryd.prog 59 #[.agg #[g]] w (SRes w rs) := by
  obtain ⟨a, c, rfl⟩ := hr.shape
  obtain ⟨B, hB⟩ : ∃ B, w.heap.size = B := ⟨_, rfl⟩
  have hTB : 0 < B := by rw [← hB]; exact ht.lt
  have u1 : Below B w (w.alloc (.cells #[.slice a xss.length c] 26)) := by subst hB; exact below_alloc' _ _
  have VG0 : VC 26 B #[.slice a xss.length c] (w.alloc (.cells #[.slice a xss.length c] 26)) := VC.new hB
  have hz0 : (w.alloc (.cells #[.slice a xss.length c] 26)).heap.size = B + 1 := by simp [hB]
  have H := Lib.hid h
  have hcg := VG0.cell
  clear h
  go_enter Tryd.func59, Tryd.ntmps59
  go_wp2_with fail
  generalize w.alloc (.cells #[.slice a xss.length c] 26) = W at *
  refine (implOk _ xss W (hr.below u1 hB)).mono ?_
  rintro e1 w1 ⟨rfl, hb1⟩
  have VG1 := VG0.upd (Upd.of_below hb1) (by omega)
  have hb := u1.trans (hb1.mono (by omega))
  have hz1 : B + 1 ≤ w1.heap.size := by have := hb1.size; omega
  clear hb1 hcg u1
  have hcg := VG1.cell
  cases hok : okB xss with
  | false =>
    obtain rfl : rs = [] := by
      rcases H.out with ⟨_, h⟩ | ⟨e, hA, hx, _⟩
      · exact h
      · rw [hx, okB_adj hA] at hok; cases hok
    clear hok
    go_wp2_with fail
    go_ret
    exact ⟨_, rfl, World.ownsRow_nil _ _ _ 1, by rw [hB]; exact hb⟩
  | true =>
    obtain ⟨e, hA, hx, hrs⟩ : ∃ e, Adj xss.length e ∧ xss = rowsB xss.length e ∧ rs = preB (simB xss.length e) xss.length := by
      rcases H.out with ⟨h, _⟩ | h
      · rw [hok] at h; cases h
      · exact h
    have hn16 := hA.le
    have HA := Lib.hid hA
    have HRS := Lib.hid hrs
    have hr' := hr.below hb hB
    rw [hx, rowsB_length] at hr'
    have HN := Lib.hid (netsOf_any _ xss.length e hn16 w1 hr')
    clear hok hx hrs hr' H hA
    go_wp2_with fail
    refine HN.out.mono ?_
    rintro e1 w2 ⟨u2, rfl, hN2, hb2⟩
    obtain ⟨na, nc, rfl⟩ := owns_shape hN2
    have hNr := Row.of_owns hN2
    have hb02 := hb.trans (hb2.mono (by omega))
    obtain ⟨C, hC⟩ : ∃ C, w2.heap.size = C := ⟨_, rfl⟩
    have hBC : B ≤ C := by have := hb2.size; omega
    have HT2 := Lib.hid (ht.keep hb02 hTB)
    have hcl : Below C w2 w2 := Below.refl _ _
    have hm0 : maskB xss.length (fun b => decide (b < 0) && simB xss.length e b) = 0 := maskB_eq_zero.2 fun i _ => by simp
    clear hN2 HN hb2 hcg
    go_wp2_with fail
    go_loopw [4, 14] (fun t i wr => ∃ j m : Nat, j ≤ xss.length ∧ i = .int .i64 j ∧ t = .int .u32 m ∧ Hid (m = maskB xss.length (fun b => decide (b < j) && simB xss.length e b)) ∧ Below C w2 wr) (fun _ i _ => xss.length - (intOf i).toNat)
    case atStart => exact ⟨0, 0, Nat.zero_le _, rfl, rfl, Lib.hid hm0.symm, hcl⟩
    case round =>
      clear hcl
      obtain ⟨j, m, hj, rfl, rfl, HM, hbr⟩ := hrel
      have hsz : C ≤ wr.heap.size := by have := hbr.size; omega
      by_cases hlt : j < xss.length
      · have hNx := hNr.below (hC.symm ▸ hbr)
        obtain ⟨gb, go, x, rfl, hcx, HX⟩ := hNx.setAt (j := j) (by simpa using hlt)
        obtain rfl : maskB xss.length (e j) = x := by have h := HX.out; rw [NB_at e hlt] at h; exact Option.some.inj h
        obtain ⟨z, HZ⟩ : ∃ z : Nat, Hid (z = maskB xss.length (e j)) := ⟨_, Lib.hid rfl⟩
        rw [← HZ.out] at hcx
        have HMI := Lib.hid (missing_any (.slice (some ⟨gb, go, none⟩) xss.length nc) xss.length e hn16 (e j) z HZ.out wr (HT2.out.keep hbr (by omega)) hNx)
        clear HX hNx
        go_wp2_with fail
        refine HMI.out.mono ?_
        rintro e1 w3 ⟨s, hs1, hs2, rfl, hb3⟩
        have hhalf := half_zero HA.out (e j) hs1 hs2
        have hbr3 := hbr.trans (hb3.mono hsz)
        obtain ⟨d, hd⟩ : ∃ d : Nat, s / 2 = d := ⟨_, rfl⟩
        rw [hd] at hhalf ⊢
        have hsim : simB xss.length e j = decide (d = 0) := hhalf.symm
        have HSI := Lib.hid hsim
        clear hb3 hs1 hs2 hhalf hd hcx HMI hsim
        by_cases h0 : d = 0
        · have hd : ((d : Int) == 0) = true := by rw [beq_iff_eq]; omega
          obtain ⟨z1, HZ1⟩ : ∃ z : Int, Hid ((m : Int) = z) := ⟨_, Lib.hid rfl⟩
          obtain ⟨z2, HZ2⟩ : ∃ z : Int, Hid (z = ((2 ^ j : Nat) : Int)) := ⟨_, Lib.hid rfl⟩
          obtain ⟨z3, HZ3⟩ : ∃ z : Nat, Hid (z = maskB xss.length (fun b => decide (b < j + 1) && simB xss.length e b)) := ⟨_, Lib.hid rfl⟩
          have hbo : bits BinOp.or IntKind.u32 z1 z2 = (z3 : Int) := by
            rw [← HZ1.out, HM.out, HZ2.out, HZ3.out, pow_maskB hlt, maskB_or (by omega)]
            congr 1
            refine maskB_ext fun i hi => ?_
            by_cases hij : i = j
            · subst hij
              simp [HSI.out, h0]
            · have e1 : decide (i < j) = decide (i < j + 1) := by rw [Bool.eq_iff_iff]; simp; omega
              rw [e1]
              simp [hij]
          rw [HZ1.out]
          clear h0
          go_wp2_with fail
          refine (one_at _ j rfl (by omega) z2 HZ2.out _).mono ?_
          rintro e1 w' ⟨rfl, rfl⟩
          go_wp2_with fail
          go_roundw
          case rel => exact ⟨j + 1, z3, by omega, by go_num, rfl, HZ3, hbr3⟩
          case measure => simp [intOf]; omega
        · have hd : ((d : Int) == 0) = false := by rw [beq_eq_false_iff_ne]; omega
          have HM2 : Hid (m = maskB xss.length (fun b => decide (b < j + 1) && simB xss.length e b)) := Lib.hid (by
            rw [HM.out]
            refine maskB_ext fun i hi => ?_
            by_cases hij : i = j
            · subst hij
              simp [HSI.out, h0]
            · have e1 : decide (i < j) = decide (i < j + 1) := by rw [Bool.eq_iff_iff]; simp; omega
              rw [e1])
          clear h0
          go_wp2_with fail
          go_roundw
          case rel => exact ⟨j + 1, m, by omega, by go_num, rfl, HM2, hbr3⟩
          case measure => simp [intOf]; omega
      · obtain rfl : j = xss.length := by omega
        have HNU := Lib.hid (numbers_any m (by rw [HM.out]; exact maskB_small (by omega) _) wr (HT2.out.keep hbr (by omega)))
        have hnum : nums m = rs := by
          rw [HM.out, nums_maskB (by omega), HRS.out, show preB (simB xss.length e) xss.length = rowB xss.length (simB xss.length e) from rfl]
          refine rowB_ext fun b hb => ?_
          simp [hb]
        rw [hnum] at HNU
        clear hnum
        go_wp2_with fail
        refine HNU.out.mono ?_
        rintro e1 w4 ⟨u4, rfl, hL4, hb4⟩
        have hbf := hb02.trans ((hbr.trans (hb4.mono hsz)).mono hBC)
        have HL := Lib.hid (owns_base hL4 (show B ≤ wr.heap.size by omega))
        obtain ⟨la, lc, rfl⟩ := owns_shape hL4
        clear hb4 hL4
        go_wp2_with fail
        go_ret
        exact ⟨_, rfl, by rw [hB]; exact HL.out, by rw [hB]; exact hbf⟩

theorem both_SimplicialIn (xss : List (List Int)) : ∃ rs : List Int, 1 + rs.length ≤ 1000000000 ∧
    (∀ (w : World) (g : Value), Tab w → RdSS g xss w → Calls Tryd.prog 58 #[.agg #[g]] w (SRes w rs)) ∧
    (∀ (w : World) (g : Value), Tab w → RdSS g xss w → Calls Tryd.prog 59 #[.agg #[g]] w (SRes w rs)) := by
  cases hok : okB xss with
  | true =>
    obtain ⟨e, hA, hx⟩ := (okB_iff xss).1 hok
    have hn := hA.le
    have hl : (preB (simB xss.length e) xss.length).length ≤ xss.length := rowB_length xss.length (simB xss.length e)
    have hP : (okB xss = false ∧ preB (simB xss.length e) xss.length = []) ∨ ∃ e', Adj xss.length e' ∧ xss = rowsB xss.length e' ∧ preB (simB xss.length e) xss.length = preB (simB xss.length e') xss.length := .inr ⟨e, hA, hx, rfl⟩
    exact ⟨_, by omega, fun w g _ hr => specSimplicial g xss w hr _ hP, fun w g ht hr => implSimplicial g xss w ht hr _ hP⟩
  | false => exact ⟨[], by simp, fun w g _ hr => specSimplicial g xss w hr _ (.inl ⟨hok, rfl⟩), fun w g ht hr => implSimplicial g xss w ht hr _ (.inl ⟨hok, rfl⟩)⟩
end Go.Proofs.YtikcooagdaghnaaDoor
