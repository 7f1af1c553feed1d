/-
  'OpenOf' of the reference and of the program.
-/
import Derived.Test.YtcjbobponlpkaaaDoorSetK
namespace Go.Proofs.YtcjbobponlpkaaaDoor
open Go.RowKit

/-- Those of a set that have a neighbour outside of it. -/
def openB (n : Nat) (e : Nat → Nat → Bool) (p : Nat → Bool) (b : Nat) : Bool := (List.range n).any fun u => e b u && !p u
theorem openB_mask {n : Nat} {e : Nat → Nat → Bool} {p : Nat → Bool} {b : Nat} : openB n e p b = decide (maskB n (fun u => e b u && !p u) ≠ 0) := by
  unfold openB
  rw [Bool.eq_iff_iff, decide_eq_true_eq, ne_eq, maskB_eq_zero, List.any_eq_true]
  constructor
  · rintro ⟨u, hu, h⟩ h0
    rw [List.mem_range] at hu
    rw [h0 u hu] at h
    cases h
  · intro h
    apply Classical.byContradiction
    intro hn
    refine h fun u hu => ?_
    cases hb : (e b u && !p u) with
    | false => rfl
    | true => exact (hn ⟨u, List.mem_range.2 hu, hb⟩).elim

set_option maxHeartbeats 2000000 in
theorem openOf_any (v : Value) (n : Nat) (e : Nat → Nat → Bool) (hn : n ≤ 16) (p : Nat → Bool) (z : Int) (hz : z = (maskB n p : Nat)) (w : World) (ht : Tab w) (hr : Row w 1 v n (sets (NB n e))) :
    Calls Tryd.prog 56 #[v, .int .u32 z] w fun r w' => r = .returned (.int .u32 (maskB n (fun b => p b && openB n e p b) : Nat)) ∧ Below w.heap.size w w' := by
  obtain ⟨a, c, rfl, -, -, -⟩ := id hr
  obtain ⟨B, hB⟩ : ∃ B, w.heap.size = B := ⟨_, rfl⟩
  have HLI := Lib.hid (listB_any (by omega) p z hz w ht)
  rw [hB] at HLI
  have HZ := Lib.hid hz
  have hyl := rowB_length n p
  clear hz
  have hm0 : Hid (0 = maskB n (fun b => inL ((rowB n p).take 0) b && openB n e p b)) := Lib.hid (by rw [List.take_zero]; exact (maskB_eq_zero.2 fun i _ => by rw [inL_nil]; rfl).symm)
  go_enter Tryd.func56, Tryd.ntmps56
  go_wp2_with fail
  refine HLI.out.mono ?_
  rintro e1 w1 ⟨u1, rfl, hL1, hb1⟩
  obtain ⟨la, lc, rfl⟩ := owns_shape hL1
  have hRL := Row.of_owns hL1
  obtain ⟨C, hC⟩ : ∃ C, w1.heap.size = C := ⟨_, rfl⟩
  have hBC : B ≤ C := by have := hb1.size; omega
  have hcl : Below C w1 w1 := Below.refl _ _
  clear hL1 HLI
  go_wp2_with fail
  go_loopw [5, 11] (fun t i wr => ∃ j m : Nat, j ≤ (rowB n p).length ∧ i = .int .i64 j ∧ t = .int .u32 m ∧ Hid (m = maskB n (fun b => inL ((rowB n p).take j) b && openB n e p b)) ∧ Below C w1 wr) (fun _ i _ => (rowB n p).length - (intOf i).toNat)
  case atStart => exact ⟨0, 0, Nat.zero_le _, rfl, rfl, hm0, hcl⟩
  case round =>
    clear hcl
    obtain ⟨j, m, hj, rfl, rfl, HM, hb⟩ := hrel
    by_cases hlt : j < (rowB n p).length
    · obtain ⟨yb, yo, y, rfl, hcy, HY⟩ := Row.intAt (Row.below hRL (hC.symm ▸ hb)) hlt
      obtain ⟨q, hq, hpq, rfl⟩ := row_at HY.out
      obtain ⟨gb, go, x, rfl, hcx, HX⟩ := (hr.below (hB.symm ▸ (hb1.trans (hb.mono hBC)))).setAt (j := q) (by simpa using hq)
      obtain rfl : maskB n (e q) = x := by have h := HX.out; rw [NB_at e hq] at h; exact Option.some.inj h
      obtain ⟨xi, HXI⟩ : ∃ z : Int, Hid (((maskB n (e q) : Nat) : Int) = z) := ⟨_, Lib.hid rfl⟩
      obtain ⟨z2, HZ2⟩ : ∃ z : Nat, Hid (z = maskB n (fun i => e q i && !p i)) := ⟨_, Lib.hid rfl⟩
      have hb1' : bits BinOp.andNot IntKind.u32 xi z = (z2 : Int) := by rw [← HXI.out, HZ.out, HZ2.out, mask_andNot (by omega)]
      have HT := Lib.hid (inL_take_succ HY.out)
      rw [HXI.out] at hcx
      clear HX
      by_cases h0 : z2 = 0
      · have hd : ((z2 : Int) != 0) = false := by simp [h0]
        have HO : Hid (openB n e p q = false) := Lib.hid (by rw [openB_mask, ← HZ2.out, h0]; rfl)
        have HM2 : Hid (m = maskB n (fun b => inL ((rowB n p).take (j + 1)) b && openB n e p b)) := Lib.hid (by
          rw [HM.out, HT.out]
          refine maskB_ext fun i hi => ?_
          by_cases hiq : i = q
          · subst hiq; rw [HO.out, Bool.and_false, Bool.and_false]
          · simp [hiq])
        clear h0
        go_wp2_with fail
        go_roundw
        case rel => exact ⟨j + 1, m, by omega, by go_num, rfl, HM2, hb⟩
        case measure => simp [intOf]; omega
      · have hd : ((z2 : Int) != 0) = true := by simpa using h0
        have HO : Hid (openB n e p q = true) := Lib.hid (by rw [openB_mask, ← HZ2.out]; simpa using h0)
        obtain ⟨z3, HZ3⟩ : ∃ z : Int, Hid ((m : Int) = z) := ⟨_, Lib.hid rfl⟩
        obtain ⟨z4, HZ4⟩ : ∃ z : Int, Hid (z = ((2 ^ q : Nat) : Int)) := ⟨_, Lib.hid rfl⟩
        obtain ⟨z5, HZ5⟩ : ∃ z : Nat, Hid (z = maskB n (fun b => inL ((rowB n p).take (j + 1)) b && openB n e p b)) := ⟨_, Lib.hid rfl⟩
        have hbo : bits BinOp.or IntKind.u32 z3 z4 = (z5 : Int) := by
          rw [← HZ3.out, HM.out, HZ4.out, HZ5.out, pow_maskB hq, maskB_or (by omega), HT.out]
          congr 1
          refine maskB_ext fun i hi => ?_
          by_cases hiq : i = q
          · subst hiq; rw [HO.out]; simp
          · simp [hiq]
        rw [HZ3.out]
        clear h0
        go_wp2_with fail
        refine (one_at _ q rfl (by omega) z4 HZ4.out _).mono ?_
        rintro e1 w' ⟨rfl, rfl⟩
        go_wp2_with fail
        go_roundw
        case rel => exact ⟨j + 1, z5, by omega, by go_num, rfl, HZ5, hb⟩
        case measure => simp [intOf]; omega
    · obtain rfl : j = (rowB n p).length := by omega
      have HF : Hid (m = maskB n (fun b => p b && openB n e p b)) := Lib.hid (by
        rw [HM.out, List.take_length]
        exact maskB_ext fun i hi => by rw [inL_rowB hi])
      go_wp2_with fail
      go_ret
      exact ⟨ret_int (congrArg (fun (m : Nat) => (m : Int)) HF.out), by rw [hB]; exact hb1.trans (hb.mono hBC)⟩

set_option maxHeartbeats 1000000 in
theorem implOpen (g : Value) (xss : List (List Int)) (v2 : Value) (xs : List Int) (w : World) (ht : Tab w) (hr : RdSS g xss w) (hs : RdS v2 xs w) (rs : List Int)
    (h : ((okB xss && decide (SetP xss.length xs)) = false ∧ rs = []) ∨ ∃ e p, Adj xss.length e ∧ xss = rowsB xss.length e ∧ (okB xss && decide (SetP xss.length xs)) = true ∧ xs = rowB xss.length p ∧ rs = rowB xss.length (fun b => p b && openB xss.length e p b)) :
    Calls Tryd.prog 19 #[.agg #[g], v2] w (SRes w rs) := by
  obtain ⟨a, c, rfl⟩ := hr.shape
  obtain ⟨B, hB⟩ : ∃ B, w.heap.size = B := ⟨_, rfl⟩
  have hTB : 0 < B := by rw [← hB]; exact ht.lt
  have u1 : Below B w (w.alloc (.cells #[.slice a xss.length c] 28)) := by subst hB; exact below_alloc' _ _
  have VG0 : VC 28 B #[.slice a xss.length c] (w.alloc (.cells #[.slice a xss.length c] 28)) := VC.new hB
  have hz0 : (w.alloc (.cells #[.slice a xss.length c] 28)).heap.size = B + 1 := by simp [hB]
  have H := Lib.hid h
  have hcg := VG0.cell
  clear h
  go_enter Tryd.func19, Tryd.ntmps19
  go_wp2_with fail
  generalize w.alloc (.cells #[.slice a xss.length c] 28) = W at *
  refine (implSetOk _ xss v2 xs W (hr.below u1 hB) (RdS.below hs u1 hB)).mono ?_
  rintro e1 w1 ⟨rfl, hb1⟩
  have VG1 := VG0.upd (Upd.of_below hb1) (by omega)
  have hb := u1.trans (hb1.mono (by omega))
  have hz1 : B + 1 ≤ w1.heap.size := by have := hb1.size; omega
  clear hb1 hcg u1
  have hcg := VG1.cell
  cases hok : okB xss && decide (SetP xss.length xs) with
  | false =>
    obtain rfl : rs = [] := by
      rcases H.out with ⟨_, h⟩ | ⟨e, p, hA, hx, h, _⟩
      · exact h
      · rw [hok] at h; cases h
    clear hok
    go_wp2_with fail
    go_ret
    exact ⟨_, rfl, World.ownsRow_nil _ _ _ 1, by rw [hB]; exact hb⟩
  | true =>
    obtain ⟨e, p, hA, hx, hp, hrs⟩ : ∃ e p, Adj xss.length e ∧ xss = rowsB xss.length e ∧ xs = rowB xss.length p ∧ rs = rowB xss.length (fun b => p b && openB xss.length e p b) := by
      rcases H.out with ⟨h, _⟩ | ⟨e, p, hA, hx, _, hp, hrs⟩
      · rw [hok] at h; cases h
      · exact ⟨e, p, hA, hx, hp, hrs⟩
    have hn16 := hA.le
    have HRS := Lib.hid hrs
    have hr' := hr.below hb hB
    rw [hx, rowsB_length] at hr'
    have HN := Lib.hid (netsOf_any _ xss.length e hn16 w1 hr')
    have hs1 : RdS v2 (rowB xss.length p) w1 := by rw [← hp]; exact RdS.below hs hb hB
    clear hok hx hrs hr' H hA hp
    go_wp2_with fail
    refine HN.out.mono ?_
    rintro e1 w2 ⟨u2, rfl, hN2, hb2⟩
    obtain ⟨na, nc, rfl⟩ := owns_shape hN2
    have hNr := Row.of_owns hN2
    have hb02 := hb.trans (hb2.mono (by omega))
    have HT2 := Lib.hid (ht.keep hb02 hTB)
    have hz2 := hb2.size
    obtain ⟨z, HZ⟩ : ∃ z : Int, Hid (z = (maskB xss.length p : Nat)) := ⟨_, Lib.hid rfl⟩
    have HMK := Lib.hid (maskOf_any v2 (rowB xss.length p) xss.length hn16 (setP_rowB _ _) w2 (Row.below hs1 hb2))
    rw [mask_row, ← HZ.out] at HMK
    have HOP := Lib.hid (openOf_any _ xss.length e hn16 p z HZ.out w2 HT2.out hNr)
    clear hN2 HN hb2 hcg hs1
    go_wp2_with fail
    refine HMK.out.mono ?_
    rintro e1 w' ⟨rfl, rfl⟩
    go_wp2_with fail
    refine HOP.out.mono ?_
    rintro e1 w3 ⟨rfl, hb3⟩
    have hb03 := hb02.trans (hb3.mono (by omega))
    have hz3 := hb3.size
    obtain ⟨y, HY⟩ : ∃ z : Int, Hid (z = (maskB xss.length (fun b => p b && openB xss.length e p b) : Nat)) := ⟨_, Lib.hid rfl⟩
    have HNU := Lib.hid (numbersB_any (by omega) _ y HY.out w3 (HT2.out.below hb3))
    rw [← HRS.out] at HNU
    rw [← HY.out]
    clear HOP hb3
    go_wp2_with fail
    refine HNU.out.mono ?_
    rintro e1 w4 ⟨u4, rfl, hL4, hb4⟩
    have hbf := hb03.trans (hb4.mono (by omega))
    have HL := Lib.hid (owns_base hL4 (show B ≤ w3.heap.size by omega))
    obtain ⟨la, lc, rfl⟩ := owns_shape hL4
    clear hb4 hL4 HNU
    go_wp2_with fail
    go_ret
    exact ⟨_, rfl, by rw [hB]; exact HL.out, by rw [hB]; exact hbf⟩
end Go.Proofs.YtcjbobponlpkaaaDoor
