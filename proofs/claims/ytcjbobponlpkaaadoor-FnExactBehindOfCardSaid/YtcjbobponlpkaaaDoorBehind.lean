/-
  'BehindOf' of the program: 'behind'.
-/
import Derived.Test.YtcjbobponlpkaaaDoorReach
import Derived.Test.YtcjbobponlpkaaaDoorInduced2
namespace Go.Proofs.YtcjbobponlpkaaaDoor
open Go.RowKit

/-- What stands behind s, by those that are gone. -/
noncomputable def behB (n : Nat) (e : Nat → Nat → Bool) (p : Nat → Bool) (s b : Nat) : Bool := ((List.range n).any fun a => wayB n e p s a && e a b) && !p b && !decide (b = s)
def nearL (e : Nat → Nat → Bool) (xs : List Int) (b : Nat) : Bool := xs.any fun a => e a.toNat b
theorem nearL_succ (e : Nat → Nat → Bool) {xs : List Int} {j q : Nat} (h : xs[j]? = some (q : Int)) (b : Nat) : nearL e (xs.take (j + 1)) b = (nearL e (xs.take j) b || e q b) := by
  unfold nearL
  rw [take_snoc h, List.any_append]
  simp
theorem nearL_row {n : Nat} {e : Nat → Nat → Bool} {p : Nat → Bool} {b : Nat} : nearL e (rowB n p) b = (List.range n).any fun a => p a && e a b := by
  unfold nearL
  rw [Bool.eq_iff_iff, List.any_eq_true, List.any_eq_true]
  constructor
  · rintro ⟨x, hx, h⟩
    obtain ⟨a, ha, hp, rfl⟩ := mem_rowB.1 hx
    exact ⟨a, List.mem_range.2 ha, by rw [hp]; simpa using h⟩
  · rintro ⟨a, ha, h⟩
    rw [Bool.and_eq_true] at h
    exact ⟨(a : Int), nat_mem_rowB.2 ⟨List.mem_range.1 ha, h.1⟩, by simpa using h.2⟩

set_option maxHeartbeats 2000000 in
theorem behind_any (v : Value) (n : Nat) (e : Nat → Nat → Bool) (hn : n ≤ 16) (p : Nat → Bool) (s : Nat) (hs : s < n) (S : Int) (hS : S = s) (z : Int) (hz : z = (maskB n p : Nat)) (w : World) (ht : Tab w) (hr : Row w 1 v n (sets (NB n e))) :
    Calls Tryd.prog 66 #[v, .int .u32 z, .int .i64 S] w fun r w' => r = .returned (.int .u32 (maskB n (behB n e p s) : Nat)) ∧ Below w.heap.size w w' := by
  obtain ⟨a, c, rfl, -, -, -⟩ := id hr
  obtain ⟨B, hB⟩ : ∃ B, w.heap.size = B := ⟨_, rfl⟩
  have hTB : 0 < B := by rw [← hB]; exact ht.lt
  have HZ := Lib.hid hz
  have HSE := Lib.hid hS
  clear hz hS
  obtain ⟨y0, HY0⟩ : ∃ y : Int, Hid (y = ((2 ^ s : Nat) : Int)) := ⟨_, Lib.hid rfl⟩
  obtain ⟨y1, HY1⟩ : ∃ y : Int, Hid (y = (maskB n (fun b => p b || decide (b = s)) : Nat)) := ⟨_, Lib.hid rfl⟩
  have hbo : bits BinOp.or IntKind.u32 z y0 = y1 := by rw [HZ.out, HY0.out, HY1.out, pow_maskB hs, maskB_or (by omega)]
  have HRE := Lib.hid (reach_any (.slice a n c) n e hn _ s hs S HSE.out y1 HY1.out w ht hr)
  rw [wayB_eq (p := fun b => p b || decide (b = s)) (q := p) (fun b _ h => by simp at h; exact h.symm) (fun b _ h => .inr (by simp [h]))] at HRE
  obtain ⟨q0, HQ0⟩ : ∃ q, Hid (q = wayB n e p s) := ⟨_, Lib.hid rfl⟩
  obtain ⟨y2, HY2⟩ : ∃ y : Int, Hid (y = (maskB n q0 : Nat)) := ⟨_, Lib.hid rfl⟩
  rw [← HQ0.out, ← HY2.out] at HRE
  have hm0 : Hid (0 = maskB n (nearL e ((rowB n q0).take 0))) := Lib.hid (by rw [List.take_zero]; exact (maskB_eq_zero.2 fun i _ => rfl).symm)
  have hyl := rowB_length n q0
  go_enter Tryd.func66, Tryd.ntmps66
  go_wp2_with fail
  refine (one_at S s HSE.out (by omega) y0 HY0.out _).mono ?_
  rintro e1 w' ⟨rfl, rfl⟩
  go_wp2_with fail
  refine HRE.out.mono ?_
  rintro e1 w0 ⟨rfl, hb0⟩
  rw [hB] at hb0
  have hz0 := hb0.size
  have HLI := Lib.hid (listB_any (n := n) (by omega) q0 y2 HY2.out w0 (ht.keep hb0 hTB))
  clear HRE
  go_wp2_with fail
  refine HLI.out.mono ?_
  rintro e1 w1 ⟨u1, rfl, hL1, hb1⟩
  obtain ⟨la, lc, rfl⟩ := owns_shape hL1
  have hRL := Row.of_owns hL1
  replace hb1 := hb0.trans (hb1.mono (by omega))
  obtain ⟨C, hC⟩ : ∃ C, w1.heap.size = C := ⟨_, rfl⟩
  have hBC : B ≤ C := by have := hb1.size; omega
  have hcl : Below C w1 w1 := Below.refl _ _
  clear hL1 HLI hb0 hz0
  go_wp2_with fail
  go_loopw [8, 21] (fun t i wr => ∃ j m : Nat, j ≤ (rowB n q0).length ∧ i = .int .i64 j ∧ t = .int .u32 m ∧ Hid (m = maskB n (nearL e ((rowB n q0).take j))) ∧ Below C w1 wr) (fun _ i _ => (rowB n q0).length - (intOf i).toNat)
  case atStart => exact ⟨0, 0, Nat.zero_le _, rfl, rfl, hm0, hcl⟩
  case round =>
    clear hcl
    obtain ⟨j, m, hj, rfl, rfl, HM, hb⟩ := hrel
    by_cases hlt : j < (rowB n q0).length
    · obtain ⟨yb, yo, y, rfl, hcy, HY⟩ := Row.intAt (Row.below hRL (hC.symm ▸ hb)) hlt
      obtain ⟨q, hq, hpq, rfl⟩ := row_at HY.out
      obtain ⟨gb, go, x, rfl, hcx, HX⟩ := (hr.below (hB.symm ▸ (hb1.trans (hb.mono hBC)))).setAt (j := q) (by simpa using hq)
      obtain rfl : maskB n (e q) = x := by have h := HX.out; rw [NB_at e hq] at h; exact Option.some.inj h
      obtain ⟨xi, HXI⟩ : ∃ z : Int, Hid (((maskB n (e q) : Nat) : Int) = z) := ⟨_, Lib.hid rfl⟩
      obtain ⟨z1, HZ1⟩ : ∃ z : Int, Hid ((m : Int) = z) := ⟨_, Lib.hid rfl⟩
      obtain ⟨z5, HZ5⟩ : ∃ z : Nat, Hid (z = maskB n (nearL e ((rowB n q0).take (j + 1)))) := ⟨_, Lib.hid rfl⟩
      have hb2' : bits BinOp.or IntKind.u32 z1 xi = (z5 : Int) := by
        rw [← HZ1.out, HM.out, ← HXI.out, HZ5.out, maskB_or (by omega)]
        congr 1
        exact maskB_ext fun i hi => (nearL_succ e HY.out i).symm
      rw [HXI.out] at hcx
      rw [HZ1.out]
      clear HX
      go_wp2_with fail
      go_roundw
      case rel => exact ⟨j + 1, z5, by omega, by go_num, rfl, HZ5, hb⟩
      case measure => simp [intOf]; omega
    · obtain rfl : j = (rowB n q0).length := by omega
      obtain ⟨z1, HZ1⟩ : ∃ z : Int, Hid ((m : Int) = z) := ⟨_, Lib.hid rfl⟩
      obtain ⟨z2, HZ2⟩ : ∃ z : Int, Hid (z = (maskB n (fun b => nearL e (rowB n q0) b && !p b) : Nat)) := ⟨_, Lib.hid rfl⟩
      obtain ⟨z3, HZ3⟩ : ∃ z : Int, Hid (z = (maskB n (behB n e p s) : Nat)) := ⟨_, Lib.hid rfl⟩
      have hb1' : bits BinOp.andNot IntKind.u32 z1 z = z2 := by rw [← HZ1.out, HM.out, HZ.out, HZ2.out, List.take_length, mask_andNot (by omega)]
      have hb2' : bits BinOp.andNot IntKind.u32 z2 y0 = z3 := by
        rw [HZ2.out, HY0.out, HZ3.out, pow_maskB hs, mask_andNot (by omega)]
        congr 1
        exact maskB_ext fun i hi => by unfold behB; rw [nearL_row, HQ0.out]
      rw [HZ1.out]
      go_wp2_with fail
      refine (one_at S s HSE.out (by omega) y0 HY0.out _).mono ?_
      rintro e1 w' ⟨rfl, rfl⟩
      go_wp2_with fail
      go_ret
      exact ⟨ret_int HZ3.out, by rw [hB]; exact hb1.trans (hb.mono hBC)⟩

/-- What 'BehindOf' gives. -/
def BehP (xss : List (List Int)) (xs : List Int) (v : Int) (rs : List Int) : Prop :=
  ((okB xss && decide (SetP xss.length xs) && inN xss.length v && !xs.contains v) = false ∧ rs = []) ∨ ∃ e p s, Adj xss.length e ∧ xss = rowsB xss.length e ∧ xs = rowB xss.length p ∧ v = (s : Nat) ∧ s < xss.length ∧
    (okB xss && decide (SetP xss.length xs) && inN xss.length v && !xs.contains v) = true ∧ rs = rowB xss.length (behB xss.length e p s)

set_option maxHeartbeats 2000000 in
theorem implBehind (g : Value) (xss : List (List Int)) (v2 : Value) (xs : List Int) (v : Int) (w : World) (ht : Tab w) (hr : RdSS g xss w) (hs : RdS v2 xs w) (rs : List Int) (h : BehP xss xs v rs) :
    Calls Tryd.prog 26 #[.agg #[g], v2, .int .i64 v] w (SRes w rs) := by
  obtain ⟨a, c, rfl⟩ := hr.shape
  obtain ⟨B, hB⟩ : ∃ B, w.heap.size = B := ⟨_, rfl⟩
  have hTB : 0 < B := by rw [← hB]; exact ht.lt
  have u1 : Below B w (w.alloc (.cells #[.slice a xss.length c] 28)) := by subst hB; exact below_alloc' _ _
  have VG0 : VC 28 B #[.slice a xss.length c] (w.alloc (.cells #[.slice a xss.length c] 28)) := VC.new hB
  have hz0 : (w.alloc (.cells #[.slice a xss.length c] 28)).heap.size = B + 1 := by simp [hB]
  have H := Lib.hid h
  have hcg := VG0.cell
  clear h
  have hno : (okB xss && decide (SetP xss.length xs) && inN xss.length v && !xs.contains v) = false → Hid (rs = []) := fun hn => by
    rcases H.out with ⟨_, h⟩ | ⟨_, _, _, _, _, _, _, _, h, _⟩
    · exact Lib.hid h
    · rw [hn] at h; cases h
  have HNO := Lib.hid hno
  clear hno
  go_enter Tryd.func26, Tryd.ntmps26
  go_wp2_with fail
  generalize w.alloc (.cells #[.slice a xss.length c] 28) = W at *
  refine (isVertex_any _ xss v W (hr.below u1 hB)).mono ?_
  rintro e1 w1 ⟨rfl, hb1⟩
  have VG1 := VG0.upd (Upd.of_below hb1) (by omega)
  have hb := u1.trans (hb1.mono (by omega))
  have hz1 : B + 1 ≤ w1.heap.size := by have := hb1.size; omega
  clear hb1 hcg u1
  have hcg := VG1.cell
  cases hvx : vertexB xss v with
  | false =>
    obtain rfl : rs = [] := (HNO.out (by unfold vertexB at hvx; cases h1 : okB xss <;> cases h2 : inN xss.length v <;> simp [h1, h2] at hvx ⊢)).out
    clear hvx
    go_wp2_with fail
    go_ret
    exact ⟨_, rfl, World.ownsRow_nil _ _ _ 1, by rw [hB]; exact hb⟩
  | true =>
    have HVX := Lib.hid hvx
    have HVX2 := Lib.hid (show okB xss = true ∧ inN xss.length v = true by unfold vertexB at hvx; simpa using hvx)
    clear hvx
    have HSK := Lib.hid (implSetOk (.slice a xss.length c) xss v2 xs w1 (hr.below hb hB) (RdS.below hs hb hB))
    go_wp2_with fail
    refine HSK.out.mono ?_
    rintro e1 w2 ⟨rfl, hb2⟩
    replace hb := hb.trans (hb2.mono (by omega))
    have VG2 := VG1.upd (Upd.of_below hb2) (by omega)
    have hz2 := hb2.size
    clear hb2 hcg HSK
    have hcg := VG2.cell
    cases hok : okB xss && decide (SetP xss.length xs) with
    | false =>
      obtain rfl : rs = [] := (HNO.out (by rw [hok]; rfl)).out
      clear hok
      go_wp2_with fail
      go_ret
      exact ⟨_, rfl, World.ownsRow_nil _ _ _ 1, by rw [hB]; exact hb⟩
    | true =>
      have HOK := Lib.hid hok
      have hset : SetP xss.length xs := by rw [Bool.and_eq_true, decide_eq_true_eq] at hok; exact hok.2
      have hn16 := (ok_size HVX2.out.1).2
      obtain ⟨s, hvs, hsn⟩ := inN_nat HVX2.out.2
      have HVS := Lib.hid hvs
      have hpx : xs = rowB xss.length (inL xs) := hset.eq
      obtain ⟨z, HZ⟩ : ∃ z : Nat, Hid (z = maskB xss.length (inL xs)) := ⟨_, Lib.hid rfl⟩
      have HMK := fun W hw => Lib.hid (maskOf_any v2 xs xss.length hn16 hset W hw)
      rw [← HZ.out] at HMK
      obtain ⟨bb, HBB⟩ : ∃ b, Hid (xs.contains v = b) := ⟨_, Lib.hid rfl⟩
      have hbit : z.testBit s = bb := by rw [HZ.out, testBit_maskB, ← HBB.out, HVS.out]; simp [hsn, inL]
      have HHA := fun W => Lib.hid (hasV_any z (by rw [HZ.out]; exact maskB_small (by omega) _) s (by omega) v HVS.out bb hbit W)
      clear hok hbit hvs hset
      go_wp2_with fail
      refine (HMK w2 (RdS.below hs hb hB)).out.mono ?_
      rintro e1 w' ⟨rfl, rfl⟩
      go_wp2_with fail
      refine (HHA _).out.mono ?_
      rintro e1 w' ⟨rfl, rfl⟩
      cases bb with
      | true =>
        obtain rfl : rs = [] := (HNO.out (by rw [HBB.out]; simp)).out
        go_wp2_with fail
        go_ret
        exact ⟨_, rfl, World.ownsRow_nil _ _ _ 1, by rw [hB]; exact hb⟩
      | false =>
        have hyes : (okB xss && decide (SetP xss.length xs) && inN xss.length v && !xs.contains v) = true := by rw [HOK.out, HVX2.out.2, HBB.out]; rfl
        obtain ⟨e, p, hA, hx, hp, hrs⟩ : ∃ e p, Adj xss.length e ∧ xss = rowsB xss.length e ∧ xs = rowB xss.length p ∧ rs = rowB xss.length (behB xss.length e p s) := by
          rcases H.out with ⟨h, _⟩ | ⟨e, p, s', h1, h2, h3, h4, _, _, h5⟩
          · rw [hyes] at h; cases h
          · have := HVS.out
            obtain rfl : s = s' := by omega
            exact ⟨e, p, h1, h2, h3, h5⟩
        have HRS := Lib.hid hrs
        have hr' := hr.below hb hB
        rw [hx, rowsB_length] at hr'
        have HN := Lib.hid (netsOf_any _ xss.length e hn16 w2 hr')
        have hzp : z = maskB xss.length p := by rw [HZ.out, hp, mask_row]
        have HZP := Lib.hid hzp
        clear hyes hx hrs hr' H hA hp hzp hpx HNO
        obtain ⟨zi, HZI⟩ : ∃ zi : Int, Hid ((z : Int) = zi) := ⟨_, Lib.hid rfl⟩
        go_wp2_with fail
        refine HN.out.mono ?_
        rintro e1 w3 ⟨u3, rfl, hN3, hb3⟩
        obtain ⟨na, nc, rfl⟩ := owns_shape hN3
        have hNr := Row.of_owns hN3
        have hb03 := hb.trans (hb3.mono (by omega))
        have HT3 := Lib.hid (ht.keep hb03 hTB)
        have hz3 := hb3.size
        have HBE := Lib.hid (behind_any (.slice na xss.length nc) xss.length e hn16 p s hsn v HVS.out zi (by rw [← HZI.out, HZP.out]) w3 HT3.out hNr)
        have HMK3 := HMK w3 (RdS.below hs hb03 hB)
        rw [HZI.out] at HMK3
        clear hN3 HN hb3 hcg HMK HHA
        go_wp2_with fail
        refine HMK3.out.mono ?_
        rintro e1 w' ⟨rfl, rfl⟩
        go_wp2_with fail
        refine HBE.out.mono ?_
        rintro e1 w4 ⟨rfl, hb4⟩
        have hb04 := hb03.trans (hb4.mono (by omega))
        have hz4 := hb4.size
        obtain ⟨y, HY⟩ : ∃ z : Int, Hid (z = (maskB xss.length (behB xss.length e p s) : Nat)) := ⟨_, Lib.hid rfl⟩
        have HNU := Lib.hid (numbersB_any (by omega) _ y HY.out w4 (HT3.out.below hb4))
        rw [← HRS.out] at HNU
        rw [← HY.out]
        clear HBE hb4
        go_wp2_with fail
        refine HNU.out.mono ?_
        rintro e1 w5 ⟨u5, rfl, hL5, hb5⟩
        have hbf := hb04.trans (hb5.mono (by omega))
        have HL := Lib.hid (owns_base hL5 (show B ≤ w4.heap.size by omega))
        obtain ⟨la, lc, rfl⟩ := owns_shape hL5
        clear hb5 hL5 HNU
        go_wp2_with fail
        go_ret
        exact ⟨_, rfl, by rw [hB]; exact HL.out, by rw [hB]; exact hbf⟩
end Go.Proofs.YtcjbobponlpkaaaDoor
