import Derived.Test.YtpfhflkpnjkgkaaGq06
import Derived.Test.YtpfhflkpnjkgkaaGq11
/-
  'SameGraph' of the reference and of the program.
-/

namespace Go.Proofs.Ytpfhflkpnjkgkaa
open Go.RowKit

set_option maxHeartbeats 400000 in
theorem equalI_any (v1 v2 : Value) (xs ys : List Int) (w : World) (h1 : Row w 1 v1 xs.length (ints xs)) (h2 : Row w 1 v2 ys.length (ints ys)) :
    Calls Try.prog 35 #[v1, v2] w fun e w' => e = .returned (.bool (decide (xs = ys))) ∧ Below w.heap.size w w' := by
  have hl := h1.len
  have hl2 := h2.len
  unfold maxLen at hl hl2
  obtain ⟨a1, c1, rfl, -, -, -⟩ := id h1
  obtain ⟨a2, c2, rfl, -, -, -⟩ := id h2
  by_cases hlen : xs.length = ys.length
  · have hb : ((xs.length : Int) != ys.length) = false := by simp [hlen]
    have HL := Lib.hid hlen
    clear hlen
    go_enter Try.func35, Try.ntmps35
    go_wp2_with fail
    go_loopw [13] (fun i wr => ∃ k : Nat, k ≤ xs.length ∧ i = .int .i64 k ∧ xs.take k = ys.take k ∧ Below w.heap.size w wr) (fun i _ => xs.length - (intOf i).toNat)
    case atStart => exact ⟨0, Nat.zero_le _, rfl, rfl, Below.refl _ _⟩
    case round =>
      obtain ⟨k, hk, rfl, heq, hbel⟩ := hrel
      have HE := Lib.hid heq
      clear heq
      by_cases hlt : k < xs.length
      · have hlt2 : k < ys.length := by have := HL.out; omega
        obtain ⟨b, o, x, rfl, hc, HX⟩ := (h1.below hbel).intAt hlt
        obtain ⟨b', o', y, rfl, hc', HY⟩ := (h2.below hbel).intAt hlt2
        by_cases hxy : x = y
        · have hn : (x != y) = false := by simp [hxy]
          have HXY := Lib.hid hxy
          clear hxy
          go_wp2_with fail
          refine wp_region_ord [0, 1, 2, 4, 5, 6] [3, 7, 8] [] [] (by kernel_rfl) (by kernel_rfl) (fun _ _ d _ _ h => by cases d <;> exact h) ?_
          simp only [pickOps, List.filterMap_cons, List.filterMap_nil, List.getElem?_cons_succ, List.getElem?_cons_zero]
          repeat quiet_step (fail)
          simp only [wpQuiet_nil_eq, wpSegs_nil_eq]
          go_wp2_with fail
          go_roundw
          case rel => exact ⟨k + 1, by omega, by go_num, by rw [take_snoc HX.out, take_snoc HY.out, HE.out, HXY.out], hbel.drew⟩
          case measure => simp [intOf]; omega
        · have hn : (x != y) = true := by simpa using hxy
          go_wp2_with fail
          refine wp_region_ord [0, 1, 2, 4, 5, 6] [3, 7, 8] [] [] (by kernel_rfl) (by kernel_rfl) (fun _ _ d _ _ h => by cases d <;> exact h) ?_
          simp only [pickOps, List.filterMap_cons, List.filterMap_nil, List.getElem?_cons_succ, List.getElem?_cons_zero]
          repeat quiet_step (fail)
          simp only [wpQuiet_nil_eq, wpSegs_nil_eq]
          go_wp2_with fail
          go_ret
          refine ⟨ret_bool (by rw [Bool.eq_iff_iff]; simp; intro e; subst e; have h1 := HX.out; rw [HY.out] at h1; exact hxy (Option.some.inj h1).symm), hbel.drew⟩
      · go_wp2_with fail
        go_ret
        refine ⟨ret_bool (by rw [Bool.eq_iff_iff]; simp; have := HE.out; rwa [List.take_of_length_le (by omega), List.take_of_length_le (by have := HL.out; omega)] at this), hbel⟩
  · have hb : ((xs.length : Int) != ys.length) = true := by simp; omega
    go_enter Try.func35, Try.ntmps35
    go_wp2_with fail
    go_ret
    exact ⟨ret_bool (by rw [Bool.eq_iff_iff]; simp; intro e; subst e; exact hlen rfl), Below.refl _ _⟩

theorem map_take {xss yss : List (List Int)} {k : Nat} (h : xss.take k = yss.take k) {xs ys : List Int} (hx : xss[k]? = some xs) (hy : yss[k]? = some ys) (he : xs = ys) : xss.take (k + 1) = yss.take (k + 1) := by
  rw [take_snoc hx, take_snoc hy, h, he]

theorem RdSS.rowAtL' {xss : List (List Int)} {w : World} {a : Option Addr} {n c : Nat} (h : RdSS (.slice a n c) xss w) {j : Nat} (hj : j < xss.length) :
    ∃ b o ra rc xs, a = some ⟨b, o, none⟩ ∧ w.cell? ⟨b, o + j, none⟩ = some (.slice ra xs.length rc) ∧ Row w 1 (.slice ra xs.length rc) xs.length (ints xs) ∧ Hid (xss[j]? = some xs) := by
  obtain ⟨vsr, hG⟩ := h.ex
  obtain ⟨rb, ro, r, xs, rfl, hc, hxr, -, HXX⟩ := hG.intsAt (k := j) hj
  obtain ⟨ra, rc, rfl, -, -, -⟩ := id hxr
  exact ⟨rb, ro, ra, rc, xs, rfl, hc, hxr, HXX⟩

set_option maxHeartbeats 2000000 in
theorem equalFunc_any (v1 v2 : Value) (xss yss : List (List Int)) (w : World) (h1 : RdSS v1 xss w) (h2 : RdSS v2 yss w) (b : Bool) (hb : decide (xss = yss) = b) :
    Calls Try.prog 36 #[v1, v2, .func (.func 35) #[] #[]] w fun e w' => e = .returned (.bool b) ∧ Below w.heap.size w w' := by
  obtain ⟨a1, c1, rfl⟩ := h1.shape
  obtain ⟨a2, c2, rfl⟩ := h2.shape
  have hl1 : xss.length ≤ maxLen := (let ⟨_, h⟩ := h1.ex; by have := h.outer.len; have := h.len; simp at *; omega)
  unfold maxLen at hl1
  obtain ⟨B, hB⟩ : ∃ B, w.heap.size = B := ⟨_, rfl⟩
  have HB := Lib.hid hb
  clear hb
  by_cases hlen : xss.length = yss.length
  case neg =>
    have hd : ((xss.length : Int) != yss.length) = true := by rw [bne_iff_ne]; omega
    have HF : Hid (b = false) := Lib.hid (by rw [← HB.out]; exact decide_eq_false fun h => hlen (by rw [h]))
    clear hlen
    go_enter Try.func36, Try.ntmps36
    go_wp2_with fail
    go_ret
    exact ⟨ret_bool HF.out.symm, Below.refl _ _⟩
  case pos =>
    have hd : ((xss.length : Int) != yss.length) = false := by simp [hlen]
    have HL := Lib.hid hlen
    have hbr : Below B w w := Below.refl _ _
    clear hlen
    go_enter Try.func36, Try.ntmps36
    go_wp2_with fail
    go_loopw [17] (fun i wr => ∃ k : Nat, k ≤ xss.length ∧ i = .int .i64 k ∧ Hid (xss.take k = yss.take k) ∧ Below B w wr) (fun i _ => xss.length - (intOf i).toNat)
    case atStart => exact ⟨0, Nat.zero_le _, rfl, Lib.hid (by simp), hbr⟩
    case round =>
      clear hbr
      obtain ⟨k, hk, rfl, HK, hb⟩ := hrel
      have hsz := hb.size
      by_cases hlt : k < xss.length
      · have hlt2 : k < yss.length := by have := HL.out; omega
        obtain ⟨b1, o1, r1, q1, xs, rfl, hc1, hx1, HX⟩ := RdSS.rowAtL' (h1.below hb hB) hlt
        obtain ⟨b2, o2, r2, q2, ys, rfl, hc2, hy1, HY⟩ := RdSS.rowAtL' (h2.below hb hB) hlt2
        obtain ⟨q, hq⟩ : ∃ q, decide (xs = ys) = q := ⟨_, rfl⟩
        have HC := Lib.hid (equalI_any _ _ xs ys wr hx1 hy1)
        rw [hq] at HC
        have HQ := Lib.hid hq
        clear hq hx1 hy1
        go_wp2_with fail
        refine HC.out.mono ?_
        rintro e1 w1 ⟨rfl, hb1⟩
        have hb2 := hb.trans (hb1.mono (by omega))
        clear hb1 hb HC hc1 hc2
        cases q with
        | true =>
          have HN := Lib.hid (map_take HK.out HX.out HY.out (of_decide_eq_true HQ.out))
          go_wp2_with fail
          go_roundw
          case rel => exact ⟨k + 1, by omega, by go_num, HN, hb2⟩
          case measure => simp [intOf]; omega
        | false =>
          have HF : Hid (b = false) := Lib.hid (by
            rw [← HB.out]
            refine decide_eq_false fun h => of_decide_eq_false HQ.out ?_
            subst h
            have := HX.out.symm.trans HY.out
            exact Option.some.inj this)
          go_wp2_with fail
          go_ret
          exact ⟨ret_bool HF.out.symm, by rw [hB]; exact hb2⟩
      · obtain rfl : k = xss.length := by omega
        have HF : Hid (b = true) := Lib.hid (by
          rw [← HB.out]
          have h := HK.out
          rw [List.take_length, HL.out, List.take_length] at h
          exact decide_eq_true h)
        go_wp2_with fail
        go_ret
        exact ⟨ret_bool HF.out.symm, by rw [hB]; exact hb⟩

def sameB (xss yss : List (List Int)) : Bool := okB xss && (okB yss && decide (xss = yss))

end Go.Proofs.Ytpfhflkpnjkgkaa
/-
  The cursor of the reference: 'l1New', 'l1Byte', 'l1Below', 'l1From', 'l1Once'.
-/

namespace Go.Proofs.Ytpfhflkpnjkgkaa
open Go.RowKit

/-- Block D holds a cursor over the bytes of v. -/
structure Cur (D : Nat) (v : Value) (n : Nat) (w : World) : Prop where
  ex : ∃ (i : Nat) (h : Int), VC 58 D #[v, .int .i64 i, .int .i64 h] w ∧ i ≤ n
theorem Cur.upd {D : Nat} {v : Value} {n : Nat} {w w' : World} {lo hi : Nat} (h : Cur D v n w) (u : Upd lo hi w w') (hd : D < lo ∨ hi ≤ D ∨ hi ≤ lo) : Cur D v n w' := by
  obtain ⟨i, x, hv, hi'⟩ := h.ex
  exact ⟨i, x, hv.upd u hd, hi'⟩
theorem Cur.lt {D : Nat} {v : Value} {n : Nat} {w : World} (h : Cur D v n w) : D < w.heap.size := by
  obtain ⟨i, x, hv, _⟩ := h.ex
  exact hv.lt
theorem Cur.belowAt {D B : Nat} {v : Value} {n : Nat} {w w' : World} (h : Cur D v n w) (hb : Below B w w') (hB : D < B) : Cur D v n w' := by
  obtain ⟨i, x, hv, hi⟩ := h.ex
  exact ⟨i, x, hv.belowAt hb hB, hi⟩
/-- The low bits of any number. -/
theorem and_low (x : Int) (m : Nat) (hm : m < 2147483648) : ∃ r : Nat, bits .and .i64 x (m : Int) = (r : Int) ∧ r ≤ m := by
  refine ⟨(BitVec.ofInt 64 x &&& BitVec.ofInt 64 (m : Int)).toNat, ?_, ?_⟩
  · show IntKind.i64.wrap ((BitVec.ofInt 64 x &&& BitVec.ofInt 64 (m : Int)).toNat : Int) = _
    have hle : (BitVec.ofInt 64 x &&& BitVec.ofInt 64 (m : Int)).toNat ≤ m := by
      rw [BitVec.toNat_and]
      have : (BitVec.ofInt 64 (m : Int)).toNat = m := by simp; omega
      rw [this]
      exact Nat.and_le_right
    rw [IntKind.wrap_i64]
    omega
  · rw [BitVec.toNat_and]
    have : (BitVec.ofInt 64 (m : Int)).toNat = m := by simp; omega
    rw [this]
    exact Nat.and_le_right

set_option maxHeartbeats 2000000 in
theorem l1New_any (v : Value) (bs : List UInt8) (hl : bs.length ≤ 4096) (w : World) (hr : RdB v bs w) :
    Calls Try.prog 19 #[v] w fun e w' => e = .returned (.pointer (some ⟨w.heap.size, 0, none⟩)) ∧ Cur w.heap.size v bs.length w' ∧ Below w.heap.size w w' := by
  obtain ⟨a, c, rfl, -, -, -⟩ := id hr
  obtain ⟨B, hB⟩ : ∃ B, w.heap.size = B := ⟨_, rfl⟩
  go_enter Try.func19, Try.ntmps19
  go_wp2_with fail
  go_loopw [3, 4] (fun h i wr => ∃ (k x : Nat), k ≤ bs.length ∧ x ≤ 1073741823 ∧ i = .int .i64 k ∧ h = .int .i64 x ∧ w = wr) (fun _ i _ => bs.length - (intOf i).toNat)
  case atStart => exact ⟨0, 580031 + bs.length, Nat.zero_le _, by omega, rfl, by first | rfl | (congr 1), rfl⟩
  case round =>
    obtain ⟨k, x, hk, hx, rfl, rfl, rfl⟩ := hrel
    by_cases hlt : k < bs.length
    · obtain ⟨yb, yo, y, hy, rfl, hc⟩ := RdB.byteAt hr hlt
      have hli : (k : Int) < (bs.length : Int) := by omega
      obtain ⟨r, hr1, hr2⟩ := and_low ((x : Int) * 331 + (y : Int) + 11) 1073741823 (by decide)
      have hr1' : bits BinOp.and IntKind.i64 ((x : Int) * 331 + (y : Int) + 11) 1073741823 = (r : Int) := hr1
      clear hr1
      go_wp2_with fail
      go_roundw
      case rel => exact ⟨k + 1, r, by omega, hr2, by go_num, by first | rfl | (rw [hr1']), by first | rfl | trivial⟩
      case measure => simp [intOf]; omega
    · obtain rfl : k = bs.length := by omega
      have hbN : Below B w (w.alloc (.cells #[.slice a bs.length c, .int .i64 0, .int .i64 (x : Int)] 58)) := by rw [← hB]; exact below_alloc' _ _
      have V0 : VC 58 B #[.slice a bs.length c, .int .i64 0, .int .i64 (x : Int)] (w.alloc (.cells #[.slice a bs.length c, .int .i64 0, .int .i64 (x : Int)] 58)) := VC.new hB
      have HB := Lib.hid hbN
      have HV := Lib.hid V0
      clear hbN V0
      go_wp2_with fail
      go_ret
      exact ⟨by first | rfl | (rw [hB]; rfl), by rw [hB]; exact ⟨⟨0, x, HV.out, Nat.zero_le _⟩⟩, by rw [hB]; exact HB.out⟩

set_option maxHeartbeats 2000000 in
theorem l1Byte_any (D : Nat) (v : Value) (bs : List UInt8) (w : World) (hd : Cur D v bs.length w) (hr : RdB v bs w) (hl : bs.length ≤ 4096) (hvD : Far D v bs) :
    Calls Try.prog 44 #[.pointer (some ⟨D, 0, none⟩)] w fun e w' => ∃ x : Nat, e = .returned (.int .i64 x) ∧ x < 256 ∧ Cur D v bs.length w' ∧ Upd D (D + 1) w w' := by
  obtain ⟨a, c, rfl, -, -, -⟩ := id hr
  obtain ⟨i, h, V, hi⟩ := hd.ex
  obtain ⟨h2, hh2⟩ : ∃ x : Int, wrap64 (wrap64 (h * 6364136223846793005) + 1442695040888963407) = x := ⟨_, rfl⟩
  obtain ⟨x0, hx0, hx1⟩ := and_low (bits .xor .i64 (h2 / 8589934592) (h2 / 35184372088832)) 255 (by decide)
  have hx0' : bits BinOp.and IntKind.i64 (bits .xor .i64 (h2 / 8589934592) (h2 / 35184372088832)) 255 = (x0 : Int) := hx0
  obtain ⟨W1, hW1⟩ : ∃ W1, W1 = w.setCell ⟨D, 2, none⟩ (.int .i64 h2) := ⟨_, rfl⟩
  have V1 : VC 58 D #[.slice a bs.length c, .int .i64 i, .int .i64 h2] W1 := by rw [hW1]; exact V.putAt 2 _
  have u1 : Upd D (D + 1) w W1 := by rw [hW1]; exact Upd.setAt _ _ _ _
  have hr1 : RdB (.slice a bs.length c) bs W1 := hr.upd u1 hvD
  have g2 := V.getAt (i := 2) rfl
  have f2 := V.frAt 2
  have HV1 := Lib.hid V1
  have HR1 := Lib.hid hr1
  have HU1 := Lib.hid u1
  have hil : (i : Int) ≤ (bs.length : Int) := by omega
  clear V V1 u1 hr1 hr hd hx0
  go_enter Try.func44, Try.ntmps44
  go_wp2_with fail
  rw [← hW1]
  have p2 := HV1.out.getAt (i := 2) rfl
  clear hW1 g2 f2 hh2
  go_quiet (fail)
  have hWW := HV1.out
  generalize hWa : W1.drewN nq = Wa at *
  have Va : VC 58 D #[.slice a bs.length c, .int .i64 i, .int .i64 h2] Wa := by rw [← hWa]; unfold VC; rw [heap_drewN']; exact hWW
  have ua : Upd D (D + 1) w Wa := by rw [← hWa]; exact HU1.out.trans ((upd_drewN nq W1).wide (by omega))
  have HRa : Hid (RdB (.slice a bs.length c) bs Wa) := Lib.hid (by rw [← hWa]; exact Row.keep HR1.out fun b _ _ => by rw [heap_drewN'])
  clear hWa p2 hWW
  have p0 := Va.getAt (i := 0) rfl
  have p1 := Va.getAt (i := 1) rfl
  have HVa := Lib.hid Va
  have HUa := Lib.hid ua
  clear Va ua
  by_cases hlt : i < bs.length
  · have hli : (i : Int) < (bs.length : Int) := by omega
    obtain ⟨yb, yo, y, hy, rfl, hc⟩ := RdB.byteAt HRa.out hlt
    obtain ⟨x1, hx2, hx3⟩ := and_low ((x0 : Int) + (y : Int)) 255 (by decide)
    have hx2' : bits BinOp.and IntKind.i64 ((x0 : Int) + (y : Int)) 255 = (x1 : Int) := hx2
    clear hx2
    go_wp2_with fail
    go_quiet (fail)
    generalize hWb : Wa.drewN nq = Wb at *
    have Vb : VC 58 D #[.slice (some ⟨yb, yo, none⟩) bs.length c, .int .i64 i, .int .i64 h2] Wb := by rw [← hWb]; unfold VC; rw [heap_drewN']; exact HVa.out
    have ub : Upd D (D + 1) w Wb := by rw [← hWb]; exact HUa.out.trans ((upd_drewN nq Wa).wide (by omega))
    have hcb : Wb.cell? ⟨yb, yo + i, none⟩ = some (.int .u8 (y : Int)) := by rw [← hWb]; exact (cell_drewN' nq Wa _).trans hc
    clear hWb p0 p1 hc
    have q0 := Vb.getAt (i := 0) rfl
    have q1 := Vb.getAt (i := 1) rfl
    have HVb := Lib.hid Vb
    have HUb := Lib.hid ub
    clear Vb ub
    go_wp2_with fail
    go_quiet (fail)
    generalize hWc : Wb.drewN nq = Wc at *
    have Vc : VC 58 D #[.slice (some ⟨yb, yo, none⟩) bs.length c, .int .i64 i, .int .i64 h2] Wc := by rw [← hWc]; unfold VC; rw [heap_drewN']; exact HVb.out
    have uc : Upd D (D + 1) w Wc := by rw [← hWc]; exact HUb.out.trans ((upd_drewN nq Wb).wide (by omega))
    clear hWc q0 q1 hcb
    have r1 := Vc.getAt (i := 1) rfl
    have s1 := Vc.frAt 1
    have HVc := Lib.hid (Vc.putAt 1 (.int .i64 ((i : Int) + 1)))
    have HUc := Lib.hid (uc.trans (Upd.setAt D 1 Wc (.int .i64 ((i : Int) + 1))))
    clear Vc uc
    go_wp2_with fail
    go_ret
    exact ⟨x1, rfl, by omega, ⟨⟨i + 1, h2, HVc.out, by omega⟩⟩, HUc.out⟩
  · have hli : ¬ (i : Int) < (bs.length : Int) := by omega
    go_wp2_with fail
    go_quiet (fail)
    have Vb : VC 58 D #[.slice a bs.length c, .int .i64 i, .int .i64 h2] (Wa.drewN nq) := by unfold VC; rw [heap_drewN']; exact HVa.out
    have ub : Upd D (D + 1) w (Wa.drewN nq) := HUa.out.trans ((upd_drewN nq Wa).wide (by omega))
    go_wp2_with fail
    go_ret
    exact ⟨x0, rfl, by omega, ⟨⟨i, h2, Vb, hi⟩⟩, ub⟩

set_option maxHeartbeats 2000000 in
theorem l1Below_any (D : Nat) (v : Value) (bs : List UInt8) (n : Nat) (N : Int) (hN : N = n) (hn0 : 0 < n) (hn : n ≤ 256) (w : World) (hd : Cur D v bs.length w) (hr : RdB v bs w) (hl : bs.length ≤ 4096) (hvD : Far D v bs) :
    Calls Try.prog 29 #[.pointer (some ⟨D, 0, none⟩), .int .i64 N] w fun e w' => ∃ x : Nat, e = .returned (.int .i64 x) ∧ x < n ∧ Cur D v bs.length w' ∧ Upd D (D + 1) w w' := by
  subst hN
  have HBY := Lib.hid (l1Byte_any D v bs w hd hr hl hvD)
  have h1 : ¬ (n : Int) ≤ 0 := by omega
  have h2 : (n : Int) ≤ 256 := by omega
  go_enter Try.func29, Try.ntmps29
  go_wp2_with fail
  refine HBY.out.mono ?_
  rintro e w1 ⟨x, rfl, hx, hc, u⟩
  have HC := Lib.hid hc
  have HU := Lib.hid u
  obtain ⟨y, hy⟩ : ∃ y : Nat, x % n = y := ⟨_, rfl⟩
  have hyn : y < n := by rw [← hy]; exact Nat.mod_lt _ hn0
  have hyI : Int.tmod (x : Int) (n : Int) = (y : Int) := by rw [Int.tmod_eq_emod_of_nonneg (by omega), ← hy]; simp
  have hyE : (x : Int) % (n : Int) = (y : Int) := by rw [← hy]; simp
  have hne : (n : Int) ≠ 0 := by omega
  clear hc u HBY hy
  go_wp2_with fail
  go_ret
  exact ⟨y, by first | rfl | (rw [hyI]) | (rw [hyE]), hyn, HC.out, HU.out⟩

theorem l1Once_any (D : Nat) (v : Value) (bs : List UInt8) (n : Nat) (N : Int) (hN : N = n) (hn0 : 0 < n) (hn : n ≤ 256) (w : World) (hd : Cur D v bs.length w) (hr : RdB v bs w) (hl : bs.length ≤ 4096) (hvD : Far D v bs) :
    Calls Try.prog 22 #[.pointer (some ⟨D, 0, none⟩), .int .i64 N] w fun e w' => ∃ b : Bool, e = .returned (.bool b) ∧ Cur D v bs.length w' ∧ Upd D (D + 1) w w' := by
  subst hN
  have HBY := Lib.hid (l1Below_any D v bs n n rfl hn0 hn w hd hr hl hvD)
  go_enter Try.func22, Try.ntmps22
  go_wp2_with fail
  refine HBY.out.mono ?_
  rintro e w1 ⟨x, rfl, hx, hc, u⟩
  have HC := Lib.hid hc
  have HU := Lib.hid u
  clear hc u HBY
  go_wp2_with fail
  go_ret
  exact ⟨_, rfl, HC.out, HU.out⟩

theorem l1From_any (D : Nat) (v : Value) (bs : List UInt8) (lo hi : Int) (n : Nat) (hN : hi - lo + 1 = n) (hlo : -1000 ≤ lo) (hhi : hi ≤ 1000) (hn0 : 0 < n) (hn : n ≤ 256) (w : World) (hd : Cur D v bs.length w) (hr : RdB v bs w) (hl : bs.length ≤ 4096) (hvD : Far D v bs) :
    Calls Try.prog 23 #[.pointer (some ⟨D, 0, none⟩), .int .i64 lo, .int .i64 hi] w fun e w' => ∃ x : Int, e = .returned (.int .i64 x) ∧ lo ≤ x ∧ x ≤ hi ∧ Cur D v bs.length w' ∧ Upd D (D + 1) w w' := by
  have HBY := Lib.hid (l1Below_any D v bs n n rfl hn0 hn w hd hr hl hvD)
  have HN := Lib.hid hN
  go_enter Try.func23, Try.ntmps23
  go_wp2_with fail
  refine HBY.out.mono ?_
  rintro e w1 ⟨x, rfl, hx, hc, u⟩
  have HC := Lib.hid hc
  have HU := Lib.hid u
  clear hc u HBY
  go_wp2_with fail
  go_ret
  have hn := HN.out
  exact ⟨lo + x, by first | rfl | (congr 2; omega), by omega, by omega, HC.out, HU.out⟩

end Go.Proofs.Ytpfhflkpnjkgkaa
