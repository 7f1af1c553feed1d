import Derived.Test.YtbhobmngnjfgfaaDoorGq16
/-
  The cursor of the reference: 'l1New', 'l1Byte', 'l1Below', 'l1From', 'l1Once'.
-/

namespace Go.Proofs.YtbhobmngnjfgfaaDoor
open Go.RowKit

/-- Block D holds a cursor over the bytes of v. -/
structure Cur (D : Nat) (v : Value) (n : Nat) (w : World) : Prop where
  ex : ∃ (i : Nat) (h : Int), VC 195 D #[v, .int .i64 i, .int .i64 h] w ∧ i ≤ n
theorem Cur.upd {D : Nat} {v : Value} {n : Nat} {w w' : World} {lo hi : Nat} (h : Cur D v n w) (u : Upd lo hi w w') (hd : D < lo ∨ hi ≤ D ∨ hi ≤ lo) : Cur D v n w' := by
  obtain ⟨i, x, hv, hi'⟩ := h.ex
  exact ⟨i, x, hv.upd u hd, hi'⟩
theorem Cur.lt {D : Nat} {v : Value} {n : Nat} {w : World} (h : Cur D v n w) : D < w.heap.size := by
  obtain ⟨i, x, hv, _⟩ := h.ex
  exact hv.lt
theorem Cur.belowAt {D B : Nat} {v : Value} {n : Nat} {w w' : World} (h : Cur D v n w) (hb : Below B w w') (hB : D < B) : Cur D v n w' := by
  obtain ⟨i, x, hv, hi⟩ := h.ex
  exact ⟨i, x, hv.belowAt hb hB, hi⟩
/-- The low bits of any number. -/
theorem and_low (x : Int) (m : Nat) (hm : m < 2147483648) : ∃ r : Nat, bits .and .i64 x (m : Int) = (r : Int) ∧ r ≤ m := by
  refine ⟨(BitVec.ofInt 64 x &&& BitVec.ofInt 64 (m : Int)).toNat, ?_, ?_⟩
  · show IntKind.i64.wrap ((BitVec.ofInt 64 x &&& BitVec.ofInt 64 (m : Int)).toNat : Int) = _
    have hle : (BitVec.ofInt 64 x &&& BitVec.ofInt 64 (m : Int)).toNat ≤ m := by
      rw [BitVec.toNat_and]
      have : (BitVec.ofInt 64 (m : Int)).toNat = m := by simp; omega
      rw [this]
      exact Nat.and_le_right
    rw [IntKind.wrap_i64]
    omega
  · rw [BitVec.toNat_and]
    have : (BitVec.ofInt 64 (m : Int)).toNat = m := by simp; omega
    rw [this]
    exact Nat.and_le_right

set_option maxHeartbeats 2000000 in
theorem l1New_any (v : Value) (bs : List UInt8) (hl : bs.length ≤ 4096) (w : World) (hr : RdB v bs w) :
    Calls Tryd.prog 141 #[v] w fun e w' => e = .returned (.pointer (some ⟨w.heap.size, 0, none⟩)) ∧ Cur w.heap.size v bs.length w' ∧ Below w.heap.size w w' := by
  obtain ⟨a, c, rfl, -, -, -⟩ := id hr
  obtain ⟨B, hB⟩ : ∃ B, w.heap.size = B := ⟨_, rfl⟩
  go_enter Tryd.func141, Tryd.ntmps141
  go_wp2_with fail
  go_loopw [3, 4] (fun h i wr => ∃ (k x : Nat), k ≤ bs.length ∧ x ≤ 1073741823 ∧ i = .int .i64 k ∧ h = .int .i64 x ∧ w = wr) (fun _ i _ => bs.length - (intOf i).toNat)
  case atStart => exact ⟨0, 580031 + bs.length, Nat.zero_le _, by omega, rfl, by first | rfl | (congr 1), rfl⟩
  case round =>
    obtain ⟨k, x, hk, hx, rfl, rfl, rfl⟩ := hrel
    by_cases hlt : k < bs.length
    · obtain ⟨yb, yo, y, hy, rfl, hc⟩ := RdB.byteAt hr hlt
      have hli : (k : Int) < (bs.length : Int) := by omega
      obtain ⟨r, hr1, hr2⟩ := and_low ((x : Int) * 331 + (y : Int) + 11) 1073741823 (by decide)
      have hr1' : bits BinOp.and IntKind.i64 ((x : Int) * 331 + (y : Int) + 11) 1073741823 = (r : Int) := hr1
      clear hr1
      go_wp2_with fail
      go_roundw
      case rel => exact ⟨k + 1, r, by omega, hr2, by go_num, by first | rfl | (rw [hr1']), by first | rfl | trivial⟩
      case measure => simp [intOf]; omega
    · obtain rfl : k = bs.length := by omega
      have hbN : Below B w (w.alloc (.cells #[.slice a bs.length c, .int .i64 0, .int .i64 (x : Int)] 195)) := by rw [← hB]; exact below_alloc' _ _
      have V0 : VC 195 B #[.slice a bs.length c, .int .i64 0, .int .i64 (x : Int)] (w.alloc (.cells #[.slice a bs.length c, .int .i64 0, .int .i64 (x : Int)] 195)) := VC.new hB
      have HB := Lib.hid hbN
      have HV := Lib.hid V0
      clear hbN V0
      go_wp2_with fail
      go_ret
      exact ⟨by first | rfl | (rw [hB]; rfl), by rw [hB]; exact ⟨⟨0, x, HV.out, Nat.zero_le _⟩⟩, by rw [hB]; exact HB.out⟩

set_option maxHeartbeats 2000000 in
theorem l1Byte_any (D : Nat) (v : Value) (bs : List UInt8) (w : World) (hd : Cur D v bs.length w) (hr : RdB v bs w) (hl : bs.length ≤ 4096) (hvD : Far D v bs) :
    Calls Tryd.prog 186 #[.pointer (some ⟨D, 0, none⟩)] w fun e w' => ∃ x : Nat, e = .returned (.int .i64 x) ∧ x < 256 ∧ Cur D v bs.length w' ∧ Upd D (D + 1) w w' := by
  obtain ⟨a, c, rfl, -, -, -⟩ := id hr
  obtain ⟨i, h, V, hi⟩ := hd.ex
  obtain ⟨h2, hh2⟩ : ∃ x : Int, wrap64 (wrap64 (h * 6364136223846793005) + 1442695040888963407) = x := ⟨_, rfl⟩
  obtain ⟨x0, hx0, hx1⟩ := and_low (bits .xor .i64 (h2 / 8589934592) (h2 / 35184372088832)) 255 (by decide)
  have hx0' : bits BinOp.and IntKind.i64 (bits .xor .i64 (h2 / 8589934592) (h2 / 35184372088832)) 255 = (x0 : Int) := hx0
  obtain ⟨W1, hW1⟩ : ∃ W1, W1 = w.setCell ⟨D, 2, none⟩ (.int .i64 h2) := ⟨_, rfl⟩
  have V1 : VC 195 D #[.slice a bs.length c, .int .i64 i, .int .i64 h2] W1 := by rw [hW1]; exact V.putAt 2 _
  have u1 : Upd D (D + 1) w W1 := by rw [hW1]; exact Upd.setAt _ _ _ _
  have hr1 : RdB (.slice a bs.length c) bs W1 := hr.upd u1 hvD
  have g2 := V.getAt (i := 2) rfl
  have f2 := V.frAt 2
  have HV1 := Lib.hid V1
  have HR1 := Lib.hid hr1
  have HU1 := Lib.hid u1
  have hil : (i : Int) ≤ (bs.length : Int) := by omega
  clear V V1 u1 hr1 hr hd hx0
  go_enter Tryd.func186, Tryd.ntmps186
  go_wp2_with fail
  rw [← hW1]
  have p2 := HV1.out.getAt (i := 2) rfl
  clear hW1 g2 f2 hh2
  go_quiet (fail)
  have hWW := HV1.out
  generalize hWa : W1.drewN nq = Wa at *
  have Va : VC 195 D #[.slice a bs.length c, .int .i64 i, .int .i64 h2] Wa := by rw [← hWa]; unfold VC; rw [heap_drewN']; exact hWW
  have ua : Upd D (D + 1) w Wa := by rw [← hWa]; exact HU1.out.trans ((upd_drewN nq W1).wide (by omega))
  have HRa : Hid (RdB (.slice a bs.length c) bs Wa) := Lib.hid (by rw [← hWa]; exact Row.keep HR1.out fun b _ _ => by rw [heap_drewN'])
  clear hWa p2 hWW
  have p0 := Va.getAt (i := 0) rfl
  have p1 := Va.getAt (i := 1) rfl
  have HVa := Lib.hid Va
  have HUa := Lib.hid ua
  clear Va ua
  by_cases hlt : i < bs.length
  · have hli : (i : Int) < (bs.length : Int) := by omega
    obtain ⟨yb, yo, y, hy, rfl, hc⟩ := RdB.byteAt HRa.out hlt
    obtain ⟨x1, hx2, hx3⟩ := and_low ((x0 : Int) + (y : Int)) 255 (by decide)
    have hx2' : bits BinOp.and IntKind.i64 ((x0 : Int) + (y : Int)) 255 = (x1 : Int) := hx2
    clear hx2
    go_wp2_with fail
    go_quiet (fail)
    generalize hWb : Wa.drewN nq = Wb at *
    have Vb : VC 195 D #[.slice (some ⟨yb, yo, none⟩) bs.length c, .int .i64 i, .int .i64 h2] Wb := by rw [← hWb]; unfold VC; rw [heap_drewN']; exact HVa.out
    have ub : Upd D (D + 1) w Wb := by rw [← hWb]; exact HUa.out.trans ((upd_drewN nq Wa).wide (by omega))
    have hcb : Wb.cell? ⟨yb, yo + i, none⟩ = some (.int .u8 (y : Int)) := by rw [← hWb]; exact (cell_drewN' nq Wa _).trans hc
    clear hWb p0 p1 hc
    have q0 := Vb.getAt (i := 0) rfl
    have q1 := Vb.getAt (i := 1) rfl
    have HVb := Lib.hid Vb
    have HUb := Lib.hid ub
    clear Vb ub
    go_wp2_with fail
    go_quiet (fail)
    generalize hWc : Wb.drewN nq = Wc at *
    have Vc : VC 195 D #[.slice (some ⟨yb, yo, none⟩) bs.length c, .int .i64 i, .int .i64 h2] Wc := by rw [← hWc]; unfold VC; rw [heap_drewN']; exact HVb.out
    have uc : Upd D (D + 1) w Wc := by rw [← hWc]; exact HUb.out.trans ((upd_drewN nq Wb).wide (by omega))
    clear hWc q0 q1 hcb
    have r1 := Vc.getAt (i := 1) rfl
    have s1 := Vc.frAt 1
    have HVc := Lib.hid (Vc.putAt 1 (.int .i64 ((i : Int) + 1)))
    have HUc := Lib.hid (uc.trans (Upd.setAt D 1 Wc (.int .i64 ((i : Int) + 1))))
    clear Vc uc
    go_wp2_with fail
    go_ret
    exact ⟨x1, rfl, by omega, ⟨⟨i + 1, h2, HVc.out, by omega⟩⟩, HUc.out⟩
  · have hli : ¬ (i : Int) < (bs.length : Int) := by omega
    go_wp2_with fail
    go_quiet (fail)
    have Vb : VC 195 D #[.slice a bs.length c, .int .i64 i, .int .i64 h2] (Wa.drewN nq) := by unfold VC; rw [heap_drewN']; exact HVa.out
    have ub : Upd D (D + 1) w (Wa.drewN nq) := HUa.out.trans ((upd_drewN nq Wa).wide (by omega))
    go_wp2_with fail
    go_ret
    exact ⟨x0, rfl, by omega, ⟨⟨i, h2, Vb, hi⟩⟩, ub⟩

set_option maxHeartbeats 2000000 in
theorem l1Below_any (D : Nat) (v : Value) (bs : List UInt8) (n : Nat) (N : Int) (hN : N = n) (hn0 : 0 < n) (hn : n ≤ 256) (w : World) (hd : Cur D v bs.length w) (hr : RdB v bs w) (hl : bs.length ≤ 4096) (hvD : Far D v bs) :
    Calls Tryd.prog 143 #[.pointer (some ⟨D, 0, none⟩), .int .i64 N] w fun e w' => ∃ x : Nat, e = .returned (.int .i64 x) ∧ x < n ∧ Cur D v bs.length w' ∧ Upd D (D + 1) w w' := by
  subst hN
  have HBY := Lib.hid (l1Byte_any D v bs w hd hr hl hvD)
  have h1 : ¬ (n : Int) ≤ 0 := by omega
  have h2 : (n : Int) ≤ 256 := by omega
  go_enter Tryd.func143, Tryd.ntmps143
  go_wp2_with fail
  refine HBY.out.mono ?_
  rintro e w1 ⟨x, rfl, hx, hc, u⟩
  have HC := Lib.hid hc
  have HU := Lib.hid u
  obtain ⟨y, hy⟩ : ∃ y : Nat, x % n = y := ⟨_, rfl⟩
  have hyn : y < n := by rw [← hy]; exact Nat.mod_lt _ hn0
  have hyI : Int.tmod (x : Int) (n : Int) = (y : Int) := by rw [Int.tmod_eq_emod_of_nonneg (by omega), ← hy]; simp
  have hyE : (x : Int) % (n : Int) = (y : Int) := by rw [← hy]; simp
  have hne : (n : Int) ≠ 0 := by omega
  clear hc u HBY hy
  go_wp2_with fail
  go_ret
  exact ⟨y, by first | rfl | (rw [hyI]) | (rw [hyE]), hyn, HC.out, HU.out⟩

theorem l1Once_any (D : Nat) (v : Value) (bs : List UInt8) (n : Nat) (N : Int) (hN : N = n) (hn0 : 0 < n) (hn : n ≤ 256) (w : World) (hd : Cur D v bs.length w) (hr : RdB v bs w) (hl : bs.length ≤ 4096) (hvD : Far D v bs) :
    Calls Tryd.prog 144 #[.pointer (some ⟨D, 0, none⟩), .int .i64 N] w fun e w' => ∃ b : Bool, e = .returned (.bool b) ∧ Cur D v bs.length w' ∧ Upd D (D + 1) w w' := by
  subst hN
  have HBY := Lib.hid (l1Below_any D v bs n n rfl hn0 hn w hd hr hl hvD)
  go_enter Tryd.func144, Tryd.ntmps144
  go_wp2_with fail
  refine HBY.out.mono ?_
  rintro e w1 ⟨x, rfl, hx, hc, u⟩
  have HC := Lib.hid hc
  have HU := Lib.hid u
  clear hc u HBY
  go_wp2_with fail
  go_ret
  exact ⟨_, rfl, HC.out, HU.out⟩

theorem l1From_any (D : Nat) (v : Value) (bs : List UInt8) (lo hi : Int) (n : Nat) (hN : hi - lo + 1 = n) (hlo : -1000 ≤ lo) (hhi : hi ≤ 1000) (hn0 : 0 < n) (hn : n ≤ 256) (w : World) (hd : Cur D v bs.length w) (hr : RdB v bs w) (hl : bs.length ≤ 4096) (hvD : Far D v bs) :
    Calls Tryd.prog 142 #[.pointer (some ⟨D, 0, none⟩), .int .i64 lo, .int .i64 hi] w fun e w' => ∃ x : Int, e = .returned (.int .i64 x) ∧ lo ≤ x ∧ x ≤ hi ∧ Cur D v bs.length w' ∧ Upd D (D + 1) w w' := by
  have HBY := Lib.hid (l1Below_any D v bs n n rfl hn0 hn w hd hr hl hvD)
  have HN := Lib.hid hN
  go_enter Tryd.func142, Tryd.ntmps142
  go_wp2_with fail
  refine HBY.out.mono ?_
  rintro e w1 ⟨x, rfl, hx, hc, u⟩
  have HC := Lib.hid hc
  have HU := Lib.hid u
  clear hc u HBY
  go_wp2_with fail
  go_ret
  have hn := HN.out
  exact ⟨lo + x, by first | rfl | (congr 2; omega), by omega, by omega, HC.out, HU.out⟩

set_option maxHeartbeats 2000000 in
theorem drawSays_any (v : Value) (bs : List UInt8) (hl : bs.length ≤ 4096) (w : World) (hr : RdB v bs w) :
    Calls Tryd.prog 65 #[v] w fun e w' => ∃ x y z : Int, e = .returned (.agg #[.int .i64 x, .int .i64 y, .int .i64 z]) ∧ (-1 ≤ x ∧ x ≤ 12) ∧ (0 ≤ y ∧ y ≤ 1) ∧ (-2 ≤ z ∧ z ≤ 9) ∧ Below w.heap.size w w' := by
  obtain ⟨A, hA⟩ : ∃ A, w.heap.size = A := ⟨_, rfl⟩
  obtain ⟨W0, hW0⟩ : ∃ W, W = w.alloc (.cells #[.int .i64 0, .int .i64 0, .int .i64 0] 25) := ⟨_, rfl⟩
  have b0 : Below A w W0 := by rw [hW0, ← hA]; exact below_alloc' _ _
  have V0 : VC 25 A #[.int .i64 0, .int .i64 0, .int .i64 0] W0 := by rw [hW0]; exact VC.new hA
  have hz0 : W0.heap.size = A + 1 := by rw [hW0]; simp [hA]
  have hr0 : RdB v bs W0 := Row.below hr (by rw [hA]; exact b0)
  have HNEW := Lib.hid (l1New_any v bs hl W0 hr0)
  have hfar0 : Far (A + 1) v bs := hz0 ▸ hr0.far
  clear hr
  go_enter Tryd.func65, Tryd.ntmps65
  go_wp2_with fail
  try rw [← hW0]
  clear hW0
  refine HNEW.out.mono ?_
  rintro e w1 ⟨rfl, hc1, hb1⟩
  rw [hz0] at hc1 hb1 ⊢
  have hr1 : RdB v bs w1 := Row.below hr0 (by rw [hz0]; exact hb1)
  have V1 := V0.belowAt hb1 (by omega)
  have bb1 := b0.trans (hb1.mono (by omega))
  have hz1 : A + 1 ≤ w1.heap.size := by have := hb1.size; omega
  clear HNEW hb1 V0 b0
  go_wp2_with fail
  refine (l1From_any (A + 1) v bs (-1) 12 14 (by decide) (by decide) (by decide) (by decide) (by decide) w1 hc1 hr1 hl hfar0).mono ?_
  rintro e w2 ⟨x, rfl, hx1, hx2, hc2, u2⟩
  have hr2 := hr1.upd u2 hfar0
  have V2 := V1.upd u2 (by omega)
  have bb2 := u2.below bb1 (by omega) (by omega)
  have hz2 : w1.heap.size ≤ w2.heap.size := u2.size
  clear hc1 V1 bb1 u2
  go_wp2_with fail
  refine (l1From_any (A + 1) v bs 0 1 2 (by decide) (by decide) (by decide) (by decide) (by decide) w2 hc2 hr2 hl hfar0).mono ?_
  rintro e w3 ⟨y, rfl, hy1, hy2, hc3, u3⟩
  have hr3 := hr2.upd u3 hfar0
  have V3 := V2.upd u3 (by omega)
  have bb3 := u3.below bb2 (by omega) (by omega)
  have hz3 : w2.heap.size ≤ w3.heap.size := u3.size
  clear hc2 V2 bb2 u3
  go_wp2_with fail
  refine (l1From_any (A + 1) v bs (-2) 9 12 (by decide) (by decide) (by decide) (by decide) (by decide) w3 hc3 hr3 hl hfar0).mono ?_
  rintro e w4 ⟨z, rfl, hz1', hz2', hc4, u4⟩
  have V4 := V3.upd u4 (by omega)
  have bb4 := u4.below bb3 (by omega) (by omega)
  clear hc3 V3 bb3 u4 hc4 hr1 hr2 hr3 hr0
  have c0 := V4.getAt (i := 0) rfl
  have c1 := V4.getAt (i := 1) rfl
  have c2 := V4.getAt (i := 2) rfl
  have f0 := V4.frAt 0
  have f1 := V4.frAt 1
  have f2 := V4.frAt 2
  have HV := Lib.hid V4
  have VV := ((V4.putAt 0 (.int .i64 x)).putAt 1 (.int .i64 y)).putAt 2 (.int .i64 z)
  have HE0 := Lib.hid (VV.getAt (i := 0) (u := .int .i64 x) rfl)
  have HE1 := Lib.hid (VV.getAt (i := 1) (u := .int .i64 y) rfl)
  have HE2 := Lib.hid (VV.getAt (i := 2) (u := .int .i64 z) rfl)
  have HB := Lib.hid (((bb4.setCell (p := ⟨A, 0, none⟩) (by simp) (.int .i64 x)).setCell (p := ⟨A, 1, none⟩) (by simp) (.int .i64 y)).setCell (p := ⟨A, 2, none⟩) (by simp) (.int .i64 z))
  clear V4 bb4 VV
  go_wp2_with fail
  refine bodyPost_ret (v := .agg #[.int .i64 x, .int .i64 y, .int .i64 z]) (by simp [results, Tryd.results65, go_sem, HE0.out, HE1.out, HE2.out]) rfl ?_
  exact ⟨x, y, z, rfl, ⟨hx1, hx2⟩, ⟨hy1, hy2⟩, ⟨hz1', hz2'⟩, by rw [hA]; exact HB.out⟩
end Go.Proofs.YtbhobmngnjfgfaaDoor
