import Derived.Test.YtpfhflkpnjkgkaaCardCertNumbersJn04
import Derived.Test.YtpfhflkpnjkgkaaCardCertNumbersJn12
/-
  'DrawPartNums' of the reference: some parts.
-/


namespace Go.Proofs.Ytpfhflkpnjkgkaa
open Go.RowKit

/-- Some parts; what stood has kept. -/
def PtB (w : World) (E : Ending) (w' : World) : Prop := (∃ u ps, E = .returned u ∧ RdP u ps w' ∧ ps.length ≤ 32) ∧ Below w.heap.size w w'

set_option maxHeartbeats 4000000 in
set_option maxRecDepth 100000 in
theorem drawPartNums_any (v : Value) (bs : List UInt8) (hl : bs.length ≤ 4096) (w : World) (hr : RdB v bs w) :
    Calls Try.prog 5 #[v] w (PtB w) := by
  obtain ⟨D, hD⟩ : ∃ D, w.heap.size = D := ⟨_, rfl⟩
  have HNEW := Lib.hid (l1New_any v bs hl w hr)
  have hfar : Far D v bs := hD ▸ hr.far
  have HR := Lib.hid hr
  clear hr
  go_enter Try.func5, Try.ntmps5
  go_wp2_with fail
  refine HNEW.out.mono ?_
  rintro e w1 ⟨rfl, hc1, hb1⟩
  rw [hD] at hc1 hb1 ⊢
  have hr1 : RdB v bs w1 := Row.below HR.out (by rw [hD]; exact hb1)
  have hz1 : D < w1.heap.size := hc1.lt
  have HRW : Hid (∀ W, Upd D (D + 1) w1 W → RdB v bs W) := Lib.hid fun W h => hr1.upd h hfar
  have hgr := l1DrawAny_any D v bs w1 hc1 hr1 hl hfar
  clear hc1 HNEW hr1
  go_wp2_with fail
  refine hgr.mono ?_
  rintro e w2 ⟨⟨u, rows, rfl, hrs, -⟩, hc2, u2⟩
  have hz2 : D < w2.heap.size := hc2.lt
  have hct := coTree_any u rows w2 hrs
  clear hgr hrs
  go_wp2_with fail
  refine hct.mono ?_
  rintro e w3 ⟨⟨tv, ok, ps, rfl, hT3, hp31⟩, hb3⟩
  have hc3 := hc2.belowAt hb3 hz2
  have u3 := u2.then hb3 u2.size
  have hz3 : w2.heap.size ≤ w3.heap.size := hb3.size
  obtain ⟨ta, tc, rfl⟩ := hT3.shape
  have HT3 := Lib.hid hT3
  have hbc := l1Once_any D v bs 6 6 rfl (by decide) (by decide) w3 hc3 (HRW.out _ u3) hl hfar
  clear hct hT3 hc2 hb3
  go_wp2_with fail
  refine hbc.mono ?_
  rintro e w4 ⟨b4, rfl, hc4, u4⟩
  have HT4 := Lib.hid (HT3.out.keep fun b hb hlt => u4.block b hlt (by omega))
  have v4 := u3.trans u4
  have hz4 : w2.heap.size ≤ w4.heap.size := by have := u4.size; omega
  clear hbc hc3 u3 u4 u2
  cases b4 with
  | false =>
    have HE : Hid (PtB w (.returned (.slice ta ps.length tc)) w4) := Lib.hid ⟨⟨_, _, rfl, HT4.out.rd, by omega⟩, by rw [hD]; exact v4.below hb1 (by omega) (by omega)⟩
    clear v4 hc4
    go_wp2_with fail
    refine bodyPost_ret (v := .slice ta ps.length tc) (by simp [results, Try.results5, go_sem]) rfl ?_
    exact HE.out
  | true =>
    have hbc := l1From_any D v bs 0 5 6 (by decide) (by decide) (by decide) (by decide) (by decide) w4 hc4 (HRW.out _ v4) hl hfar
    go_wp2_with fail
    refine hbc.mono ?_
    rintro e w5 ⟨x, rfl, hx1, hx2, hc5, u5⟩
    have v5 := v4.trans u5
    have HT5 := Lib.hid (HT4.out.keep fun b hb hlt => u5.block b hlt (by omega))
    have hz5 : w2.heap.size ≤ w5.heap.size := by have := u5.size; omega
    have hbo := l1Odd_any D v bs w5 hc5 (HRW.out _ v5) hl hfar
    clear hbc hc4 u5 v4
    go_wp2_with fail
    refine hbo.mono ?_
    rintro e w6 ⟨⟨y, rfl⟩, hc6, u6⟩
    have v6 := v5.trans u6
    have HT6 := Lib.hid (HT5.out.keep fun b hb hlt => u6.block b hlt (by omega))
    have hz6 : w2.heap.size ≤ w6.heap.size := by have := u6.size; omega
    have hbc := l1From_any D v bs 0 17 18 (by decide) (by decide) (by decide) (by decide) (by decide) w6 hc6 (HRW.out _ v6) hl hfar
    clear hbo hc5 u6 v5
    go_wp2_with fail
    refine hbc.mono ?_
    rintro e w7 ⟨z, rfl, hz71, hz72, hc7, u7⟩
    obtain ⟨k, rfl⟩ := Int.eq_ofNat_of_zero_le hz71
    have hk17 : k ≤ 17 := by omega
    have v7 := v6.trans u7
    have HT7 := Lib.hid (HT6.out.keep fun b hb hlt => u7.block b hlt (by omega))
    have hz7 : w2.heap.size ≤ w7.heap.size := by have := u7.size; omega
    have HV7 := Lib.hid v7
    clear hbc hc6 u7 v6 hc7 v7
    go_wp2_with (first | (at_make; refine wpList_make w7 rfl _ _ 26 rfl w2.heap.size 2 (.int .i64 0) 8 Try.underlying26 infoI rfl .i64 .i64 (k : Int) (k : Int) k rfl rfl rfl rfl (by omega) (by unfold maxLen; omega) (by omega) ?_; intro wm hom hbm; obtain ⟨L8, hL8⟩ := (HT7.out.keep (fun b _ hlt => hbm.block b hlt)).ex; have HL8 := Lib.hid hL8; have HOM := Lib.hid hom; have HBM := Lib.hid hbm; have hzm : w2.heap.size ≤ wm.heap.size := by { have := hbm.size; omega }; clear hL8 hom hbm) | (at_builtin; refine wpList_pushP wm rfl _ _ 24 rfl w2.heap.size 48 _ _ 40 Try.underlying24 infoEP cellsP3 (.slice ta ps.length tc) ps.length (cellsQ L8) rfl HL8.out.own wm.heap.size rfl (.int .i64 x) (.int .i64 y) (.slice (some ⟨w7.heap.size, 0, none⟩) k k) rfl rfl rfl rfl (by unfold maxLen; omega) (by omega) (by omega) ?_; intro g8 c8 w8 ho8 hg8))
    have HT8 : Hid (TrP w2.heap.size (.slice (some ⟨g8, 0, none⟩) (ps.length + 1) c8) (ps ++ [(x, y, List.replicate k 0)]) w8) := Lib.hid (HL8.out.push (x := x) (y := y) (xs := List.replicate k (0 : Int)) (by simpa [ints] using HOM.out) hg8 ho8)
    have b8 : Below w2.heap.size wm w8 := (Below.refl _ _).grown hg8 hzm fun b hb => (owns_lt HL8.out.own hb).1
    refine bodyPost_ret (v := .slice (some ⟨g8, 0, none⟩) (ps.length + 1) c8) (by simp [results, Try.results5, go_sem]) rfl ?_
    exact ⟨⟨_, _, rfl, by have := HT8.out.rd; simpa using this, by simp; omega⟩, by
      rw [hD]
      exact ((HV7.out.below hb1 (by omega) (by omega)).trans (HBM.out.mono (by omega))).trans (b8.mono (by omega))⟩
end Go.Proofs.Ytpfhflkpnjkgkaa
/-
  'DrawNumsParts' of the reference: some numbers.
-/

namespace Go.Proofs.Ytpfhflkpnjkgkaa
open Go.RowKit

set_option maxHeartbeats 4000000 in
theorem l1BelowBig_any (D : Nat) (v : Value) (bs : List UInt8) (n : Nat) (N : Int) (hN : N = n) (hn : 256 < n) (hn2 : n ≤ 100000) (w : World) (hd : Cur D v bs.length w) (hr : RdB v bs w) (hl : bs.length ≤ 4096) (hvD : Far D v bs) :
    Calls Try.prog 29 #[.pointer (some ⟨D, 0, none⟩), .int .i64 N] w fun e w' => ∃ x : Nat, e = .returned (.int .i64 x) ∧ x < n ∧ Cur D v bs.length w' ∧ Upd D (D + 1) w w' := by
  subst hN
  have HBY : Hid (∀ W, Cur D v bs.length W → Upd D (D + 1) w W → Calls Try.prog 44 #[.pointer (some ⟨D, 0, none⟩)] W fun e w' => ∃ x : Nat, e = .returned (.int .i64 x) ∧ x < 256 ∧ Cur D v bs.length w' ∧ Upd D (D + 1) W w') := Lib.hid fun W h u => l1Byte_any D v bs W h (hr.upd u hvD) hl hvD
  have h1 : ¬ (n : Int) ≤ 0 := by omega
  have h2 : ¬ (n : Int) ≤ 256 := by omega
  go_enter Try.func29, Try.ntmps29
  go_wp2_with fail
  refine (HBY.out w hd (Upd.refl w)).mono ?_
  rintro e w1 ⟨x0, rfl, hx0, hc1, u1⟩
  go_wp2_with fail
  refine (HBY.out w1 hc1 u1).mono ?_
  rintro e w2 ⟨x1, rfl, hx1, hc2, u2⟩
  replace u2 := u1.trans u2
  go_wp2_with fail
  refine (HBY.out w2 hc2 u2).mono ?_
  rintro e w3 ⟨x2, rfl, hx2, hc3, u3⟩
  replace u3 := u2.trans u3
  go_wp2_with fail
  refine (HBY.out w3 hc3 u3).mono ?_
  rintro e w4 ⟨x3, rfl, hx3, hc4, u4⟩
  replace u4 := u3.trans u4
  have HC := Lib.hid hc4
  have HU := Lib.hid u4
  obtain ⟨X, hX⟩ : ∃ X : Nat, x0 * 16777216 + x1 * 65536 + x2 * 256 + x3 = X := ⟨_, rfl⟩
  obtain ⟨y, hy⟩ : ∃ y : Nat, X % n = y := ⟨_, rfl⟩
  have hyn : y < n := by rw [← hy]; exact Nat.mod_lt _ (by omega)
  have hXI : (x0 : Int) * 16777216 + (x1 : Int) * 65536 + (x2 : Int) * 256 + (x3 : Int) = (X : Int) := by omega
  have hyI : Int.tmod ((x0 : Int) * 16777216 + (x1 : Int) * 65536 + (x2 : Int) * 256 + (x3 : Int)) (n : Int) = (y : Int) := by rw [hXI, Int.tmod_eq_emod_of_nonneg (by omega), ← hy]; simp
  have hyE : (X : Int) % (n : Int) = (y : Int) := by rw [← hy]; simp
  have hne : (n : Int) ≠ 0 := by omega
  clear hc1 hc2 hc3 hc4 u1 u2 u3 u4 HBY hy
  go_wp2_with fail
  go_ret
  exact ⟨y, by first | rfl | (show Ending.returned (.int .i64 ((X : Int) % (n : Int))) = _; rw [hyE]), hyn, HC.out, HU.out⟩
theorem l1Below_all (D : Nat) (v : Value) (bs : List UInt8) (n : Nat) (N : Int) (hN : N = n) (hn : 0 < n) (hn2 : n ≤ 100000) (w : World) (hd : Cur D v bs.length w) (hr : RdB v bs w) (hl : bs.length ≤ 4096) (hvD : Far D v bs) :
    Calls Try.prog 29 #[.pointer (some ⟨D, 0, none⟩), .int .i64 N] w fun e w' => ∃ x : Nat, e = .returned (.int .i64 x) ∧ x < n ∧ Cur D v bs.length w' ∧ Upd D (D + 1) w w' := by
  by_cases h : n ≤ 256
  · exact l1Below_any D v bs n N hN hn h w hd hr hl hvD
  · exact l1BelowBig_any D v bs n N hN (by omega) hn2 w hd hr hl hvD
/-- Some numbers; what stood has kept. -/
def NsB (w : World) (E : Ending) (w' : World) : Prop := (∃ u xs, E = .returned u ∧ RdS u xs w' ∧ xs.length ≤ 1000000) ∧ Below w.heap.size w w'

set_option maxHeartbeats 4000000 in
set_option maxRecDepth 100000 in
theorem drawNumsParts_any (v : Value) (bs : List UInt8) (hl : bs.length ≤ 4096) (w : World) (hr : RdB v bs w) :
    Calls Try.prog 10 #[v] w (NsB w) := by
  obtain ⟨D, hD⟩ : ∃ D, w.heap.size = D := ⟨_, rfl⟩
  have HNEW := Lib.hid (l1New_any v bs hl w hr)
  have hfar : Far D v bs := hD ▸ hr.far
  have HR := Lib.hid hr
  clear hr
  go_enter Try.func10, Try.ntmps10
  go_wp2_with fail
  refine HNEW.out.mono ?_
  rintro e w1 ⟨rfl, hc1, hb1⟩
  rw [hD] at hc1 hb1 ⊢
  have hr1 : RdB v bs w1 := Row.below HR.out (by rw [hD]; exact hb1)
  have hz1 : D < w1.heap.size := hc1.lt
  have HRW : Hid (∀ W, Upd D (D + 1) w1 W → RdB v bs W) := Lib.hid fun W h => hr1.upd h hfar
  have hgr := l1DrawAny_any D v bs w1 hc1 hr1 hl hfar
  clear hc1 HNEW hr1
  go_wp2_with fail
  refine hgr.mono ?_
  rintro e w2 ⟨⟨u, rows, rfl, hrs, -⟩, hc2, u2⟩
  have hz2 : D < w2.heap.size := hc2.lt
  have hct := coTree_any u rows w2 hrs
  clear hgr hrs
  go_wp2_with fail
  refine hct.mono ?_
  rintro e w3 ⟨⟨tv, ok, ps, rfl, hT3, hp31⟩, hb3⟩
  have hc3 := hc2.belowAt hb3 hz2
  have u3 := u2.then hb3 u2.size
  have hz3 : w2.heap.size ≤ w3.heap.size := hb3.size
  obtain ⟨ta, tc, rfl⟩ := hT3.shape
  have hpn := specPartNums (.slice ta ps.length tc) ps w3 hT3.rd
  obtain ⟨xs, hxs⟩ : ∃ xs, partN ps = xs := ⟨_, rfl⟩
  have hxk : xs.length ≤ 1000 := by rw [← hxs]; exact partN_le ps
  have hxl : xs.length ≤ 1000000 := by rw [← hxs]; have := partN_le ps; omega
  rw [hxs] at hpn
  clear hct hT3 hc2 hb3 hxs
  go_wp2_with fail
  refine hpn.mono ?_
  rintro e w4 ⟨un, rfl, ho4, hb4⟩
  obtain ⟨na, nc, rfl⟩ := owns_shape ho4
  have hc4 := hc3.belowAt hb4 (by omega)
  have u4 := u3.then hb4 u3.size
  have hz4 : w3.heap.size ≤ w4.heap.size := hb4.size
  have HO4 := Lib.hid ho4
  have hbc := l1Once_any D v bs 3 3 rfl (by decide) (by decide) w4 hc4 (HRW.out _ u4) hl hfar
  clear hpn hc3 hb4 u3 u2 ho4
  go_wp2_with fail
  refine hbc.mono ?_
  rintro e w5 ⟨b5, rfl, hc5, u5⟩
  have HO5 := Lib.hid (owns_keep HO4.out fun b hb hlt => u5.block b hlt (by have := (owns_lt HO4.out hb).1; omega))
  have v5 := u4.trans u5
  have hz5 : w4.heap.size ≤ w5.heap.size := u5.size
  clear hbc hc4 u5 u4
  have HE5 : Hid (NsB w (.returned (.slice na xs.length nc)) w5) := Lib.hid ⟨⟨_, _, rfl, Row.of_owns HO5.out, hxl⟩, by rw [hD]; exact v5.below hb1 (by omega) (by omega)⟩
  cases b5 with
  | false =>
    go_wp2_with fail
    refine bodyPost_ret (v := .slice na xs.length nc) (by simp [results, Try.results10, go_sem]) rfl ?_
    exact HE5.out
  | true =>
    by_cases hx0 : 0 < xs.length
    · have hx0I : (0 : Int) < xs.length := by omega
      obtain ⟨ng, nc2, hne⟩ := owns_head HO5.out hx0
      obtain ⟨rfl, rfl⟩ : na = some ⟨ng, 0, none⟩ ∧ nc = nc2 := by simpa using hne
      clear hne
      have hbw := l1Below_all D v bs xs.length xs.length rfl hx0 (by omega) w5 hc5 (HRW.out _ v5) hl hfar
      go_wp2_with fail
      refine hbw.mono ?_
      rintro e w6 ⟨i, rfl, hi, hc6, u6⟩
      have HO6 := Lib.hid (owns_keep HO5.out fun b hb hlt => u6.block b hlt (by have := (owns_lt HO5.out hb).1; omega))
      have v6 := v5.trans u6
      have hz6 : w4.heap.size ≤ w6.heap.size := by have := u6.size; omega
      have hbf := l1From_any D v bs (-1) 17 19 (by decide) (by decide) (by decide) (by decide) (by decide) w6 hc6 (HRW.out _ v6) hl hfar
      clear hbw u6 v5 hc5
      go_wp2_with fail
      refine hbf.mono ?_
      rintro e w7 ⟨y, rfl, -, -, hc7, u7⟩
      have HO7 := Lib.hid (owns_keep HO6.out fun b hb hlt => u7.block b hlt (by have := (owns_lt HO6.out hb).1; omega))
      have v7 := v6.trans u7
      have hz7 : w4.heap.size ≤ w7.heap.size := by have := u7.size; omega
      clear hbf u7 v6 hc6 hc7
      have hst := HO7.out.stored i (.int .i64 y)
      have HS := Lib.hid hst.1
      have hfz := HO7.out.frozenAt i
      have hcl : w7.cell? ⟨ng, i, none⟩ = some (.int .i64 (xs.getD i 0)) := by rw [HO7.out.cellAt i (by omega)]; exact ints_at' hi
      have hng := (owns_lt HO7.out (b := ng) rfl).1
      have HB7 := Lib.hid (((v7.below hb1 (by omega) (by omega)) : Below D w w7).setCell (p := ⟨ng, i, none⟩) (by simp; omega) (.int .i64 y))
      have HE : Hid (NsB w (.returned (.slice (some ⟨ng, 0, none⟩) xs.length nc)) (w7.setCell ⟨ng, i, none⟩ (.int .i64 y))) := Lib.hid ⟨⟨_, xs.set i y, rfl, by
        have h := Row.of_owns HS.out
        unfold RdS
        rw [List.length_set]
        simpa [ints, List.map_set] using h, by simpa using hxl⟩, by rw [hD]; exact HB7.out⟩
      clear hst v7
      go_wp2_with fail
      refine bodyPost_ret (v := .slice (some ⟨ng, 0, none⟩) xs.length nc) (by simp [results, Try.results10, go_sem]) rfl ?_
      exact HE.out
    · have hx0I : ¬ (0 : Int) < xs.length := by omega
      go_wp2_with fail
      refine bodyPost_ret (v := .slice na xs.length nc) (by simp [results, Try.results10, go_sem]) rfl ?_
      exact HE5.out
end Go.Proofs.Ytpfhflkpnjkgkaa
