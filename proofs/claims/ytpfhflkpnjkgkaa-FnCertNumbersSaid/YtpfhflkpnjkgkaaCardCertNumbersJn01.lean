import Derived.Test.YtpfhflkpnjkgkaaCardCertNumbersJn00
import Derived.Test.YtpfhflkpnjkgkaaGq04
import Derived.Test.YtpfhflkpnjkgkaaGq07
/-
  'l1Odd', 'l1Num' of the reference.
-/


namespace Go.Proofs.Ytpfhflkpnjkgkaa
open Go.RowKit

/-- A number is drawn: some number; the cursor alone has turned. -/
structure NumP (D : Nat) (v : Value) (n : Nat) (w : World) (E : Ending) (w' : World) : Prop where
  ex : ∃ x : Int, E = .returned (.int .i64 x)
  cur : Cur D v n w'
  upd : Upd D (D + 1) w w'
def odds : List Int := [-1, 0, 1, 2147483648, -2147483648, 1099511627776, 4611686018427387904, -4611686018427387904, 9223372036854775807, -9223372036854775808]

theorem ints_at' {xs : List Int} {i : Nat} (h : i < xs.length) : (ints xs)[i]? = some (.int .i64 (xs.getD i 0)) := by simp [ints, List.getD, h]
theorem Upd.refl {D : Nat} (w : World) : Upd D (D + 1) w w := (Upd.rfl' w).wide (by omega)

set_option maxHeartbeats 1000000 in
theorem l1Odd_any (D : Nat) (v : Value) (bs : List UInt8) (w : World) (hd : Cur D v bs.length w) (hr : RdB v bs w) (hl : bs.length ≤ 4096) (hvD : Far D v bs) :
    Calls Try.prog 24 #[.pointer (some ⟨D, 0, none⟩)] w (NumP D v bs.length w) := by
  obtain ⟨B, hB⟩ : ∃ B, w.heap.size = B := ⟨_, rfl⟩
  have hDB : D < B := by have := hd.lt; omega
  obtain ⟨W0, hW0⟩ : ∃ W0, W0 = w.alloc (.cells (ints odds).toArray 2) := ⟨_, rfl⟩
  have b0 : Below B w W0 := by rw [hW0, ← hB]; exact below_alloc' _ _
  have u0 : Upd D (D + 1) w W0 := (Upd.rfl' w).then b0 (by omega) |>.wide (by omega)
  have ho0 : W0.ownsRow B 2 1 (.slice (some ⟨B, 0, none⟩) 10 10) 10 (ints odds) := by
    rw [hW0]; subst hB
    exact World.ownsRow_lit w (ints odds).toArray 10 (Nat.le_refl _) (by simp [maxLen]) rfl
  have hd0 : Cur D v bs.length W0 := hd.belowAt b0 hDB
  have hr0 : RdB v bs W0 := Row.below hr (by rw [hB]; exact b0)
  have HBE := Lib.hid (l1Below_any D v bs 10 10 rfl (by decide) (by decide) W0 hd0 hr0 hl hvD)
  clear hd0 hr0 hr hd
  go_enter Try.func24, Try.ntmps24
  go_wp2_with fail
  have hgo := HBE.out
  subst hW0
  refine hgo.mono ?_
  rintro e1 w1 ⟨x, rfl, hx, hd1, u1⟩
  have ho1 := owns_keep ho0 fun b hb hlt => u1.block b hlt (by have := (owns_lt ho0 hb).1; omega)
  have hcx := ho1.cellAt x (by omega)
  rw [ints_at' (xs := odds) (i := x) hx] at hcx
  have HU := Lib.hid (u0.trans u1)
  have HD := Lib.hid hd1
  clear ho1 ho0 u1 u0 hd1 hgo HBE b0
  go_wp2_with fail
  go_ret
  exact ⟨⟨_, rfl⟩, HD.out, HU.out⟩

set_option maxHeartbeats 2000000 in
theorem l1Num_any (D : Nat) (v : Value) (bs : List UInt8) (w : World) (hd : Cur D v bs.length w) (hr : RdB v bs w) (hl : bs.length ≤ 4096) (hvD : Far D v bs) :
    Calls Try.prog 41 #[.pointer (some ⟨D, 0, none⟩), .int .i64 16] w (NumP D v bs.length w) := by
  obtain ⟨B, hB⟩ : ∃ B, w.heap.size = B := ⟨_, rfl⟩
  have hDB : D < B := by have := hd.lt; omega
  have HBE : Hid (∀ (N : Int) (n : Nat) (W : World), N = n → 0 < n → n ≤ 256 → Cur D v bs.length W → Upd D (D + 1) w W →
    Calls Try.prog 29 #[.pointer (some ⟨D, 0, none⟩), .int .i64 N] W fun e w' => ∃ x : Nat, e = .returned (.int .i64 x) ∧ x < n ∧ Cur D v bs.length w' ∧ Upd D (D + 1) W w') :=
    Lib.hid fun N n W hN h0 h1 hdW hu => l1Below_any D v bs n N hN h0 h1 W hdW (hr.upd hu hvD) hl hvD
  have HON : Hid (∀ (N : Int) (n : Nat) (W : World), N = n → 0 < n → n ≤ 256 → Cur D v bs.length W → Upd D (D + 1) w W →
    Calls Try.prog 22 #[.pointer (some ⟨D, 0, none⟩), .int .i64 N] W fun e w' => ∃ b : Bool, e = .returned (.bool b) ∧ Cur D v bs.length w' ∧ Upd D (D + 1) W w') :=
    Lib.hid fun N n W hN h0 h1 hdW hu => l1Once_any D v bs n N hN h0 h1 W hdW (hr.upd hu hvD) hl hvD
  have HOD : Hid (∀ (W : World), Cur D v bs.length W → Upd D (D + 1) w W → Calls Try.prog 24 #[.pointer (some ⟨D, 0, none⟩)] W (NumP D v bs.length W)) :=
    Lib.hid fun W hdW hu => l1Odd_any D v bs W hdW (hr.upd hu hvD) hl hvD
  have HMI := fun W => Lib.hid (min_any 16 4 W)
  clear hr hl
  go_enter Try.func41, Try.ntmps41
  go_wp2_with fail
  refine (HON.out 10 10 w rfl (by decide) (by decide) hd (Upd.refl w)).mono ?_
  rintro e1 w1 ⟨b1, rfl, hd1, u1⟩
  clear hd
  cases b1 with
  | true =>
    go_wp2_with fail
    refine (HOD.out w1 hd1 u1).mono ?_
    rintro e1 w2 ⟨⟨y, rfl⟩, hd2, u2⟩
    have u12 := u1.trans u2
    obtain ⟨S, hS⟩ : ∃ S, w2.heap.size = S := ⟨_, rfl⟩
    have hDS : D < S := by have := hd2.lt; omega
    obtain ⟨W3, hW3⟩ : ∃ W, W = w2.alloc (.cells (ints [-1, 16, 17, y]).toArray 2) := ⟨_, rfl⟩
    have b3 : Below S w2 W3 := by rw [hW3, ← hS]; exact below_alloc' _ _
    have ho3 : W3.ownsRow S 2 1 (.slice (some ⟨S, 0, none⟩) 4 4) 4 (ints [-1, 16, 17, y]) := by
      rw [hW3]; subst hS
      exact World.ownsRow_lit w2 (ints [-1, 16, 17, y]).toArray 4 (Nat.le_refl _) (by simp [maxLen]) rfl
    have hd3 : Cur D v bs.length W3 := hd2.belowAt b3 hDS
    have u3 : Upd D (D + 1) w W3 := u12.then b3 (by have := u12.size; omega)
    have hgo := HBE.out 4 4 W3 rfl (by decide) (by decide) hd3 u3
    clear u1 u2 u12 hd1 hd2 hd3 b3
    go_wp2_with fail
    subst hW3
    refine hgo.mono ?_
    rintro e1 w4 ⟨x, rfl, hx, hd4, u4⟩
    have ho4 := owns_keep ho3 fun b hb hlt => u4.block b hlt (by have := (owns_lt ho3 hb).1; omega)
    have hcx := ho4.cellAt x (by omega)
    rw [ints_at' (xs := [-1, 16, 17, y]) (i := x) hx] at hcx
    have HU := Lib.hid (u3.trans u4)
    have HD := Lib.hid hd4
    clear ho4 ho3 u4 u3 hd4 hgo
    go_wp2_with fail
    go_ret
    exact ⟨⟨_, rfl⟩, HD.out, HU.out⟩
  | false =>
    go_wp2_with fail
    refine (HON.out 2 2 w1 rfl (by decide) (by decide) hd1 u1).mono ?_
    rintro e1 w2 ⟨b2, rfl, hd2, u2⟩
    replace u1 := u1.trans u2
    cases b2 with
    | true =>
      go_wp2_with fail
      refine (HMI _).out.mono ?_
      rintro e1 w' ⟨rfl, rfl⟩
      rw [show (if (16 : Int) < 4 then (16 : Int) else 4) = 4 from rfl]
      go_wp2_with fail
      refine (HBE.out 5 5 w2 rfl (by decide) (by decide) hd2 u1).mono ?_
      rintro e1 w3 ⟨x, rfl, hx, hd3, u3⟩
      have HU := Lib.hid (u1.trans u3)
      have HD := Lib.hid hd3
      go_wp2_with fail
      go_ret
      exact ⟨⟨_, rfl⟩, HD.out, HU.out⟩
    | false =>
      go_wp2_with fail
      refine (HBE.out 17 17 w2 rfl (by decide) (by decide) hd2 u1).mono ?_
      rintro e1 w3 ⟨x, rfl, hx, hd3, u3⟩
      have HU := Lib.hid (u1.trans u3)
      have HD := Lib.hid hd3
      go_wp2_with fail
      go_ret
      exact ⟨⟨_, rfl⟩, HD.out, HU.out⟩
end Go.Proofs.Ytpfhflkpnjkgkaa
/-
  'l1DrawOf', 'l1Draw' of the reference: a drawn graph.
-/


namespace Go.Proofs.Ytpfhflkpnjkgkaa
open Go.RowKit

/-- Rows that are not long. -/
def ShortR (rows : List (List Int)) : Prop := 1 ≤ rows.length ∧ rows.length ≤ 16 ∧ ∀ r ∈ rows, r.length ≤ 32
/-- A graph is drawn; the cursor alone has turned. -/
structure GrP (D : Nat) (v : Value) (n : Nat) (w : World) (E : Ending) (w' : World) : Prop where
  ex : ∃ u vs rows, E = .returned (.agg #[u]) ∧ OwnG w' w.heap.size 26 2 u vs (rows.map ints) ∧ ShortR rows
  cur : Cur D v n w'
  upd : Upd D (D + 1) w w'
theorem short_rowsOf {ms : List Nat} (h1 : 1 ≤ ms.length) (h2 : ms.length ≤ 16) : ShortR (rowsOf ms) := by
  refine ⟨by simpa [rowsOf] using h1, by simpa [rowsOf] using h2, fun r hr => ?_⟩
  unfold rowsOf at hr
  obtain ⟨m, -, rfl⟩ := List.mem_map.1 hr
  exact nums_length m
theorem SG.upd {w0 wr w' : World} {B C D : Nat} {a : Option Addr} {n c : Nat} {vs : List Value} {ms : List Nat} (h : SG w0 B C a n c vs ms wr) (u : Upd D (D + 1) wr w') (hD : D < B) : SG w' B C a n c vs ms w' :=
  ⟨VC.upd (t := 42) h.res u (by have := h.ord; omega), VC.upd (t := 42) h.var u (by have := h.ord; omega), h.own.upd u (by omega), Below.refl _ _, h.ord, h.len⟩
theorem SG.again {w0 wr : World} {B C : Nat} {a : Option Addr} {n c : Nat} {vs : List Value} {ms : List Nat} (h : SG w0 B C a n c vs ms wr) : SG wr B C a n c vs ms wr := ⟨h.res, h.var, h.own, Below.refl _ _, h.ord, h.len⟩

set_option maxHeartbeats 4000000 in
theorem l1DrawOf_any (D : Nat) (v : Value) (bs : List UInt8) (n : Nat) (N : Int) (hN : N = n) (hn1 : 1 ≤ n) (hn7 : n ≤ 7) (w : World) (hd : Cur D v bs.length w) (hr : RdB v bs w) (hl : bs.length ≤ 4096) (hvD : Far D v bs) :
    Calls Try.prog 54 #[.pointer (some ⟨D, 0, none⟩), .int .i64 N] w (GrP D v bs.length w) := by
  subst hN
  obtain ⟨B, hB⟩ : ∃ B, w.heap.size = B := ⟨_, rfl⟩
  have hDB : D < B := by have := hd.lt; omega
  have HBE : Hid (∀ (N : Int) (n : Nat) (W : World), N = n → 0 < n → n ≤ 256 → Cur D v bs.length W → Upd D (D + 1) w W →
    Calls Try.prog 29 #[.pointer (some ⟨D, 0, none⟩), .int .i64 N] W fun e w' => ∃ x : Nat, e = .returned (.int .i64 x) ∧ x < n ∧ Cur D v bs.length w' ∧ Upd D (D + 1) W w') :=
    Lib.hid fun N n W hN h0 h1 hdW hu => l1Below_any D v bs n N hN h0 h1 W hdW (hr.upd hu hvD) hl hvD
  obtain ⟨W0, hW0⟩ : ∃ W0, W0 = w.alloc (.cells #[.slice none 0 0] 42) := ⟨_, rfl⟩
  have VR0 : GC W0 B (.slice none 0 0) := by rw [hW0, ← hB]; exact GC.new _ _
  have b0 : Below B w W0 := by rw [hW0, ← hB]; exact below_alloc' _ _
  have u0 : Upd D (D + 1) w W0 := (Upd.rfl' w).then b0 (by omega) |>.wide (by omega)
  have hz0 : W0.heap.size = B + 1 := by rw [hW0]; simp [hB]
  have hd0 : Cur D v bs.length W0 := hd.belowAt b0 hDB
  have HEM := Lib.hid (empty_any n (by omega) W0)
  clear hr hl b0 hd
  go_enter Try.func54, Try.ntmps54
  go_wp2_with fail
  try rw [← hW0]
  clear hW0
  refine HEM.out.mono ?_
  rintro e1 w1 ⟨uu, vs, rfl, hG, hb1⟩
  obtain ⟨a, c, rfl⟩ := owns_shape hG.outer
  have hvl : vs.length = n := by rw [hG.len]; simp
  rw [hvl] at hG ⊢
  rw [hz0] at hG hb1
  have VR1 := VR0.belowAt hb1 (by omega)
  have hz1 : B + 1 ≤ w1.heap.size := by have := hb1.size; omega
  rw [← rowsOf_zeros] at hG
  obtain ⟨C, hC⟩ : ∃ C, w1.heap.size = C := ⟨_, rfl⟩
  have hS0 := SG.start (w0 := w1) VR1 hG (Below.refl _ _) (by simp)
  rw [hC] at hS0
  have u1 := (u0.then hb1 (by omega)).then (below_alloc w1 (.cells #[.slice a n c] 42)) (by omega)
  have hd1 : Cur D v bs.length (w1.alloc (.cells #[.slice a n c] 42)) := (hd0.belowAt hb1 (by omega)).belowAt (below_alloc w1 _) (by omega)
  obtain ⟨W2, hW2⟩ : ∃ W, W = w1.alloc (.cells #[.slice a n c] 42) := ⟨_, rfl⟩
  rw [← hW2] at hS0 u1 hd1
  have HBC := HBE.out 3 3 W2 rfl (by decide) (by decide) hd1 u1
  clear hG hb1 hvl VR0 VR1 u0 hd0 HEM
  go_wp2_with fail
  try rw [← hW2]
  clear hW2
  refine HBC.mono ?_
  rintro e1 w3 ⟨x3, rfl, hx3, hd3, u3⟩
  have hS3 := hS0.upd u3 (by omega)
  have u13 := u1.trans u3
  clear hS0 u1 u3 hd1 HBC
  go_wp2_with fail
  go_loopw [7] (fun i wr => ∃ (k : Nat) (vs : List Value) (ms : List Nat), 1 ≤ k ∧ k ≤ n ∧ i = .int .i64 k ∧ SG wr B C a n c vs ms wr ∧ Cur D v bs.length wr ∧ Upd D (D + 1) w wr) (fun i _ => n - (intOf i).toNat)
  case atStart => exact ⟨1, vs, _, Nat.le_refl _, hn1, rfl, hS3, hd3, u13⟩
  case round =>
    clear hS3 hd3 u13
    obtain ⟨k, vs, ms, hk1, hk, rfl, hS, hdk, uk⟩ := hrel
    by_cases hlt : k < n
    · go_wp2_with fail
      generalize hw9 : wr = w9 at *
      clear hw9
      go_loopw [8] (fun i wr => ∃ (j : Nat) (vs : List Value) (ms : List Nat), j ≤ k ∧ i = .int .i64 j ∧ SG wr B C a n c vs ms wr ∧ Cur D v bs.length wr ∧ Upd D (D + 1) w wr) (fun i _ => k - (intOf i).toNat)
      case atStart => exact ⟨0, vs, ms, Nat.zero_le _, rfl, hS, hdk, uk⟩
      case round =>
        clear hS hdk uk
        obtain ⟨j, vs, ms, hj, rfl, hS, hdk, uk⟩ := hrel
        by_cases hlj : j < k
        · have HBC := HBE.out 4 4 wr rfl (by decide) (by decide) hdk uk
          go_wp2_with fail
          refine HBC.mono ?_
          rintro e1 w4 ⟨x, rfl, hx, hd4, u4⟩
          have hS4 := hS.upd u4 (by omega)
          have u14 := uk.trans u4
          have hcC := hS4.var.cell
          clear hS hdk uk u4 HBC
          by_cases hxo : x < 1 + x3
          · go_wp2_with fail
            refine (hS4.link j k _ _ rfl rfl (by omega) (by omega) (by omega)).mono ?_
            rintro e1 w5 ⟨rfl, vs5, hS5⟩
            have hcC5 := hS5.var.cell
            have hfC5 := hS5.var.free
            have hz4 := hS4.res.lt
            have hz5 : w4.heap.size ≤ w5.heap.size := hS5.bel.size
            have u15 := u14.then hS5.bel (by have := u14.size; omega)
            have hd5 : Cur D v bs.length w5 := hd4.belowAt hS5.bel (by omega)
            have hb6 : Below B w5 (w5.setCell ⟨C, 0, none⟩ (.slice a n c)) := (Below.refl _ _).setCell (by have := hS5.ord; simp; omega) _
            have hS6 := hS5.store.again
            have u16 := u15.then hb6 (by omega)
            have hd6 := hd5.belowAt hb6 (by omega)
            have HS6 := Lib.hid (And.intro hS6 (And.intro hd6 u16))
            clear hS5 hS4 u14 u15 u16 hd4 hd5 hd6 hS6 hb6 hcC
            go_wp2_with fail
            go_roundw
            case rel => exact ⟨j + 1, vs5, _, by omega, by go_num, HS6.out.1, HS6.out.2.1, HS6.out.2.2⟩
            case measure => simp [intOf]; omega
          · go_wp2_with fail
            go_roundw
            case rel => exact ⟨j + 1, vs, ms, by omega, by go_num, hS4, hd4, u14⟩
            case measure => simp [intOf]; omega
        · obtain rfl : j = k := by omega
          go_wp2_with fail
          go_roundw
          case rel => exact ⟨j + 1, vs, ms, by omega, by omega, by go_num, hS, hdk, uk⟩
          case measure => simp [intOf]; omega
    · obtain rfl : k = n := by omega
      have hcC := hS.var.cell
      have hcR := hS.res.cell
      have hfR := hS.res.free
      have hb6 : Below B wr (wr.setCell ⟨B, 0, none⟩ (.slice a k c)) := (Below.refl _ _).setCell (by simp) _
      have hend : GrP D v bs.length w (.returned (.agg #[.slice a k c])) (wr.setCell ⟨B, 0, none⟩ (.slice a k c)) :=
        ⟨⟨_, vs, rowsOf ms, rfl, by rw [hB]; exact (hS.res.own hS.own).rebase (by omega), short_rowsOf (by rw [hS.len]; omega) (by rw [hS.len]; omega)⟩, hdk.belowAt hb6 (by omega), uk.then hb6 (by omega)⟩
      have hce := (hS.res.set (.slice a k c)).cell
      have HCE := Lib.hid hce
      have HEND := Lib.hid hend
      clear hend hce hb6 hS hdk uk
      go_wp2_with fail
      refine bodyPost_ret (v := .agg #[.slice a k c]) (by simp [results, Try.results54, go_sem, HCE.out]) rfl ?_
      exact HEND.out
end Go.Proofs.Ytpfhflkpnjkgkaa
