import Derived.Lib.ConvBytes
import Derived.Laws.IdiomStrings
import Derived.Lib.BufferRead
import Derived.Test.YtbhobmngnjfgfaaDoorCurJn
import Derived.Test.YtbhobmngnjfgfaaDoorHlpJn
/-
  'l1Bend' of the reference: a text is bent.
-/





namespace Go.Proofs.YtbhobmngnjfgfaaDoor
open Go.RowKit

/-- A slice of bytes at the head of a block of the call's own. -/
structure BB (S g cap : Nat) (l : List UInt8) (w : World) : Prop where
  lo : S ≤ g
  len : l.length ≤ cap
  cap : cap ≤ maxLen
  ex : ∃ cs fr, w.heap[g]? = some (.cells cs 5 fr) ∧ (∀ (j : Nat) (x : UInt8), l[j]? = some x → cs[j]? = some (Value.int .u8 (x.toNat : Int))) ∧ (∀ j, j < l.length → ¬ (fr.1 ≤ j ∧ j < fr.2))
theorem BB.lt {S g cap : Nat} {l : List UInt8} {w : World} (h : BB S g cap l w) : g < w.heap.size := by
  obtain ⟨cs, fr, h1, -, -⟩ := h.ex
  exact (Array.getElem?_eq_some_iff.1 h1).1
theorem BB.keep {S g cap : Nat} {l : List UInt8} {w w' : World} (h : BB S g cap l w) (hk : w'.heap[g]? = w.heap[g]?) : BB S g cap l w' := by
  obtain ⟨cs, fr, h1, h2, h3⟩ := h.ex
  exact ⟨h.lo, h.len, h.cap, cs, fr, by rw [hk]; exact h1, h2, h3⟩
theorem BB.cell {S g cap : Nat} {l : List UInt8} {w : World} (h : BB S g cap l w) {j : Nat} {x : UInt8} (hx : l[j]? = some x) : w.cell? ⟨g, j, none⟩ = some (.int .u8 (x.toNat : Int)) := by
  obtain ⟨cs, fr, h1, h2, -⟩ := h.ex
  simp [World.cell?, h1, h2 j x hx]
theorem BB.free {S g cap : Nat} {l : List UInt8} {w : World} (h : BB S g cap l w) {j : Nat} (hj : j < l.length) : w.frozen? ⟨g, j, none⟩ = false := by
  obtain ⟨cs, fr, h1, -, h3⟩ := h.ex
  have := h3 j hj
  simp [World.frozen?, h1]
  omega
theorem BB.take {S g cap : Nat} {l : List UInt8} {w : World} (h : BB S g cap l w) (k : Nat) (hk : k ≤ l.length) : BB S g cap (l.take k) w := by
  obtain ⟨cs, fr, h1, h2, h3⟩ := h.ex
  refine ⟨h.lo, by have := h.len; simp; omega, h.cap, cs, fr, h1, fun j x hx => h2 j x ?_, fun j hj => h3 j (by simp at hj; omega)⟩
  rw [List.getElem?_take] at hx
  split at hx
  · exact hx
  · cases hx
theorem BB.put {S g cap : Nat} {l : List UInt8} {w : World} (h : BB S g cap l w) (k : Nat) (hk : k < l.length) (x : UInt8) : BB S g cap (l.set k x) (w.setCell ⟨g, k, none⟩ (.int .u8 (x.toNat : Int))) := by
  obtain ⟨cs, fr, h1, h2, h3⟩ := h.ex
  refine ⟨h.lo, by simpa using h.len, h.cap, cs.setIfInBounds k (.int .u8 (x.toNat : Int)), fr, ?_, fun j y hy => ?_, fun j hj => h3 j (by simpa using hj)⟩
  · unfold World.setCell
    simp only [Array.getElem?_modify]
    simp [h1]
  · rw [Array.getElem?_setIfInBounds]
    by_cases hkj : k = j
    · subst hkj
      have hks : k < cs.size := (Array.getElem?_eq_some_iff.1 (h2 k _ (List.getElem?_eq_getElem hk))).1
      rw [List.getElem?_set_self hk] at hy
      cases hy
      simp [hks]
    · rw [List.getElem?_set_ne hkj] at hy
      simp [hkj, h2 j y hy]
/-- A part of it, read. -/
theorem BB.row {S g cap : Nat} {l : List UInt8} {w : World} (h : BB S g cap l w) (k m : Nat) (hkm : k + m ≤ l.length) : Row w 1 (.slice (some ⟨g, k, none⟩) m (cap - k)) m (u8s ((l.drop k).take m)) := by
  have hl := h.len
  have hc := h.cap
  refine ⟨_, _, rfl, by omega, by omega, by simp [u8s]; omega, (fun e => by cases e), fun j u hu => ⟨g, k, rfl, ?_⟩⟩
  unfold u8s at hu
  rw [List.getElem?_map] at hu
  cases hx : ((l.drop k).take m)[j]? with
  | none => rw [hx] at hu; cases hu
  | some x =>
    rw [hx] at hu
    have hj : j < m := by have := (List.getElem?_eq_some_iff.1 hx).1; simp at this; omega
    rw [List.getElem?_take_of_lt hj, List.getElem?_drop] at hx
    cases hu
    exact h.cell hx
/-- A row of the call's own is one. -/
theorem BB.of_owns {S : Nat} {l : List UInt8} {w : World} {a : Nat} {n c : Nat} (hn : l.length = n) (h : w.ownsRow S 5 1 (.slice (some ⟨a, 0, none⟩) n c) n (u8s l)) : BB S a c l w := by
  obtain ⟨h1, h2 | ⟨g, cap, cur, e, hb, hh, hn', hm, hs, ht⟩⟩ := h
  · cases h2.1
  · obtain ⟨rfl, rfl⟩ : a = g ∧ c = cap := by simpa using e
    refine ⟨hb, by omega, hm, cur, (0, 0), hh, fun j x hx => ?_, fun j _ hj => by simp at hj⟩
    have hj : j < l.length := (List.getElem?_eq_some_iff.1 hx).1
    have hu : (u8s l)[j]? = some (.int .u8 (x.toNat : Int)) := by unfold u8s; rw [List.getElem?_map, hx]; rfl
    rw [← ht, List.getElem?_take_of_lt (by omega)] at hu
    simpa using hu
theorem u8_one (l : List UInt8) : ∀ u ∈ u8s l, u.oneCell' = true := by
  intro u hu
  unfold u8s at hu
  rw [List.mem_map] at hu
  obtain ⟨x, _, rfl⟩ := hu
  rfl
theorem infoB : (Tryd.prog.info? 5).map (fun i => (i.zero, i.size, i.bytes)) = some (some (.int .u8 0), 1, 1) := by kernel_rfl
def signs7 : ByteArray := ⟨#[115, 101, 114, 105, 111, 117, 116]⟩
theorem signs_at {x : Nat} (hx : x < 7) : ∃ b : UInt8, signs7[x]? = some b := by
  have : ∀ x, x < 7 → (signs7[x]?).isSome = true := by decide
  exact Option.isSome_iff_exists.1 (this x hx)
theorem BB.text {S g cap : Nat} {l : List UInt8} {w : World} (h : BB S g cap l w) {m : Nat} (hm : l.length = m) :
    (convert 62 9 (.slice (some ⟨g, 0, none⟩) m cap)).run Tryd.prog w = .ok (.string ⟨l.toArray⟩) w := by
  subst hm
  exact run_convert_bytes_back (P := Tryd.prog) w 62 9 5 ⟨g, 0, none⟩ cap l Tryd.underlying62 Tryd.underlying5 Tryd.underlying9 (fun j hj => by
    have := h.cell (List.getElem?_eq_getElem hj)
    rw [Addr.add_lit, Nat.zero_add]
    exact this)
theorem run_index_sign {x : Nat} {b : UInt8} (hb : signs7[x]? = some b) (w : World) :
    (Instr.index 9 (.string signs7) (.int .i64 (x : Int))).run Tryd.prog w = .ok (.int .u8 (b.toNat : Int)) w := by
  have h0 : (0 : Int) ≤ (x : Int) := by omega
  simp [Instr.index, run_underlying Tryd.underlying9, asIntOf, h0, hb, go_sem]
theorem Upd.trans3 {D B : Nat} {w w1 w2 : World} (h : Upd D (D + 1) w w1) (h' : Upd B (B + 1) w1 w2) (hB : w.heap.size ≤ B) : Upd D (D + 1) w w2 :=
  ⟨h'.os.trans h.os, h'.tape.trans h.tape, h'.output.trans h.output, Nat.le_trans h.size h'.size, fun k hk hn => (h'.block k (Nat.lt_of_lt_of_le hk h.size) (by omega)).trans (h.block k hk hn)⟩
theorem bytes_start {w : World} (s : ByteArray) (hs : grownCap w s.size 0 5 ≤ maxLen) : BB w.heap.size w.heap.size (grownCap w s.size 0 5) s.data.toList (Lib.bytesWorld w 5 s) := by
  refine ⟨Nat.le_refl _, ?_, hs, _, _, Lib.bytesWorld_at_new w _ s, fun j x hx => ?_, fun j hj => ?_⟩
  · have := grownCap_ge w s.size 0 5
    have hz : s.data.toList.length = s.size := by rw [Array.length_toList]; rfl
    omega
  · have hj : j < s.data.toList.length := (List.getElem?_eq_some_iff.1 hx).1
    have hj' : j < s.data.size := by simpa using hj
    simp only [Lib.bytesCells]
    rw [Array.getElem?_append_left (by simpa using hj'), Array.getElem?_map]
    have hx2 : s.data[j]? = some x := by rw [← Array.getElem?_toList]; exact hx
    rw [hx2]
    rfl
  · simp only [Lib.bytesCells]
    have hj' : j < s.size := by rw [Array.length_toList] at hj; exact hj
    simp
    omega

/-- Any memory. -/
def KT (_ : World) : Prop := True
theorem KT.all (w : World) : KT w := trivial
/-- A slice of bytes of the call's own, perhaps none. -/
def BO (S : Nat) (o : Value) (m : Nat) (l : List UInt8) (w : World) : Prop := (o = .slice none 0 0 ∧ m = 0 ∧ l = []) ∨ ∃ g cap, o = .slice (some ⟨g, 0, none⟩) m cap ∧ l.length = m ∧ BB S g cap l w
theorem BO.of_owns {S : Nat} {l : List UInt8} {w : World} {o : Value} {n : Nat} (hn : l.length = n) (h : w.ownsRow S 5 1 o n (u8s l)) : BO S o n l w := by
  obtain ⟨h1, ⟨rfl, rfl⟩ | ⟨g, cap, cur, rfl, r⟩⟩ := id h
  · exact .inl ⟨rfl, rfl, List.length_eq_zero_iff.1 hn⟩
  · exact .inr ⟨g, cap, rfl, hn, BB.of_owns hn h⟩
theorem text_none (w : World) : (convert 62 9 (.slice none 0 0)).run Tryd.prog w = .ok (.string ⟨#[]⟩) w :=
  Lib.run_convert_nil_bytes w 62 9 5 0 Tryd.underlying62 Tryd.underlying5 Tryd.underlying9

set_option maxHeartbeats 8000000 in
set_option maxRecDepth 100000 in
theorem l1Bend_any (D : Nat) (v : Value) (bs : List UInt8) (s : ByteArray) (hs : s.size ≤ 40) (w : World) (hd : Cur D v bs.length w) (hr : RdB v bs w) (hl : bs.length ≤ 4096) (hvD : Far D v bs) :
    Calls Tryd.prog 145 #[.pointer (some ⟨D, 0, none⟩), .string s, .string signs7] w fun e w' => ∃ t : ByteArray, e = .returned (.string t) ∧ t.size ≤ 50 ∧ Cur D v bs.length w' ∧ Upd D (D + 1) w w' := by
  obtain ⟨B, hB⟩ : ∃ B, w.heap.size = B := ⟨_, rfl⟩
  have hDB : D < B := by have := hd.lt; omega
  have hcv := Lib.run_convert_string_bytes (P := Tryd.prog) w 9 62 5 s Tryd.underlying9 Tryd.underlying62 Tryd.underlying5
  obtain ⟨cp, hcp⟩ : ∃ c, grownCap w s.size 0 5 = c := ⟨_, rfl⟩
  obtain ⟨W0, hW0⟩ : ∃ W, Lib.bytesWorld w 5 s = W := ⟨_, rfl⟩
  have hb0 := bytes_start (w := w) s (grownCap_le_maxLen w s.size 0 _ (by unfold maxLen; omega))
  have hz0 := Lib.bytesWorld_size w 5 s
  have hbl : Below B w W0 := by
    rw [← hW0, ← hB]
    exact ⟨rfl, rfl, rfl, by rw [Lib.bytesWorld_size]; omega, fun k hk => Lib.bytesWorld_at_old w _ s k hk⟩
  rw [hcp, hW0] at hb0 hcv
  rw [hW0] at hz0
  rw [hB] at hb0 hcv hz0
  have hsz : s.data.toList.length = s.size := by rw [Array.length_toList]; rfl
  have hd0 := hd.belowAt hbl hDB
  have u0 : Upd D (D + 1) w W0 := ((Upd.rfl' w).then hbl (by omega)).wide (by omega)
  have HBE : Hid (∀ (N : Int) (n : Nat) (W : World), N = n → 0 < n → n ≤ 256 → Cur D v bs.length W → Upd D (D + 1) w W →
    Calls Tryd.prog 143 #[.pointer (some ⟨D, 0, none⟩), .int .i64 N] W fun e w' => ∃ x : Nat, e = .returned (.int .i64 x) ∧ x < n ∧ Cur D v bs.length w' ∧ Upd D (D + 1) W w') :=
    Lib.hid fun N n W hN h0 h1 hdW hu => l1Below_any D v bs n N hN h0 h1 W hdW (hr.upd hu hvD) hl hvD
  clear hr hd
  go_enter Tryd.func145, Tryd.ntmps145
  go_wp2_with fail
  refine (HBE.out 3 3 W0 rfl (by decide) (by decide) hd0 u0).mono ?_
  rintro e1 w1 ⟨n0, rfl, hn0, hd1, u1⟩
  have HB1 := Lib.hid (hb0.keep (u1.block B hb0.lt (by omega)))
  replace u0 := u0.trans u1
  have HL0 := Lib.hid hsz
  clear hd0 hcv hb0 hbl u1 hW0 hz0 hsz hcp
  go_wp2_with fail
  go_loopw [7, 8] (fun o i wr => ∃ (m k : Nat) (l : List UInt8), i = .int .i64 k ∧ k ≤ 2 ∧ m + k ≤ 45 ∧ Hid (BO B o m l wr) ∧ Cur D v bs.length wr ∧ Upd D (D + 1) w wr) (fun _ i _ => (intOf i).toNat)
  case atStart => exact ⟨s.size, n0, _, rfl, by omega, by omega, Lib.hid (.inr ⟨B, cp, rfl, HL0.out, HB1.out⟩), hd1, u0⟩
  case round =>
    clear hd1 u0 HB1 HL0
    obtain ⟨m, k, l, rfl, hk2, hmk, HBO, hd, hu⟩ := hrel
    rcases HBO.out with ⟨rfl, rfl, rfl⟩ | ⟨g, cap, rfl, hLL, hBB⟩
    · have HCV := text_none wr
      have HD := Lib.hid hd
      have HU := Lib.hid hu
      have HLE : Hid ((⟨#[]⟩ : ByteArray).size ≤ 50) := Lib.hid (by decide)
      clear hd hu
      by_cases hk : k = 0
      · have hk0 : ¬ (0 : Int) < (k : Int) := by omega
        clear hk
        go_wp2_with fail
        go_ret
        exact ⟨_, rfl, HLE.out, HD.out, HU.out⟩
      · have hkp : (0 : Int) < (k : Int) := by omega
        clear hk
        go_wp2_with fail
        go_ret
        exact ⟨_, rfl, HLE.out, HD.out, HU.out⟩
    have HL := Lib.hid hLL
    have HB := Lib.hid hBB
    clear hLL hBB HBO
    by_cases hk : k = 0
    · have hk0 : ¬ (0 : Int) < (k : Int) := by omega
      have HCV := HB.out.text HL.out
      have HD := Lib.hid hd
      have HU := Lib.hid hu
      have HLE : Hid ((⟨l.toArray⟩ : ByteArray).size ≤ 50) := Lib.hid (by have := HL.out; show l.toArray.size ≤ 50; simp; omega)
      clear hd hu hk
      go_wp2_with fail
      go_ret
      exact ⟨_, rfl, HLE.out, HD.out, HU.out⟩
    have hkp : (0 : Int) < (k : Int) := by omega
    by_cases hm0 : m = 0
    · have hmz : ¬ (0 : Int) < (m : Int) := by omega
      have HCV := HB.out.text HL.out
      have HD := Lib.hid hd
      have HU := Lib.hid hu
      have HLE : Hid ((⟨l.toArray⟩ : ByteArray).size ≤ 50) := Lib.hid (by have := HL.out; show l.toArray.size ≤ 50; simp; omega)
      clear hd hu hm0
      go_wp2_with fail
      go_ret
      exact ⟨_, rfl, HLE.out, HD.out, HU.out⟩
    have hmp : (0 : Int) < (m : Int) := by omega
    have hb5 := Lib.hid (HBE.out m m wr rfl (by omega) (by omega) hd hu)
    go_wp2_with fail
    refine hb5.out.mono ?_
    rintro e1 w2 ⟨q, rfl, hq, hd2, u2⟩
    have HB2 := Lib.hid (HB.out.keep (u2.block g HB.out.lt (by have := HB.out.lo; omega)))
    replace hu := hu.trans u2
    have hb6 := Lib.hid (HBE.out 4 4 w2 rfl (by decide) (by decide) hd2 hu)
    clear hb5 hd u2 HB
    go_wp2_with fail
    refine hb6.out.mono ?_
    rintro e1 w3 ⟨x, rfl, hx, hd3, u3⟩
    have HB3 := Lib.hid (HB2.out.keep (u3.block g HB2.out.lt (by have := HB2.out.lo; omega)))
    replace hu := hu.trans u3
    clear hb6 hd2 u3 HB2
    have hcap := HB3.out.len
    have hcapm := HB3.out.cap
    have hlo := HB3.out.lo
    rw [HL.out] at hcap
    have hgl := HB3.out.lt
    have hkd : ∃ k' : Nat, k = k' + 1 := ⟨k - 1, by omega⟩
    obtain ⟨k', rfl⟩ := hkd
    rcases (show x = 0 ∨ x = 1 ∨ x = 2 ∨ x = 3 by omega) with rfl | rfl | rfl | rfl
    · have hb7 := Lib.hid (HBE.out 7 7 w3 rfl (by decide) (by decide) hd3 hu)
      have hs7 : signs7.size = 7 := rfl
      go_wp2_with fail
      refine hb7.out.mono ?_
      rintro e1 w4 ⟨x2, rfl, hx2, hd4, u4⟩
      have HB4 := Lib.hid (HB3.out.keep (u4.block g hgl (by omega)))
      have hu4 := hu.trans u4
      obtain ⟨ch, hch⟩ := signs_at hx2
      have hix := run_index_sign hch
      have hq' : q < l.length := by rw [HL.out]; exact hq
      obtain ⟨old, hold⟩ : ∃ y, l[q]? = some y := ⟨_, List.getElem?_eq_getElem hq'⟩
      have hcell := HB4.out.cell hold
      have hfree := HB4.out.free hq'
      have HP := Lib.hid (HB4.out.put q hq' ch)
      have HLS : Hid ((l.set q ch).length = m) := Lib.hid (by rw [List.length_set]; exact HL.out)
      have HU5 := Lib.hid (hu4.trans3 (Upd.setAt g q w4 (.int .u8 (ch.toNat : Int))) (by omega))
      have HD5 := Lib.hid (hd4.upd (Upd.setAt g q w4 (.int .u8 (ch.toNat : Int))) (by omega))
      clear hb7 hd3 hu u4 hd4 hu4 hq' hold
      go_wp2_with fail
      go_roundw
      case rel => exact ⟨m, k', l.set q ch, by go_num, by omega, by omega, Lib.hid (.inr ⟨g, cap, rfl, HLS.out, HP.out⟩), HD5.out, HU5.out⟩
      case measure => simp [intOf]
    · have HT := Lib.hid (HB3.out.take q (by rw [HL.out]; omega))
      have hqc : (q : Int) ≤ (cap : Int) := by omega
      have HLT : Hid ((l.take q).length = q) := Lib.hid (by have := HL.out; simp; omega)
      go_wp2_with fail
      go_roundw
      case rel => exact ⟨q, k', l.take q, by go_num, by omega, by omega, Lib.hid (.inr ⟨g, cap, rfl, HLT.out, HT.out⟩), hd3, hu⟩
      case measure => simp [intOf]
    · have hqc : (q : Int) ≤ (cap : Int) := by omega
      obtain ⟨q1, hq1⟩ : ∃ q1 : Nat, (q : Int) + 1 = (q1 : Int) := ⟨q + 1, by omega⟩
      have hw1 : IntKind.i64.wrap (q1 : Int) = (q1 : Int) := by rw [IntKind.wrap_i64]; omega
      have hq1m : (q1 : Int) ≤ (m : Int) := by omega
      have hq1n : q1 ≤ m := by omega
      have hqm : (q : Int) < (m : Int) := by omega
      have hmc : (m : Int) ≤ (cap : Int) := by omega
      by_cases hqe : q1 = cap
      · subst hqe
        have hmq : m = q1 := by omega
        have hm0 : m - q1 = 0 := by omega
        go_wp2_with fail
        refine wp_region_ord [1, 2, 3, 5, 6, 7, 8] [] [0] [4, 9, 10] (by kernel_rfl) (by kernel_rfl) (fun _ _ d _ _ h => by cases d <;> exact h) ?_
        simp only [pickOps, List.filterMap_cons, List.filterMap_nil, List.getElem?_cons_succ, List.getElem?_cons_zero]
        repeat quiet_step (fail)
        simp only [wpQuiet_nil_eq]
        obtain ⟨S5, hS5⟩ : ∃ S, w3.heap.size = S := ⟨_, rfl⟩
        obtain ⟨w5, hw5⟩ : ∃ W, W = (w3.alloc (.cells #[] 5)).drew := ⟨_, rfl⟩
        have h0 : w5.ownsRow S5 5 1 (.slice (some ⟨S5, 0, none⟩) 0 0) 0 [] := by rw [hw5, ← hS5]; exact World.ownsRow_lit w3 #[] 0 (Nat.le_refl _) (by simp [maxLen]) rfl
        have b5 : Below S5 w3 w5 := by rw [hw5, ← hS5]; exact (below_alloc' _ _).drew
        have hz5 : S5 + 1 ≤ w5.heap.size := by rw [hw5]; show S5 + 1 ≤ (w3.alloc _).heap.size; simp [hS5]
        have hgS : g < S5 := by omega
        have hwS : w.heap.size ≤ S5 := by have := hu.size; omega
        have HB5 := Lib.hid (HB3.out.keep (b5.block g hgS))
        have HBS := Lib.hid b5
        have hd5 := hd3.belowAt b5 (by omega)
        have hu5 := hu.then b5 hwS
        refine wpSegs_cons ?_
        go_wp2_with fail
        refine ⟨by first | (rw [← hw5]; exact HBS.out) | (rw [← hw5, hS5]; exact HBS.out), ?_⟩
        try rw [← hw5]
        try rw [hS5]
        clear hw5 hS5 b5 hd3 hu HB3
        simp only [wpSegs_nil_eq]
        have hlq := HL.out
        have hr5 : Row w5 1 (.slice (some ⟨g, 0, none⟩) q q1) q (u8s (l.take q)) := by simpa using HB5.out.row 0 q (by omega)
        refine wpList_extend w5 rfl _ _ 62 rfl S5 5 _ 1 Tryd.underlying62 infoB rfl (.slice (some ⟨S5, 0, none⟩) 0 0) 0 [] rfl h0 (.slice (some ⟨g, 0, none⟩) q q1) q (u8s (l.take q)) rfl hr5 (u8_one _) (by unfold maxLen; omega) (by omega) (by omega) ?_
        intro a6 c6 w6 ho6 hg6
        simp only [Nat.zero_add] at ho6 ⊢
        have b6 : Below S5 w5 w6 := (Below.refl _ _).grown hg6 (by omega) fun b hb' => (owns_lt h0 hb').1
        have HB6 := Lib.hid (HB5.out.keep (b6.block g hgS))
        have hz6 : S5 ≤ w6.heap.size := by have := b6.size; omega
        have hd6 := hd5.belowAt b6 (by omega)
        have hu6 := hu5.then b6 hwS
        have ho6' : w6.ownsRow S5 5 1 (.slice a6 q c6) q (u8s (l.take q)) := by simpa using ho6
        clear ho6 hr5 h0 hd5 hu5 hg6 b6 HB5
        have hr6 : Row w6 1 (.slice (some ⟨g, 0, none⟩) 0 0) (m - q1) (u8s (l.drop q1)) := by
          have e : m - q1 = 0 := by omega
          have e2 : l.drop q1 = [] := List.drop_eq_nil_iff.2 (by omega)
          rw [e, e2]
          exact ⟨_, _, rfl, Nat.le_refl _, Nat.zero_le _, rfl, (fun _ => rfl), fun j u hj => by cases hj⟩
        refine wpList_extend w6 rfl _ _ 62 rfl S5 5 _ 1 Tryd.underlying62 infoB rfl (.slice a6 q c6) q (u8s (l.take q)) rfl ho6' (.slice (some ⟨g, 0, none⟩) 0 0) (m - q1) (u8s (l.drop q1)) rfl hr6 (u8_one _) (by unfold maxLen; omega) (by omega) (by omega) ?_
        intro a7 c7 w7 ho7 hg7
        obtain ⟨N7, hN7⟩ : ∃ N, q + (m - q1) = N := ⟨_, rfl⟩
        rw [hN7] at ho7 ⊢
        have b7 : Below S5 w6 w7 := (Below.refl _ _).grown hg7 (by omega) fun b hb' => (owns_lt ho6' hb').1
        have HD7 := Lib.hid (hd6.belowAt b7 (by omega))
        have HU7 := Lib.hid (hu6.then b7 hwS)
        have HO7 : Hid (BO B (.slice a7 N7 c7) N7 (l.take q ++ l.drop q1) w7) := Lib.hid (BO.of_owns (by simp; omega) (owns_base (by simpa [u8s] using ho7) (by omega)))
        clear ho7 hg7 b7 hd6 hu6 hr6 ho6'
        go_wp2_with fail
        go_roundw
        case rel => exact ⟨N7, k', l.take q ++ l.drop q1, by go_num, by omega, by omega, HO7, HD7.out, HU7.out⟩
        case measure => simp [intOf]
      · have hqn : ¬ (q1 : Int) = (cap : Int) := by omega
        go_wp2_with fail
        refine wp_region_ord [1, 2, 3, 5, 6, 7, 8] [] [0] [4, 9, 10] (by kernel_rfl) (by kernel_rfl) (fun _ _ d _ _ h => by cases d <;> exact h) ?_
        simp only [pickOps, List.filterMap_cons, List.filterMap_nil, List.getElem?_cons_succ, List.getElem?_cons_zero]
        repeat quiet_step (fail)
        simp only [wpQuiet_nil_eq]
        obtain ⟨S5, hS5⟩ : ∃ S, w3.heap.size = S := ⟨_, rfl⟩
        obtain ⟨w5, hw5⟩ : ∃ W, W = (w3.alloc (.cells #[] 5)).drew := ⟨_, rfl⟩
        have h0 : w5.ownsRow S5 5 1 (.slice (some ⟨S5, 0, none⟩) 0 0) 0 [] := by rw [hw5, ← hS5]; exact World.ownsRow_lit w3 #[] 0 (Nat.le_refl _) (by simp [maxLen]) rfl
        have b5 : Below S5 w3 w5 := by rw [hw5, ← hS5]; exact (below_alloc' _ _).drew
        have hz5 : S5 + 1 ≤ w5.heap.size := by rw [hw5]; show S5 + 1 ≤ (w3.alloc _).heap.size; simp [hS5]
        have hgS : g < S5 := by omega
        have hwS : w.heap.size ≤ S5 := by have := hu.size; omega
        have HB5 := Lib.hid (HB3.out.keep (b5.block g hgS))
        have HBS := Lib.hid b5
        have hd5 := hd3.belowAt b5 (by omega)
        have hu5 := hu.then b5 hwS
        refine wpSegs_cons ?_
        go_wp2_with fail
        refine ⟨by first | (rw [← hw5]; exact HBS.out) | (rw [← hw5, hS5]; exact HBS.out), ?_⟩
        try rw [← hw5]
        try rw [hS5]
        clear hw5 hS5 b5 hd3 hu HB3
        simp only [wpSegs_nil_eq]
        have hlq := HL.out
        have hr5 : Row w5 1 (.slice (some ⟨g, 0, none⟩) q cap) q (u8s (l.take q)) := by simpa using HB5.out.row 0 q (by omega)
        refine wpList_extend w5 rfl _ _ 62 rfl S5 5 _ 1 Tryd.underlying62 infoB rfl (.slice (some ⟨S5, 0, none⟩) 0 0) 0 [] rfl h0 (.slice (some ⟨g, 0, none⟩) q cap) q (u8s (l.take q)) rfl hr5 (u8_one _) (by unfold maxLen; omega) (by omega) (by omega) ?_
        intro a6 c6 w6 ho6 hg6
        simp only [Nat.zero_add] at ho6 ⊢
        have b6 : Below S5 w5 w6 := (Below.refl _ _).grown hg6 (by omega) fun b hb' => (owns_lt h0 hb').1
        have HB6 := Lib.hid (HB5.out.keep (b6.block g hgS))
        have hz6 : S5 ≤ w6.heap.size := by have := b6.size; omega
        have hd6 := hd5.belowAt b6 (by omega)
        have hu6 := hu5.then b6 hwS
        have ho6' : w6.ownsRow S5 5 1 (.slice a6 q c6) q (u8s (l.take q)) := by simpa using ho6
        clear ho6 hr5 h0 hd5 hu5 hg6 b6 HB5
        have hr6 : Row w6 1 (.slice (some ⟨g, q1, none⟩) (m - q1) (cap - q1)) (m - q1) (u8s (l.drop q1)) := by
          have h := HB6.out.row q1 (m - q1) (by omega)
          rwa [List.take_of_length_le (by simp; omega)] at h
        refine wpList_extend w6 rfl _ _ 62 rfl S5 5 _ 1 Tryd.underlying62 infoB rfl (.slice a6 q c6) q (u8s (l.take q)) rfl ho6' (.slice (some ⟨g, q1, none⟩) (m - q1) (cap - q1)) (m - q1) (u8s (l.drop q1)) rfl hr6 (u8_one _) (by unfold maxLen; omega) (by omega) (by omega) ?_
        intro a7 c7 w7 ho7 hg7
        obtain ⟨N7, hN7⟩ : ∃ N, q + (m - q1) = N := ⟨_, rfl⟩
        rw [hN7] at ho7 ⊢
        have b7 : Below S5 w6 w7 := (Below.refl _ _).grown hg7 (by omega) fun b hb' => (owns_lt ho6' hb').1
        have HD7 := Lib.hid (hd6.belowAt b7 (by omega))
        have HU7 := Lib.hid (hu6.then b7 hwS)
        have HO7 : Hid (BO B (.slice a7 N7 c7) N7 (l.take q ++ l.drop q1) w7) := Lib.hid (BO.of_owns (by simp; omega) (owns_base (by simpa [u8s] using ho7) (by omega)))
        clear ho7 hg7 b7 hd6 hu6 hr6 ho6'
        go_wp2_with fail
        go_roundw
        case rel => exact ⟨N7, k', l.take q ++ l.drop q1, by go_num, by omega, by omega, HO7, HD7.out, HU7.out⟩
        case measure => simp [intOf]
    · have hqc : (q : Int) ≤ (cap : Int) := by omega
      have hqm : (q : Int) < (m : Int) := by omega
      have hqm2 : (q : Int) ≤ (m : Int) := by omega
      have hmc : (m : Int) ≤ (cap : Int) := by omega
      have hqn : ¬ (q : Int) = (cap : Int) := by omega
      have hqn2 : ¬ q = cap := by omega
      have hs7 : signs7.size = 7 := rfl
      go_wp2_with fail
      refine wp_region_order [1, 2, 3, 5, 6, 7, 8, 13, 14, 15] [] [0, 4, 9, 10, 11, 12] [16, 17] KT (by kernel_rfl) (by kernel_rfl) (fun _ _ d _ _ h => by cases d <;> exact h) (KT.all _) ?_
      simp only [pickOps, List.filterMap_cons, List.filterMap_nil, List.getElem?_cons_succ, List.getElem?_cons_zero]
      repeat quiet_step (fail)
      simp only [wpQuiet_nil_eq]
      obtain ⟨S5, hS5⟩ : ∃ S, w3.heap.size = S := ⟨_, rfl⟩
      obtain ⟨w5, hw5⟩ : ∃ W, W = (w3.alloc (.cells #[] 5)).drew := ⟨_, rfl⟩
      have h0 : w5.ownsRow S5 5 1 (.slice (some ⟨S5, 0, none⟩) 0 0) 0 [] := by rw [hw5, ← hS5]; exact World.ownsRow_lit w3 #[] 0 (Nat.le_refl _) (by simp [maxLen]) rfl
      have b5 : Below S5 w3 w5 := by rw [hw5, ← hS5]; exact (below_alloc' _ _).drew
      have hz5 : S5 + 1 ≤ w5.heap.size := by rw [hw5]; show S5 + 1 ≤ (w3.alloc _).heap.size; simp [hS5]
      have hgS : g < S5 := by omega
      have hwS : w.heap.size ≤ S5 := by have := hu.size; omega
      have HB5 := Lib.hid (HB3.out.keep (b5.block g hgS))
      have HBS := Lib.hid b5
      have hd5 := hd3.belowAt b5 (by omega)
      have hu5 := hu.then b5 hwS
      refine wpSegs_cons ?_
      go_wp2_with fail
      refine ⟨KT.all _, ?_⟩
      try rw [← hw5]
      try rw [hS5]
      clear hw5 hS5 b5 hd3 hu HB3
      refine wpSegs_cons ?_
      have hlq := HL.out
      have hr5 : Row w5 1 (.slice (some ⟨g, 0, none⟩) q cap) q (u8s (l.take q)) := by simpa using HB5.out.row 0 q (by omega)
      refine wpList_extend w5 rfl _ _ 62 rfl S5 5 _ 1 Tryd.underlying62 infoB rfl (.slice (some ⟨S5, 0, none⟩) 0 0) 0 [] rfl h0 (.slice (some ⟨g, 0, none⟩) q cap) q (u8s (l.take q)) rfl hr5 (u8_one _) (by unfold maxLen; omega) (by omega) (by omega) ?_
      intro a6 c6 w6 ho6 hg6
      simp only [Nat.zero_add] at ho6 ⊢
      have b6 : Below S5 w5 w6 := (Below.refl _ _).grown hg6 (by omega) fun b hb' => (owns_lt h0 hb').1
      have HB6 := Lib.hid (HB5.out.keep (b6.block g hgS))
      have hz6 : S5 ≤ w6.heap.size := by have := b6.size; omega
      have hd6 := hd5.belowAt b6 (by omega)
      have hu6 := hu5.then b6 hwS
      have ho6' : w6.ownsRow S5 5 1 (.slice a6 q c6) q (u8s (l.take q)) := by simpa using ho6
      clear ho6 hr5 h0 hd5 hu5 hg6 b6 HB5
      refine ⟨KT.all _, ?_⟩
      have hb7 := Lib.hid (HBE.out 7 7 w6 rfl (by decide) (by decide) hd6 hu6)
      refine wpSegs_cons ?_
      go_wp2_with fail
      refine hb7.out.mono ?_
      rintro e1 w8 ⟨x2, rfl, hx2, hd8, u8⟩
      have HB8 := Lib.hid (HB6.out.keep (u8.block g HB6.out.lt (by omega)))
      have hu8 := hu6.trans u8
      have ho8 := own_upd ho6' u8 (by omega)
      have hz8 : w6.heap.size ≤ w8.heap.size := u8.size
      obtain ⟨ch, hch⟩ := signs_at hx2
      have hix := run_index_sign hch
      clear hb7 hd6 hu6 u8 ho6' HB6
      go_wp2_with fail
      refine ⟨KT.all _, ?_⟩
      refine wpSegs_cons ?_
      go_wp2_with fail
      refine ⟨KT.all _, ?_⟩
      refine wpSegs_cons ?_
      go_wp2_with fail
      refine ⟨KT.all _, ?_⟩
      refine wpSegs_cons ?_
      refine wpList_push w8 rfl _ _ 62 rfl S5 5 _ _ 1 Tryd.underlying62 infoB rfl (.slice a6 q c6) q (u8s (l.take q)) rfl ho8 (.int .u8 (ch.toNat : Int)) rfl rfl (by unfold maxLen; omega) (by omega) (by omega) ?_
      intro g9 c9 w9 ho9 hg9
      have b9 : Below S5 w8 w9 := (Below.refl _ _).grown hg9 (by omega) fun b hb' => (owns_lt ho8 hb').1
      have HB9 := Lib.hid (HB8.out.keep (b9.block g hgS))
      have hz9 : S5 ≤ w9.heap.size := by have := b9.size; omega
      have hr9 := HB9.out.row q (m - q) (by omega)
      have hd9 := hd8.belowAt b9 (by omega)
      have hu9 := hu8.then b9 hwS
      clear hd8 hu8 ho8 HB8 b9 hix
      refine ⟨KT.all _, ?_⟩
      simp only [wpSegs_nil_eq]
      refine wpList_extend w9 rfl _ _ 62 rfl S5 5 _ 1 Tryd.underlying62 infoB rfl (.slice (some ⟨g9, 0, none⟩) (q + 1) c9) (q + 1) (u8s (l.take q) ++ [.int .u8 (ch.toNat : Int)]) rfl ho9 (.slice (some ⟨g, q, none⟩) (m - q) (cap - q)) (m - q) (u8s ((l.drop q).take (m - q))) rfl hr9 (u8_one _) (by unfold maxLen; omega) (by omega) (by omega) ?_
      intro a7 c7 w7 ho7 hg7
      obtain ⟨N7, hN7⟩ : ∃ N, q + 1 + (m - q) = N := ⟨_, rfl⟩
      rw [hN7] at ho7 ⊢
      have b7 : Below S5 w9 w7 := (Below.refl _ _).grown hg7 (by omega) fun b hb' => (owns_lt ho9 hb').1
      have HD7 := Lib.hid (hd9.belowAt b7 (by omega))
      have HU7 := Lib.hid (hu9.then b7 hwS)
      have HO7 : Hid (BO B (.slice a7 N7 c7) N7 (l.take q ++ [ch] ++ (l.drop q).take (m - q)) w7) := Lib.hid (BO.of_owns (by simp; omega) (owns_base (by simpa [u8s] using ho7) (by omega)))
      clear ho7 ho9 hg9 hg7 b7 hd9 hu9 hr9
      go_wp2_with fail
      go_roundw
      case rel => exact ⟨N7, k', _, by go_num, by omega, by omega, HO7, HD7.out, HU7.out⟩
      case measure => simp [intOf]
end Go.Proofs.YtbhobmngnjfgfaaDoor
