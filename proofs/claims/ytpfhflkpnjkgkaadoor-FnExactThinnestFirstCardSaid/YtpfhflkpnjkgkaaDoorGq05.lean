import Derived.Test.YtpfhflkpnjkgkaaDoorGq03
import Derived.Test.YtpfhflkpnjkgkaaDoorGq04
/-
  The law's helpers over arguments: szInt64S, szInt64SS (how much), toInt64S, toInt64SS (copies).
-/

namespace Go.Proofs.YtpfhflkpnjkgkaaDoor
open Go.RowKit

theorem szS_any (v : Value) (xs : List Int) (L : Int) (hL : L ≤ 1048576) (hL0 : 0 ≤ L) (w : World) (hr : Row w 1 v xs.length (ints xs)) :
    Calls Tryd.prog 43 #[v, .int .i64 L] w fun e w' => ∃ r, e = .returned (.int .i64 r) ∧ ((r = -1 ∧ L < xs.length) ∨ (r = L - xs.length ∧ 0 ≤ r)) ∧ w = w' := by
  have hl := hr.len
  unfold maxLen at hl
  obtain ⟨a, c, rfl, -, -, -⟩ := id hr
  by_cases h : L - xs.length < 0
  · go_enter Tryd.func43, Tryd.ntmps43
    go_wp2_with fail
    go_ret
    exact ⟨-1, rfl, .inl ⟨rfl, by omega⟩, rfl⟩
  · go_enter Tryd.func43, Tryd.ntmps43
    go_wp2_with fail
    go_ret
    exact ⟨_, rfl, .inr ⟨rfl, by omega⟩, rfl⟩

theorem set_fill (xs : List Int) (k : Nat) (x : Int) (hx : xs[k]? = some x) :
    (ints (xs.take k) ++ List.replicate (xs.length - k) (Value.int .i64 0)).set k (.int .i64 x) = ints (xs.take (k + 1)) ++ List.replicate (xs.length - (k + 1)) (Value.int .i64 0) := by
  obtain ⟨hk, rfl⟩ := List.getElem?_eq_some_iff.1 hx
  have hl : (ints (xs.take k)).length = k := by simp; omega
  rw [List.set_append_right _ _ (by omega), hl, Nat.sub_self, show xs.length - k = (xs.length - (k + 1)) + 1 by omega, List.replicate_succ, List.set_cons_zero, take_snoc hx, ints_snoc]
  simp

set_option maxHeartbeats 1000000 in
theorem toS_any (v : Value) (xs : List Int) (hn : xs.length ≤ 1048576) (w : World) (hr : Row w 1 v xs.length (ints xs)) :
    Calls Tryd.prog 46 #[v] w fun e w' => ∃ c, e = .returned (.slice (some ⟨w.heap.size, 0, none⟩) xs.length c) ∧ w'.ownsRow w.heap.size 2 1 (.slice (some ⟨w.heap.size, 0, none⟩) xs.length c) xs.length (ints xs) ∧ Below w.heap.size w w' := by
  obtain ⟨a, c, rfl, -, -, -⟩ := id hr
  obtain ⟨B, hB⟩ : ∃ B, w.heap.size = B := ⟨_, rfl⟩
  go_enter Tryd.func46, Tryd.ntmps46
  go_wp2_with (at_make; refine wpList_make _ rfl _ _ 24 rfl w.heap.size 2 (.int .i64 0) 8 Tryd.underlying24 infoI rfl .i64 .i64 _ _ xs.length rfl rfl (by omega) (by omega) (by omega) (by unfold maxLen; omega) (by simp) ?_; intro w1 ho1 hb1)
  go_loopw [4] (fun i wr => ∃ k : Nat, k ≤ xs.length ∧ i = .int .i64 k ∧ wr.ownsRow B 2 1 (.slice (some ⟨B, 0, none⟩) xs.length xs.length) xs.length (ints (xs.take k) ++ List.replicate (xs.length - k) (.int .i64 0)) ∧ Below B w wr) (fun i _ => xs.length - (intOf i).toNat)
  case atStart => exact ⟨0, Nat.zero_le _, rfl, by subst hB; simpa [ints] using ho1, by subst hB; exact hb1⟩
  case round =>
    obtain ⟨k, hk, rfl, ho, hb⟩ := hrel
    by_cases hlt : k < xs.length
    · obtain ⟨b, o, x, rfl, hc, HX⟩ := (hr.below (hB.symm ▸ hb)).intAt hlt
      have hf := ho.frozenAt k
      have hx : wr.cell? ⟨B, k, none⟩ = some (.int .i64 0) := by
        rw [ho.cellAt k (by omega), List.getElem?_append_right (by simp; omega)]
        rw [show k - (ints (xs.take k)).length = 0 by simp; omega, show xs.length - k = (xs.length - k - 1) + 1 by omega, List.replicate_succ]
        rfl
      have hst := ho.stored k (.int .i64 x)
      rw [set_fill xs k x HX.out] at hst
      obtain ⟨ho2, hg2⟩ := hst
      have hb2 := hb.trans (below_of_grown hg2 (by have := hb.size; omega) (fun b hb' => by simp at hb'; omega))
      clear hb ho
      go_wp2_with fail
      go_roundw
      case rel => exact ⟨k + 1, by omega, by go_num, ho2, hb2⟩
      case measure => simp [intOf]; omega
    · obtain rfl : k = xs.length := by omega
      go_wp2_with fail
      go_ret
      subst hB
      exact ⟨xs.length, rfl, by simpa using ho, hb⟩

theorem total_snoc (xss : List (List Int)) (xs : List Int) : total (xss ++ [xs]) = total xss + xs.length := by
  simp only [total, List.map_append, List.sum_append, List.map_cons, List.map_nil, List.sum_cons, List.sum_nil]
  omega

/-- How much: what is left, or less than nothing. -/
theorem szSS_any (v : Value) (vs : List Value) (xss : List (List Int)) (L : Int) (hL : L ≤ 1048576) (hL0 : 0 ≤ L) (w : World) (hr : RdG w v vs (xss.map ints)) :
    Calls Tryd.prog 29 #[v, .int .i64 L] w fun e w' => ∃ r, e = .returned (.int .i64 r) ∧ (r = -1 ∨ (0 ≤ r ∧ r = L - xss.length - total xss)) ∧ w = w' := by
  have hl := hr.outer.len
  unfold maxLen at hl
  have e1 : vs.length = xss.length := by simpa using hr.len
  obtain ⟨a, c, rfl, -, -, -⟩ := id hr.outer
  rw [e1] at hr hl ⊢
  clear e1
  by_cases h0 : L - xss.length < 0
  · go_enter Tryd.func29, Tryd.ntmps29
    go_wp2_with fail
    go_ret
    exact ⟨-1, rfl, .inl rfl, rfl⟩
  · go_enter Tryd.func29, Tryd.ntmps29
    go_wp2_with fail
    go_loopw [5, 1] (fun i l wr => ∃ (k : Nat) (q : Int), k ≤ xss.length ∧ i = .int .i64 k ∧ l = .int .i64 q ∧ 0 ≤ q ∧ q = L - xss.length - total (xss.take k) ∧ w = wr) (fun i _ _ => xss.length - (intOf i).toNat)
    case atStart => exact ⟨0, _, Nat.zero_le _, rfl, rfl, by omega, by simp [total], rfl⟩
    case round =>
      obtain ⟨k, q, hk, rfl, rfl, hq0, hq, rfl⟩ := hrel
      by_cases hlt : k < xss.length
      · obtain ⟨b, o, u, xs, rfl, hc, hu, -, HX⟩ := hr.intsAt hlt
        have hql : q ≤ 1048576 := by omega
        have HQ := Lib.hid hq
        clear hq
        have htk : total (xss.take (k + 1)) = total (xss.take k) + xs.length := by rw [take_snoc HX.out]; exact total_snoc _ _
        go_wp2_with fail
        refine (szS_any u xs q hql hq0 _ hu).mono ?_
        rintro e w' ⟨r, rfl, hcase, rfl⟩
        rcases hcase with ⟨rfl, -⟩ | ⟨hr1, hr0⟩
        · go_wp2_with fail
          go_ret
          exact ⟨-1, rfl, .inl rfl, rfl⟩
        · have hrl : r ≤ 1048576 := by omega
          have HR := Lib.hid hr1
          have HT := Lib.hid htk
          clear hr1 htk
          go_wp2_with fail
          go_roundw
          case rel => exact ⟨k + 1, r, by omega, by go_num, rfl, hr0, by have h1 := HQ.out; have h2 := HR.out; have h3 := HT.out; omega, by trivial⟩
          case measure => simp [intOf]; omega
      · obtain rfl : k = xss.length := by omega
        rw [List.take_length] at hq
        have HQ := Lib.hid hq
        clear hq
        go_wp2_with fail
        go_ret
        exact ⟨q, rfl, .inr ⟨hq0, HQ.out⟩, rfl⟩

/-- 'make([][]T, n)': n rows of nothing. -/
theorem OwnG.zeros {w : World} {base : Nat} {e1 e2 : TypeId} (he : e1 ≠ e2) {v : Value} {n : Nat} (h : w.ownsRow base e1 1 v n (List.replicate n (.slice none 0 0))) :
    OwnG w base e1 e2 v (List.replicate n (.slice none 0 0)) (List.replicate n []) := by
  refine ⟨by simp, by simpa using h, fun i u cs h1 h2 => ?_, ?_, he⟩
  · have hu := List.eq_of_mem_replicate (List.mem_of_getElem? h1)
    have hc := List.eq_of_mem_replicate (List.mem_of_getElem? h2)
    subst hu; subst hc
    exact World.ownsRow_nil _ _ _ _
  · rw [List.pairwise_replicate]
    right
    intro k hk
    simp [Value.ownBlock] at hk

/-- Rows, the first k of them written. -/
def rowsUp (xss : List (List Int)) (k : Nat) : List (List Int) := xss.take k ++ List.replicate (xss.length - k) []
@[simp] theorem rowsUp_length (xss : List (List Int)) (k : Nat) (hk : k ≤ xss.length) : (rowsUp xss k).length = xss.length := by simp [rowsUp]; omega
theorem rowsUp_set (xss : List (List Int)) (k : Nat) (xs : List Int) (hx : xss[k]? = some xs) : (rowsUp xss k).set k xs = rowsUp xss (k + 1) := by
  obtain ⟨hk, rfl⟩ := List.getElem?_eq_some_iff.1 hx
  have hl : (xss.take k).length = k := by simp; omega
  unfold rowsUp
  rw [List.set_append_right _ _ (by omega), hl, Nat.sub_self, show xss.length - k = (xss.length - (k + 1)) + 1 by omega, List.replicate_succ, List.set_cons_zero, take_snoc hx, List.append_assoc]
  rfl

set_option maxHeartbeats 1000000 in
theorem toSS_any (v : Value) (vs : List Value) (xss : List (List Int)) (hn : xss.length ≤ 1048576) (hs : ∀ xs ∈ xss, xs.length ≤ 1048576) (w : World) (hr : RdG w v vs (xss.map ints)) :
    Calls Tryd.prog 34 #[v] w fun e w' => ∃ u us, e = .returned u ∧ OwnG w' w.heap.size 24 2 u us (xss.map ints) ∧ Below w.heap.size w w' := by
  have e1 : vs.length = xss.length := by simpa using hr.len
  obtain ⟨a, c, rfl, -, -, -⟩ := id hr.outer
  rw [e1] at hr ⊢
  clear e1
  obtain ⟨B, hB⟩ : ∃ B, w.heap.size = B := ⟨_, rfl⟩
  have HS := Lib.hid hs
  clear hs
  go_enter Tryd.func34, Tryd.ntmps34
  go_wp2_with (at_make; refine wpList_make _ rfl _ _ 33 rfl w.heap.size 24 (.slice none 0 0) 24 Tryd.underlying33 infoR rfl .i64 .i64 _ _ xss.length rfl rfl (by omega) (by omega) (by omega) (by unfold maxLen; omega) (by simp) ?_; intro w1 ho1 hb1)
  have hG1 : OwnG w1 B 24 2 (.slice (some ⟨B, 0, none⟩) xss.length xss.length) (List.replicate xss.length (.slice none 0 0)) ((rowsUp xss 0).map ints) := by
    subst hB
    have := OwnG.zeros (e2 := 2) (by decide) ho1
    simpa [rowsUp, ints] using this
  rw [hB] at hb1
  clear ho1
  go_wp2_with fail
  go_loopw [4] (fun i wr => ∃ (k : Nat) (us : List Value), k ≤ xss.length ∧ i = .int .i64 k ∧ OwnG wr B 24 2 (.slice (some ⟨B, 0, none⟩) xss.length xss.length) us ((rowsUp xss k).map ints) ∧ Below B w wr) (fun i _ => xss.length - (intOf i).toNat)
  case atStart => exact ⟨0, _, Nat.zero_le _, rfl, hG1, hb1⟩
  case round =>
    clear hG1 hb1
    obtain ⟨k, us, hk, rfl, hG, hb⟩ := hrel
    have hsz := hb.size
    have hul : us.length = xss.length := by rw [hG.len, List.length_map, rowsUp_length _ _ hk]
    by_cases hlt : k < xss.length
    · obtain ⟨b, o, u, xs, rfl, hc, hu, -, HX⟩ := (hr.below (hB.symm ▸ hb)).intsAt hlt
      have hxl : xs.length ≤ 1048576 := HS.out xs (List.mem_of_getElem? HX.out)
      have HUL := Lib.hid hul
      clear hul
      go_wp2_with fail
      refine (toS_any u xs hxl _ hu).mono ?_
      rintro e w2 ⟨uc, rfl, ho2, hb2⟩
      have hout := owns_below hG.outer hb2
      rw [HUL.out] at hout
      have hf := hout.frozenAt k
      have hx : ∃ y, w2.cell? ⟨B, k, none⟩ = some y := by
        rw [hout.cellAt k (by omega)]
        exact ⟨us[k]'(by rw [HUL.out]; exact hlt), List.getElem?_eq_getElem _⟩
      obtain ⟨y, hx⟩ := hx
      have hst := hout.stored k (.slice (some ⟨wr.heap.size, 0, none⟩) xs.length uc)
      have hG2 := hG.set (cs := ints xs) k hb2 (by simpa using owns_base ho2 (by omega)) (.inr fun j hj => by simp [Value.ownBlock] at hj; omega) (by rw [HUL.out]; exact hst.1) hst.2
      have hb3 := hb.trans ((hb2.mono (by omega)).trans (below_of_grown hst.2 (by have := hb2.size; omega) (fun b hb' => by simp at hb'; omega)))
      rw [← List.map_set, rowsUp_set xss k xs HX.out] at hG2
      clear hst hout hG hb hb2 ho2
      go_wp2_with fail
      go_roundw
      case rel => exact ⟨k + 1, _, by omega, by go_num, hG2, hb3⟩
      case measure => simp [intOf]; omega
    · obtain rfl : k = xss.length := by omega
      go_wp2_with fail
      go_ret
      subst hB
      exact ⟨_, us, rfl, by simpa [rowsUp] using hG, hb⟩
end Go.Proofs.YtpfhflkpnjkgkaaDoor
/-
  The kinds of values that a law handles, each with the blocks that it may lie in; what stays when other blocks are written. The helpers of the laws as contracts over these.
-/


namespace Go.Proofs.YtpfhflkpnjkgkaaDoor
open Go.RowKit

/-- From w to w' only blocks from lo up to hi have been written, of those that stood. -/
structure Upd (lo hi : Nat) (w w' : World) : Prop where
  os : w'.os = w.os
  tape : w'.tape = w.tape
  output : w'.output = w.output
  size : w.heap.size ≤ w'.heap.size
  block : ∀ k, k < w.heap.size → ¬ (lo ≤ k ∧ k < hi) → w'.heap[k]? = w.heap[k]?

theorem Upd.of_below {w w' : World} (h : Below w.heap.size w w') : Upd 0 0 w w' := ⟨h.os, h.tape, h.output, h.size, fun k hk _ => h.block k hk⟩
theorem below_alloc' (w : World) (o : Obj) : Below w.heap.size w (w.alloc o) := (Below.refl _ _).alloc (Nat.le_refl _) _
theorem Upd.rfl' (w : World) : Upd 0 0 w w := ⟨rfl, rfl, rfl, Nat.le_refl _, fun _ _ _ => rfl⟩
theorem Upd.drew (w : World) : Upd 0 0 w w.drew := ⟨rfl, rfl, rfl, Nat.le_refl _, fun _ _ _ => rfl⟩
theorem Upd.setCell (b : Nat) (w : World) (x : Value) : Upd b (b + 1) w (w.setCell ⟨b, 0, none⟩ x) :=
  ⟨rfl, rfl, rfl, by simp [World.setCell], fun k _ hn => Below.heap_setCell _ _ _ _ (fun e => hn (by simp at e; omega))⟩
theorem Upd.alloc (w : World) (o : Obj) : Upd 0 0 w (w.alloc o) := Upd.of_below ((Below.refl _ _).alloc (Nat.le_refl _) _)
theorem Upd.of_wrote {w w' : World} {S : Nat → Prop} {lo hi : Nat} (h : Wrote w w' S) (hS : ∀ k, S k → lo ≤ k ∧ k < hi) : Upd lo hi w w' :=
  ⟨h.os, h.tape, h.output, h.size, fun k hk hn => h.block k hk fun e => hn (hS k e)⟩
theorem Upd.toBelow {w w' : World} {lo hi B : Nat} (h : Upd lo hi w w') (hB : B ≤ w.heap.size) (hlo : hi ≤ lo ∨ B ≤ lo) : Below B w w' :=
  ⟨h.os, h.tape, h.output, h.size, fun k hk => h.block k (by omega) (by omega)⟩
theorem Upd.below {w0 w w' : World} {lo hi B : Nat} (h : Upd lo hi w w') (hb : Below B w0 w) (hB : B ≤ w.heap.size) (hlo : hi ≤ lo ∨ B ≤ lo) : Below B w0 w' := hb.trans (h.toBelow hB hlo)

/-- A variable of a struct's type: block b holds the cells cs. -/
def VC (t : TypeId) (b : Nat) (cs : Array Value) (w : World) : Prop := w.heap[b]? = some (.cells cs t (0, 0))
section
variable {t : TypeId} {b : Nat} {cs : Array Value} {w w' : World}
theorem VC.lt (h : VC t b cs w) : b < w.heap.size := by
  unfold VC at h
  exact (Array.getElem?_eq_some_iff.1 h).1
theorem VC.upd {lo hi : Nat} (h : VC t b cs w) (u : Upd lo hi w w') (hd : b < lo ∨ hi ≤ b ∨ hi ≤ lo) : VC t b cs w' := (u.block b h.lt (by omega)).trans h
theorem VC.new {n : Nat} (hn : w.heap.size = n) : VC t n cs (w.alloc (.cells cs t)) := by subst hn; exact heap_alloc_new w _
theorem VC.cell {v : Value} (h : VC t b #[v] w) : w.cell? ⟨b, 0, none⟩ = some v := cell_of_one h
theorem VC.set {v : Value} (h : VC t b #[v] w) (u : Value) : VC t b #[u] (w.setCell ⟨b, 0, none⟩ u) := one_setCell h
theorem VC.other (h : VC t b cs w) {p : Addr} (hp : b ≠ p.block) (u : Value) : VC t b cs (w.setCell p u) := (Below.heap_setCell _ _ _ _ hp).trans h
theorem VC.belowAt (h : VC t b cs w) {n : Nat} (hb : Below n w w') (hn : b < n) : VC t b cs w' := (hb.block b hn).trans h
theorem VC.grown {r : Option Nat} (h : VC t b cs w) (hg : w.grownBy w' r) (hr : r ≠ some b) : VC t b cs w' := (hg.block b h.lt (fun e => hr e.symm)).trans h
theorem VC.free {v : Value} (h : VC t b #[v] w) : w.frozen? ⟨b, 0, none⟩ = false := free_of_one h
end

/-- v is a slice of numbers of the call's own, which reads xs; its block lies from lo up to hi. -/
structure OwS (lo hi : Nat) (v : Value) (xs : List Int) (w : World) : Prop where
  own : w.ownsRow lo 2 1 v xs.length (ints xs)
  hi : ∀ k, v.ownBlock = some k → k < hi
/-- The same of rows. -/
structure OwSS (lo hi : Nat) (v : Value) (xss : List (List Int)) (w : World) : Prop where
  ex : ∃ vs, OwnG w lo 24 2 v vs (xss.map ints) ∧ ∀ k, (v.ownBlock = some k ∨ ∃ u ∈ vs, u.ownBlock = some k) → k < hi
/-- v is a slice of numbers that reads xs. -/
abbrev RdS (v : Value) (xs : List Int) (w : World) : Prop := Row w 1 v xs.length (ints xs)
/-- v is a slice of rows that read xss. -/
structure RdSS (v : Value) (xss : List (List Int)) (w : World) : Prop where
  ex : ∃ vs, RdG w v vs (xss.map ints)

section
variable {lo hi : Nat} {v : Value} {xs : List Int} {xss : List (List Int)} {w w' : World}
theorem OwS.of {w0 : World} (h : w.ownsRow w0.heap.size 2 1 v xs.length (ints xs)) (h0 : w0.heap.size = lo) (h1 : w.heap.size = hi) : OwS lo hi v xs w := by
  subst h0; subst h1
  exact ⟨h, fun k hk => (owns_lt h hk).2⟩
theorem OwSS.of {w0 : World} {vs : List Value} (h : OwnG w w0.heap.size 24 2 v vs (xss.map ints)) (h0 : w0.heap.size = lo) (h1 : w.heap.size = hi) : OwSS lo hi v xss w := by
  subst h0; subst h1
  exact ⟨vs, h, fun k hk => (h.lt hk).2⟩
theorem OwS.upd {lo' hi' : Nat} (h : OwS lo hi v xs w) (u : Upd lo' hi' w w') (hd : hi ≤ lo' ∨ hi' ≤ lo ∨ hi' ≤ lo') : OwS lo hi v xs w' :=
  ⟨owns_keep h.own fun b hb hlt => u.block b hlt (by have := (owns_lt h.own hb).1; have := h.hi b hb; omega), h.hi⟩
theorem OwSS.upd {lo' hi' : Nat} (h : OwSS lo hi v xss w) (u : Upd lo' hi' w w') (hd : hi ≤ lo' ∨ hi' ≤ lo ∨ hi' ≤ lo') : OwSS lo hi v xss w' := by
  obtain ⟨vs, hG, hh⟩ := h.ex
  refine ⟨vs, ⟨hG.len, owns_keep hG.outer fun b hb hlt => u.block b hlt ?_, fun i x cs h1 h2 => owns_keep (hG.rows i x cs h1 h2) fun b hb hlt => u.block b hlt ?_, hG.apart, hG.unlike⟩, hh⟩
  · have := hG.lt (.inl hb); have := hh b (.inl hb); omega
  · have := hG.lt (.inr ⟨x, List.mem_of_getElem? h1, hb⟩); have := hh b (.inr ⟨x, List.mem_of_getElem? h1, hb⟩); omega
theorem OwS.rd (h : OwS lo hi v xs w) : RdS v xs w := Row.of_owns h.own
theorem OwSS.rd (h : OwSS lo hi v xss w) : RdSS v xss w := let ⟨vs, hG, _⟩ := h.ex; ⟨vs, hG.rd⟩
theorem OwS.shape (h : OwS lo hi v xs w) : ∃ a c, v = .slice a xs.length c := owns_shape h.own
theorem OwSS.shape (h : OwSS lo hi v xss w) : ∃ a c, v = .slice a xss.length c := by
  obtain ⟨vs, hG, _⟩ := h.ex
  obtain ⟨a, c, e⟩ := owns_shape hG.outer
  exact ⟨a, c, by rw [e, hG.len, List.length_map]⟩
theorem RdSS.shape (h : RdSS v xss w) : ∃ a c, v = .slice a xss.length c := by
  obtain ⟨vs, hG⟩ := h.ex
  obtain ⟨a, c, e, _⟩ := hG.outer
  exact ⟨a, c, by rw [e, hG.len, List.length_map]⟩
theorem RdSS.below {B : Nat} (h : RdSS v xss w) (hb : Below B w w') (hB : w.heap.size = B) : RdSS v xss w' := by
  subst hB
  obtain ⟨vs, hG⟩ := h.ex
  exact ⟨vs, hG.below hb⟩
theorem RdS.below {B : Nat} (h : RdS v xs w) (hb : Below B w w') (hB : w.heap.size = B) : RdS v xs w' := by subst hB; exact Row.below h hb
end

/-! ### eq: of like values -/
theorem eqS_k {v1 v2 : Value} {xs : List Int} {w : World} (h1 : RdS v1 xs w) (h2 : RdS v2 xs w) :
    Calls Tryd.prog 9 #[v1, v2] w fun e w' => e = .returned (.bool true) ∧ Upd 0 0 w w' :=
  (eqS_any v1 v2 xs xs w h1 h2).mono fun _ _ ⟨he, hb⟩ => ⟨by rw [he]; exact ret_bool (by simp), Upd.of_below hb⟩
theorem eqSS_k {v1 v2 : Value} {xss : List (List Int)} {w : World} (h1 : RdSS v1 xss w) (h2 : RdSS v2 xss w) :
    Calls Tryd.prog 41 #[v1, v2] w fun e w' => e = .returned (.bool true) ∧ Upd 0 0 w w' := by
  obtain ⟨vs1, h1⟩ := h1.ex
  obtain ⟨vs2, h2⟩ := h2.ex
  exact (eqSS_any v1 v2 vs1 vs2 xss xss w h1 h2).mono fun _ _ ⟨he, hb⟩ => ⟨by rw [he]; exact ret_bool (by simp), Upd.of_below hb⟩
theorem eqG_k {v1 v2 : Value} {xss : List (List Int)} {w : World} (h1 : RdSS v1 xss w) (h2 : RdSS v2 xss w) :
    Calls Tryd.prog 18 #[.agg #[v1], .agg #[v2]] w fun e w' => e = .returned (.bool true) ∧ Upd 0 0 w w' := by
  obtain ⟨vs1, h1⟩ := h1.ex
  obtain ⟨vs2, h2⟩ := h2.ex
  exact (eqGraph_any v1 v2 vs1 vs2 xss xss w h1 h2).mono fun _ _ ⟨he, hb⟩ => ⟨by rw [he]; exact ret_bool (by simp), Upd.of_below hb⟩

/-! ### mark and held -/
/-- What 'mark' leaves in rows, from k on. -/
def markedFrom (k : Nat) (xss : List (List Int)) : List (List Int) := number k ((xss.map ints).map List.length)
theorem markS_k {lo hi : Nat} {v : Value} {xs : List Int} {w : World} (h : OwS lo hi v xs w) {k : Nat} {K K' : Int} (hK : K = k) (hK' : K' = ((k + xs.length : Nat) : Int)) (hk : k + xs.length ≤ 1000000000) :
    Calls Tryd.prog 12 #[v, .int .i64 K] w fun e w' => e = .returned (.int .i64 K') ∧ OwS lo hi v (from_ k xs.length) w' ∧ Upd lo hi w w' := by
  subst hK; subst hK'
  refine (markS_any v xs.length (ints xs) lo k hk w h.own).mono ?_
  rintro e w' ⟨rfl, h1, h2⟩
  exact ⟨rfl, ⟨by simpa using h1, h.hi⟩, Upd.of_wrote (Wrote.of_grown h2) fun b hb => ⟨(owns_lt h.own hb).1, h.hi b hb⟩⟩
theorem markSS_k {lo hi : Nat} {v : Value} {xss : List (List Int)} {w : World} (h : OwSS lo hi v xss w) {k : Nat} {K K' : Int} (hK : K = k) (hK' : K' = ((k + total xss : Nat) : Int)) (hk : k + total xss ≤ 1000000000) (hn : xss.length ≤ 1000000000) :
    Calls Tryd.prog 42 #[v, .int .i64 K] w fun e w' => e = .returned (.int .i64 K') ∧ OwSS lo hi v (markedFrom k xss) w' ∧ Upd lo hi w w' := by
  subst hK; subst hK'
  obtain ⟨vs, hG, hh⟩ := h.ex
  refine (markSS_any v vs (xss.map ints) lo k w (by rw [total_ints]; exact hk) (by simpa using hn) hG).mono ?_
  rintro e w' ⟨rfl, h1, h2⟩
  exact ⟨by rw [total_ints], ⟨vs, h1, hh⟩, Upd.of_wrote h2 fun b hb => ⟨(hG.lt (.inr hb)).1, hh b (.inr hb)⟩⟩
theorem markG_k {lo hi : Nat} {v : Value} {xss : List (List Int)} {w : World} (h : OwSS lo hi v xss w) {k : Nat} {K K' : Int} (hK : K = k) (hK' : K' = ((k + total xss : Nat) : Int)) (hk : k + total xss ≤ 1000000000) (hn : xss.length ≤ 1000000000) :
    Calls Tryd.prog 19 #[.agg #[v], .int .i64 K] w fun e w' => e = .returned (.int .i64 K') ∧ OwSS lo hi v (markedFrom k xss) w' ∧ Upd lo hi w w' := by
  subst hK; subst hK'
  obtain ⟨vs, hG, hh⟩ := h.ex
  refine (markGraph_any v vs (xss.map ints) lo k w (by rw [total_ints]; exact hk) (by simpa using hn) hG).mono ?_
  rintro e w' ⟨rfl, h1, h2⟩
  exact ⟨by rw [total_ints], ⟨vs, h1, hh⟩, Upd.of_wrote h2 fun b hb => ⟨(hG.lt (.inr hb)).1, hh b (.inr hb)⟩⟩
theorem heldS_k {v : Value} {xs : List Int} {w : World} {k : Nat} (h : RdS v (from_ k xs.length) w) {K K' : Int} (hK : K = k) (hK' : K' = ((k + xs.length : Nat) : Int)) (hk : k + xs.length ≤ 1000000000) :
    Calls Tryd.prog 13 #[v, .int .i64 K] w fun e w' => e = .returned (.int .i64 K') ∧ Upd 0 0 w w' := by
  subst hK; subst hK'
  refine (heldS_any v xs.length k hk w (by simpa [RdS] using h)).mono ?_
  rintro e w' ⟨rfl, rfl⟩
  exact ⟨rfl, Upd.rfl' _⟩
/-! ### sz and to -/
/-- What is left: less than nothing, or the rest. -/
def LeftS (L : Int) (n : Int) (r : Int) : Prop := r = -1 ∨ (0 ≤ r ∧ r = L - n)
theorem szSS_k {v : Value} {xss : List (List Int)} {w : World} (h : RdSS v xss w) {L : Int} (hL : L ≤ 1048576) (hL0 : 0 ≤ L) :
    Calls Tryd.prog 29 #[v, .int .i64 L] w fun e w' => ∃ r, e = .returned (.int .i64 r) ∧ LeftS L (xss.length + total xss) r ∧ Upd 0 0 w w' := by
  obtain ⟨vs, h⟩ := h.ex
  refine (szSS_any v vs xss L hL hL0 w h).mono ?_
  rintro e w' ⟨r, rfl, hr, rfl⟩
  exact ⟨r, rfl, by unfold LeftS; omega, Upd.rfl' _⟩
set_option maxHeartbeats 400000 in
theorem szG_k {v : Value} {xss : List (List Int)} {w : World} (h : RdSS v xss w) {L : Int} (hL : L ≤ 1048576) (hL0 : 0 ≤ L) :
    Calls Tryd.prog 14 #[.agg #[v], .int .i64 L] w fun e w' => ∃ r, e = .returned (.int .i64 r) ∧ LeftS L (xss.length + total xss) r ∧ Upd 0 0 w w' := by
  obtain ⟨a, c, rfl⟩ := h.shape
  have hu := Upd.alloc w (.cells #[.slice a xss.length c] 35)
  have h2 := h.below (below_alloc' w (.cells #[.slice a xss.length c] 35)) rfl
  go_enter Tryd.func14, Tryd.ntmps14
  go_wp2_with fail
  refine (szSS_k h2 hL hL0).mono ?_
  rintro e w' ⟨r, rfl, hr, hu2⟩
  rcases hr with rfl | ⟨h0, hr⟩
  · go_wp2_with fail
    go_ret
    exact ⟨-1, rfl, .inl rfl, ⟨hu2.os.trans hu.os, hu2.tape.trans hu.tape, hu2.output.trans hu.output, by have := hu.size; have := hu2.size; omega, fun k hk _ => (hu2.block k (by have := hu.size; omega) (by omega)).trans (hu.block k hk (by omega))⟩⟩
  · have HR := Lib.hid hr
    clear hr
    go_wp2_with fail
    go_ret
    exact ⟨r, rfl, .inr ⟨h0, HR.out⟩, ⟨hu2.os.trans hu.os, hu2.tape.trans hu.tape, hu2.output.trans hu.output, by have := hu.size; have := hu2.size; omega, fun k hk _ => (hu2.block k (by have := hu.size; omega) (by omega)).trans (hu.block k hk (by omega))⟩⟩
theorem toS_k {v : Value} {xs : List Int} {w : World} (h : RdS v xs w) (hn : xs.length ≤ 1048576) {lo : Nat} (hlo : w.heap.size = lo) :
    Calls Tryd.prog 46 #[v] w fun e w' => ∃ u, e = .returned u ∧ OwS lo w'.heap.size u xs w' ∧ Upd 0 0 w w' := by
  refine (toS_any v xs hn w h).mono ?_
  rintro e w' ⟨c, rfl, ho, hb⟩
  exact ⟨_, rfl, OwS.of ho hlo rfl, Upd.of_below hb⟩
theorem toSS_k {v : Value} {xss : List (List Int)} {w : World} (h : RdSS v xss w) (hn : xss.length ≤ 1048576) (hs : ∀ xs ∈ xss, xs.length ≤ 1048576) {lo : Nat} (hlo : w.heap.size = lo) :
    Calls Tryd.prog 34 #[v] w fun e w' => ∃ u, e = .returned u ∧ OwSS lo w'.heap.size u xss w' ∧ Upd 0 0 w w' := by
  obtain ⟨vs, h⟩ := h.ex
  refine (toSS_any v vs xss hn hs w h).mono ?_
  rintro e w' ⟨u, us, rfl, ho, hb⟩
  exact ⟨_, rfl, OwSS.of ho hlo rfl, Upd.of_below hb⟩
theorem len_le_total {xss : List (List Int)} {xs : List Int} (h : xs ∈ xss) : xs.length ≤ total xss := by
  induction xss with
  | nil => cases h
  | cons y l ih =>
    simp only [total, List.map_cons, List.sum_cons]
    rcases List.mem_cons.1 h with rfl | h
    · omega
    · have := ih h
      simp only [total] at this
      omega

set_option maxHeartbeats 400000 in
theorem toG_k {v : Value} {xss : List (List Int)} {w : World} (h : RdSS v xss w) (hn : xss.length ≤ 1048576) (hs : ∀ xs ∈ xss, xs.length ≤ 1048576) {lo : Nat} (hlo : w.heap.size = lo) :
    Calls Tryd.prog 16 #[.agg #[v]] w fun e w' => ∃ u, e = .returned (.agg #[u]) ∧ OwSS lo w'.heap.size u xss w' ∧ Upd 0 0 w w' := by
  obtain ⟨a, c, rfl⟩ := h.shape
  have u1 := below_alloc' w (.cells #[.slice a xss.length c] 35)
  have u2 := below_alloc' (w.alloc (.cells #[.slice a xss.length c] 35)) (.cells #[.slice none 0 0] 38)
  have u3 := below_alloc' ((w.alloc (.cells #[.slice a xss.length c] 35)).alloc (.cells #[.slice none 0 0] 38)) (.cells #[.slice none 0 0] 38)
  have u12 := u1.trans (u2.mono (by simp))
  have u13 := u12.trans (u3.mono (by simp; omega))
  have V1 : VC 38 (lo + 1) #[.slice none 0 0] ((w.alloc (.cells #[.slice a xss.length c] 35)).alloc (.cells #[.slice none 0 0] 38)) := VC.new (by simp [hlo])
  have V2 : VC 38 (lo + 2) #[.slice none 0 0] (((w.alloc (.cells #[.slice a xss.length c] 35)).alloc (.cells #[.slice none 0 0] 38)).alloc (.cells #[.slice none 0 0] 38)) := VC.new (by simp [hlo])
  have V1' := V1.upd (Upd.of_below u3) (by omega)
  have h3 := h.below u13 rfl
  have hsz3 : (((w.alloc (.cells #[.slice a xss.length c] 35)).alloc (.cells #[.slice none 0 0] 38)).alloc (.cells #[.slice none 0 0] 38)).heap.size = lo + 3 := by simp [hlo]
  have HS := Lib.hid hs
  clear hs u1 u2 u3 u12 V1
  go_enter Tryd.func16, Tryd.ntmps16
  go_wp2_with fail
  generalize (((w.alloc (.cells #[.slice a xss.length c] 35)).alloc (.cells #[.slice none 0 0] 38)).alloc (.cells #[.slice none 0 0] 38)) = W at *
  refine (toSS_k h3 hn HS.out hsz3).mono ?_
  rintro e w1 ⟨u, rfl, hO, hu⟩
  obtain ⟨ua, uc, rfl⟩ := hO.shape
  have V1'' := V1'.upd hu (by omega)
  have V2' := V2.upd hu (by omega)
  have hf := V2'.free
  have hf1 := V1''.free
  have hc := V2'.cell
  have hc1 := V1''.cell
  have hb : Below lo w w1 := by subst hlo; exact hu.below u13 (by omega) (by omega)
  have hlt1 := V1''.lt
  have hlt2 := V2'.lt
  clear V1' V2 hu u13 HS
  have hO2 : OwSS lo ((w1.setCell ⟨lo + 2, 0, none⟩ (.slice ua xss.length uc)).setCell ⟨lo + 1, 0, none⟩ (.slice ua xss.length uc)).heap.size (.slice ua xss.length uc) xss ((w1.setCell ⟨lo + 2, 0, none⟩ (.slice ua xss.length uc)).setCell ⟨lo + 1, 0, none⟩ (.slice ua xss.length uc)) := by
    obtain ⟨vs, hG, hh⟩ := hO.ex
    have e1 : (w1.setCell ⟨lo + 2, 0, none⟩ (.slice ua xss.length uc)).heap.size = w1.heap.size := by simp [World.setCell]
    have e2 : ((w1.setCell ⟨lo + 2, 0, none⟩ (.slice ua xss.length uc)).setCell ⟨lo + 1, 0, none⟩ (.slice ua xss.length uc)).heap.size = w1.heap.size := by simp [World.setCell]
    refine ⟨vs, ((hG.other (by simp) _).other (by simp) _).rebase (by omega), fun k hk => by rw [e2]; exact hh k hk⟩
  have hb2 := (hb.setCell (p := ⟨lo + 2, 0, none⟩) (by simp) (.slice ua xss.length uc)).setCell (p := ⟨lo + 1, 0, none⟩) (by simp) (.slice ua xss.length uc)
  have HCE := Lib.hid (VC.cell (show VC 38 (lo + 1) #[.slice ua xss.length uc] ((w1.setCell ⟨lo + 2, 0, none⟩ (.slice ua xss.length uc)).setCell ⟨lo + 1, 0, none⟩ (.slice ua xss.length uc)) from one_setCell (show VC 38 (lo + 1) #[.slice none 0 0] (w1.setCell ⟨lo + 2, 0, none⟩ (.slice ua xss.length uc)) from (Below.heap_setCell _ _ _ _ (by simp)).trans V1'')))
  have H2 := Lib.hid hb2
  clear hb2 hb
  go_wp2_with fail
  refine bodyPost_ret (v := .agg #[.slice ua xss.length uc]) (by simp [results, Tryd.results16, go_sem, HCE.out]) rfl ?_
  exact ⟨_, rfl, hO2, Upd.of_below (by subst hlo; exact H2.out)⟩

/-! ### What functions return -/
def FrSS (w : World) (u : Value) (xss : List (List Int)) (w' : World) : Prop := ∃ vs, OwnG w' w.heap.size 24 2 u vs (xss.map ints)
def SRes (w : World) (xs : List Int) (e : Ending) (w' : World) : Prop := ∃ u, e = .returned u ∧ w'.ownsRow w.heap.size 2 1 u xs.length (ints xs) ∧ Below w.heap.size w w'
def SBRes (w : World) (xs : List Int) (ok : Bool) (e : Ending) (w' : World) : Prop := ∃ u, e = .returned (.tuple #[u, .bool ok]) ∧ w'.ownsRow w.heap.size 2 1 u xs.length (ints xs) ∧ Below w.heap.size w w'
def SIRes (w : World) (xs : List Int) (n : Int) (e : Ending) (w' : World) : Prop := ∃ u, e = .returned (.tuple #[u, .int .i64 n]) ∧ w'.ownsRow w.heap.size 2 1 u xs.length (ints xs) ∧ Below w.heap.size w w'
def SSRes (w : World) (xss : List (List Int)) (e : Ending) (w' : World) : Prop := ∃ u vs, e = .returned u ∧ OwnG w' w.heap.size 24 2 u vs (xss.map ints) ∧ Below w.heap.size w w'
def G1Res (w : World) (xss : List (List Int)) (e : Ending) (w' : World) : Prop := ∃ u vs, e = .returned (.agg #[u]) ∧ OwnG w' w.heap.size 24 2 u vs (xss.map ints) ∧ Below w.heap.size w w'
def BRes (w : World) (ok : Bool) (e : Ending) (w' : World) : Prop := e = .returned (.bool ok) ∧ Below w.heap.size w w'
end Go.Proofs.YtpfhflkpnjkgkaaDoor
