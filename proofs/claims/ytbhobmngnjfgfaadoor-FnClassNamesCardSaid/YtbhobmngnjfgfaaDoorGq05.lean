import Derived.Deep.QuietTactic
import Derived.BigQuiet
import Derived.Test.YtbhobmngnjfgfaaDoorGq04
/-
  The kinds of values that a law handles, each with the blocks that it may lie in; what stays when other blocks are written. The helpers of the laws as contracts over these.
-/


namespace Go.Proofs.YtbhobmngnjfgfaaDoor
open Go.RowKit

/-- From w to w' only blocks from lo up to hi have been written, of those that stood. -/
structure Upd (lo hi : Nat) (w w' : World) : Prop where
  os : w'.os = w.os
  tape : w'.tape = w.tape
  output : w'.output = w.output
  size : w.heap.size ≤ w'.heap.size
  block : ∀ k, k < w.heap.size → ¬ (lo ≤ k ∧ k < hi) → w'.heap[k]? = w.heap[k]?

theorem Upd.of_below {w w' : World} (h : Below w.heap.size w w') : Upd 0 0 w w' := ⟨h.os, h.tape, h.output, h.size, fun k hk _ => h.block k hk⟩
theorem below_alloc' (w : World) (o : Obj) : Below w.heap.size w (w.alloc o) := (Below.refl _ _).alloc (Nat.le_refl _) _
theorem Upd.rfl' (w : World) : Upd 0 0 w w := ⟨rfl, rfl, rfl, Nat.le_refl _, fun _ _ _ => rfl⟩
theorem Upd.drew (w : World) : Upd 0 0 w w.drew := ⟨rfl, rfl, rfl, Nat.le_refl _, fun _ _ _ => rfl⟩
theorem Upd.setCell (b : Nat) (w : World) (x : Value) : Upd b (b + 1) w (w.setCell ⟨b, 0, none⟩ x) :=
  ⟨rfl, rfl, rfl, by simp [World.setCell], fun k _ hn => Below.heap_setCell _ _ _ _ (fun e => hn (by simp at e; omega))⟩
theorem Upd.alloc (w : World) (o : Obj) : Upd 0 0 w (w.alloc o) := Upd.of_below ((Below.refl _ _).alloc (Nat.le_refl _) _)
theorem Upd.of_wrote {w w' : World} {S : Nat → Prop} {lo hi : Nat} (h : Wrote w w' S) (hS : ∀ k, S k → lo ≤ k ∧ k < hi) : Upd lo hi w w' :=
  ⟨h.os, h.tape, h.output, h.size, fun k hk hn => h.block k hk fun e => hn (hS k e)⟩
theorem Upd.toBelow {w w' : World} {lo hi B : Nat} (h : Upd lo hi w w') (hB : B ≤ w.heap.size) (hlo : hi ≤ lo ∨ B ≤ lo) : Below B w w' :=
  ⟨h.os, h.tape, h.output, h.size, fun k hk => h.block k (by omega) (by omega)⟩
theorem Upd.below {w0 w w' : World} {lo hi B : Nat} (h : Upd lo hi w w') (hb : Below B w0 w) (hB : B ≤ w.heap.size) (hlo : hi ≤ lo ∨ B ≤ lo) : Below B w0 w' := hb.trans (h.toBelow hB hlo)

/-- A variable of a struct's type: block b holds the cells cs. -/
def VC (t : TypeId) (b : Nat) (cs : Array Value) (w : World) : Prop := w.heap[b]? = some (.cells cs t (0, 0))
section
variable {t : TypeId} {b : Nat} {cs : Array Value} {w w' : World}
theorem VC.lt (h : VC t b cs w) : b < w.heap.size := by
  unfold VC at h
  exact (Array.getElem?_eq_some_iff.1 h).1
theorem VC.upd {lo hi : Nat} (h : VC t b cs w) (u : Upd lo hi w w') (hd : b < lo ∨ hi ≤ b ∨ hi ≤ lo) : VC t b cs w' := (u.block b h.lt (by omega)).trans h
theorem VC.new {n : Nat} (hn : w.heap.size = n) : VC t n cs (w.alloc (.cells cs t)) := by subst hn; exact heap_alloc_new w _
theorem VC.cell {v : Value} (h : VC t b #[v] w) : w.cell? ⟨b, 0, none⟩ = some v := cell_of_one h
theorem VC.set {v : Value} (h : VC t b #[v] w) (u : Value) : VC t b #[u] (w.setCell ⟨b, 0, none⟩ u) := one_setCell h
theorem VC.other (h : VC t b cs w) {p : Addr} (hp : b ≠ p.block) (u : Value) : VC t b cs (w.setCell p u) := (Below.heap_setCell _ _ _ _ hp).trans h
theorem VC.belowAt (h : VC t b cs w) {n : Nat} (hb : Below n w w') (hn : b < n) : VC t b cs w' := (hb.block b hn).trans h
theorem VC.grown {r : Option Nat} (h : VC t b cs w) (hg : w.grownBy w' r) (hr : r ≠ some b) : VC t b cs w' := (hg.block b h.lt (fun e => hr e.symm)).trans h
theorem VC.free {v : Value} (h : VC t b #[v] w) : w.frozen? ⟨b, 0, none⟩ = false := free_of_one h
end

/-- v is a slice of numbers of the call's own, which reads xs; its block lies from lo up to hi. -/
structure OwS (lo hi : Nat) (v : Value) (xs : List Int) (w : World) : Prop where
  own : w.ownsRow lo 2 1 v xs.length (ints xs)
  hi : ∀ k, v.ownBlock = some k → k < hi
/-- The same of rows. -/
structure OwSS (lo hi : Nat) (v : Value) (xss : List (List Int)) (w : World) : Prop where
  ex : ∃ vs, OwnG w lo 30 2 v vs (xss.map ints) ∧ ∀ k, (v.ownBlock = some k ∨ ∃ u ∈ vs, u.ownBlock = some k) → k < hi
/-- v is a slice of numbers that reads xs. -/
abbrev RdS (v : Value) (xs : List Int) (w : World) : Prop := Row w 1 v xs.length (ints xs)
/-- v is a slice of rows that read xss. -/
structure RdSS (v : Value) (xss : List (List Int)) (w : World) : Prop where
  ex : ∃ vs, RdG w v vs (xss.map ints)

section
variable {lo hi : Nat} {v : Value} {xs : List Int} {xss : List (List Int)} {w w' : World}
theorem OwS.of {w0 : World} (h : w.ownsRow w0.heap.size 2 1 v xs.length (ints xs)) (h0 : w0.heap.size = lo) (h1 : w.heap.size = hi) : OwS lo hi v xs w := by
  subst h0; subst h1
  exact ⟨h, fun k hk => (owns_lt h hk).2⟩
theorem OwSS.of {w0 : World} {vs : List Value} (h : OwnG w w0.heap.size 30 2 v vs (xss.map ints)) (h0 : w0.heap.size = lo) (h1 : w.heap.size = hi) : OwSS lo hi v xss w := by
  subst h0; subst h1
  exact ⟨vs, h, fun k hk => (h.lt hk).2⟩
theorem OwS.upd {lo' hi' : Nat} (h : OwS lo hi v xs w) (u : Upd lo' hi' w w') (hd : hi ≤ lo' ∨ hi' ≤ lo ∨ hi' ≤ lo') : OwS lo hi v xs w' :=
  ⟨owns_keep h.own fun b hb hlt => u.block b hlt (by have := (owns_lt h.own hb).1; have := h.hi b hb; omega), h.hi⟩
theorem OwSS.upd {lo' hi' : Nat} (h : OwSS lo hi v xss w) (u : Upd lo' hi' w w') (hd : hi ≤ lo' ∨ hi' ≤ lo ∨ hi' ≤ lo') : OwSS lo hi v xss w' := by
  obtain ⟨vs, hG, hh⟩ := h.ex
  refine ⟨vs, ⟨hG.len, owns_keep hG.outer fun b hb hlt => u.block b hlt ?_, fun i x cs h1 h2 => owns_keep (hG.rows i x cs h1 h2) fun b hb hlt => u.block b hlt ?_, hG.apart, hG.unlike⟩, hh⟩
  · have := hG.lt (.inl hb); have := hh b (.inl hb); omega
  · have := hG.lt (.inr ⟨x, List.mem_of_getElem? h1, hb⟩); have := hh b (.inr ⟨x, List.mem_of_getElem? h1, hb⟩); omega
theorem OwS.rd (h : OwS lo hi v xs w) : RdS v xs w := Row.of_owns h.own
theorem OwSS.rd (h : OwSS lo hi v xss w) : RdSS v xss w := let ⟨vs, hG, _⟩ := h.ex; ⟨vs, hG.rd⟩
theorem OwS.shape (h : OwS lo hi v xs w) : ∃ a c, v = .slice a xs.length c := owns_shape h.own
theorem OwSS.shape (h : OwSS lo hi v xss w) : ∃ a c, v = .slice a xss.length c := by
  obtain ⟨vs, hG, _⟩ := h.ex
  obtain ⟨a, c, e⟩ := owns_shape hG.outer
  exact ⟨a, c, by rw [e, hG.len, List.length_map]⟩
theorem RdSS.shape (h : RdSS v xss w) : ∃ a c, v = .slice a xss.length c := by
  obtain ⟨vs, hG⟩ := h.ex
  obtain ⟨a, c, e, _⟩ := hG.outer
  exact ⟨a, c, by rw [e, hG.len, List.length_map]⟩
theorem RdSS.below {B : Nat} (h : RdSS v xss w) (hb : Below B w w') (hB : w.heap.size = B) : RdSS v xss w' := by
  subst hB
  obtain ⟨vs, hG⟩ := h.ex
  exact ⟨vs, hG.below hb⟩
theorem RdS.below {B : Nat} (h : RdS v xs w) (hb : Below B w w') (hB : w.heap.size = B) : RdS v xs w' := by subst hB; exact Row.below h hb
end

/-! ### eq: of like values -/
theorem eqS_k {v1 v2 : Value} {xs : List Int} {w : World} (h1 : RdS v1 xs w) (h2 : RdS v2 xs w) :
    Calls Tryd.prog 19 #[v1, v2] w fun e w' => e = .returned (.bool true) ∧ Upd 0 0 w w' :=
  (eqS_any v1 v2 xs xs w h1 h2).mono fun _ _ ⟨he, hb⟩ => ⟨by rw [he]; exact ret_bool (by simp), Upd.of_below hb⟩
theorem eqSS_k {v1 v2 : Value} {xss : List (List Int)} {w : World} (h1 : RdSS v1 xss w) (h2 : RdSS v2 xss w) :
    Calls Tryd.prog 96 #[v1, v2] w fun e w' => e = .returned (.bool true) ∧ Upd 0 0 w w' := by
  obtain ⟨vs1, h1⟩ := h1.ex
  obtain ⟨vs2, h2⟩ := h2.ex
  exact (eqSS_any v1 v2 vs1 vs2 xss xss w h1 h2).mono fun _ _ ⟨he, hb⟩ => ⟨by rw [he]; exact ret_bool (by simp), Upd.of_below hb⟩
theorem eqG_k {v1 v2 : Value} {xss : List (List Int)} {w : World} (h1 : RdSS v1 xss w) (h2 : RdSS v2 xss w) :
    Calls Tryd.prog 34 #[.agg #[v1], .agg #[v2]] w fun e w' => e = .returned (.bool true) ∧ Upd 0 0 w w' := by
  obtain ⟨vs1, h1⟩ := h1.ex
  obtain ⟨vs2, h2⟩ := h2.ex
  exact (eqGraph_any v1 v2 vs1 vs2 xss xss w h1 h2).mono fun _ _ ⟨he, hb⟩ => ⟨by rw [he]; exact ret_bool (by simp), Upd.of_below hb⟩

/-! ### mark and held -/
/-- What 'mark' leaves in rows, from k on. -/
def markedFrom (k : Nat) (xss : List (List Int)) : List (List Int) := number k ((xss.map ints).map List.length)
theorem markS_k {lo hi : Nat} {v : Value} {xs : List Int} {w : World} (h : OwS lo hi v xs w) {k : Nat} {K K' : Int} (hK : K = k) (hK' : K' = ((k + xs.length : Nat) : Int)) (hk : k + xs.length ≤ 1000000000) :
    Calls Tryd.prog 22 #[v, .int .i64 K] w fun e w' => e = .returned (.int .i64 K') ∧ OwS lo hi v (from_ k xs.length) w' ∧ Upd lo hi w w' := by
  subst hK; subst hK'
  refine (markS_any v xs.length (ints xs) lo k hk w h.own).mono ?_
  rintro e w' ⟨rfl, h1, h2⟩
  exact ⟨rfl, ⟨by simpa using h1, h.hi⟩, Upd.of_wrote (Wrote.of_grown h2) fun b hb => ⟨(owns_lt h.own hb).1, h.hi b hb⟩⟩
theorem markSS_k {lo hi : Nat} {v : Value} {xss : List (List Int)} {w : World} (h : OwSS lo hi v xss w) {k : Nat} {K K' : Int} (hK : K = k) (hK' : K' = ((k + total xss : Nat) : Int)) (hk : k + total xss ≤ 1000000000) (hn : xss.length ≤ 1000000000) :
    Calls Tryd.prog 107 #[v, .int .i64 K] w fun e w' => e = .returned (.int .i64 K') ∧ OwSS lo hi v (markedFrom k xss) w' ∧ Upd lo hi w w' := by
  subst hK; subst hK'
  obtain ⟨vs, hG, hh⟩ := h.ex
  refine (markSS_any v vs (xss.map ints) lo k w (by rw [total_ints]; exact hk) (by simpa using hn) hG).mono ?_
  rintro e w' ⟨rfl, h1, h2⟩
  exact ⟨by rw [total_ints], ⟨vs, h1, hh⟩, Upd.of_wrote h2 fun b hb => ⟨(hG.lt (.inr hb)).1, hh b (.inr hb)⟩⟩
theorem markG_k {lo hi : Nat} {v : Value} {xss : List (List Int)} {w : World} (h : OwSS lo hi v xss w) {k : Nat} {K K' : Int} (hK : K = k) (hK' : K' = ((k + total xss : Nat) : Int)) (hk : k + total xss ≤ 1000000000) (hn : xss.length ≤ 1000000000) :
    Calls Tryd.prog 37 #[.agg #[v], .int .i64 K] w fun e w' => e = .returned (.int .i64 K') ∧ OwSS lo hi v (markedFrom k xss) w' ∧ Upd lo hi w w' := by
  subst hK; subst hK'
  obtain ⟨vs, hG, hh⟩ := h.ex
  refine (markGraph_any v vs (xss.map ints) lo k w (by rw [total_ints]; exact hk) (by simpa using hn) hG).mono ?_
  rintro e w' ⟨rfl, h1, h2⟩
  exact ⟨by rw [total_ints], ⟨vs, h1, hh⟩, Upd.of_wrote h2 fun b hb => ⟨(hG.lt (.inr hb)).1, hh b (.inr hb)⟩⟩
theorem heldS_k {v : Value} {xs : List Int} {w : World} {k : Nat} (h : RdS v (from_ k xs.length) w) {K K' : Int} (hK : K = k) (hK' : K' = ((k + xs.length : Nat) : Int)) (hk : k + xs.length ≤ 1000000000) :
    Calls Tryd.prog 23 #[v, .int .i64 K] w fun e w' => e = .returned (.int .i64 K') ∧ Upd 0 0 w w' := by
  subst hK; subst hK'
  refine (heldS_any v xs.length k hk w (by simpa [RdS] using h)).mono ?_
  rintro e w' ⟨rfl, rfl⟩
  exact ⟨rfl, Upd.rfl' _⟩
/-! ### sz and to -/
/-- What is left: less than nothing, or the rest. -/
def LeftS (L : Int) (n : Int) (r : Int) : Prop := r = -1 ∨ (0 ≤ r ∧ r = L - n)
theorem szSS_k {v : Value} {xss : List (List Int)} {w : World} (h : RdSS v xss w) {L : Int} (hL : L ≤ 1048576) (hL0 : 0 ≤ L) :
    Calls Tryd.prog 89 #[v, .int .i64 L] w fun e w' => ∃ r, e = .returned (.int .i64 r) ∧ LeftS L (xss.length + total xss) r ∧ Upd 0 0 w w' := by
  obtain ⟨vs, h⟩ := h.ex
  refine (szSS_any v vs xss L hL hL0 w h).mono ?_
  rintro e w' ⟨r, rfl, hr, rfl⟩
  exact ⟨r, rfl, by unfold LeftS; omega, Upd.rfl' _⟩
set_option maxHeartbeats 400000 in
theorem szG_k {v : Value} {xss : List (List Int)} {w : World} (h : RdSS v xss w) {L : Int} (hL : L ≤ 1048576) (hL0 : 0 ≤ L) :
    Calls Tryd.prog 30 #[.agg #[v], .int .i64 L] w fun e w' => ∃ r, e = .returned (.int .i64 r) ∧ LeftS L (xss.length + total xss) r ∧ Upd 0 0 w w' := by
  obtain ⟨a, c, rfl⟩ := h.shape
  have hu := Upd.alloc w (.cells #[.slice a xss.length c] 53)
  have h2 := h.below (below_alloc' w (.cells #[.slice a xss.length c] 53)) rfl
  go_enter Tryd.func30, Tryd.ntmps30
  go_wp2_with fail
  refine (szSS_k h2 hL hL0).mono ?_
  rintro e w' ⟨r, rfl, hr, hu2⟩
  rcases hr with rfl | ⟨h0, hr⟩
  · go_wp2_with fail
    go_ret
    exact ⟨-1, rfl, .inl rfl, ⟨hu2.os.trans hu.os, hu2.tape.trans hu.tape, hu2.output.trans hu.output, by have := hu.size; have := hu2.size; omega, fun k hk _ => (hu2.block k (by have := hu.size; omega) (by omega)).trans (hu.block k hk (by omega))⟩⟩
  · have HR := Lib.hid hr
    clear hr
    go_wp2_with fail
    go_ret
    exact ⟨r, rfl, .inr ⟨h0, HR.out⟩, ⟨hu2.os.trans hu.os, hu2.tape.trans hu.tape, hu2.output.trans hu.output, by have := hu.size; have := hu2.size; omega, fun k hk _ => (hu2.block k (by have := hu.size; omega) (by omega)).trans (hu.block k hk (by omega))⟩⟩
theorem toS_k {v : Value} {xs : List Int} {w : World} (h : RdS v xs w) (hn : xs.length ≤ 1048576) {lo : Nat} (hlo : w.heap.size = lo) :
    Calls Tryd.prog 151 #[v] w fun e w' => ∃ u, e = .returned u ∧ OwS lo w'.heap.size u xs w' ∧ Upd 0 0 w w' := by
  refine (toS_any v xs hn w h).mono ?_
  rintro e w' ⟨c, rfl, ho, hb⟩
  exact ⟨_, rfl, OwS.of ho hlo rfl, Upd.of_below hb⟩
theorem toSS_k {v : Value} {xss : List (List Int)} {w : World} (h : RdSS v xss w) (hn : xss.length ≤ 1048576) (hs : ∀ xs ∈ xss, xs.length ≤ 1048576) {lo : Nat} (hlo : w.heap.size = lo) :
    Calls Tryd.prog 93 #[v] w fun e w' => ∃ u, e = .returned u ∧ OwSS lo w'.heap.size u xss w' ∧ Upd 0 0 w w' := by
  obtain ⟨vs, h⟩ := h.ex
  refine (toSS_any v vs xss hn hs w h).mono ?_
  rintro e w' ⟨u, us, rfl, ho, hb⟩
  exact ⟨_, rfl, OwSS.of ho hlo rfl, Upd.of_below hb⟩
theorem len_le_total {xss : List (List Int)} {xs : List Int} (h : xs ∈ xss) : xs.length ≤ total xss := by
  induction xss with
  | nil => cases h
  | cons y l ih =>
    simp only [total, List.map_cons, List.sum_cons]
    rcases List.mem_cons.1 h with rfl | h
    · omega
    · have := ih h
      simp only [total] at this
      omega

set_option maxHeartbeats 400000 in
theorem toG_k {v : Value} {xss : List (List Int)} {w : World} (h : RdSS v xss w) (hn : xss.length ≤ 1048576) (hs : ∀ xs ∈ xss, xs.length ≤ 1048576) {lo : Nat} (hlo : w.heap.size = lo) :
    Calls Tryd.prog 32 #[.agg #[v]] w fun e w' => ∃ u, e = .returned (.agg #[u]) ∧ OwSS lo w'.heap.size u xss w' ∧ Upd 0 0 w w' := by
  obtain ⟨a, c, rfl⟩ := h.shape
  have u1 := below_alloc' w (.cells #[.slice a xss.length c] 53)
  have u2 := below_alloc' (w.alloc (.cells #[.slice a xss.length c] 53)) (.cells #[.slice none 0 0] 56)
  have u3 := below_alloc' ((w.alloc (.cells #[.slice a xss.length c] 53)).alloc (.cells #[.slice none 0 0] 56)) (.cells #[.slice none 0 0] 56)
  have u12 := u1.trans (u2.mono (by simp))
  have u13 := u12.trans (u3.mono (by simp; omega))
  have V1 : VC 56 (lo + 1) #[.slice none 0 0] ((w.alloc (.cells #[.slice a xss.length c] 53)).alloc (.cells #[.slice none 0 0] 56)) := VC.new (by simp [hlo])
  have V2 : VC 56 (lo + 2) #[.slice none 0 0] (((w.alloc (.cells #[.slice a xss.length c] 53)).alloc (.cells #[.slice none 0 0] 56)).alloc (.cells #[.slice none 0 0] 56)) := VC.new (by simp [hlo])
  have V1' := V1.upd (Upd.of_below u3) (by omega)
  have h3 := h.below u13 rfl
  have hsz3 : (((w.alloc (.cells #[.slice a xss.length c] 53)).alloc (.cells #[.slice none 0 0] 56)).alloc (.cells #[.slice none 0 0] 56)).heap.size = lo + 3 := by simp [hlo]
  have HS := Lib.hid hs
  clear hs u1 u2 u3 u12 V1
  go_enter Tryd.func32, Tryd.ntmps32
  go_wp2_with fail
  generalize (((w.alloc (.cells #[.slice a xss.length c] 53)).alloc (.cells #[.slice none 0 0] 56)).alloc (.cells #[.slice none 0 0] 56)) = W at *
  refine (toSS_k h3 hn HS.out hsz3).mono ?_
  rintro e w1 ⟨u, rfl, hO, hu⟩
  obtain ⟨ua, uc, rfl⟩ := hO.shape
  have V1'' := V1'.upd hu (by omega)
  have V2' := V2.upd hu (by omega)
  have hf := V2'.free
  have hf1 := V1''.free
  have hc := V2'.cell
  have hc1 := V1''.cell
  have hb : Below lo w w1 := by subst hlo; exact hu.below u13 (by omega) (by omega)
  have hlt1 := V1''.lt
  have hlt2 := V2'.lt
  clear V1' V2 hu u13 HS
  have hO2 : OwSS lo ((w1.setCell ⟨lo + 2, 0, none⟩ (.slice ua xss.length uc)).setCell ⟨lo + 1, 0, none⟩ (.slice ua xss.length uc)).heap.size (.slice ua xss.length uc) xss ((w1.setCell ⟨lo + 2, 0, none⟩ (.slice ua xss.length uc)).setCell ⟨lo + 1, 0, none⟩ (.slice ua xss.length uc)) := by
    obtain ⟨vs, hG, hh⟩ := hO.ex
    have e1 : (w1.setCell ⟨lo + 2, 0, none⟩ (.slice ua xss.length uc)).heap.size = w1.heap.size := by simp [World.setCell]
    have e2 : ((w1.setCell ⟨lo + 2, 0, none⟩ (.slice ua xss.length uc)).setCell ⟨lo + 1, 0, none⟩ (.slice ua xss.length uc)).heap.size = w1.heap.size := by simp [World.setCell]
    refine ⟨vs, ((hG.other (by simp) _).other (by simp) _).rebase (by omega), fun k hk => by rw [e2]; exact hh k hk⟩
  have hb2 := (hb.setCell (p := ⟨lo + 2, 0, none⟩) (by simp) (.slice ua xss.length uc)).setCell (p := ⟨lo + 1, 0, none⟩) (by simp) (.slice ua xss.length uc)
  have HCE := Lib.hid (VC.cell (show VC 56 (lo + 1) #[.slice ua xss.length uc] ((w1.setCell ⟨lo + 2, 0, none⟩ (.slice ua xss.length uc)).setCell ⟨lo + 1, 0, none⟩ (.slice ua xss.length uc)) from one_setCell (show VC 56 (lo + 1) #[.slice none 0 0] (w1.setCell ⟨lo + 2, 0, none⟩ (.slice ua xss.length uc)) from (Below.heap_setCell _ _ _ _ (by simp)).trans V1'')))
  have H2 := Lib.hid hb2
  clear hb2 hb
  go_wp2_with fail
  refine bodyPost_ret (v := .agg #[.slice ua xss.length uc]) (by simp [results, Tryd.results32, go_sem, HCE.out]) rfl ?_
  exact ⟨_, rfl, hO2, Upd.of_below (by subst hlo; exact H2.out)⟩

/-! ### What functions return -/
def FrSS (w : World) (u : Value) (xss : List (List Int)) (w' : World) : Prop := ∃ vs, OwnG w' w.heap.size 30 2 u vs (xss.map ints)
def SRes (w : World) (xs : List Int) (e : Ending) (w' : World) : Prop := ∃ u, e = .returned u ∧ w'.ownsRow w.heap.size 2 1 u xs.length (ints xs) ∧ Below w.heap.size w w'
def SBRes (w : World) (xs : List Int) (ok : Bool) (e : Ending) (w' : World) : Prop := ∃ u, e = .returned (.tuple #[u, .bool ok]) ∧ w'.ownsRow w.heap.size 2 1 u xs.length (ints xs) ∧ Below w.heap.size w w'
def SIRes (w : World) (xs : List Int) (n : Int) (e : Ending) (w' : World) : Prop := ∃ u, e = .returned (.tuple #[u, .int .i64 n]) ∧ w'.ownsRow w.heap.size 2 1 u xs.length (ints xs) ∧ Below w.heap.size w w'
def SSRes (w : World) (xss : List (List Int)) (e : Ending) (w' : World) : Prop := ∃ u vs, e = .returned u ∧ OwnG w' w.heap.size 30 2 u vs (xss.map ints) ∧ Below w.heap.size w w'
def G1Res (w : World) (xss : List (List Int)) (e : Ending) (w' : World) : Prop := ∃ u vs, e = .returned (.agg #[u]) ∧ OwnG w' w.heap.size 30 2 u vs (xss.map ints) ∧ Below w.heap.size w w'
def BRes (w : World) (ok : Bool) (e : Ending) (w' : World) : Prop := e = .returned (.bool ok) ∧ Below w.heap.size w w'
end Go.Proofs.YtbhobmngnjfgfaaDoor
/-
  The dice of the laws: 'big', 'roll', 'below'.
-/



namespace Go.Proofs.YtbhobmngnjfgfaaDoor
open Go.RowKit

/-- Bytes, as they lie. -/
def u8s (bs : List UInt8) : List Value := bs.map fun b => .int .u8 (b.toNat : Int)
@[simp] theorem u8s_length (bs : List UInt8) : (u8s bs).length = bs.length := by simp [u8s]
abbrev RdB (v : Value) (bs : List UInt8) (w : World) : Prop := Row w 1 v bs.length (u8s bs)
theorem RdB.byteAt {w : World} {a : Option Addr} {n c : Nat} {bs : List UInt8} (h : Row w 1 (.slice a n c) n (u8s bs)) {j : Nat} (hj : j < bs.length) :
    ∃ b o, ∃ y : Nat, y < 256 ∧ a = some ⟨b, o, none⟩ ∧ w.cell? ⟨b, o + j, none⟩ = some (.int .u8 (y : Int)) := by
  obtain ⟨a', cap', e, h1, h2, h3, h4, h5⟩ := h
  obtain ⟨rfl, -, -⟩ : a = a' ∧ n = n ∧ c = cap' := by simpa using e
  obtain ⟨b, o, rfl, hc⟩ := h5 j (.int .u8 ((bs[j]'hj).toNat : Int)) (by simp [u8s, hj])
  exact ⟨b, o, _, UInt8.toNat_lt _, rfl, hc⟩

theorem VC.putAt {t : TypeId} {b : Nat} {cs : Array Value} {w : World} (h : VC t b cs w) (i : Nat) (u : Value) : VC t b (cs.setIfInBounds i u) (w.setCell ⟨b, i, none⟩ u) := by
  unfold VC at h ⊢
  unfold World.setCell
  simp only [Array.getElem?_modify]
  simp [h]
theorem VC.getAt {t : TypeId} {b : Nat} {cs : Array Value} {w : World} (h : VC t b cs w) {i : Nat} {u : Value} (hi : cs[i]? = some u) : w.cell? ⟨b, i, none⟩ = some u := by
  unfold VC at h
  simp [World.cell?, h, hi]
theorem VC.frAt {t : TypeId} {b : Nat} {cs : Array Value} {w : World} (h : VC t b cs w) (i : Nat) : w.frozen? ⟨b, i, none⟩ = false := by
  unfold VC at h
  simp [World.frozen?, h]
theorem Upd.setAt (b i : Nat) (w : World) (x : Value) : Upd b (b + 1) w (w.setCell ⟨b, i, none⟩ x) :=
  ⟨rfl, rfl, rfl, by simp [World.setCell], fun k _ hn => Below.heap_setCell _ _ _ _ (fun e => hn (by simp at e; omega))⟩
theorem Upd.trans {lo hi : Nat} {w w1 w2 : World} (h : Upd lo hi w w1) (h' : Upd lo hi w1 w2) : Upd lo hi w w2 :=
  ⟨h'.os.trans h.os, h'.tape.trans h.tape, h'.output.trans h.output, Nat.le_trans h.size h'.size, fun k hk hn => (h'.block k (Nat.lt_of_lt_of_le hk h.size) hn).trans (h.block k hk hn)⟩
theorem Upd.wide {lo hi lo' hi' : Nat} {w w1 : World} (h : Upd lo hi w w1) (hd : hi ≤ lo ∨ (lo' ≤ lo ∧ hi ≤ hi')) : Upd lo' hi' w w1 :=
  ⟨h.os, h.tape, h.output, h.size, fun k hk hn => h.block k hk (by omega)⟩

/-- The bytes do not lie in block D. -/
def Far (D : Nat) (v : Value) (bs : List UInt8) : Prop := bs ≠ [] → v.ownBlock ≠ some D
theorem RdB.upd {v : Value} {bs : List UInt8} {w w' : World} {D : Nat} (h : RdB v bs w) (u : Upd D (D + 1) w w') (hv : Far D v bs) : RdB v bs w' := by
  by_cases hb : bs = []
  · subst hb
    obtain ⟨a, cap, rfl, h1, h2, h3, h4, h5⟩ := h
    exact ⟨a, cap, rfl, h1, h2, h3, h4, fun j u hj => by cases hj⟩
  · exact Row.keep h fun b hb' hlt => u.block b hlt (by
      have : b ≠ D := fun e => hv hb (by rw [hb', e])
      omega)
theorem RdB.far {v : Value} {bs : List UInt8} {w : World} (h : RdB v bs w) : Far w.heap.size v bs := by
  intro hb e
  obtain ⟨a, c, rfl, -, -, -⟩ := id h
  obtain ⟨b, o, y, hy, rfl, hc⟩ := RdB.byteAt h (j := 0) (List.length_pos_iff.2 hb)
  have := World.block_lt_of_cell? _ _ hc
  have e' : b = w.heap.size := by simpa [Value.ownBlock] using e
  simp at this
  omega
/-- Block D holds dice over the bytes of v. -/
structure Dice (D : Nat) (v : Value) (n : Nat) (w : World) : Prop where
  ex : ∃ (i : Nat) (h : Int), VC 129 D #[v, .int .i64 i, .int .u64 h] w ∧ i ≤ n
theorem Dice.upd {D : Nat} {v : Value} {n : Nat} {w w' : World} {lo hi : Nat} (h : Dice D v n w) (u : Upd lo hi w w') (hd : D < lo ∨ hi ≤ D ∨ hi ≤ lo) : Dice D v n w' := by
  obtain ⟨i, x, hv, hi'⟩ := h.ex
  exact ⟨i, x, hv.upd u hd, hi'⟩
theorem Dice.lt {D : Nat} {v : Value} {n : Nat} {w : World} (h : Dice D v n w) : D < w.heap.size := by
  obtain ⟨i, x, hv, _⟩ := h.ex
  exact hv.lt

theorem big_any (v : Value) (bs : List UInt8) (w : World) (hr : RdB v bs w) :
    Calls Tryd.prog 38 #[v] w fun e w' => e = .returned (.bool (decide (4096 < bs.length))) ∧ w = w' := by
  obtain ⟨a, c, rfl, -, -, -⟩ := id hr
  clear hr
  go_enter Tryd.func38, Tryd.ntmps38
  go_wp2_with fail
  go_ret
  exact ⟨ret_bool (by rw [Bool.eq_iff_iff]; simp; omega), rfl⟩

set_option maxHeartbeats 2000000 in
theorem roll_any (v : Value) (bs : List UInt8) (s : Int) (hl : bs.length ≤ 4096) (w : World) (hr : RdB v bs w) :
    Calls Tryd.prog 39 #[v, .int .u64 s] w fun e w' => e = .returned (.pointer (some ⟨w.heap.size, 0, none⟩)) ∧ Dice w.heap.size v bs.length w' ∧ Below w.heap.size w w' := by
  obtain ⟨a, c, rfl, -, -, -⟩ := id hr
  obtain ⟨B, hB⟩ : ∃ B, w.heap.size = B := ⟨_, rfl⟩
  go_enter Tryd.func39, Tryd.ntmps39
  go_wp2_with fail
  generalize IntKind.u64.wrap (IntKind.u64.wrap (s * 7919) + (bs.length : Int)) = h0 at *
  obtain ⟨W0, hW0⟩ : ∃ W0, W0 = w.alloc (.cells #[.slice a bs.length c, .int .i64 0, .int .u64 h0] 129) := ⟨_, rfl⟩
  have V0 : VC 129 B #[.slice a bs.length c, .int .i64 0, .int .u64 h0] W0 := by rw [hW0]; exact VC.new hB
  have u0 : Below B w W0 := by rw [hW0, ← hB]; exact below_alloc' _ _
  have hz0 : W0.heap.size = B + 1 := by rw [hW0]; simp [hB]
  rw [← hW0]
  clear hW0
  go_loopw [6] (fun i wr => ∃ (k : Nat) (h : Int), k ≤ bs.length ∧ i = .int .i64 k ∧ VC 129 B #[.slice a bs.length c, .int .i64 0, .int .u64 h] wr ∧ Below B w wr) (fun i _ => bs.length - (intOf i).toNat)
  case atStart => exact ⟨0, h0, Nat.zero_le _, rfl, V0, u0⟩
  case round =>
    clear V0 u0 hz0
    obtain ⟨k, h, hk, rfl, V, hb⟩ := hrel
    by_cases hlt : k < bs.length
    · obtain ⟨yb, yo, y, hy, rfl, hc⟩ := RdB.byteAt (Row.below hr (hB.symm ▸ hb)) hlt
      have hli : (k : Int) < (bs.length : Int) := by omega
      have hc2 := V.getAt (i := 2) rfl
      have hf2 := V.frAt 2
      have HPUT : Hid (∀ x : Int, VC 129 B #[.slice (some ⟨yb, yo, none⟩) bs.length c, .int .i64 0, .int .u64 x] (wr.drew.setCell ⟨B, 2, none⟩ (.int .u64 x)) ∧ Below B w (wr.drew.setCell ⟨B, 2, none⟩ (.int .u64 x))) := Lib.hid fun x =>
        ⟨(show VC 129 B #[.slice (some ⟨yb, yo, none⟩) bs.length c, .int .i64 0, .int .u64 h] wr.drew from V).putAt 2 (.int .u64 x), hb.drew.setCell (Nat.le_refl _) _⟩
      clear V hb
      go_wp2_with fail
      refine wp_region_ord [0, 1, 6, 7, 8] [9, 10] [2, 3, 4, 5] [11, 12, 13, 14, 15] (by kernel_rfl) (by kernel_rfl) (fun _ _ d _ _ h => by cases d <;> exact h) ?_
      simp only [pickOps, List.filterMap_cons, List.filterMap_nil, List.getElem?_cons_succ, List.getElem?_cons_zero]
      repeat quiet_step (fail)
      simp only [wpQuiet_nil_eq]
      have hcd : wr.drew.cell? ⟨B, 2, none⟩ = some (.int .u64 h) := hc2
      have hfd : wr.drew.frozen? ⟨B, 2, none⟩ = false := hf2
      have HBE : Hid (Below wr.heap.size wr wr.drew) := Lib.hid ((Below.refl _ _).drew)
      clear hc2 hf2 hc
      generalize wr.drew = wv at *
      refine wpSegs_cons ?_
      go_wp2_with fail
      refine ⟨HBE.out, ?_⟩
      refine wpSegs_cons ?_
      go_wp2_with fail
      refine ⟨HBE.out, ?_⟩
      refine wpSegs_cons ?_
      go_wp2_with fail
      refine ⟨HBE.out, ?_⟩
      refine wpSegs_cons ?_
      go_wp2_with fail
      refine ⟨HBE.out, ?_⟩
      simp only [wpSegs_nil_eq]
      go_wp2_with fail
      go_roundw
      case rel => exact ⟨k + 1, _, by omega, by go_num, (HPUT.out _).1, (HPUT.out _).2⟩
      case measure => simp [intOf]; omega
    · obtain rfl : k = bs.length := by omega
      go_wp2_with fail
      go_ret
      exact ⟨by first | rfl | (rw [hB]; rfl), by rw [hB]; exact ⟨⟨0, h, V, Nat.zero_le _⟩⟩, by rw [hB]; exact hb⟩

theorem heap_drewN' (n : Nat) (w : World) : (w.drewN n).heap = w.heap := by
  induction n with
  | zero => rw [World.drewN_zero]
  | succ n ih => exact ih
theorem cell_drewN' (n : Nat) (w : World) (p : Addr) : (w.drewN n).cell? p = w.cell? p := by simp [World.cell?]
theorem upd_drewN (n : Nat) (w : World) : Upd 0 0 w (w.drewN n) := by
  induction n with
  | zero => rw [World.drewN_zero]; exact Upd.rfl' _
  | succ n ih => exact ⟨ih.os, ih.tape, ih.output, ih.size, ih.block⟩
theorem u64_and_nat (a b : Nat) (ha : a < 4294967296) (hb : b < 4294967296) : bits .and .u64 (a : Int) (b : Int) = ((a &&& b : Nat) : Int) := by
  have hx : a &&& b < 2 ^ 32 := Nat.and_lt_two_pow _ (by omega)
  show IntKind.u64.wrap ((BitVec.ofInt 64 (a : Int) &&& BitVec.ofInt 64 (b : Int)).toNat : Int) = _
  rw [BitVec.toNat_and, ofInt_u64 a (by omega), ofInt_u64 b (by omega), IntKind.wrap_u64]
  omega
theorem dice_and (h : Int) (h0 : 0 ≤ h) (h1 : h < 18446744073709551616) : ∃ x : Nat, bits .and .u64 (h / 8589934592) 16777215 = (x : Int) ∧ x < 16777216 := by
  obtain ⟨m, hm⟩ : ∃ m : Nat, h / 8589934592 = m := ⟨(h / 8589934592).toNat, by omega⟩
  have hm2 : m < 4294967296 := by omega
  refine ⟨m &&& 16777215, ?_, ?_⟩
  · rw [hm]
    exact u64_and_nat m 16777215 hm2 (by decide)
  · have : m &&& 16777215 ≤ 16777215 := Nat.and_le_right
    omega

set_option maxHeartbeats 2000000 in
theorem below_any (D : Nat) (v : Value) (bs : List UInt8) (n : Nat) (N : Int) (hN : N = n) (hn0 : 0 < n) (hn : n ≤ 1000000) (w : World) (hd : Dice D v bs.length w) (hr : RdB v bs w) (hl : bs.length ≤ 4096) (hvD : Far D v bs) :
    Calls Tryd.prog 48 #[.pointer (some ⟨D, 0, none⟩), .int .i64 N] w fun e w' => ∃ x : Nat, e = .returned (.int .i64 x) ∧ x < n ∧ Dice D v bs.length w' ∧ Upd D (D + 1) w w' := by
  subst hN
  obtain ⟨a, c, rfl, -, -, -⟩ := id hr
  obtain ⟨i, h, V, hi⟩ := hd.ex
  obtain ⟨h2, hh2⟩ : ∃ x : Int, IntKind.u64.wrap (IntKind.u64.wrap (h * 6364136223846793005) + 1442695040888963407) = x := ⟨_, rfl⟩
  have hh3 : 0 ≤ h2 ∧ h2 < 18446744073709551616 := by rw [← hh2, IntKind.wrap_u64]; omega
  obtain ⟨x0, hx0, hx1⟩ := dice_and h2 hh3.1 hh3.2
  obtain ⟨W1, hW1⟩ : ∃ W1, W1 = w.setCell ⟨D, 2, none⟩ (.int .u64 h2) := ⟨_, rfl⟩
  have V1 : VC 129 D #[.slice a bs.length c, .int .i64 i, .int .u64 h2] W1 := by rw [hW1]; exact V.putAt 2 _
  have u1 : Upd D (D + 1) w W1 := by rw [hW1]; exact Upd.setAt _ _ _ _
  have hr1 : RdB (.slice a bs.length c) bs W1 := hr.upd u1 hvD
  have g2 := V.getAt (i := 2) rfl
  have f2 := V.frAt 2
  have p0 := V1.getAt (i := 0) rfl
  have p1 := V1.getAt (i := 1) rfl
  have p2 := V1.getAt (i := 2) rfl
  have q1 := V1.frAt 1
  rw [hW1] at p2
  have HV1 := Lib.hid V1
  have HR1 := Lib.hid hr1
  have HU1 := Lib.hid u1
  obtain ⟨h9, hh9⟩ : ∃ x : Int, h2 = x := ⟨_, rfl⟩
  have hl63 : bs.length ≤ 4096 := hl
  have hil : (i : Int) ≤ (bs.length : Int) := by omega
  have hmod : ∀ x : Nat, Hid (((x : Int) % (n : Int) = ((x % n : Nat) : Int)) ∧ x % n < n) := fun x => Lib.hid ⟨by simp, Nat.mod_lt _ hn0⟩
  clear V V1 u1 hr1 hr hd hh3 hh9
  go_enter Tryd.func48, Tryd.ntmps48
  go_wp2_with fail
  rw [← hW1]
  clear hW1 p2 g2 f2
  by_cases hlt : i < bs.length
  · have hli : (i : Int) < (bs.length : Int) := by omega
    obtain ⟨yb, yo, y, hy, rfl, hc⟩ := RdB.byteAt HR1.out hlt
    go_quiet (fail)
    generalize hWq : W1.drewN nq = Wq at *
    have Vq : VC 129 D #[.slice (some ⟨yb, yo, none⟩) bs.length c, .int .i64 i, .int .u64 h2] Wq := by rw [← hWq]; unfold VC; rw [heap_drewN']; exact HV1.out
    have uq : Upd D (D + 1) w Wq := by rw [← hWq]; exact HU1.out.trans ((upd_drewN nq W1).wide (by omega))
    have hcq : Wq.cell? ⟨yb, yo + i, none⟩ = some (.int .u8 (y : Int)) := by rw [← hWq]; exact (cell_drewN' nq W1 _).trans hc
    have q0 := Vq.getAt (i := 0) rfl
    have q1 := Vq.getAt (i := 1) rfl
    clear hWq p0 p1 q1 hc
    have q1 := Vq.getAt (i := 1) rfl
    have HVq := Lib.hid Vq
    have HUq := Lib.hid uq
    clear Vq uq
    go_wp2_with fail
    go_quiet (fail)
    generalize hWr : Wq.drewN nq = Wr at *
    have Vr : VC 129 D #[.slice (some ⟨yb, yo, none⟩) bs.length c, .int .i64 i, .int .u64 h2] Wr := by rw [← hWr]; unfold VC; rw [heap_drewN']; exact HVq.out
    have ur : Upd D (D + 1) w Wr := by rw [← hWr]; exact HUq.out.trans ((upd_drewN nq Wq).wide (by omega))
    have r1 := Vr.getAt (i := 1) rfl
    have s1 := Vr.frAt 1
    clear hWr q0 q1 hcq
    have HVr := Lib.hid (Vr.putAt 1 (.int .i64 ((i : Int) + 1)))
    have HUr := Lib.hid (ur.trans (Upd.setAt D 1 Wr (.int .i64 ((i : Int) + 1))))
    clear Vr ur
    go_wp2_with fail
    go_ret
    have hy2 := (hmod (x0 + y)).out
    refine ⟨(x0 + y) % n, ?_, hy2.2, ⟨⟨i + 1, h2, HVr.out, by omega⟩⟩, HUr.out⟩
    rw [← hy2.1]
    rfl
  · have hli : ¬ (i : Int) < (bs.length : Int) := by omega
    go_quiet (fail)
    go_wp2_with fail
    go_ret
    have hy2 := (hmod x0).out
    have Vq : VC 129 D #[.slice a bs.length c, .int .i64 i, .int .u64 h2] (W1.drewN nq) := by unfold VC; rw [heap_drewN']; exact HV1.out
    refine ⟨x0 % n, ?_, hy2.2, ⟨⟨i, h2, Vq, hi⟩⟩, HU1.out.trans ((upd_drewN nq W1).wide (by omega))⟩
    rw [← hy2.1]
    rfl
end Go.Proofs.YtbhobmngnjfgfaaDoor
/-
  The plain law of 'l1Link' and 'join': rows kept as lists and as sets stay alike.
-/

namespace Go.Proofs.YtbhobmngnjfgfaaDoor
open Go.RowKit

theorem into_above (xs : List Nat) (v : Nat) (h : ∀ x ∈ xs, v < x) : into (xs.map fun (i : Nat) => (i : Int)) v = ((v :: xs).map fun (i : Nat) => (i : Int)) := by
  cases xs with
  | nil => simp [into]
  | cons x r =>
    have := h x (by simp)
    simp only [List.map_cons, into]
    rw [if_neg (by omega), if_neg (by omega)]

theorem into_filter (p : Nat → Bool) (v : Nat) : ∀ (n a : Nat), a ≤ v → v < a + n →
    into (((List.range' a n).filter p).map fun (i : Nat) => (i : Int)) v = ((List.range' a n).filter fun i => p i || decide (i = v)).map fun (i : Nat) => (i : Int)
  | 0, a, h1, h2 => by omega
  | n + 1, a, h1, h2 => by
    rw [List.range'_succ]
    by_cases hv : a = v
    · subst hv
      have hrest : (List.range' (a + 1) n).filter (fun i => p i || decide (i = a)) = (List.range' (a + 1) n).filter p := by
        apply List.filter_congr
        intro i hi
        have := (List.mem_range'_1.1 hi).1
        have : ¬ i = a := by omega
        simp [this]
      by_cases hp : p a = true
      · rw [List.filter_cons_of_pos hp, List.filter_cons_of_pos (by simp), hrest]
        simp [into]
      · rw [List.filter_cons_of_neg hp, List.filter_cons_of_pos (by simp), hrest]
        refine into_above _ _ fun x hx => ?_
        have := (List.mem_range'_1.1 (List.mem_filter.1 hx).1).1
        omega
    · have ih := into_filter p v n (a + 1) (by omega) (by omega)
      have hd : (p a || decide (a = v)) = p a := by simp [hv]
      by_cases hp : p a = true
      · rw [List.filter_cons_of_pos hp, List.filter_cons_of_pos (by rw [hd]; exact hp), List.map_cons, List.map_cons, into, if_pos (by omega), ih]
      · rw [List.filter_cons_of_neg hp, List.filter_cons_of_neg (by rw [hd]; exact hp), ih]

theorem into_nums (m v : Nat) (hv : v < 32) : into (nums m) v = nums (m ||| 2 ^ v) := by
  unfold nums bitsOf
  rw [List.range_eq_range', into_filter m.testBit v 32 0 (by omega) (by omega)]
  congr 2
  funext i
  rw [Nat.testBit_or, Nat.testBit_two_pow]
  congr 1
  exact decide_eq_decide.2 eq_comm

theorem getD_rowsOf (ms : List Nat) (u : Nat) (hu : u < ms.length) : (rowsOf ms).getD u [] = nums (ms.getD u 0) := by
  simp [rowsOf, List.getD, hu]
theorem rowsOf_set (ms : List Nat) (u x : Nat) : (rowsOf ms).set u (nums x) = rowsOf (ms.set u x) := by simp [rowsOf, List.map_set]
@[simp] theorem rowsOf_length (ms : List Nat) : (rowsOf ms).length = ms.length := by simp [rowsOf]

theorem link_rowsOf (ms : List Nat) (u v : Nat) (hu : u < ms.length) (hv : v < ms.length) (hu2 : u < 32) (hv2 : v < 32) : link (rowsOf ms) u v = rowsOf (joinS ms u v) := by
  unfold link joinS
  simp only
  rw [getD_rowsOf _ _ hu, into_nums _ _ hv2, rowsOf_set, getD_rowsOf _ _ (by simpa using hv), into_nums _ _ hu2, rowsOf_set]

theorem rowsOf_short (ms : List Nat) : ∀ xs ∈ rowsOf ms, xs.length < 1000 := by
  intro xs hx
  obtain ⟨m, _, rfl⟩ := List.mem_map.1 hx
  have := nums_length m
  omega

theorem rowsOf_zeros (n : Nat) : rowsOf (List.replicate n 0) = List.replicate n [] := by
  simp [rowsOf, nums, bitsOf_zero]

/-- 'l1Link' over rows that are sets. -/
theorem link_sets (base : Nat) (v : Value) (vs0 : List Value) (ms : List Nat) (i j : Nat) (I J : Int) (hI : I = i) (hJ : J = j) (w : World) (hi : i < ms.length) (hj : j < ms.length) (hi2 : i < 32) (hj2 : j < 32) (hm : ms.length ≤ 1000)
    (hbase : base ≤ w.heap.size) (h : OwnG w base 30 2 v vs0 ((rowsOf ms).map ints)) :
    Calls Tryd.prog 172 #[.agg #[v], .int .i64 I, .int .i64 J] w fun e w' => ∃ vs', e = .returned (.agg #[v]) ∧
      OwnG w' base 30 2 v vs' ((rowsOf (joinS ms i j)).map ints) ∧ Wrote w w' (fun b => v.ownBlock = some b) := by
  subst hI; subst hJ
  rw [← link_rowsOf ms i j hi hj hi2 hj2]
  exact link_any base v vs0 (rowsOf ms) i j w (by simpa using hi) (by simpa using hj) (rowsOf_short ms) (by simp; omega) hbase h

/-- Rows that are sets hold few numbers. -/
theorem total_rowsOf (ms : List Nat) : ((rowsOf ms).map List.length).sum ≤ 32 * ms.length := by
  induction ms with
  | nil => simp [rowsOf]
  | cons m ms ih =>
    have := nums_length m
    simp only [rowsOf, List.map_cons, List.sum_cons, List.length_cons] at ih ⊢
    omega

/-- The nets of a star. -/
def starM (n k : Nat) : List Nat := (List.range k).foldl (fun ms v => joinS ms 0 (v + 1)) (List.replicate (n + 1) 0)
theorem starM_succ (n k : Nat) : starM n (k + 1) = joinS (starM n k) 0 (k + 1) := by simp [starM, List.range_succ]
@[simp] theorem starM_length (n k : Nat) : (starM n k).length = n + 1 := by
  induction k with
  | zero => simp [starM]
  | succ k ih => rw [starM_succ, joinS_length, ih]
theorem starM_small (n k : Nat) (hk : k < 32) : Small (starM n k) := by
  induction k with
  | zero => exact small_zeros _
  | succ k ih => rw [starM_succ]; exact (ih (by omega)).join (by omega) hk
end Go.Proofs.YtbhobmngnjfgfaaDoor
