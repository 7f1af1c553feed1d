import Derived.Test.YtpfhflkpnjkgkaaDoorGq04
/-
  The kind []Part (a slice of structs of two numbers and a row): how it lies, the helpers of the laws.
-/


namespace Go.Proofs.YtpfhflkpnjkgkaaDoor
open Go.RowKit

theorem VC.setAt {t : TypeId} {b : Nat} {cs : Array Value} {w : World} (h : VC t b cs w) (i : Nat) (u : Value) : VC t b (cs.setIfInBounds i u) (w.setCell ⟨b, i, none⟩ u) := by
  have hl := h.lt
  unfold VC at h ⊢
  unfold World.setCell
  simp only [Array.getElem?_modify]
  simp [h]
theorem VC.cellAt {t : TypeId} {b : Nat} {cs : Array Value} {w : World} (h : VC t b cs w) {i : Nat} {u : Value} (hi : cs[i]? = some u) : w.cell? ⟨b, i, none⟩ = some u := by
  unfold VC at h
  simp [World.cell?, h, hi]
theorem VC.freeAt {t : TypeId} {b : Nat} {cs : Array Value} {w : World} (h : VC t b cs w) (i : Nat) : w.frozen? ⟨b, i, none⟩ = false := by
  unfold VC at h
  simp [World.frozen?, h]
theorem VC.at3 {t : TypeId} {b : Nat} {c0 c1 c2 : Value} {w : World} (h : VC t b #[c0, c1, c2] w) :
    w.cell? ⟨b, 0, none⟩ = some c0 ∧ w.cell? ⟨b, 1, none⟩ = some c1 ∧ w.cell? ⟨b, 2, none⟩ = some c2 := by
  unfold VC at h
  refine ⟨?_, ?_, ?_⟩ <;> simp [World.cell?, h]

/-- A part: its kind, its vertex, its kids. -/
abbrev PartD := Int × Int × List Int
/-- How many kids there are. -/
def kidsT (ps : List PartD) : Nat := (ps.map fun p => p.2.2.length).sum
theorem kidsT_snoc (ps : List PartD) (p : PartD) : kidsT (ps ++ [p]) = kidsT ps + p.2.2.length := by simp [kidsT]
theorem kidsT_mem {ps : List PartD} {p : PartD} (h : p ∈ ps) : p.2.2.length ≤ kidsT ps := by
  induction ps with
  | nil => cases h
  | cons q l ih =>
    simp only [kidsT, List.map_cons, List.sum_cons]
    rcases List.mem_cons.1 h with rfl | h
    · omega
    · have := ih h
      simp only [kidsT] at this
      omega
theorem kidsT_take {ps : List PartD} (k : Nat) : kidsT (ps.take k) ≤ kidsT ps := by
  have h : kidsT ps = kidsT (ps.take k) + kidsT (ps.drop k) := by
    simp only [kidsT]
    rw [← List.sum_append, ← List.map_append, List.take_append_drop]
  omega

/-- The cells of parts; the kids as values. -/
abbrev PartV := Int × Int × Value
def cellsQ (L : List PartV) : List Value := L.flatMap fun q => [.int .i64 q.1, .int .i64 q.2.1, q.2.2]
theorem cellsQ_cons (q : PartV) (L : List PartV) : cellsQ (q :: L) = .int .i64 q.1 :: .int .i64 q.2.1 :: q.2.2 :: cellsQ L := rfl
@[simp] theorem cellsQ_length (L : List PartV) : (cellsQ L).length = L.length * 3 := by
  induction L with
  | nil => rfl
  | cons p L ih => rw [cellsQ_cons]; simp [ih]; omega
theorem cellsQ_snoc (L : List PartV) (q : PartV) : cellsQ (L ++ [q]) = cellsQ L ++ [.int .i64 q.1, .int .i64 q.2.1, q.2.2] := by simp [cellsQ]
theorem cellsQ_at {L : List PartV} : ∀ {k : Nat} {q : PartV}, L[k]? = some q → (cellsQ L)[k * 3]? = some (.int .i64 q.1) ∧ (cellsQ L)[k * 3 + 1]? = some (.int .i64 q.2.1) ∧ (cellsQ L)[k * 3 + 2]? = some q.2.2 := by
  induction L with
  | nil => intro k p h; simp at h
  | cons q L ih =>
    intro k p h
    cases k with
    | zero => simp at h; subst h; simp [cellsQ_cons]
    | succ k =>
      have := ih (k := k) (q := p) (by simpa using h)
      rw [show (k + 1) * 3 = k * 3 + 3 by omega, cellsQ_cons]
      simpa using this

/-- v is a slice of parts that reads ps; the kids lie where L says. -/
structure RdPL (v : Value) (ps : List PartD) (L : List PartV) (w : World) : Prop where
  ln : L.length = ps.length
  row : Row w 3 v ps.length (cellsQ L)
  kids : ∀ (i : Nat) q p, L[i]? = some q → ps[i]? = some p → q.1 = p.1 ∧ q.2.1 = p.2.1 ∧ RdS q.2.2 p.2.2 w
structure RdP (v : Value) (ps : List PartD) (w : World) : Prop where
  ex : ∃ L, RdPL v ps L w
/-- The same, of the call's own; its blocks lie from lo up to hi. -/
structure OwPL (lo hi : Nat) (v : Value) (ps : List PartD) (L : List PartV) (w : World) : Prop where
  ln : L.length = ps.length
  own : w.ownsRow lo 48 3 v ps.length (cellsQ L)
  kids : ∀ (i : Nat) q p, L[i]? = some q → ps[i]? = some p → q.1 = p.1 ∧ q.2.1 = p.2.1 ∧ w.ownsRow lo 2 1 q.2.2 p.2.2.length (ints p.2.2)
  apart : L.Pairwise fun a b => ∀ k, a.2.2.ownBlock = some k → b.2.2.ownBlock ≠ some k
  hi : ∀ k, (v.ownBlock = some k ∨ ∃ q ∈ L, q.2.2.ownBlock = some k) → k < hi
structure OwP (lo hi : Nat) (v : Value) (ps : List PartD) (w : World) : Prop where
  ex : ∃ L, OwPL lo hi v ps L w
section
variable {lo hi : Nat} {v : Value} {ps : List PartD} {L : List PartV} {w w' : World}
theorem OwPL.lt (h : OwPL lo hi v ps L w) {k : Nat} (hk : v.ownBlock = some k ∨ ∃ q ∈ L, q.2.2.ownBlock = some k) : lo ≤ k ∧ k < w.heap.size := by
  rcases hk with hk | ⟨q, hq, hk⟩
  · exact owns_lt h.own hk
  · obtain ⟨i, hi⟩ := List.mem_iff_getElem?.1 hq
    have hi2 : i < L.length := (List.getElem?_eq_some_iff.1 hi).1
    exact owns_lt (h.kids i q (ps[i]'(by rw [← h.ln]; exact hi2)) hi (by simp)).2.2 hk
theorem OwP.upd {lo' hi' : Nat} (h : OwP lo hi v ps w) (u : Upd lo' hi' w w') (hd : hi ≤ lo' ∨ hi' ≤ lo ∨ hi' ≤ lo') : OwP lo hi v ps w' := by
  obtain ⟨L, h⟩ := h.ex
  refine ⟨L, h.ln, owns_keep h.own fun b hb hlt => u.block b hlt ?_, fun i q p h1 h2 => ⟨(h.kids i q p h1 h2).1, (h.kids i q p h1 h2).2.1, owns_keep (h.kids i q p h1 h2).2.2 fun b hb hlt => u.block b hlt ?_⟩, h.apart, h.hi⟩
  · have := (h.lt (.inl hb)).1; have := h.hi b (.inl hb); omega
  · have := (h.lt (.inr ⟨q, List.mem_of_getElem? h1, hb⟩)).1; have := h.hi b (.inr ⟨q, List.mem_of_getElem? h1, hb⟩); omega
theorem OwP.rd (h : OwP lo hi v ps w) : RdP v ps w := by
  obtain ⟨L, h⟩ := h.ex
  exact ⟨L, h.ln, Row.of_owns h.own, fun i q p h1 h2 => ⟨(h.kids i q p h1 h2).1, (h.kids i q p h1 h2).2.1, Row.of_owns (h.kids i q p h1 h2).2.2⟩⟩
theorem OwP.shape (h : OwP lo hi v ps w) : ∃ a c, v = .slice a ps.length c := by
  obtain ⟨L, h⟩ := h.ex
  exact owns_shape h.own
theorem RdP.outer (h : RdP v ps w) : ∃ a c, v = .slice a ps.length c ∧ True ∧ True ∧ True := by
  obtain ⟨L, h⟩ := h.ex
  obtain ⟨a, c, e, -⟩ := h.row
  exact ⟨a, c, e, trivial, trivial, trivial⟩
theorem RdP.len (h : RdP v ps w) : ps.length ≤ maxLen := by
  obtain ⟨L, h⟩ := h.ex
  exact h.row.len
theorem RdP.below {B : Nat} (h : RdP v ps w) (hb : Below B w w') (hB : w.heap.size = B) : RdP v ps w' := by
  subst hB
  obtain ⟨L, h⟩ := h.ex
  exact ⟨L, h.ln, Row.below h.row hb, fun i q p h1 h2 => ⟨(h.kids i q p h1 h2).1, (h.kids i q p h1 h2).2.1, Row.below (h.kids i q p h1 h2).2.2 hb⟩⟩
theorem RdP.at {a : Option Addr} {n c : Nat} (h : RdP (.slice a n c) ps w) {k : Nat} {p : PartD} (hp : ps[k]? = some p) :
    ∃ b o u, a = some ⟨b, o, none⟩ ∧ w.cell? ⟨b, o + k * 3, none⟩ = some (.int .i64 p.1) ∧ w.cell? ⟨b, o + k * 3 + 1, none⟩ = some (.int .i64 p.2.1) ∧ w.cell? ⟨b, o + k * 3 + 2, none⟩ = some u ∧ RdS u p.2.2 w := by
  obtain ⟨L, h⟩ := h.ex
  have hkl : k < L.length := by rw [h.ln]; exact (List.getElem?_eq_some_iff.1 hp).1
  obtain ⟨q, hq⟩ : ∃ q, L[k]? = some q := ⟨_, List.getElem?_eq_getElem hkl⟩
  obtain ⟨e1, e2, hr⟩ := h.kids k q p hq hp
  obtain ⟨a', cap', e, h1, h2, h3, h4, h5⟩ := h.row
  obtain ⟨rfl, -, -⟩ : a = a' ∧ n = _ ∧ c = cap' := by simpa using e
  obtain ⟨g0, g1, g2⟩ := cellsQ_at hq
  obtain ⟨b, o, rfl, hc0⟩ := h5 _ _ g0
  obtain ⟨b', o', e', hc1⟩ := h5 _ _ g1
  obtain ⟨rfl, rfl⟩ : b = b' ∧ o = o' := by simpa using e'
  obtain ⟨b', o', e', hc2⟩ := h5 _ _ g2
  obtain ⟨rfl, rfl⟩ : b = b' ∧ o = o' := by simpa using e'
  exact ⟨b, o, q.2.2, rfl, by rw [← e1]; exact hc0, by rw [← e2, Nat.add_assoc]; exact hc1, by rw [Nat.add_assoc]; exact hc2, hr⟩
end
theorem headP {w : World} {base size : Nat} {e : TypeId} {v : Value} {n : Nat} {cs : List Value} (h : w.ownsRow base e size v n cs) (hn : 0 < n) : ∃ g cap, v = .slice (some ⟨g, 0, none⟩) n cap := by
  obtain ⟨_, ⟨rfl, rfl⟩ | ⟨g, cap, cur, rfl, _⟩⟩ := h
  · omega
  · exact ⟨g, cap, rfl⟩
theorem infoEP : (Tryd.prog.info? 48).map (fun i => (i.zero, i.size, i.bytes)) = some (some (.agg #[.int .i64 0, .int .i64 0, .slice none 0 0]), 3, 40) := by kernel_rfl

/-! ### sz -/
theorem szP_el (x y : Int) (v : Value) (xs : List Int) (M : Int) (hL : M ≤ 1048576) (hL0 : 0 ≤ M) (w : World) (h : RdS v xs w) :
    Calls Tryd.prog 20 #[.agg #[.int .i64 x, .int .i64 y, v], .int .i64 M] w fun e w' => ∃ r, e = .returned (.int .i64 r) ∧ ((r = -1 ∧ M < xs.length) ∨ (r = M - xs.length ∧ 0 ≤ r)) ∧ Below w.heap.size w w' := by
  obtain ⟨a, c, rfl, -, -, -⟩ := id h
  have hb := below_alloc' w (.cells #[.int .i64 x, .int .i64 y, .slice a xs.length c] 45)
  have h2 := RdS.below h hb rfl
  go_enter Tryd.func20, Tryd.ntmps20
  go_wp2_with fail
  refine (szS_any _ xs M hL hL0 _ h2).mono ?_
  rintro e w' ⟨r, rfl, hr, rfl⟩
  rcases hr with ⟨rfl, hr⟩ | ⟨hr, h0⟩
  · go_wp2_with fail
    go_ret
    exact ⟨-1, rfl, .inl ⟨rfl, hr⟩, hb⟩
  · have HR := Lib.hid hr
    clear hr
    go_wp2_with fail
    go_ret
    exact ⟨r, rfl, .inr ⟨HR.out, h0⟩, hb⟩

set_option maxHeartbeats 1000000 in
theorem szP_k {v : Value} {ps : List PartD} {w : World} (h : RdP v ps w) {M : Int} (hL : M ≤ 1048576) (hL0 : 0 ≤ M) :
    Calls Tryd.prog 5 #[v, .int .i64 M] w fun e w' => ∃ r, e = .returned (.int .i64 r) ∧ LeftS M (ps.length + kidsT ps) r ∧ Upd 0 0 w w' := by
  have hl := h.len
  unfold maxLen at hl
  obtain ⟨a, c, rfl, -, -, -⟩ := h.outer
  obtain ⟨B, hB⟩ : ∃ B, w.heap.size = B := ⟨_, rfl⟩
  by_cases h0 : M - (ps.length : Int) < 0
  · go_enter Tryd.func5, Tryd.ntmps5
    go_wp2_with fail
    go_ret
    exact ⟨-1, rfl, .inl rfl, Upd.rfl' _⟩
  have hbr : Below B w w := Below.refl _ _
  have HK0 : Hid (kidsT (ps.take 0) = 0) := Lib.hid (by simp [kidsT])
  go_enter Tryd.func5, Tryd.ntmps5
  go_wp2_with fail
  go_loopw [1, 5] (fun q i wr => ∃ (k : Nat) (r : Int), k ≤ ps.length ∧ i = .int .i64 k ∧ q = .int .i64 r ∧ 0 ≤ r ∧ r ≤ 1048576 ∧ Hid (r = M - (ps.length : Int) - kidsT (ps.take k)) ∧ Below B w wr) (fun _ i _ => ps.length - (intOf i).toNat)
  case atStart => exact ⟨0, _, Nat.zero_le _, rfl, rfl, by omega, by omega, Lib.hid (by rw [HK0.out]; omega), hbr⟩
  case round =>
    clear hbr HK0
    obtain ⟨k, r, hk, rfl, rfl, hr0, hr1, HR, hb⟩ := hrel
    have hsz := hb.size
    by_cases hlt : k < ps.length
    · obtain ⟨p, hp⟩ : ∃ p, ps[k]? = some p := ⟨_, List.getElem?_eq_getElem hlt⟩
      obtain ⟨b1, o1, u, rfl, hc0, hc1, hc2, hu⟩ := RdP.at (h.below hb hB) hp
      have HE := Lib.hid (szP_el p.1 p.2.1 u p.2.2 r hr1 hr0 wr hu)
      have HT : Hid (kidsT (ps.take (k + 1)) = kidsT (ps.take k) + p.2.2.length) := Lib.hid (by rw [take_snoc hp, kidsT_snoc])
      clear hp hu
      go_wp2_with fail
      refine HE.out.mono ?_
      rintro e1 w1 ⟨r1, rfl, hr, hb1⟩
      have hb2 := hb.trans (hb1.mono (by omega))
      clear hb1 hb HE
      rcases hr with ⟨rfl, hr⟩ | ⟨hr, hr2⟩
      · go_wp2_with fail
        go_ret
        exact ⟨-1, rfl, .inl rfl, Upd.of_below (by rw [hB]; exact hb2)⟩
      · have hr3 : r1 ≤ 1048576 := by omega
        have HR1 := Lib.hid hr
        clear hr
        go_wp2_with fail
        go_roundw
        case rel => exact ⟨k + 1, r1, by omega, by go_num, rfl, hr2, hr3, Lib.hid (by have h1 := HR1.out; have h2 := HR.out; have h3 := HT.out; omega), hb2⟩
        case measure => simp [intOf]; omega
    · obtain rfl : k = ps.length := by omega
      go_wp2_with fail
      go_ret
      exact ⟨r, rfl, .inr ⟨hr0, by have := HR.out; rw [List.take_length] at this; omega⟩, Upd.of_below (by rw [hB]; exact hb)⟩

/-! ### eq -/
set_option maxHeartbeats 1000000 in
theorem eqP_el (x y : Int) (v1 v2 : Value) (xs : List Int) (w : World) (h1 : RdS v1 xs w) (h2 : RdS v2 xs w) :
    Calls Tryd.prog 28 #[.agg #[.int .i64 x, .int .i64 y, v1], .agg #[.int .i64 x, .int .i64 y, v2]] w fun e w' => e = .returned (.bool true) ∧ Below w.heap.size w w' := by
  obtain ⟨a1, c1, rfl, -, -, -⟩ := id h1
  obtain ⟨a2, c2, rfl, -, -, -⟩ := id h2
  have hx : (x != x) = false := by simp
  have hy : (y != y) = false := by simp
  obtain ⟨B, hB⟩ : ∃ B, w.heap.size = B := ⟨_, rfl⟩
  obtain ⟨W0, hW0⟩ : ∃ W0, W0 = (w.alloc (.cells #[.int .i64 x, .int .i64 y, .slice a1 xs.length c1] 48)).alloc (.cells #[.int .i64 x, .int .i64 y, .slice a2 xs.length c2] 48) := ⟨_, rfl⟩
  have u0 : Below B w W0 := by rw [hW0]; exact ((Below.refl _ _ : Below B w w).alloc (by omega) _).alloc (by simp; omega) _
  have hz0 : W0.heap.size = B + 2 := by rw [hW0]; simp [hB]
  have CE := Lib.hid (eqS_k (RdS.below h1 u0 hB) (RdS.below h2 u0 hB))
  clear h1 h2
  go_enter Tryd.func28, Tryd.ntmps28
  go_wp2_with fail
  rw [← hW0]
  clear hW0
  refine CE.out.mono ?_
  rintro e w1 ⟨rfl, u⟩
  have hb := u.below u0 (by omega) (by omega)
  clear CE u
  go_wp2_with fail
  go_ret
  exact ⟨rfl, by rw [hB]; exact hb⟩

set_option maxHeartbeats 2000000 in
theorem eqP_k {v1 v2 : Value} {ps : List PartD} {w : World} (h1 : RdP v1 ps w) (h2 : RdP v2 ps w) :
    Calls Tryd.prog 10 #[v1, v2] w fun e w' => e = .returned (.bool true) ∧ Upd 0 0 w w' := by
  have hl := h1.len
  unfold maxLen at hl
  obtain ⟨a1, c1, rfl, -, -, -⟩ := h1.outer
  obtain ⟨a2, c2, rfl, -, -, -⟩ := h2.outer
  obtain ⟨B, hB⟩ : ∃ B, w.heap.size = B := ⟨_, rfl⟩
  have hb : ((ps.length : Int) != ps.length) = false := by simp
  have hbr : Below B w w := Below.refl _ _
  go_enter Tryd.func10, Tryd.ntmps10
  go_wp2_with fail
  go_loopw [5] (fun i wr => ∃ k : Nat, k ≤ ps.length ∧ i = .int .i64 k ∧ Below B w wr) (fun i _ => ps.length - (intOf i).toNat)
  case atStart => exact ⟨0, Nat.zero_le _, rfl, hbr⟩
  case round =>
    clear hbr
    obtain ⟨k, hk, rfl, hb⟩ := hrel
    have hsz := hb.size
    by_cases hlt : k < ps.length
    · obtain ⟨p, hp⟩ : ∃ p, ps[k]? = some p := ⟨_, List.getElem?_eq_getElem hlt⟩
      have hbd : Below B w wr.drew := hb.drew
      obtain ⟨b1, o1, u1, rfl, hc0, hc1, hc2, hu1⟩ := RdP.at (h1.below hbd hB) hp
      obtain ⟨b2, o2, u2, rfl, hd0, hd1, hd2, hu2⟩ := RdP.at (h2.below hbd hB) hp
      have HE := Lib.hid (eqP_el p.1 p.2.1 u1 u2 p.2.2 wr.drew hu1 hu2)
      have hc0' : wr.cell? ⟨b1, o1 + k * 3, none⟩ = some (.int .i64 p.1) := hc0
      have hc1' : wr.cell? ⟨b1, o1 + k * 3 + 1, none⟩ = some (.int .i64 p.2.1) := hc1
      have hc2' : wr.cell? ⟨b1, o1 + k * 3 + 2, none⟩ = some u1 := hc2
      have hd0' : wr.cell? ⟨b2, o2 + k * 3, none⟩ = some (.int .i64 p.1) := hd0
      have hd1' : wr.cell? ⟨b2, o2 + k * 3 + 1, none⟩ = some (.int .i64 p.2.1) := hd1
      have hd2' : wr.cell? ⟨b2, o2 + k * 3 + 2, none⟩ = some u2 := hd2
      clear hp hu1 hu2 hc0 hc1 hc2 hd0 hd1 hd2
      go_wp2_with fail
      refine wp_region_ord [0, 1, 2, 4, 5, 6] [3, 7] [] [8, 9] (by kernel_rfl) (by kernel_rfl) (fun _ _ d _ _ h => by cases d <;> exact h) ?_
      simp only [pickOps, List.filterMap_cons, List.filterMap_nil, List.getElem?_cons_succ, List.getElem?_cons_zero]
      repeat quiet_step (fail)
      simp only [wpQuiet_nil_eq, wpSegs_nil_eq]
      go_wp2_with fail
      refine HE.out.mono ?_
      rintro e1 w1 ⟨rfl, hb1⟩
      have hb2 := hbd.trans (hb1.mono (by have := hbd.size; omega))
      clear hb1 hb hbd HE
      go_wp2_with fail
      go_roundw
      case rel => exact ⟨k + 1, by omega, by go_num, hb2⟩
      case measure => simp [intOf]; omega
    · obtain rfl : k = ps.length := by omega
      go_wp2_with fail
      go_ret
      exact ⟨rfl, Upd.of_below (by rw [hB]; exact hb)⟩

/-! ### to -/
set_option maxHeartbeats 2000000 in
theorem toP_el (x y : Int) (v : Value) (xs : List Int) (w : World) (hs : RdS v xs w) (hn : xs.length ≤ 1048576) {lo : Nat} (hlo : w.heap.size = lo) :
    Calls Tryd.prog 24 #[.agg #[.int .i64 x, .int .i64 y, v]] w fun e w' => ∃ u, e = .returned (.agg #[.int .i64 x, .int .i64 y, u]) ∧ OwS lo w'.heap.size u xs w' ∧ Below lo w w' := by
  obtain ⟨a1, c1, rfl, -, -, -⟩ := id hs
  obtain ⟨W, hW⟩ : ∃ W, W = (((w.alloc (.cells #[.int .i64 x, .int .i64 y, .slice a1 xs.length c1] 45)).alloc (.cells #[.int .i64 0, .int .i64 0, .slice none 0 0] 48)).alloc (.cells #[.int .i64 x, .int .i64 y, .slice none 0 0] 48)) := ⟨_, rfl⟩
  have hb0 : Below lo w W := by rw [hW]; exact ((((Below.refl _ _ : Below lo w w).alloc (by omega) _).alloc (by simp; omega) _).alloc (by simp; omega) _)
  have v2 : VC 48 (lo + 1) #[.int .i64 0, .int .i64 0, .slice none 0 0] W := by rw [hW]; exact (VC.new (by simp [hlo])).upd (Upd.alloc _ _) (by omega)
  have v3 : VC 48 (lo + 2) #[.int .i64 x, .int .i64 y, .slice none 0 0] W := by rw [hW]; exact VC.new (by simp [hlo])
  have hz : W.heap.size = lo + 3 := by rw [hW]; simp [hlo]
  have HV := Lib.hid (And.intro v2 (And.intro v3 hb0))
  clear v2 v3 hb0
  go_enter Tryd.func24, Tryd.ntmps24
  go_wp2_with fail
  rw [← hW]
  clear hW
  obtain ⟨v2, v3, hb0⟩ := HV.out
  refine (toS_k (RdS.below hs hb0 hlo) hn hz).mono ?_
  rintro e w1 ⟨u, rfl, ho, hu⟩
  obtain ⟨ua, uc, rfl, -, -, -⟩ := id ho.rd
  have hz1 : lo + 3 ≤ w1.heap.size := by have := hu.size; omega
  replace v2 := v2.upd hu (by omega)
  replace v3 := v3.upd hu (by omega)
  have hb1 := hu.below hb0 (by omega) (by omega)
  have c32 := v3.cellAt (i := 2) rfl
  have f32 := v3.freeAt 2
  obtain ⟨W2, hW2⟩ : ∃ W2, W2 = w1.setCell ⟨lo + 2, 2, none⟩ (.slice ua xs.length uc) := ⟨_, rfl⟩
  have V3 : VC 48 (lo + 2) #[.int .i64 x, .int .i64 y, .slice ua xs.length uc] W2 := by rw [hW2]; exact v3.setAt 2 _
  have V0 : VC 48 (lo + 1) #[.int .i64 0, .int .i64 0, .slice none 0 0] W2 := by rw [hW2]; exact v2.other (p := ⟨lo + 2, 2, none⟩) (by simp) _
  have u2 : Upd (lo + 2) (lo + 3) w1 W2 := by rw [hW2]; exact ⟨rfl, rfl, rfl, by simp [World.setCell], fun k _ hn => Below.heap_setCell _ _ _ _ (fun e => hn (by simp at e; omega))⟩
  have V1 : VC 48 (lo + 1) #[.int .i64 x, .int .i64 0, .slice none 0 0] (W2.setCell ⟨lo + 1, 0, none⟩ (.int .i64 x)) := V0.setAt 0 _
  have V2 : VC 48 (lo + 1) #[.int .i64 x, .int .i64 y, .slice none 0 0] ((W2.setCell ⟨lo + 1, 0, none⟩ (.int .i64 x)).setCell ⟨lo + 1, 1, none⟩ (.int .i64 y)) := V1.setAt 1 _
  obtain ⟨W5, hW5⟩ : ∃ W5, W5 = ((W2.setCell ⟨lo + 1, 0, none⟩ (.int .i64 x)).setCell ⟨lo + 1, 1, none⟩ (.int .i64 y)).setCell ⟨lo + 1, 2, none⟩ (.slice ua xs.length uc) := ⟨_, rfl⟩
  have V5 : VC 48 (lo + 1) #[.int .i64 x, .int .i64 y, .slice ua xs.length uc] W5 := by rw [hW5]; exact V2.setAt 2 _
  have u5 : Upd (lo + 1) (lo + 2) W2 W5 := by rw [hW5]; exact ⟨rfl, rfl, rfl, by simp [World.setCell], fun k _ hn => (Below.heap_setCell _ _ _ _ (fun e => hn (by simp at e; omega))).trans ((Below.heap_setCell _ _ _ _ (fun e => hn (by simp at e; omega))).trans (Below.heap_setCell _ _ _ _ (fun e => hn (by simp at e; omega))))⟩
  obtain ⟨d0, d1, d2⟩ := (show VC 48 (lo + 1 + 1) #[.int .i64 x, .int .i64 y, .slice ua xs.length uc] W2 from V3).at3
  obtain ⟨p0, -, -⟩ := V0.at3
  obtain ⟨-, p1, -⟩ := V1.at3
  obtain ⟨-, -, p2⟩ := V2.at3
  obtain ⟨r0, r1, r2⟩ := V5.at3
  have f0 := V0.freeAt 0
  have f1 := V1.freeAt 1
  have f2 := V2.freeAt 2
  rw [hW5] at r0 r1 r2
  rw [hW2] at r0 r1 r2 d0 d1 d2 p0 p1 p2 f0 f1 f2
  have HR := Lib.hid (And.intro r0 (And.intro r1 r2))
  have s2 := u2.size
  have s5 := u5.size
  have HW5 := Lib.hid hW5
  have HW2 := Lib.hid hW2
  have z5 : W5.heap.size = w1.heap.size := by rw [hW5, hW2]; simp [World.setCell]
  have ho' := (ho.upd u2 (by omega)).upd u5 (by omega)
  have hb5 := u5.below (u2.below hb1 (by omega) (by omega)) (by omega) (by omega)
  have HE := Lib.hid (And.intro ho' (And.intro hb5 z5))
  clear r0 r1 r2 ho' hb5 z5 u5 u2 s2 s5 hu HV hb0 hb1 v2 v3 V0 V1 V2 V3 V5 hW5 hW2 ho
  go_wp2_with fail
  obtain ⟨ho', hb5, z5⟩ := HE.out
  refine bodyPost_ret (v := .agg #[.int .i64 x, .int .i64 y, .slice ua xs.length uc]) (by simp [results, Tryd.results24, go_sem, HR.out.1, HR.out.2.1, HR.out.2.2]) rfl ?_
  rw [← HW2.out, ← HW5.out]
  exact ⟨_, rfl, ⟨owns_base ho'.own (by omega), fun k hk => by have := ho'.hi k hk; omega⟩, hb5⟩

theorem flatP (n : Nat) : ((List.replicate n ([.int .i64 0, .int .i64 0, .slice none 0 0] : List Value)).flatten).length = n * 3 := by
  induction n with
  | zero => rfl
  | succ n ih => rw [List.replicate_succ, List.flatten_cons, List.length_append, ih]; simp; omega
theorem fillP (L : List PartV) (n k : Nat) (hL : L.length = k) (hk : k < n) (x y : Int) (u : Value) :
    (((cellsQ L ++ (List.replicate (n - k) ([.int .i64 0, .int .i64 0, .slice none 0 0] : List Value)).flatten).set (k * 3) (.int .i64 x)).set (k * 3 + 1) (.int .i64 y)).set (k * 3 + 2) u = cellsQ (L ++ [(x, y, u)]) ++ (List.replicate (n - (k + 1)) ([.int .i64 0, .int .i64 0, .slice none 0 0] : List Value)).flatten := by
  have h1 : (cellsQ L).length = k * 3 := by rw [cellsQ_length, hL]
  rw [show n - k = (n - (k + 1)) + 1 by omega, List.replicate_succ, List.flatten_cons, cellsQ_snoc]
  generalize cellsQ L = A at *
  generalize (List.replicate (n - (k + 1)) ([.int .i64 0, .int .i64 0, .slice none 0 0] : List Value)).flatten = Z
  rw [← h1]
  simp

/-- The first k parts are laid. -/
structure LaidP (lo : Nat) (w : World) (ps : List PartD) (k : Nat) (L : List PartV) (wr : World) : Prop where
  ln : L.length = k
  own : wr.ownsRow lo 48 3 (.slice (some ⟨lo, 0, none⟩) ps.length ps.length) ps.length (cellsQ L ++ (List.replicate (ps.length - k) ([.int .i64 0, .int .i64 0, .slice none 0 0] : List Value)).flatten)
  kids : ∀ (i : Nat) q p, L[i]? = some q → ps[i]? = some p → q.1 = p.1 ∧ q.2.1 = p.2.1 ∧ wr.ownsRow (lo + 1) 2 1 q.2.2 p.2.2.length (ints p.2.2)
  apart : L.Pairwise fun a b => ∀ k, a.2.2.ownBlock = some k → b.2.2.ownBlock ≠ some k
  bel : Below lo w wr
theorem LaidP.kidLt {lo : Nat} {w : World} {ps : List PartD} {k : Nat} {L : List PartV} {wr : World} (h : LaidP lo w ps k L wr) (hk : k ≤ ps.length) {q : PartV} (hq : q ∈ L) {b : Nat} (hb : q.2.2.ownBlock = some b) : lo + 1 ≤ b ∧ b < wr.heap.size := by
  obtain ⟨i, hi⟩ := List.mem_iff_getElem?.1 hq
  have hi2 : i < L.length := (List.getElem?_eq_some_iff.1 hi).1
  exact owns_lt (h.kids i q (ps[i]'(by have := h.ln; omega)) hi (by simp)).2.2 hb
/-- One part more. -/
theorem LaidP.next {lo : Nat} {w : World} {ps : List PartD} {k : Nat} {L : List PartV} {wr w2 w5 : World} (h : LaidP lo w ps k L wr) {p : PartD} (hp : ps[k]? = some p) {u : Value} (hb : Below wr.heap.size wr w2) (hu : OwS wr.heap.size w2.heap.size u p.2.2 w2)
    (hs : lo + 1 ≤ wr.heap.size) (h5 : w5 = ((w2.setCell ⟨lo, k * 3, none⟩ (.int .i64 p.1)).setCell ⟨lo, k * 3 + 1, none⟩ (.int .i64 p.2.1)).setCell ⟨lo, k * 3 + 2, none⟩ u) : LaidP lo w ps (k + 1) (L ++ [(p.1, p.2.1, u)]) w5 := by
  have hk : k < ps.length := (List.getElem?_eq_some_iff.1 hp).1
  have ho2 := owns_below h.own hb
  have hst := ((ho2.stored (k * 3) (.int .i64 p.1)).1.stored (k * 3 + 1) (.int .i64 p.2.1)).1.stored (k * 3 + 2) u
  have uu : Upd lo (lo + 1) w2 w5 := by
    rw [h5]
    exact ⟨rfl, rfl, rfl, by simp [World.setCell], fun k _ hn => (Below.heap_setCell _ _ _ _ (fun e => hn (by simp at e; omega))).trans ((Below.heap_setCell _ _ _ _ (fun e => hn (by simp at e; omega))).trans (Below.heap_setCell _ _ _ _ (fun e => hn (by simp at e; omega))))⟩
  have hz := hb.size
  refine ⟨by simp [h.ln], ?_, fun i q' p' hq' hp' => ?_, pairwise_snoc h.apart fun y hy b hb1 hb2 => ?_, ?_⟩
  · have := hst.1
    rw [fillP L ps.length k h.ln hk, ← h5] at this
    exact this
  · by_cases hi : i < L.length
    · rw [List.getElem?_append_left hi] at hq'
      obtain ⟨e1, e2, ho⟩ := h.kids i q' p' hq' hp'
      refine ⟨e1, e2, owns_keep (owns_below ho hb) fun b hb' hlt => uu.block b hlt ?_⟩
      have := (owns_lt ho hb').1
      omega
    · have hi2 : i < (L ++ [(p.1, p.2.1, u)]).length := (List.getElem?_eq_some_iff.1 hq').1
      obtain rfl : i = k := by have := h.ln; simp at hi2; omega
      rw [List.getElem?_append_right (by omega), h.ln, Nat.sub_self] at hq'
      obtain rfl : (p.1, p.2.1, u) = q' := by simpa using hq'
      obtain rfl : p' = p := by rw [hp] at hp'; exact (Option.some.inj hp').symm
      refine ⟨rfl, rfl, owns_keep (owns_base hu.own hs) fun b hb' hlt => uu.block b hlt ?_⟩
      have := (owns_lt hu.own hb').1
      omega
  · have := (h.kidLt (by omega) hy hb1).2
    have := (owns_lt hu.own hb2).1
    omega
  · exact uu.below (h.bel.trans (hb.mono (by omega))) (by omega) (by omega)

set_option maxHeartbeats 2000000 in
theorem toP_k {v : Value} {ps : List PartD} {w : World} (h : RdP v ps w) (hn : ps.length + kidsT ps ≤ 1048576) {lo : Nat} (hlo : w.heap.size = lo) :
    Calls Tryd.prog 7 #[v] w fun e w' => ∃ u, e = .returned u ∧ OwP lo w'.heap.size u ps w' ∧ Upd 0 0 w w' := by
  obtain ⟨a, c, rfl, -, -, -⟩ := h.outer
  have HN : Hid (∀ p ∈ ps, p.2.2.length ≤ 1048576) := Lib.hid fun p hp => by have := kidsT_mem hp; omega
  have hpl : ps.length ≤ 1048576 := by omega
  clear hn
  go_enter Tryd.func7, Tryd.ntmps7
  go_wp2_with (at_make; refine wpList_makeN _ rfl _ _ 26 rfl lo 48 (.agg #[.int .i64 0, .int .i64 0, .slice none 0 0]) 3 40 Tryd.underlying26 infoEP [.int .i64 0, .int .i64 0, .slice none 0 0] rfl rfl .i64 .i64 _ _ ps.length rfl rfl (by omega) (by omega) (by omega) (by unfold maxLen; omega) (by omega) ?_; intro w1 ho1 hb1)
  have hl1 : lo + 1 ≤ w1.heap.size := by have := hb1.size; rw [hlo] at ho1; by_cases h0 : 0 < ps.length; (· have := (owns_lt ho1 (b := lo) rfl).2; omega); (· have := (owns_lt ho1 (b := lo) rfl).2; omega)
  have L0 : LaidP lo w ps 0 [] w1 := ⟨rfl, by simpa [cellsQ] using hlo ▸ ho1, fun i q p hq => by simp at hq, List.Pairwise.nil, hlo ▸ hb1⟩
  clear ho1 hb1
  go_loopw [4] (fun i wr => ∃ (k : Nat) (L : List PartV), k ≤ ps.length ∧ i = .int .i64 k ∧ lo + 1 ≤ wr.heap.size ∧ LaidP lo w ps k L wr) (fun i _ => ps.length - (intOf i).toNat)
  case atStart => exact ⟨0, [], Nat.zero_le _, by first | rfl | trivial, hl1, L0⟩
  case round =>
    clear L0 hl1
    obtain ⟨k, L, hk, rfl, hsz, I⟩ := hrel
    by_cases hlt : k < ps.length
    · obtain ⟨p, hp⟩ : ∃ p, ps[k]? = some p := ⟨ps[k]'(by omega), List.getElem?_eq_getElem (by omega)⟩
      obtain ⟨b1, o1, u, rfl, hc0, hc1, hc2, hu⟩ := RdP.at (h.below I.bel hlo) hp
      have HE := Lib.hid (toP_el p.1 p.2.1 u p.2.2 wr hu (HN.out p (List.mem_of_getElem? hp)) rfl)
      have HP := Lib.hid hp
      have HI := Lib.hid I
      clear hp hu I
      go_wp2_with fail
      refine HE.out.mono ?_
      rintro e1 w2 ⟨u2, rfl, hu2, hb2⟩
      have hN := HI.out.next HP.out hb2 hu2 hsz rfl
      have ho2 := owns_below HI.out.own hb2
      have hf0 : World.frozen? w2 ⟨lo, k * 3, none⟩ = false := ho2.frozenAt (k * 3)
      obtain ⟨z0, hz0⟩ : ∃ z, World.cell? w2 ⟨lo, k * 3, none⟩ = some z := by
        rw [ho2.cellAt (k * 3) (by omega)]
        exact ⟨_, List.getElem?_eq_getElem (by have h1 := ho2.1; omega)⟩
      have hst0 := ho2.stored (k * 3) (.int .i64 p.1)
      have hf1 : World.frozen? (w2.setCell ⟨lo, k * 3, none⟩ (.int .i64 p.1)) ⟨lo, k * 3 + 1, none⟩ = false := hst0.1.frozenAt (k * 3 + 1)
      obtain ⟨z1, hz1⟩ : ∃ z, World.cell? (w2.setCell ⟨lo, k * 3, none⟩ (.int .i64 p.1)) ⟨lo, k * 3 + 1, none⟩ = some z := by
        rw [hst0.1.cellAt (k * 3 + 1) (by omega)]
        exact ⟨_, List.getElem?_eq_getElem (by have h1 := hst0.1.1; omega)⟩
      have hst1 := hst0.1.stored (k * 3 + 1) (.int .i64 p.2.1)
      have hf2 : World.frozen? ((w2.setCell ⟨lo, k * 3, none⟩ (.int .i64 p.1)).setCell ⟨lo, k * 3 + 1, none⟩ (.int .i64 p.2.1)) ⟨lo, k * 3 + 2, none⟩ = false := hst1.1.frozenAt (k * 3 + 2)
      obtain ⟨z2, hz2⟩ : ∃ z, World.cell? ((w2.setCell ⟨lo, k * 3, none⟩ (.int .i64 p.1)).setCell ⟨lo, k * 3 + 1, none⟩ (.int .i64 p.2.1)) ⟨lo, k * 3 + 2, none⟩ = some z := by
        rw [hst1.1.cellAt (k * 3 + 2) (by omega)]
        exact ⟨_, List.getElem?_eq_getElem (by have h1 := hst1.1.1; omega)⟩
      have hsz2 : lo + 1 ≤ (((w2.setCell ⟨lo, k * 3, none⟩ (.int .i64 p.1)).setCell ⟨lo, k * 3 + 1, none⟩ (.int .i64 p.2.1)).setCell ⟨lo, k * 3 + 2, none⟩ u2).heap.size := by have := hb2.size; simp [World.setCell]; omega
      have HNX := Lib.hid (And.intro hsz2 hN)
      obtain ⟨ua, uc, rfl⟩ := hu2.shape
      clear hst0 hst1 hb2 ho2 hN hsz2 hu2 HE
      go_wp2_with fail
      go_roundw
      case rel => exact ⟨k + 1, _, by omega, by go_num, HNX.out.1, HNX.out.2⟩
      case measure => simp [intOf]; omega
    · obtain rfl : k = ps.length := by omega
      have HI := Lib.hid I
      clear I
      go_wp2_with fail
      go_ret
      have I := HI.out
      have ho := I.own
      rw [Nat.sub_self] at ho
      simp only [List.replicate_zero, List.flatten_nil, List.append_nil] at ho
      refine ⟨_, rfl, ⟨L, I.ln, ho, fun i q p hq hp => ⟨(I.kids i q p hq hp).1, (I.kids i q p hq hp).2.1, owns_base (I.kids i q p hq hp).2.2 (by omega)⟩, I.apart, fun b hb => ?_⟩, Upd.of_below (by rw [hlo]; exact I.bel)⟩
      rcases hb with hb | ⟨q, hq, hb⟩
      · exact (owns_lt ho hb).2
      · exact (I.kidLt (Nat.le_refl _) hq hb).2

/-! ### mark -/
/-- Parts as they lie, with whatever numbers. -/
structure MkP (lo hi : Nat) (v : Value) (n : Nat) (us : List Value) (ns : List Nat) (wr : World) : Prop where
  ln : us.length = n
  ln2 : ns.length = n
  own : ∃ L : List PartV, L.map (fun q => q.2.2) = us ∧ wr.ownsRow lo 48 3 v n (cellsQ L)
  kids : ∀ (i : Nat) u m, us[i]? = some u → ns[i]? = some m → ∃ cs, wr.ownsRow lo 2 1 u m cs
  apart : us.Pairwise fun a b => ∀ k, a.ownBlock = some k → b.ownBlock ≠ some k
  hi : ∀ k, (v.ownBlock = some k ∨ ∃ u ∈ us, u.ownBlock = some k) → k < hi
theorem cellsQ_set {L : List PartV} : ∀ {k : Nat} {q : PartV} (x y : Int), L[k]? = some q → ((cellsQ L).set (k * 3) (.int .i64 x)).set (k * 3 + 1) (.int .i64 y) = cellsQ (L.set k (x, y, q.2.2)) := by
  induction L with
  | nil => intro k q x y h; simp at h
  | cons p L ih =>
    intro k q x y h
    cases k with
    | zero => simp at h; subst h; simp [cellsQ_cons]
    | succ k =>
      have := ih (k := k) (q := q) x y (by simpa using h)
      rw [show (k + 1) * 3 = k * 3 + 3 by omega, List.set_cons_succ, cellsQ_cons, cellsQ_cons, ← this]
      rfl

section
variable {lo hi : Nat} {n : Nat} {us : List Value} {ns : List Nat} {w w' : World}
theorem MkP.of {v : Value} {ps : List PartD} (h : OwP lo hi v ps w) : ∃ us, MkP lo hi v ps.length us (ps.map fun p => p.2.2.length) w := by
  obtain ⟨L, h⟩ := h.ex
  refine ⟨L.map fun q => q.2.2, by simp [h.ln], by simp, ⟨L, rfl, h.own⟩, fun i u m hu hm => ?_, ?_, fun k hk => ?_⟩
  · rw [List.getElem?_map, Option.map_eq_some_iff] at hu hm
    obtain ⟨q, hq, rfl⟩ := hu
    obtain ⟨p, hp, rfl⟩ := hm
    exact ⟨_, (h.kids i q p hq hp).2.2⟩
  · rw [List.pairwise_map]
    exact h.apart
  · rcases hk with hk | ⟨u, hu, hk⟩
    · exact h.hi k (.inl hk)
    · obtain ⟨q, hq, rfl⟩ := List.mem_map.1 hu
      exact h.hi k (.inr ⟨q, hq, hk⟩)
theorem MkP.lo' {v : Value} (h : MkP lo hi v n us ns w) {k : Nat} (hk : v.ownBlock = some k ∨ ∃ u ∈ us, u.ownBlock = some k) : lo ≤ k ∧ k < hi := by
  refine ⟨?_, h.hi k hk⟩
  obtain ⟨L, -, ho⟩ := h.own
  rcases hk with hk | ⟨u, hu, hk⟩
  · exact (owns_lt ho hk).1
  · obtain ⟨i, hi⟩ := List.mem_iff_getElem?.1 hu
    have hi2 : i < us.length := (List.getElem?_eq_some_iff.1 hi).1
    obtain ⟨cs, hc⟩ := h.kids i u (ns[i]'(by rw [h.ln2, ← h.ln]; exact hi2)) hi (by simp)
    exact (owns_lt hc hk).1
theorem MkP.at {v : Value} (h : MkP lo hi v n us ns w) {k : Nat} (hk : k < n) : ∃ g c u m, v = .slice (some ⟨g, 0, none⟩) n c ∧ us[k]? = some u ∧ ns[k]? = some m ∧ w.cell? ⟨g, k * 3 + 2, none⟩ = some u ∧ (∃ z, w.cell? ⟨g, k * 3, none⟩ = some z) ∧ (∃ z, w.cell? ⟨g, k * 3 + 1, none⟩ = some z) ∧ w.frozen? ⟨g, k * 3, none⟩ = false ∧ w.frozen? ⟨g, k * 3 + 1, none⟩ = false := by
  obtain ⟨L, hL, ho⟩ := h.own
  obtain ⟨g, c, rfl⟩ := headP ho (by omega)
  have hLl : L.length = n := by rw [← h.ln, ← hL, List.length_map]
  obtain ⟨q, hq⟩ : ∃ q, L[k]? = some q := ⟨_, List.getElem?_eq_getElem (by omega)⟩
  obtain ⟨m, hm⟩ : ∃ m, ns[k]? = some m := ⟨_, List.getElem?_eq_getElem (by rw [h.ln2]; exact hk)⟩
  obtain ⟨g0, g1, g2⟩ := cellsQ_at hq
  exact ⟨g, c, q.2.2, m, rfl, by rw [← hL, List.getElem?_map, hq]; rfl, hm, (ho.cellAt (k * 3 + 2) (by omega)).trans g2, ⟨_, (ho.cellAt (k * 3) (by omega)).trans g0⟩, ⟨_, (ho.cellAt (k * 3 + 1) (by omega)).trans g1⟩, ho.frozenAt _, ho.frozenAt _⟩
theorem MkP.put {g c : Nat} (h : MkP lo hi (.slice (some ⟨g, 0, none⟩) n c) n us ns w) {k : Nat} (hk : k < n) (x y : Int) :
    MkP lo hi (.slice (some ⟨g, 0, none⟩) n c) n us ns ((w.setCell ⟨g, k * 3, none⟩ (.int .i64 x)).setCell ⟨g, k * 3 + 1, none⟩ (.int .i64 y)) ∧ Upd lo hi w ((w.setCell ⟨g, k * 3, none⟩ (.int .i64 x)).setCell ⟨g, k * 3 + 1, none⟩ (.int .i64 y)) := by
  obtain ⟨L, hL, ho⟩ := h.own
  have hLl : L.length = n := by rw [← h.ln, ← hL, List.length_map]
  obtain ⟨q, hq⟩ : ∃ q, L[k]? = some q := ⟨_, List.getElem?_eq_getElem (by omega)⟩
  have h1 := ho.stored (k * 3) (.int .i64 x)
  have h2 := h1.1.stored (k * 3 + 1) (.int .i64 y)
  rw [cellsQ_set x y hq] at h2
  have hg := grown_trans (grown_trans (w := w) ⟨rfl, rfl, rfl, Nat.le_refl _, fun _ _ _ => rfl⟩ h1.2) h2.2
  have hgl := h.lo' (k := g) (.inl rfl)
  refine ⟨⟨h.ln, h.ln2, ⟨_, ?_, h2.1⟩, fun i u m hu hm => ?_, h.apart, h.hi⟩, Upd.of_wrote (Wrote.of_grown hg) fun b hb => ?_⟩
  · rw [List.map_set, hL]
    apply List.ext_getElem?
    intro j
    by_cases hj : k = j
    · subst hj
      rw [List.getElem?_set_self (by rw [h.ln]; exact hk), ← hL, List.getElem?_map, hq]
      rfl
    · rw [List.getElem?_set_ne hj]
  · obtain ⟨cs, hc⟩ := h.kids i u m hu hm
    exact ⟨cs, owns_keep hc fun b hb hlt => hg.block b hlt fun e => owns_unlike hc ho (by decide) hb e.symm⟩
  · obtain rfl : g = b := by simpa using hb
    exact hgl
theorem MkP.kid {v : Value} (h : MkP lo hi v n us ns w) {k m : Nat} {u : Value} {cs : List Value} (hu : us[k]? = some u) (hm : ns[k]? = some m) (hc : w'.ownsRow lo 2 1 u m cs) (hg : w.grownBy w' u.ownBlock) :
    MkP lo hi v n us ns w' ∧ Upd lo hi w w' := by
  obtain ⟨L, hL, ho⟩ := h.own
  obtain ⟨cs0, hc0⟩ := h.kids k u m hu hm
  refine ⟨⟨h.ln, h.ln2, ⟨L, hL, owns_keep ho fun b hb hlt => hg.block b hlt fun e => owns_unlike ho hc0 (by decide) hb e.symm⟩, fun i u' m' hu' hm' => ?_, h.apart, h.hi⟩, Upd.of_wrote (Wrote.of_grown hg) fun b hb => h.lo' (.inr ⟨u, List.mem_of_getElem? hu, hb⟩)⟩
  by_cases hik : i = k
  · subst hik
    obtain rfl : u = u' := by rw [hu] at hu'; exact Option.some.inj hu'
    obtain rfl : m = m' := by rw [hm] at hm'; exact Option.some.inj hm'
    exact ⟨cs, hc⟩
  · obtain ⟨cs', hc'⟩ := h.kids i u' m' hu' hm'
    refine ⟨cs', owns_keep hc' fun b hb hlt => hg.block b hlt fun e => ?_⟩
    have hp := List.pairwise_iff_getElem.1 h.apart
    obtain ⟨hil, rfl⟩ := List.getElem?_eq_some_iff.1 hu'
    obtain ⟨hkl, rfl⟩ := List.getElem?_eq_some_iff.1 hu
    rcases Nat.lt_or_gt_of_ne hik with hlt' | hlt'
    · exact hp i k hil hkl hlt' b hb e.symm
    · exact hp k i hkl hil hlt' b e.symm hb
end

set_option maxHeartbeats 2000000 in
theorem markP_k {lo hi : Nat} {v : Value} {ps : List PartD} {w : World} (h : OwP lo hi v ps w) {k : Nat} {K0 K' : Int} (hK : K0 = k) (hK' : K' = ((k + 2 * ps.length + kidsT ps : Nat) : Int)) (hk : k + 2 * ps.length + kidsT ps ≤ 1000000000) :
    Calls Tryd.prog 11 #[v, .int .i64 K0] w fun e w' => e = .returned (.int .i64 K') ∧ True ∧ Upd lo hi w w' := by
  subst hK
  obtain ⟨us, h⟩ := MkP.of h
  have HK := Lib.hid hK'
  obtain ⟨ns, hns⟩ : ∃ ns, (ps.map fun p => p.2.2.length) = ns := ⟨_, rfl⟩
  have hT : kidsT ps = ns.sum := by rw [← hns]; rfl
  have hnl : ns.length = ps.length := by rw [← hns]; simp
  rw [hns] at h
  rw [hT] at hk HK
  obtain ⟨n, hn⟩ : ∃ n, ps.length = n := ⟨_, rfl⟩
  rw [hn] at h hk HK hnl
  have HNL := Lib.hid hnl
  obtain ⟨a, c, hv⟩ : ∃ a c, v = .slice a n c := by obtain ⟨L, -, ho⟩ := h.own; exact owns_shape ho
  subst hv
  have hu0 : Upd lo hi w w := ⟨rfl, rfl, rfl, Nat.le_refl _, fun _ _ _ => rfl⟩
  clear hns hT hn hK' hnl
  go_enter Tryd.func11, Tryd.ntmps11
  go_wp2_with fail
  go_loopw [1, 5] (fun q i wr => ∃ (j t : Nat), j ≤ n ∧ i = .int .i64 j ∧ q = .int .i64 (t : Nat) ∧ Hid (t = k + 2 * j + (ns.take j).sum) ∧ t ≤ 1000000000 ∧ MkP lo hi (.slice a n c) n us ns wr ∧ Upd lo hi w wr) (fun _ i _ => n - (intOf i).toNat)
  case atStart => exact ⟨0, k, Nat.zero_le _, rfl, rfl, Lib.hid (by simp), by omega, h, hu0⟩
  case round =>
    clear hu0 h
    obtain ⟨j, t, hj, rfl, rfl, HT, ht, I, hu⟩ := hrel
    by_cases hlt : j < n
    · obtain ⟨g, c2, u, m, he, huj, hmj, hcu, ⟨z0, hz0⟩, ⟨z1, hz1⟩, hf0, hf1⟩ := I.at hlt
      obtain ⟨rfl, rfl⟩ : a = some ⟨g, 0, none⟩ ∧ c = c2 := by simpa using he
      obtain ⟨I2, u2⟩ := I.put hlt ((t : Nat) : Int) (((t + 1 : Nat)) : Int)
      obtain ⟨g', c', u', m', he', huj', hmj', hcu', -, -, -, -⟩ := I2.at hlt
      obtain ⟨rfl, rfl⟩ : g = g' ∧ c = c' := by simpa using he'
      obtain rfl : u = u' := by rw [huj] at huj'; exact Option.some.inj huj'
      obtain rfl : m = m' := by rw [hmj] at hmj'; exact Option.some.inj hmj'
      obtain ⟨cs, hcs⟩ := I2.kids j u m huj hmj
      have hst := sum_take_succ ns j (by have := HNL.out; omega)
      have hsl := sum_take_le ns (j + 1)
      have hme : ns[j]'(by have := HNL.out; omega) = m := by rw [List.getElem?_eq_getElem (by have := HNL.out; omega)] at hmj; exact Option.some.inj hmj
      rw [hme] at hst
      have htm : t + 2 + m ≤ 1000000000 := by have := HT.out; omega
      have HS := Lib.hid hst
      have hup : ∀ W, Upd lo hi wr W → Upd lo hi w W := fun W hW => ⟨hW.os.trans hu.os, hW.tape.trans hu.tape, hW.output.trans hu.output, by have := hW.size; have := hu.size; omega, fun k hk hn => (hW.block k (by have := hu.size; omega) hn).trans (hu.block k hk hn)⟩
      obtain ⟨cu, cv, hcu2⟩ : ∃ cu cv, u = .slice cu m cv := owns_shape hcs
      have CE := Lib.hid (markS_any u m cs lo (t + 2) htm _ hcs)
      have HI := Lib.hid (And.intro I2 (And.intro u2 (And.intro hup (And.intro huj hmj))))
      have ho1 : World.frozen? (wr.setCell ⟨g, j * 3, none⟩ (.int .i64 ((t : Nat) : Int))) ⟨g, j * 3 + 1, none⟩ = false := by
        obtain ⟨L, -, ho⟩ := I.own
        exact (ho.stored (j * 3) _).1.frozenAt _
      obtain ⟨z2, hz2⟩ : ∃ z, World.cell? (wr.setCell ⟨g, j * 3, none⟩ (.int .i64 ((t : Nat) : Int))) ⟨g, j * 3 + 1, none⟩ = some z := by
        obtain ⟨L, hL, ho⟩ := I.own
        have hl1 := (ho.stored (j * 3) (.int .i64 ((t : Nat) : Int))).1
        rw [hl1.cellAt (j * 3 + 1) (by omega)]
        exact ⟨_, List.getElem?_eq_getElem (by have h1 := hl1.1; omega)⟩
      have ht1 : ((t + 1 : Nat) : Int) = (t : Int) + 1 := by omega
      have ht2 : ((t + 2 : Nat) : Int) = (t : Int) + 1 + 1 := by omega
      rw [ht1] at hcu' CE HI
      rw [ht2] at CE
      subst hcu2
      clear he he' hst hsl hme I I2 u2 hup huj hmj huj' hmj' hcs hu hz1 hf1 hcu ht1 ht2
      go_wp2_with fail
      refine CE.out.mono ?_
      rintro e1 w2 ⟨rfl, ho2, hg2⟩
      have HI2 := Lib.hid (HI.out.1.kid HI.out.2.2.2.1 HI.out.2.2.2.2 ho2 hg2)
      clear ho2 hg2 CE
      go_wp2_with fail
      go_roundw
      case rel => exact ⟨j + 1, t + 2 + m, by omega, by go_num, by go_num, Lib.hid (by have h1 := HS.out; have h2 := HT.out; omega), htm, HI2.out.1, HI.out.2.2.1 _ ⟨HI2.out.2.os.trans HI.out.2.1.os, HI2.out.2.tape.trans HI.out.2.1.tape, HI2.out.2.output.trans HI.out.2.1.output, Nat.le_trans HI.out.2.1.size HI2.out.2.size, fun b hb hn => (HI2.out.2.block b (Nat.lt_of_lt_of_le hb HI.out.2.1.size) hn).trans (HI.out.2.1.block b hb hn)⟩⟩
      case measure => simp [intOf]; omega
    · obtain rfl : j = n := by omega
      go_wp2_with fail
      go_ret
      exact ⟨ret_int (by rw [HK.out, HT.out, List.take_of_length_le (by have := HNL.out; omega)]), trivial, hu⟩
end Go.Proofs.YtpfhflkpnjkgkaaDoor
