import Derived.Test.YtpfhflkpnjkgkaaGq00
import Derived.Test.YtpfhflkpnjkgkaaGq02
/-
  'make' of a slice of structs: its cells. No program in sight.
-/

namespace Go.Proofs.Ytpfhflkpnjkgkaa
open Go.RowKit

theorem range_add' (a b : Nat) : List.range (a + b) = List.range a ++ (List.range b).map (a + ·) := List.range_add
theorem made_cells (z : Array Value) (n : Nat) : (madeCells z (n * z.size)).toList = (List.replicate n z.toList).flatten := by
  unfold madeCells
  rw [Array.toList_map, Array.toList_range]
  induction n with
  | zero => simp
  | succ n ih =>
    rw [Nat.succ_mul, range_add', List.map_append, ih, List.replicate_succ', List.flatten_append]
    congr 1
    rw [List.map_map]
    simp only [List.flatten_cons, List.flatten_nil, List.append_nil]
    apply List.ext_getElem?
    intro j
    rw [List.getElem?_map]
    by_cases hj : j < z.size
    · rw [List.getElem?_range hj, Option.map_some]
      have e1 : (n * z.size + j) % z.size = j := by rw [Nat.mul_add_mod_self_right, Nat.mod_eq_of_lt hj]
      simp only [Function.comp, e1]
      simp [hj]
    · rw [List.getElem?_eq_none (by simp; omega), List.getElem?_eq_none (by simp; omega)]
      rfl
/-- 'make([]T, n)', T of 'size' cells: they are owned. -/
theorem wpList_makeN {P : Program} (w : World) {ops : Array Oper} {rest : List Oper} {o : Oper} {a : Act} {Q : Exit → Act → World → Prop}
    (hg : o.guard = none) (l c : Operand) (t : TypeId) (hop : o.op = Op.makeSlice t l c)
    (base : Nat) (e : TypeId) (z : Value) (size bytes : Nat) (h1 : P.underlying t = some (.slice e)) (hinfo : (P.info? e).map (fun i => (i.zero, i.size, i.bytes)) = some (some z, size, bytes)) (zs : List Value) (hzs : z.cells = zs.toArray) (hsz : zs.length = size)
    (kl kc : IntKind) (L C : Int) (n : Nat) (hl : a.eval l = .int kl L) (hc : a.eval c = .int kc C) (hL : L = (n : Int)) (hC : C = (n : Int)) (b2 : bytes * n ≤ 281474976710656) (b3 : n ≤ maxLen) (b4 : base ≤ w.heap.size)
    (hK : ∀ w', w'.ownsRow base e size (.slice (some ⟨w.heap.size, 0, none⟩) n n) n (List.replicate n zs).flatten → Below w.heap.size w w' → wpList P ops Q rest (a.put o.dst (.slice (some ⟨w.heap.size, 0, none⟩) n n)) w') :
    wpList P ops Q (o :: rest) a w := by
  obtain ⟨i, hi, hz, hsize, hby⟩ := info_parts hinfo
  refine wpList_make_full w hg l c t hop base e i z size h1 hi hz hsize kl kc L C n hl hc hL hC (by rw [hby]; exact b2) b3 b4 fun w' h2 h3 => ?_
  refine hK w' ?_ (below_of_grown h3 (Nat.le_refl _) (by simp))
  have e1 := made_cells zs.toArray n
  rw [hzs] at h2
  rw [show zs.toArray.size = size by simpa using hsz] at e1
  rw [e1] at h2
  simpa using h2
end Go.Proofs.Ytpfhflkpnjkgkaa
/-
  The kind []Part (a slice of structs of two numbers and a row): how it lies, the helpers of the laws.
-/


namespace Go.Proofs.Ytpfhflkpnjkgkaa
open Go.RowKit

theorem VC.setAt {t : TypeId} {b : Nat} {cs : Array Value} {w : World} (h : VC t b cs w) (i : Nat) (u : Value) : VC t b (cs.setIfInBounds i u) (w.setCell ⟨b, i, none⟩ u) := by
  have hl := h.lt
  unfold VC at h ⊢
  unfold World.setCell
  simp only [Array.getElem?_modify]
  simp [h]
theorem VC.cellAt {t : TypeId} {b : Nat} {cs : Array Value} {w : World} (h : VC t b cs w) {i : Nat} {u : Value} (hi : cs[i]? = some u) : w.cell? ⟨b, i, none⟩ = some u := by
  unfold VC at h
  simp [World.cell?, h, hi]
theorem VC.freeAt {t : TypeId} {b : Nat} {cs : Array Value} {w : World} (h : VC t b cs w) (i : Nat) : w.frozen? ⟨b, i, none⟩ = false := by
  unfold VC at h
  simp [World.frozen?, h]
theorem VC.at3 {t : TypeId} {b : Nat} {c0 c1 c2 : Value} {w : World} (h : VC t b #[c0, c1, c2] w) :
    w.cell? ⟨b, 0, none⟩ = some c0 ∧ w.cell? ⟨b, 1, none⟩ = some c1 ∧ w.cell? ⟨b, 2, none⟩ = some c2 := by
  unfold VC at h
  refine ⟨?_, ?_, ?_⟩ <;> simp [World.cell?, h]

/-- A part: its kind, its vertex, its kids. -/
abbrev PartD := Int × Int × List Int
/-- How many kids there are. -/
def kidsT (ps : List PartD) : Nat := (ps.map fun p => p.2.2.length).sum
theorem kidsT_snoc (ps : List PartD) (p : PartD) : kidsT (ps ++ [p]) = kidsT ps + p.2.2.length := by simp [kidsT]
theorem kidsT_mem {ps : List PartD} {p : PartD} (h : p ∈ ps) : p.2.2.length ≤ kidsT ps := by
  induction ps with
  | nil => cases h
  | cons q l ih =>
    simp only [kidsT, List.map_cons, List.sum_cons]
    rcases List.mem_cons.1 h with rfl | h
    · omega
    · have := ih h
      simp only [kidsT] at this
      omega
theorem kidsT_take {ps : List PartD} (k : Nat) : kidsT (ps.take k) ≤ kidsT ps := by
  have h : kidsT ps = kidsT (ps.take k) + kidsT (ps.drop k) := by
    simp only [kidsT]
    rw [← List.sum_append, ← List.map_append, List.take_append_drop]
  omega

/-- The cells of parts; the kids as values. -/
abbrev PartV := Int × Int × Value
def cellsQ (L : List PartV) : List Value := L.flatMap fun q => [.int .i64 q.1, .int .i64 q.2.1, q.2.2]
theorem cellsQ_cons (q : PartV) (L : List PartV) : cellsQ (q :: L) = .int .i64 q.1 :: .int .i64 q.2.1 :: q.2.2 :: cellsQ L := rfl
@[simp] theorem cellsQ_length (L : List PartV) : (cellsQ L).length = L.length * 3 := by
  induction L with
  | nil => rfl
  | cons p L ih => rw [cellsQ_cons]; simp [ih]; omega
theorem cellsQ_snoc (L : List PartV) (q : PartV) : cellsQ (L ++ [q]) = cellsQ L ++ [.int .i64 q.1, .int .i64 q.2.1, q.2.2] := by simp [cellsQ]
theorem cellsQ_at {L : List PartV} : ∀ {k : Nat} {q : PartV}, L[k]? = some q → (cellsQ L)[k * 3]? = some (.int .i64 q.1) ∧ (cellsQ L)[k * 3 + 1]? = some (.int .i64 q.2.1) ∧ (cellsQ L)[k * 3 + 2]? = some q.2.2 := by
  induction L with
  | nil => intro k p h; simp at h
  | cons q L ih =>
    intro k p h
    cases k with
    | zero => simp at h; subst h; simp [cellsQ_cons]
    | succ k =>
      have := ih (k := k) (q := p) (by simpa using h)
      rw [show (k + 1) * 3 = k * 3 + 3 by omega, cellsQ_cons]
      simpa using this

/-- v is a slice of parts that reads ps; the kids lie where L says. -/
structure RdPL (v : Value) (ps : List PartD) (L : List PartV) (w : World) : Prop where
  ln : L.length = ps.length
  row : Row w 3 v ps.length (cellsQ L)
  kids : ∀ (i : Nat) q p, L[i]? = some q → ps[i]? = some p → q.1 = p.1 ∧ q.2.1 = p.2.1 ∧ RdS q.2.2 p.2.2 w
structure RdP (v : Value) (ps : List PartD) (w : World) : Prop where
  ex : ∃ L, RdPL v ps L w
/-- The same, of the call's own; its blocks lie from lo up to hi. -/
structure OwPL (lo hi : Nat) (v : Value) (ps : List PartD) (L : List PartV) (w : World) : Prop where
  ln : L.length = ps.length
  own : w.ownsRow lo 48 3 v ps.length (cellsQ L)
  kids : ∀ (i : Nat) q p, L[i]? = some q → ps[i]? = some p → q.1 = p.1 ∧ q.2.1 = p.2.1 ∧ w.ownsRow lo 2 1 q.2.2 p.2.2.length (ints p.2.2)
  apart : L.Pairwise fun a b => ∀ k, a.2.2.ownBlock = some k → b.2.2.ownBlock ≠ some k
  hi : ∀ k, (v.ownBlock = some k ∨ ∃ q ∈ L, q.2.2.ownBlock = some k) → k < hi
structure OwP (lo hi : Nat) (v : Value) (ps : List PartD) (w : World) : Prop where
  ex : ∃ L, OwPL lo hi v ps L w
section
variable {lo hi : Nat} {v : Value} {ps : List PartD} {L : List PartV} {w w' : World}
theorem OwPL.lt (h : OwPL lo hi v ps L w) {k : Nat} (hk : v.ownBlock = some k ∨ ∃ q ∈ L, q.2.2.ownBlock = some k) : lo ≤ k ∧ k < w.heap.size := by
  rcases hk with hk | ⟨q, hq, hk⟩
  · exact owns_lt h.own hk
  · obtain ⟨i, hi⟩ := List.mem_iff_getElem?.1 hq
    have hi2 : i < L.length := (List.getElem?_eq_some_iff.1 hi).1
    exact owns_lt (h.kids i q (ps[i]'(by rw [← h.ln]; exact hi2)) hi (by simp)).2.2 hk
theorem OwP.upd {lo' hi' : Nat} (h : OwP lo hi v ps w) (u : Upd lo' hi' w w') (hd : hi ≤ lo' ∨ hi' ≤ lo ∨ hi' ≤ lo') : OwP lo hi v ps w' := by
  obtain ⟨L, h⟩ := h.ex
  refine ⟨L, h.ln, owns_keep h.own fun b hb hlt => u.block b hlt ?_, fun i q p h1 h2 => ⟨(h.kids i q p h1 h2).1, (h.kids i q p h1 h2).2.1, owns_keep (h.kids i q p h1 h2).2.2 fun b hb hlt => u.block b hlt ?_⟩, h.apart, h.hi⟩
  · have := (h.lt (.inl hb)).1; have := h.hi b (.inl hb); omega
  · have := (h.lt (.inr ⟨q, List.mem_of_getElem? h1, hb⟩)).1; have := h.hi b (.inr ⟨q, List.mem_of_getElem? h1, hb⟩); omega
theorem OwP.rd (h : OwP lo hi v ps w) : RdP v ps w := by
  obtain ⟨L, h⟩ := h.ex
  exact ⟨L, h.ln, Row.of_owns h.own, fun i q p h1 h2 => ⟨(h.kids i q p h1 h2).1, (h.kids i q p h1 h2).2.1, Row.of_owns (h.kids i q p h1 h2).2.2⟩⟩
theorem OwP.shape (h : OwP lo hi v ps w) : ∃ a c, v = .slice a ps.length c := by
  obtain ⟨L, h⟩ := h.ex
  exact owns_shape h.own
theorem RdP.outer (h : RdP v ps w) : ∃ a c, v = .slice a ps.length c ∧ True ∧ True ∧ True := by
  obtain ⟨L, h⟩ := h.ex
  obtain ⟨a, c, e, -⟩ := h.row
  exact ⟨a, c, e, trivial, trivial, trivial⟩
theorem RdP.len (h : RdP v ps w) : ps.length ≤ maxLen := by
  obtain ⟨L, h⟩ := h.ex
  exact h.row.len
theorem RdP.below {B : Nat} (h : RdP v ps w) (hb : Below B w w') (hB : w.heap.size = B) : RdP v ps w' := by
  subst hB
  obtain ⟨L, h⟩ := h.ex
  exact ⟨L, h.ln, Row.below h.row hb, fun i q p h1 h2 => ⟨(h.kids i q p h1 h2).1, (h.kids i q p h1 h2).2.1, Row.below (h.kids i q p h1 h2).2.2 hb⟩⟩
theorem RdP.at {a : Option Addr} {n c : Nat} (h : RdP (.slice a n c) ps w) {k : Nat} {p : PartD} (hp : ps[k]? = some p) :
    ∃ b o u, a = some ⟨b, o, none⟩ ∧ w.cell? ⟨b, o + k * 3, none⟩ = some (.int .i64 p.1) ∧ w.cell? ⟨b, o + k * 3 + 1, none⟩ = some (.int .i64 p.2.1) ∧ w.cell? ⟨b, o + k * 3 + 2, none⟩ = some u ∧ RdS u p.2.2 w := by
  obtain ⟨L, h⟩ := h.ex
  have hkl : k < L.length := by rw [h.ln]; exact (List.getElem?_eq_some_iff.1 hp).1
  obtain ⟨q, hq⟩ : ∃ q, L[k]? = some q := ⟨_, List.getElem?_eq_getElem hkl⟩
  obtain ⟨e1, e2, hr⟩ := h.kids k q p hq hp
  obtain ⟨a', cap', e, h1, h2, h3, h4, h5⟩ := h.row
  obtain ⟨rfl, -, -⟩ : a = a' ∧ n = _ ∧ c = cap' := by simpa using e
  obtain ⟨g0, g1, g2⟩ := cellsQ_at hq
  obtain ⟨b, o, rfl, hc0⟩ := h5 _ _ g0
  obtain ⟨b', o', e', hc1⟩ := h5 _ _ g1
  obtain ⟨rfl, rfl⟩ : b = b' ∧ o = o' := by simpa using e'
  obtain ⟨b', o', e', hc2⟩ := h5 _ _ g2
  obtain ⟨rfl, rfl⟩ : b = b' ∧ o = o' := by simpa using e'
  exact ⟨b, o, q.2.2, rfl, by rw [← e1]; exact hc0, by rw [← e2, Nat.add_assoc]; exact hc1, by rw [Nat.add_assoc]; exact hc2, hr⟩
end
theorem headP {w : World} {base size : Nat} {e : TypeId} {v : Value} {n : Nat} {cs : List Value} (h : w.ownsRow base e size v n cs) (hn : 0 < n) : ∃ g cap, v = .slice (some ⟨g, 0, none⟩) n cap := by
  obtain ⟨_, ⟨rfl, rfl⟩ | ⟨g, cap, cur, rfl, _⟩⟩ := h
  · omega
  · exact ⟨g, cap, rfl⟩
theorem infoEP : (Try.prog.info? 48).map (fun i => (i.zero, i.size, i.bytes)) = some (some (.agg #[.int .i64 0, .int .i64 0, .slice none 0 0]), 3, 40) := by kernel_rfl

theorem flatP (n : Nat) : ((List.replicate n ([.int .i64 0, .int .i64 0, .slice none 0 0] : List Value)).flatten).length = n * 3 := by
  induction n with
  | zero => rfl
  | succ n ih => rw [List.replicate_succ, List.flatten_cons, List.length_append, ih]; simp; omega
theorem fillP (L : List PartV) (n k : Nat) (hL : L.length = k) (hk : k < n) (x y : Int) (u : Value) :
    (((cellsQ L ++ (List.replicate (n - k) ([.int .i64 0, .int .i64 0, .slice none 0 0] : List Value)).flatten).set (k * 3) (.int .i64 x)).set (k * 3 + 1) (.int .i64 y)).set (k * 3 + 2) u = cellsQ (L ++ [(x, y, u)]) ++ (List.replicate (n - (k + 1)) ([.int .i64 0, .int .i64 0, .slice none 0 0] : List Value)).flatten := by
  have h1 : (cellsQ L).length = k * 3 := by rw [cellsQ_length, hL]
  rw [show n - k = (n - (k + 1)) + 1 by omega, List.replicate_succ, List.flatten_cons, cellsQ_snoc]
  generalize cellsQ L = A at *
  generalize (List.replicate (n - (k + 1)) ([.int .i64 0, .int .i64 0, .slice none 0 0] : List Value)).flatten = Z
  rw [← h1]
  simp

/-- The first k parts are laid. -/
structure LaidP (lo : Nat) (w : World) (ps : List PartD) (k : Nat) (L : List PartV) (wr : World) : Prop where
  ln : L.length = k
  own : wr.ownsRow lo 48 3 (.slice (some ⟨lo, 0, none⟩) ps.length ps.length) ps.length (cellsQ L ++ (List.replicate (ps.length - k) ([.int .i64 0, .int .i64 0, .slice none 0 0] : List Value)).flatten)
  kids : ∀ (i : Nat) q p, L[i]? = some q → ps[i]? = some p → q.1 = p.1 ∧ q.2.1 = p.2.1 ∧ wr.ownsRow (lo + 1) 2 1 q.2.2 p.2.2.length (ints p.2.2)
  apart : L.Pairwise fun a b => ∀ k, a.2.2.ownBlock = some k → b.2.2.ownBlock ≠ some k
  bel : Below lo w wr
theorem LaidP.kidLt {lo : Nat} {w : World} {ps : List PartD} {k : Nat} {L : List PartV} {wr : World} (h : LaidP lo w ps k L wr) (hk : k ≤ ps.length) {q : PartV} (hq : q ∈ L) {b : Nat} (hb : q.2.2.ownBlock = some b) : lo + 1 ≤ b ∧ b < wr.heap.size := by
  obtain ⟨i, hi⟩ := List.mem_iff_getElem?.1 hq
  have hi2 : i < L.length := (List.getElem?_eq_some_iff.1 hi).1
  exact owns_lt (h.kids i q (ps[i]'(by have := h.ln; omega)) hi (by simp)).2.2 hb
/-- One part more. -/
theorem LaidP.next {lo : Nat} {w : World} {ps : List PartD} {k : Nat} {L : List PartV} {wr w2 w5 : World} (h : LaidP lo w ps k L wr) {p : PartD} (hp : ps[k]? = some p) {u : Value} (hb : Below wr.heap.size wr w2) (hu : OwS wr.heap.size w2.heap.size u p.2.2 w2)
    (hs : lo + 1 ≤ wr.heap.size) (h5 : w5 = ((w2.setCell ⟨lo, k * 3, none⟩ (.int .i64 p.1)).setCell ⟨lo, k * 3 + 1, none⟩ (.int .i64 p.2.1)).setCell ⟨lo, k * 3 + 2, none⟩ u) : LaidP lo w ps (k + 1) (L ++ [(p.1, p.2.1, u)]) w5 := by
  have hk : k < ps.length := (List.getElem?_eq_some_iff.1 hp).1
  have ho2 := owns_below h.own hb
  have hst := ((ho2.stored (k * 3) (.int .i64 p.1)).1.stored (k * 3 + 1) (.int .i64 p.2.1)).1.stored (k * 3 + 2) u
  have uu : Upd lo (lo + 1) w2 w5 := by
    rw [h5]
    exact ⟨rfl, rfl, rfl, by simp [World.setCell], fun k _ hn => (Below.heap_setCell _ _ _ _ (fun e => hn (by simp at e; omega))).trans ((Below.heap_setCell _ _ _ _ (fun e => hn (by simp at e; omega))).trans (Below.heap_setCell _ _ _ _ (fun e => hn (by simp at e; omega))))⟩
  have hz := hb.size
  refine ⟨by simp [h.ln], ?_, fun i q' p' hq' hp' => ?_, pairwise_snoc h.apart fun y hy b hb1 hb2 => ?_, ?_⟩
  · have := hst.1
    rw [fillP L ps.length k h.ln hk, ← h5] at this
    exact this
  · by_cases hi : i < L.length
    · rw [List.getElem?_append_left hi] at hq'
      obtain ⟨e1, e2, ho⟩ := h.kids i q' p' hq' hp'
      refine ⟨e1, e2, owns_keep (owns_below ho hb) fun b hb' hlt => uu.block b hlt ?_⟩
      have := (owns_lt ho hb').1
      omega
    · have hi2 : i < (L ++ [(p.1, p.2.1, u)]).length := (List.getElem?_eq_some_iff.1 hq').1
      obtain rfl : i = k := by have := h.ln; simp at hi2; omega
      rw [List.getElem?_append_right (by omega), h.ln, Nat.sub_self] at hq'
      obtain rfl : (p.1, p.2.1, u) = q' := by simpa using hq'
      obtain rfl : p' = p := by rw [hp] at hp'; exact (Option.some.inj hp').symm
      refine ⟨rfl, rfl, owns_keep (owns_base hu.own hs) fun b hb' hlt => uu.block b hlt ?_⟩
      have := (owns_lt hu.own hb').1
      omega
  · have := (h.kidLt (by omega) hy hb1).2
    have := (owns_lt hu.own hb2).1
    omega
  · exact uu.below (h.bel.trans (hb.mono (by omega))) (by omega) (by omega)

/-! ### mark -/
/-- Parts as they lie, with whatever numbers. -/
structure MkP (lo hi : Nat) (v : Value) (n : Nat) (us : List Value) (ns : List Nat) (wr : World) : Prop where
  ln : us.length = n
  ln2 : ns.length = n
  own : ∃ L : List PartV, L.map (fun q => q.2.2) = us ∧ wr.ownsRow lo 48 3 v n (cellsQ L)
  kids : ∀ (i : Nat) u m, us[i]? = some u → ns[i]? = some m → ∃ cs, wr.ownsRow lo 2 1 u m cs
  apart : us.Pairwise fun a b => ∀ k, a.ownBlock = some k → b.ownBlock ≠ some k
  hi : ∀ k, (v.ownBlock = some k ∨ ∃ u ∈ us, u.ownBlock = some k) → k < hi
theorem cellsQ_set {L : List PartV} : ∀ {k : Nat} {q : PartV} (x y : Int), L[k]? = some q → ((cellsQ L).set (k * 3) (.int .i64 x)).set (k * 3 + 1) (.int .i64 y) = cellsQ (L.set k (x, y, q.2.2)) := by
  induction L with
  | nil => intro k q x y h; simp at h
  | cons p L ih =>
    intro k q x y h
    cases k with
    | zero => simp at h; subst h; simp [cellsQ_cons]
    | succ k =>
      have := ih (k := k) (q := q) x y (by simpa using h)
      rw [show (k + 1) * 3 = k * 3 + 3 by omega, List.set_cons_succ, cellsQ_cons, cellsQ_cons, ← this]
      rfl

section
variable {lo hi : Nat} {n : Nat} {us : List Value} {ns : List Nat} {w w' : World}
theorem MkP.of {v : Value} {ps : List PartD} (h : OwP lo hi v ps w) : ∃ us, MkP lo hi v ps.length us (ps.map fun p => p.2.2.length) w := by
  obtain ⟨L, h⟩ := h.ex
  refine ⟨L.map fun q => q.2.2, by simp [h.ln], by simp, ⟨L, rfl, h.own⟩, fun i u m hu hm => ?_, ?_, fun k hk => ?_⟩
  · rw [List.getElem?_map, Option.map_eq_some_iff] at hu hm
    obtain ⟨q, hq, rfl⟩ := hu
    obtain ⟨p, hp, rfl⟩ := hm
    exact ⟨_, (h.kids i q p hq hp).2.2⟩
  · rw [List.pairwise_map]
    exact h.apart
  · rcases hk with hk | ⟨u, hu, hk⟩
    · exact h.hi k (.inl hk)
    · obtain ⟨q, hq, rfl⟩ := List.mem_map.1 hu
      exact h.hi k (.inr ⟨q, hq, hk⟩)
theorem MkP.lo' {v : Value} (h : MkP lo hi v n us ns w) {k : Nat} (hk : v.ownBlock = some k ∨ ∃ u ∈ us, u.ownBlock = some k) : lo ≤ k ∧ k < hi := by
  refine ⟨?_, h.hi k hk⟩
  obtain ⟨L, -, ho⟩ := h.own
  rcases hk with hk | ⟨u, hu, hk⟩
  · exact (owns_lt ho hk).1
  · obtain ⟨i, hi⟩ := List.mem_iff_getElem?.1 hu
    have hi2 : i < us.length := (List.getElem?_eq_some_iff.1 hi).1
    obtain ⟨cs, hc⟩ := h.kids i u (ns[i]'(by rw [h.ln2, ← h.ln]; exact hi2)) hi (by simp)
    exact (owns_lt hc hk).1
theorem MkP.at {v : Value} (h : MkP lo hi v n us ns w) {k : Nat} (hk : k < n) : ∃ g c u m, v = .slice (some ⟨g, 0, none⟩) n c ∧ us[k]? = some u ∧ ns[k]? = some m ∧ w.cell? ⟨g, k * 3 + 2, none⟩ = some u ∧ (∃ z, w.cell? ⟨g, k * 3, none⟩ = some z) ∧ (∃ z, w.cell? ⟨g, k * 3 + 1, none⟩ = some z) ∧ w.frozen? ⟨g, k * 3, none⟩ = false ∧ w.frozen? ⟨g, k * 3 + 1, none⟩ = false := by
  obtain ⟨L, hL, ho⟩ := h.own
  obtain ⟨g, c, rfl⟩ := headP ho (by omega)
  have hLl : L.length = n := by rw [← h.ln, ← hL, List.length_map]
  obtain ⟨q, hq⟩ : ∃ q, L[k]? = some q := ⟨_, List.getElem?_eq_getElem (by omega)⟩
  obtain ⟨m, hm⟩ : ∃ m, ns[k]? = some m := ⟨_, List.getElem?_eq_getElem (by rw [h.ln2]; exact hk)⟩
  obtain ⟨g0, g1, g2⟩ := cellsQ_at hq
  exact ⟨g, c, q.2.2, m, rfl, by rw [← hL, List.getElem?_map, hq]; rfl, hm, (ho.cellAt (k * 3 + 2) (by omega)).trans g2, ⟨_, (ho.cellAt (k * 3) (by omega)).trans g0⟩, ⟨_, (ho.cellAt (k * 3 + 1) (by omega)).trans g1⟩, ho.frozenAt _, ho.frozenAt _⟩
theorem MkP.put {g c : Nat} (h : MkP lo hi (.slice (some ⟨g, 0, none⟩) n c) n us ns w) {k : Nat} (hk : k < n) (x y : Int) :
    MkP lo hi (.slice (some ⟨g, 0, none⟩) n c) n us ns ((w.setCell ⟨g, k * 3, none⟩ (.int .i64 x)).setCell ⟨g, k * 3 + 1, none⟩ (.int .i64 y)) ∧ Upd lo hi w ((w.setCell ⟨g, k * 3, none⟩ (.int .i64 x)).setCell ⟨g, k * 3 + 1, none⟩ (.int .i64 y)) := by
  obtain ⟨L, hL, ho⟩ := h.own
  have hLl : L.length = n := by rw [← h.ln, ← hL, List.length_map]
  obtain ⟨q, hq⟩ : ∃ q, L[k]? = some q := ⟨_, List.getElem?_eq_getElem (by omega)⟩
  have h1 := ho.stored (k * 3) (.int .i64 x)
  have h2 := h1.1.stored (k * 3 + 1) (.int .i64 y)
  rw [cellsQ_set x y hq] at h2
  have hg := grown_trans (grown_trans (w := w) ⟨rfl, rfl, rfl, Nat.le_refl _, fun _ _ _ => rfl⟩ h1.2) h2.2
  have hgl := h.lo' (k := g) (.inl rfl)
  refine ⟨⟨h.ln, h.ln2, ⟨_, ?_, h2.1⟩, fun i u m hu hm => ?_, h.apart, h.hi⟩, Upd.of_wrote (Wrote.of_grown hg) fun b hb => ?_⟩
  · rw [List.map_set, hL]
    apply List.ext_getElem?
    intro j
    by_cases hj : k = j
    · subst hj
      rw [List.getElem?_set_self (by rw [h.ln]; exact hk), ← hL, List.getElem?_map, hq]
      rfl
    · rw [List.getElem?_set_ne hj]
  · obtain ⟨cs, hc⟩ := h.kids i u m hu hm
    exact ⟨cs, owns_keep hc fun b hb hlt => hg.block b hlt fun e => owns_unlike hc ho (by decide) hb e.symm⟩
  · obtain rfl : g = b := by simpa using hb
    exact hgl
theorem MkP.kid {v : Value} (h : MkP lo hi v n us ns w) {k m : Nat} {u : Value} {cs : List Value} (hu : us[k]? = some u) (hm : ns[k]? = some m) (hc : w'.ownsRow lo 2 1 u m cs) (hg : w.grownBy w' u.ownBlock) :
    MkP lo hi v n us ns w' ∧ Upd lo hi w w' := by
  obtain ⟨L, hL, ho⟩ := h.own
  obtain ⟨cs0, hc0⟩ := h.kids k u m hu hm
  refine ⟨⟨h.ln, h.ln2, ⟨L, hL, owns_keep ho fun b hb hlt => hg.block b hlt fun e => owns_unlike ho hc0 (by decide) hb e.symm⟩, fun i u' m' hu' hm' => ?_, h.apart, h.hi⟩, Upd.of_wrote (Wrote.of_grown hg) fun b hb => h.lo' (.inr ⟨u, List.mem_of_getElem? hu, hb⟩)⟩
  by_cases hik : i = k
  · subst hik
    obtain rfl : u = u' := by rw [hu] at hu'; exact Option.some.inj hu'
    obtain rfl : m = m' := by rw [hm] at hm'; exact Option.some.inj hm'
    exact ⟨cs, hc⟩
  · obtain ⟨cs', hc'⟩ := h.kids i u' m' hu' hm'
    refine ⟨cs', owns_keep hc' fun b hb hlt => hg.block b hlt fun e => ?_⟩
    have hp := List.pairwise_iff_getElem.1 h.apart
    obtain ⟨hil, rfl⟩ := List.getElem?_eq_some_iff.1 hu'
    obtain ⟨hkl, rfl⟩ := List.getElem?_eq_some_iff.1 hu
    rcases Nat.lt_or_gt_of_ne hik with hlt' | hlt'
    · exact hp i k hil hkl hlt' b hb e.symm
    · exact hp k i hkl hil hlt' b e.symm hb
end

end Go.Proofs.Ytpfhflkpnjkgkaa
