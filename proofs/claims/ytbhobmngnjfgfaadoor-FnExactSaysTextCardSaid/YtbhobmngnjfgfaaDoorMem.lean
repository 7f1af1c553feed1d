/-
  Plain facts about memory: slices that are read, rows that a call owns, what stays when other memory is written. No program in sight.
-/
import Derived.WalkKit
import Derived.WalkSpells
import Derived.Lib.Hide
import Derived.Laws.AppendOwnNone
namespace Go.Proofs.YtbhobmngnjfgfaaDoor
open Go.RowKit

/-- v is a slice of n elements of 'size' cells each, which read cs. -/
def Row (w : World) (size : Nat) (v : Value) (n : Nat) (cs : List Value) : Prop :=
  ∃ a cap, v = .slice a n cap ∧ n ≤ cap ∧ cap ≤ maxLen ∧ cs.length = n * size ∧ (a = none → cap = 0) ∧
    ∀ j u, cs[j]? = some u → ∃ b o, a = some ⟨b, o, none⟩ ∧ w.cell? ⟨b, o + j, none⟩ = some u

theorem block_lt {w : World} {a : Addr} {u : Value} (h : w.cell? a = some u) : a.block < w.heap.size := World.block_lt_of_cell? w a h

/-- What is read stays where the block stays. -/
theorem Row.keep {w w' : World} {size : Nat} {v : Value} {n : Nat} {cs : List Value} (h : Row w size v n cs)
    (hk : ∀ b, v.ownBlock = some b → b < w.heap.size → w'.heap[b]? = w.heap[b]?) : Row w' size v n cs := by
  obtain ⟨a, cap, rfl, h1, h2, h3, h4, h5⟩ := h
  refine ⟨a, cap, rfl, h1, h2, h3, h4, fun j u hj => ?_⟩
  obtain ⟨b, o, rfl, hc⟩ := h5 j u hj
  exact ⟨b, o, rfl, (World.cell?_of_block (hk b rfl (block_lt hc))).trans hc⟩

theorem Row.below {w w' : World} {size : Nat} {v : Value} {n : Nat} {cs : List Value} (h : Row w size v n cs) (hb : Below w.heap.size w w') : Row w' size v n cs :=
  h.keep fun b _ hlt => hb.block b hlt

theorem Row.alloc {w : World} {size : Nat} {v : Value} {n : Nat} {cs : List Value} (h : Row w size v n cs) (o : Obj) : Row (w.alloc o) size v n cs :=
  h.keep fun _ _ hlt => Below.heap_alloc _ _ _ hlt

theorem Row.len {w : World} {size : Nat} {v : Value} {n : Nat} {cs : List Value} (h : Row w size v n cs) : n ≤ maxLen := by
  obtain ⟨a, cap, rfl, h1, h2, _⟩ := h; omega

/-- A row that is owned can be read. -/
theorem Row.of_owns {w : World} {base : Nat} {e : TypeId} {size : Nat} {v : Value} {n : Nat} {cs : List Value} (h : w.ownsRow base e size v n cs) : Row w size v n cs := by
  obtain ⟨hl, ⟨rfl, rfl⟩ | ⟨g, cap, cur, rfl, hb, hg, hn, hm, hs, ht⟩⟩ := h
  · refine ⟨none, 0, rfl, Nat.le_refl _, by simp [maxLen], hl, fun _ => rfl, fun j u hj => ?_⟩
    simp at hl
    subst hl
    simp at hj
  · refine ⟨some ⟨g, 0, none⟩, cap, rfl, hn, hm, hl, (by simp), fun j u hj => ⟨g, 0, rfl, ?_⟩⟩
    rw [Nat.zero_add, cell_of_row w g j cur e (0, 0) hg]
    rw [← ht, List.getElem?_take] at hj
    split at hj
    · simpa using hj
    · simp at hj

/-- The first cells of what is read: of a slice cut at its end. -/
theorem Row.cellAt {w : World} {v : Value} {n : Nat} {cs : List Value} (h : Row w 1 v n cs) {a : Option Addr} {len cap : Nat} (hv : v = .slice a len cap) {j : Nat} (hj : j < n) :
    ∃ b o, a = some ⟨b, o, none⟩ ∧ w.cell? ⟨b, o + j, none⟩ = some (cs.getD j undef) := by
  obtain ⟨a', cap', rfl, h1, h2, h3, h4, h5⟩ := h
  obtain ⟨rfl, rfl, rfl⟩ : a' = a ∧ n = len ∧ cap' = cap := by simpa using hv
  have hlt : j < cs.length := by omega
  obtain ⟨b, o, rfl, hc⟩ := h5 j cs[j] (by simp [hlt])
  exact ⟨b, o, rfl, by simpa [List.getD, hlt] using hc⟩

theorem owns_keep {w w' : World} {base : Nat} {e : TypeId} {size : Nat} {v : Value} {n : Nat} {cs : List Value} (h : w.ownsRow base e size v n cs)
    (hk : ∀ b, v.ownBlock = some b → b < w.heap.size → w'.heap[b]? = w.heap[b]?) : w'.ownsRow base e size v n cs := by
  obtain ⟨hl, hn | ⟨g, cap, cur, rfl, hb, hg, r⟩⟩ := h
  · exact ⟨hl, .inl hn⟩
  · exact ⟨hl, .inr ⟨g, cap, cur, rfl, hb, (hk g rfl (Array.getElem?_eq_some_iff.1 hg).1).trans hg, r⟩⟩

theorem owns_below {w w' : World} {base : Nat} {e : TypeId} {size : Nat} {v : Value} {n : Nat} {cs : List Value} (h : w.ownsRow base e size v n cs) (hb : Below w.heap.size w w') : w'.ownsRow base e size v n cs :=
  owns_keep h fun b _ hlt => hb.block b hlt

theorem owns_base {w : World} {base base' : Nat} {e : TypeId} {size : Nat} {v : Value} {n : Nat} {cs : List Value} (h : w.ownsRow base e size v n cs) (hb : base' ≤ base) : w.ownsRow base' e size v n cs := by
  obtain ⟨hl, hn | ⟨g, cap, cur, rfl, hb', r⟩⟩ := h
  · exact ⟨hl, .inl hn⟩
  · exact ⟨hl, .inr ⟨g, cap, cur, rfl, by omega, r⟩⟩

/-- The bounds of what is owned. -/
theorem owns_lt {w : World} {base : Nat} {e : TypeId} {size : Nat} {v : Value} {n : Nat} {cs : List Value} (h : w.ownsRow base e size v n cs) {b : Nat} (hb : v.ownBlock = some b) : base ≤ b ∧ b < w.heap.size :=
  h.lt b hb

/-- 'grownBy' of a row from B on is 'Below B'. -/
theorem below_of_grown {B : Nat} {w w' : World} {row : Option Nat} (hg : w.grownBy w' row) (hB : B ≤ w.heap.size) (hr : ∀ k, row = some k → B ≤ k) : Below B w w' :=
  (Below.refl B w).grown hg hB hr

theorem below_drew {w w' : World} (h : Below w.drew.heap.size w.drew w') : Below w.heap.size w w' := ⟨h.os, h.tape, h.output, h.size, h.block⟩

theorem owns_shape {w : World} {base : Nat} {e : TypeId} {size : Nat} {v : Value} {n : Nat} {cs : List Value} (h : w.ownsRow base e size v n cs) : ∃ a cap, v = .slice a n cap := by
  obtain ⟨_, ⟨rfl, rfl⟩ | ⟨g, cap, cur, rfl, _⟩⟩ := h
  · exact ⟨none, 0, rfl⟩
  · exact ⟨_, cap, rfl⟩
theorem owns_len {w : World} {base : Nat} {e : TypeId} {v : Value} {n : Nat} {cs : List Value} (h : w.ownsRow base e 1 v n cs) : cs.length = n := by
  have := h.1; omega

/-- An owned row with an element has a block. -/
theorem owns_head {w : World} {base : Nat} {e : TypeId} {v : Value} {n : Nat} {cs : List Value} (h : w.ownsRow base e 1 v n cs) (hn : 0 < n) : ∃ g cap, v = .slice (some ⟨g, 0, none⟩) n cap := by
  obtain ⟨_, ⟨rfl, rfl⟩ | ⟨g, cap, cur, rfl, _⟩⟩ := h
  · omega
  · exact ⟨g, cap, rfl⟩

/-- One more element behind the owned row 'v': what 'append(s, y)' does, in one step; the world is the one in which the builder of the one-element slice has laid y. -/
theorem wpList_push {P : Program} (wr : World) {ops : Array Oper} {rest : List Oper} {o : Oper} {a : Act} {Q : Exit → Act → World → Prop} (hgd : o.guard = none) (s x : Operand) (t : TypeId)
    (ho : o.op = .call { callee := .builtin .append, args := #[s, x], argTypes := #[t, t] })
    (base : Nat) (e e2 : TypeId) (z : Value) (bytes : Nat) (ht : P.underlying t = some (.slice e)) (hinfo : (P.info? e).map (fun i => (i.zero, i.size, i.bytes)) = some (some z, 1, bytes)) (hzs : z.cells.size = 1)
    (v : Value) (n : Nat) (xs : List Value) (hs : a.eval s = v) (hown : wr.ownsRow base e 1 v n xs)
    (y : Value) (hx : a.eval x = .slice (some ⟨wr.heap.size, 0, none⟩) 1 1) (hy : y.oneCell' = true)
    (h63 : n + 1 ≤ maxLen) (hbytes : (n + 1) * bytes ≤ 140737488355328) (hbase : base ≤ wr.heap.size)
    (h : ∀ g' c' w', w'.ownsRow base e 1 (.slice (some ⟨g', 0, none⟩) (n + 1) c') (n + 1) (xs ++ [y]) → wr.grownBy w' v.ownBlock → wpList P ops Q rest (a.put o.dst (.slice (some ⟨g', 0, none⟩) (n + 1) c')) w') :
    wpList P ops Q (o :: rest) a (wr.alloc (.cells #[y] e2)) := by
  obtain ⟨i, hi, hz, hsize, hby⟩ := info_parts hinfo
  refine wpList_append_own _ hgd s x t ho base e i z 1 bytes ht hi hz hsize hby hzs (by decide) v n xs hs (hown.alloc _) ⟨wr.heap.size, 0, none⟩ 1 1 [y] hx rfl ?_ ?_ h63 hbytes (by simp; omega) ?_
  · intro j u hj
    match j, hj with
    | 0, hj => simp at hj; subst hj; simp [Addr.add]
  · intro u hu; simp at hu; subst hu; exact hy
  · intro v' w' h1 h2 _
    obtain ⟨g', c', rfl⟩ := owns_head h1 (by omega)
    refine h g' c' w' h1 ⟨h2.os, h2.tape, h2.output, ?_, fun k hk hne => ?_⟩
    · have := h2.size; simp at this; omega
    · exact (h2.block k (by simp; omega) hne).trans (Below.heap_alloc _ _ _ hk)

/-- A slice of one element, built. -/
theorem run_buildOne {P : Program} (w : World) (t e : TypeId) (z x : Value) (bytes : Nat) (ht : P.underlying t = some (.slice e)) (hinfo : (P.info? e).map (fun i => (i.zero, i.size, i.bytes)) = some (some z, 1, bytes))
    (hz : z.cells.size = 1) (hx : x.cells = #[x]) : (Instr.buildSlice t 1 #[(0, x)]).run P w = .ok (.slice (some ⟨w.heap.size, 0, none⟩) 1 1) (w.alloc (.cells #[x] e)) := by
  obtain ⟨i, hi, hz0, hz1, hz2⟩ := info_parts hinfo
  obtain ⟨l, hl⟩ : ∃ l, z.cells = #[l] := by
    obtain ⟨y, hy⟩ := List.length_eq_one_iff.1 (show z.cells.toList.length = 1 by simpa using hz)
    exact ⟨y, by rw [← Array.toList_inj]; simpa using hy⟩
  have e2 : ((Array.range 1).map (fun x => [l][x % 1]?.getD default)).setIfInBounds 0 x = #[x] := by
    rw [show Array.range 1 = #[0] from rfl]; simp
  simp [Instr.buildSlice, run_underlying ht, sizeOf, typeInfo, hi, hz1, zeroValue, hz0, hl, Instr.fill, hx, newRow, e2]

/-- 'append(s, x...)' onto an owned row, from whatever slice can be read. -/
theorem wpList_extend {P : Program} (w : World) {ops : Array Oper} {rest : List Oper} {o : Oper} {a : Act} {Q : Exit → Act → World → Prop} (hgd : o.guard = none) (s x : Operand) (t : TypeId)
    (ho : o.op = .call { callee := .builtin .append, args := #[s, x], argTypes := #[t, t] })
    (base : Nat) (e : TypeId) (z : Value) (bytes : Nat) (ht : P.underlying t = some (.slice e)) (hinfo : (P.info? e).map (fun i => (i.zero, i.size, i.bytes)) = some (some z, 1, bytes)) (hzs : z.cells.size = 1)
    (v : Value) (n : Nat) (xs : List Value) (hs : a.eval s = v) (hown : w.ownsRow base e 1 v n xs)
    (v2 : Value) (m : Nat) (news : List Value) (hx : a.eval x = v2) (hr : Row w 1 v2 m news) (h1 : ∀ u ∈ news, u.oneCell' = true)
    (h63 : n + m ≤ maxLen) (hbytes : (n + m) * bytes ≤ 140737488355328) (hbase : base ≤ w.heap.size)
    (h : ∀ a' c' w', w'.ownsRow base e 1 (.slice a' (n + m) c') (n + m) (xs ++ news) → w.grownBy w' v.ownBlock → wpList P ops Q rest (a.put o.dst (.slice a' (n + m) c')) w') :
    wpList P ops Q (o :: rest) a w := by
  obtain ⟨i, hi, hz, hsize, hby⟩ := info_parts hinfo
  obtain ⟨ao, cap, rfl, hle, hm, hlen, hnone, hcell⟩ := hr
  cases ao with
  | none =>
    have hc := hnone rfl
    subst hc
    obtain rfl : m = 0 := by omega
    have hn : news = [] := List.eq_nil_of_length_eq_zero (by simpa using hlen)
    subst hn
    obtain ⟨a', c', rfl⟩ := owns_shape hown
    refine wpList_append_own_none hgd s x t ho base e i 1 ht hi _ n xs hs hown hx ?_
    exact h a' c' w (by simpa using hown) ⟨rfl, rfl, rfl, Nat.le_refl _, fun _ _ _ => rfl⟩
  | some ad =>
    refine wpList_append_own _ hgd s x t ho base e i z 1 bytes ht hi hz hsize hby hzs (by decide) v n xs hs hown ad m cap news hx (by omega) ?_ h1 h63 hbytes hbase ?_
    · intro j u hj
      obtain ⟨b, o', e, hc⟩ := hcell j u hj
      obtain rfl := Option.some.inj e
      rw [Addr.add_lit]
      exact hc
    · intro v' w' h3 h4 _
      obtain ⟨a', c', rfl⟩ := owns_shape h3
      exact h a' c' w' h3 h4

/-- The same, the address of the built slice spelled otherwise. -/
theorem wpList_push_at {P : Program} (wr : World) {ops : Array Oper} {rest : List Oper} {o : Oper} {a : Act} {Q : Exit → Act → World → Prop} (hgd : o.guard = none) (s x : Operand) (t : TypeId)
    (ho : o.op = .call { callee := .builtin .append, args := #[s, x], argTypes := #[t, t] })
    (base : Nat) (e e2 : TypeId) (z : Value) (bytes : Nat) (ht : P.underlying t = some (.slice e)) (hinfo : (P.info? e).map (fun i => (i.zero, i.size, i.bytes)) = some (some z, 1, bytes)) (hzs : z.cells.size = 1)
    (v : Value) (n : Nat) (xs : List Value) (hs : a.eval s = v) (hown : wr.ownsRow base e 1 v n xs)
    (g0 : Nat) (hg0 : g0 = wr.heap.size) (y : Value) (hx : a.eval x = .slice (some ⟨g0, 0, none⟩) 1 1) (hy : y.oneCell' = true)
    (h63 : n + 1 ≤ maxLen) (hbytes : (n + 1) * bytes ≤ 140737488355328) (hbase : base ≤ wr.heap.size)
    (h : ∀ g' c' w', w'.ownsRow base e 1 (.slice (some ⟨g', 0, none⟩) (n + 1) c') (n + 1) (xs ++ [y]) → wr.grownBy w' v.ownBlock → wpList P ops Q rest (a.put o.dst (.slice (some ⟨g', 0, none⟩) (n + 1) c')) w') :
    wpList P ops Q (o :: rest) a (wr.alloc (.cells #[y] e2)) := by
  subst hg0
  exact wpList_push wr hgd s x t ho base e e2 z bytes ht hinfo hzs v n xs hs hown y hx hy h63 hbytes hbase h

/-- 'make([]T, n)': n zeros are owned. -/
theorem wpList_make {P : Program} (w : World) {ops : Array Oper} {rest : List Oper} {o : Oper} {a : Act} {Q : Exit → Act → World → Prop}
    (hg : o.guard = none) (l c : Operand) (t : TypeId) (hop : o.op = Op.makeSlice t l c)
    (base : Nat) (e : TypeId) (z : Value) (bytes : Nat) (h1 : P.underlying t = some (.slice e)) (hinfo : (P.info? e).map (fun i => (i.zero, i.size, i.bytes)) = some (some z, 1, bytes)) (hzs : z.cells = #[z])
    (kl kc : IntKind) (L C : Int) (n : Nat) (hl : a.eval l = .int kl L) (hc : a.eval c = .int kc C) (hL : L = (n : Int)) (hC : C = (n : Int)) (b2 : bytes * n ≤ 281474976710656) (b3 : n ≤ maxLen) (b4 : base ≤ w.heap.size)
    (hK : ∀ w', w'.ownsRow base e 1 (.slice (some ⟨w.heap.size, 0, none⟩) n n) n (List.replicate n z) → Below w.heap.size w w' → wpList P ops Q rest (a.put o.dst (.slice (some ⟨w.heap.size, 0, none⟩) n n)) w') :
    wpList P ops Q (o :: rest) a w := by
  obtain ⟨i, hi, hz, hsize, hby⟩ := info_parts hinfo
  refine wpList_make_full w hg l c t hop base e i z 1 h1 hi hz hsize kl kc L C n hl hc hL hC (by rw [hby]; exact b2) b3 b4 fun w' h2 h3 => ?_
  refine hK w' ?_ (below_of_grown h3 (Nat.le_refl _) (by simp))
  rw [hzs, Nat.mul_one, toList_madeCells_one] at h2
  exact h2

/-- Only blocks of S have been written, of those that stood. -/
structure Wrote (w w' : World) (S : Nat → Prop) : Prop where
  os : w'.os = w.os
  tape : w'.tape = w.tape
  output : w'.output = w.output
  size : w.heap.size ≤ w'.heap.size
  block : ∀ k, k < w.heap.size → ¬ S k → w'.heap[k]? = w.heap[k]?

theorem Wrote.refl (w : World) (S : Nat → Prop) : Wrote w w S := ⟨rfl, rfl, rfl, Nat.le_refl _, fun _ _ _ => rfl⟩
theorem Wrote.trans {w w1 w2 : World} {S S' : Nat → Prop} (h : Wrote w w1 S) (h' : Wrote w1 w2 S') (hS : ∀ k, k < w.heap.size → S' k → S k) : Wrote w w2 S :=
  ⟨h'.os.trans h.os, h'.tape.trans h.tape, h'.output.trans h.output, Nat.le_trans h.size h'.size, fun k hk hn => (h'.block k (Nat.lt_of_lt_of_le hk h.size) (fun e => hn (hS k hk e))).trans (h.block k hk hn)⟩
theorem Wrote.of_grown {w w' : World} {r : Option Nat} (h : w.grownBy w' r) : Wrote w w' (fun k => r = some k) :=
  ⟨h.os, h.tape, h.output, h.size, fun k hk hn => h.block k hk fun e => hn e.symm⟩
theorem Wrote.of_below {w w' : World} {B : Nat} (h : Below B w w') : Wrote w w' (fun k => B ≤ k) :=
  ⟨h.os, h.tape, h.output, h.size, fun k _ hn => h.block k (by omega)⟩
theorem Wrote.mono {w w' : World} {S S' : Nat → Prop} (h : Wrote w w' S) (hS : ∀ k, k < w.heap.size → S k → S' k) : Wrote w w' S' :=
  ⟨h.os, h.tape, h.output, h.size, fun k hk hn => h.block k hk fun e => hn (hS k hk e)⟩
theorem Wrote.below {w w' : World} {S : Nat → Prop} (h : Wrote w w' S) {B : Nat} (hB : B ≤ w.heap.size) (hS : ∀ k, S k → B ≤ k) : Below B w w' :=
  ⟨h.os, h.tape, h.output, h.size, fun k hk => h.block k (by omega) fun e => by have := hS k e; omega⟩
theorem Wrote.drew {w w' : World} {S : Nat → Prop} (h : Wrote w w' S) : Wrote w w'.drew S := ⟨h.os, h.tape, h.output, h.size, h.block⟩
theorem Row.wrote {w w' : World} {S : Nat → Prop} {size : Nat} {v : Value} {n : Nat} {cs : List Value} (h : Row w size v n cs) (hw : Wrote w w' S) (hS : ∀ k, v.ownBlock = some k → ¬ S k) : Row w' size v n cs :=
  h.keep fun b hb hlt => hw.block b hlt (hS b hb)
theorem owns_wrote {w w' : World} {S : Nat → Prop} {base : Nat} {e : TypeId} {size : Nat} {v : Value} {n : Nat} {cs : List Value} (h : w.ownsRow base e size v n cs) (hw : Wrote w w' S) (hS : ∀ k, v.ownBlock = some k → ¬ S k) : w'.ownsRow base e size v n cs :=
  owns_keep h fun b hb hlt => hw.block b hlt (hS b hb)

theorem Row.take {w : World} {a : Option Addr} {n cap : Nat} {cs : List Value} (h : Row w 1 (.slice a n cap) n cs) {k : Nat} (hk : k ≤ n) : Row w 1 (.slice a k cap) k (cs.take k) := by
  obtain ⟨a', cap', e, h1, h2, h3, h4, h5⟩ := h
  obtain ⟨rfl, rfl⟩ : a' = a ∧ cap' = cap := by simpa [eq_comm] using e
  refine ⟨a', cap', rfl, by omega, h2, by simp; omega, h4, fun j u hj => h5 j u ?_⟩
  rw [List.getElem?_take] at hj
  split at hj
  · exact hj
  · cases hj
theorem Row.drop_all {w : World} {a : Option Addr} {n cap : Nat} {cs : List Value} (h : Row w 1 (.slice a n cap) n cs) {k : Nat} (hk : k ≤ n) (hc : cap = k) : Row w 1 (.slice a (n - k) 0) (n - k) (cs.drop k) := by
  obtain ⟨a', cap', e, h1, h2, h3, h4, h5⟩ := h
  obtain ⟨rfl, rfl⟩ : a' = a ∧ cap' = cap := by simpa [eq_comm] using e
  refine ⟨a', 0, rfl, by omega, by simp [maxLen], by simp; omega, fun _ => rfl, fun j u hj => ?_⟩
  rw [List.drop_of_length_le (by omega)] at hj
  simp at hj
theorem Row.drop {w : World} {a : Option Addr} {n cap : Nat} {cs : List Value} (h : Row w 1 (.slice a n cap) n cs) {k : Nat} (hk : k ≤ n) (hc : ¬ cap = k) : Row w 1 (.slice (Option.map (fun x => x.add k) a) (n - k) (cap - k)) (n - k) (cs.drop k) := by
  obtain ⟨a', cap', e, h1, h2, h3, h4, h5⟩ := h
  obtain ⟨rfl, rfl⟩ : a' = a ∧ cap' = cap := by simpa [eq_comm] using e
  refine ⟨_, _, rfl, by omega, by omega, by simp; omega, fun hn => ?_, fun j u hj => ?_⟩
  · have := h4 (by simpa using hn); omega
  · rw [List.getElem?_drop] at hj
    obtain ⟨b, o, rfl, hc⟩ := h5 (k + j) u hj
    refine ⟨b, o + k, by simp [Addr.add_lit], by rw [Nat.add_assoc]; exact hc⟩

end Go.Proofs.YtbhobmngnjfgfaaDoor
