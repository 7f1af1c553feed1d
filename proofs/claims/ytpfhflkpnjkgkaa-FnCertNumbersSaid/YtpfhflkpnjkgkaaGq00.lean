import Derived.WalkKit
import Derived.WalkSpells
import Derived.Lib.Hide
import Derived.Laws.AppendOwnNone
import Derived.Laws.BitsAllLaws
import Derived.Laws.BitsLemmas
import Derived.Test.YtpfhflkpnjkgkaaProg
import Derived.WalkLawsBesides
/-
  Plain facts about memory: slices that are read, rows that a call owns, what stays when other memory is written. No program in sight.
-/




namespace Go.Proofs.Ytpfhflkpnjkgkaa
open Go.RowKit

/-- v is a slice of n elements of 'size' cells each, which read cs. -/
def Row (w : World) (size : Nat) (v : Value) (n : Nat) (cs : List Value) : Prop :=
  ∃ a cap, v = .slice a n cap ∧ n ≤ cap ∧ cap ≤ maxLen ∧ cs.length = n * size ∧ (a = none → cap = 0) ∧
    ∀ j u, cs[j]? = some u → ∃ b o, a = some ⟨b, o, none⟩ ∧ w.cell? ⟨b, o + j, none⟩ = some u

theorem block_lt {w : World} {a : Addr} {u : Value} (h : w.cell? a = some u) : a.block < w.heap.size := World.block_lt_of_cell? w a h

/-- What is read stays where the block stays. -/
theorem Row.keep {w w' : World} {size : Nat} {v : Value} {n : Nat} {cs : List Value} (h : Row w size v n cs)
    (hk : ∀ b, v.ownBlock = some b → b < w.heap.size → w'.heap[b]? = w.heap[b]?) : Row w' size v n cs := by
  obtain ⟨a, cap, rfl, h1, h2, h3, h4, h5⟩ := h
  refine ⟨a, cap, rfl, h1, h2, h3, h4, fun j u hj => ?_⟩
  obtain ⟨b, o, rfl, hc⟩ := h5 j u hj
  exact ⟨b, o, rfl, (World.cell?_of_block (hk b rfl (block_lt hc))).trans hc⟩

theorem Row.below {w w' : World} {size : Nat} {v : Value} {n : Nat} {cs : List Value} (h : Row w size v n cs) (hb : Below w.heap.size w w') : Row w' size v n cs :=
  h.keep fun b _ hlt => hb.block b hlt

theorem Row.alloc {w : World} {size : Nat} {v : Value} {n : Nat} {cs : List Value} (h : Row w size v n cs) (o : Obj) : Row (w.alloc o) size v n cs :=
  h.keep fun _ _ hlt => Below.heap_alloc _ _ _ hlt

theorem Row.len {w : World} {size : Nat} {v : Value} {n : Nat} {cs : List Value} (h : Row w size v n cs) : n ≤ maxLen := by
  obtain ⟨a, cap, rfl, h1, h2, _⟩ := h; omega

/-- A row that is owned can be read. -/
theorem Row.of_owns {w : World} {base : Nat} {e : TypeId} {size : Nat} {v : Value} {n : Nat} {cs : List Value} (h : w.ownsRow base e size v n cs) : Row w size v n cs := by
  obtain ⟨hl, ⟨rfl, rfl⟩ | ⟨g, cap, cur, rfl, hb, hg, hn, hm, hs, ht⟩⟩ := h
  · refine ⟨none, 0, rfl, Nat.le_refl _, by simp [maxLen], hl, fun _ => rfl, fun j u hj => ?_⟩
    simp at hl
    subst hl
    simp at hj
  · refine ⟨some ⟨g, 0, none⟩, cap, rfl, hn, hm, hl, (by simp), fun j u hj => ⟨g, 0, rfl, ?_⟩⟩
    rw [Nat.zero_add, cell_of_row w g j cur e (0, 0) hg]
    rw [← ht, List.getElem?_take] at hj
    split at hj
    · simpa using hj
    · simp at hj

/-- The first cells of what is read: of a slice cut at its end. -/
theorem Row.cellAt {w : World} {v : Value} {n : Nat} {cs : List Value} (h : Row w 1 v n cs) {a : Option Addr} {len cap : Nat} (hv : v = .slice a len cap) {j : Nat} (hj : j < n) :
    ∃ b o, a = some ⟨b, o, none⟩ ∧ w.cell? ⟨b, o + j, none⟩ = some (cs.getD j undef) := by
  obtain ⟨a', cap', rfl, h1, h2, h3, h4, h5⟩ := h
  obtain ⟨rfl, rfl, rfl⟩ : a' = a ∧ n = len ∧ cap' = cap := by simpa using hv
  have hlt : j < cs.length := by omega
  obtain ⟨b, o, rfl, hc⟩ := h5 j cs[j] (by simp [hlt])
  exact ⟨b, o, rfl, by simpa [List.getD, hlt] using hc⟩

theorem owns_keep {w w' : World} {base : Nat} {e : TypeId} {size : Nat} {v : Value} {n : Nat} {cs : List Value} (h : w.ownsRow base e size v n cs)
    (hk : ∀ b, v.ownBlock = some b → b < w.heap.size → w'.heap[b]? = w.heap[b]?) : w'.ownsRow base e size v n cs := by
  obtain ⟨hl, hn | ⟨g, cap, cur, rfl, hb, hg, r⟩⟩ := h
  · exact ⟨hl, .inl hn⟩
  · exact ⟨hl, .inr ⟨g, cap, cur, rfl, hb, (hk g rfl (Array.getElem?_eq_some_iff.1 hg).1).trans hg, r⟩⟩

theorem owns_below {w w' : World} {base : Nat} {e : TypeId} {size : Nat} {v : Value} {n : Nat} {cs : List Value} (h : w.ownsRow base e size v n cs) (hb : Below w.heap.size w w') : w'.ownsRow base e size v n cs :=
  owns_keep h fun b _ hlt => hb.block b hlt

theorem owns_base {w : World} {base base' : Nat} {e : TypeId} {size : Nat} {v : Value} {n : Nat} {cs : List Value} (h : w.ownsRow base e size v n cs) (hb : base' ≤ base) : w.ownsRow base' e size v n cs := by
  obtain ⟨hl, hn | ⟨g, cap, cur, rfl, hb', r⟩⟩ := h
  · exact ⟨hl, .inl hn⟩
  · exact ⟨hl, .inr ⟨g, cap, cur, rfl, by omega, r⟩⟩

/-- The bounds of what is owned. -/
theorem owns_lt {w : World} {base : Nat} {e : TypeId} {size : Nat} {v : Value} {n : Nat} {cs : List Value} (h : w.ownsRow base e size v n cs) {b : Nat} (hb : v.ownBlock = some b) : base ≤ b ∧ b < w.heap.size :=
  h.lt b hb

/-- 'grownBy' of a row from B on is 'Below B'. -/
theorem below_of_grown {B : Nat} {w w' : World} {row : Option Nat} (hg : w.grownBy w' row) (hB : B ≤ w.heap.size) (hr : ∀ k, row = some k → B ≤ k) : Below B w w' :=
  (Below.refl B w).grown hg hB hr

theorem below_drew {w w' : World} (h : Below w.drew.heap.size w.drew w') : Below w.heap.size w w' := ⟨h.os, h.tape, h.output, h.size, h.block⟩

theorem owns_shape {w : World} {base : Nat} {e : TypeId} {size : Nat} {v : Value} {n : Nat} {cs : List Value} (h : w.ownsRow base e size v n cs) : ∃ a cap, v = .slice a n cap := by
  obtain ⟨_, ⟨rfl, rfl⟩ | ⟨g, cap, cur, rfl, _⟩⟩ := h
  · exact ⟨none, 0, rfl⟩
  · exact ⟨_, cap, rfl⟩
theorem owns_len {w : World} {base : Nat} {e : TypeId} {v : Value} {n : Nat} {cs : List Value} (h : w.ownsRow base e 1 v n cs) : cs.length = n := by
  have := h.1; omega

/-- An owned row with an element has a block. -/
theorem owns_head {w : World} {base : Nat} {e : TypeId} {v : Value} {n : Nat} {cs : List Value} (h : w.ownsRow base e 1 v n cs) (hn : 0 < n) : ∃ g cap, v = .slice (some ⟨g, 0, none⟩) n cap := by
  obtain ⟨_, ⟨rfl, rfl⟩ | ⟨g, cap, cur, rfl, _⟩⟩ := h
  · omega
  · exact ⟨g, cap, rfl⟩

/-- One more element behind the owned row 'v': what 'append(s, y)' does, in one step; the world is the one in which the builder of the one-element slice has laid y. -/
theorem wpList_push {P : Program} (wr : World) {ops : Array Oper} {rest : List Oper} {o : Oper} {a : Act} {Q : Exit → Act → World → Prop} (hgd : o.guard = none) (s x : Operand) (t : TypeId)
    (ho : o.op = .call { callee := .builtin .append, args := #[s, x], argTypes := #[t, t] })
    (base : Nat) (e e2 : TypeId) (z : Value) (bytes : Nat) (ht : P.underlying t = some (.slice e)) (hinfo : (P.info? e).map (fun i => (i.zero, i.size, i.bytes)) = some (some z, 1, bytes)) (hzs : z.cells.size = 1)
    (v : Value) (n : Nat) (xs : List Value) (hs : a.eval s = v) (hown : wr.ownsRow base e 1 v n xs)
    (y : Value) (hx : a.eval x = .slice (some ⟨wr.heap.size, 0, none⟩) 1 1) (hy : y.oneCell' = true)
    (h63 : n + 1 ≤ maxLen) (hbytes : (n + 1) * bytes ≤ 140737488355328) (hbase : base ≤ wr.heap.size)
    (h : ∀ g' c' w', w'.ownsRow base e 1 (.slice (some ⟨g', 0, none⟩) (n + 1) c') (n + 1) (xs ++ [y]) → wr.grownBy w' v.ownBlock → wpList P ops Q rest (a.put o.dst (.slice (some ⟨g', 0, none⟩) (n + 1) c')) w') :
    wpList P ops Q (o :: rest) a (wr.alloc (.cells #[y] e2)) := by
  obtain ⟨i, hi, hz, hsize, hby⟩ := info_parts hinfo
  refine wpList_append_own _ hgd s x t ho base e i z 1 bytes ht hi hz hsize hby hzs (by decide) v n xs hs (hown.alloc _) ⟨wr.heap.size, 0, none⟩ 1 1 [y] hx rfl ?_ ?_ h63 hbytes (by simp; omega) ?_
  · intro j u hj
    match j, hj with
    | 0, hj => simp at hj; subst hj; simp [Addr.add]
  · intro u hu; simp at hu; subst hu; exact hy
  · intro v' w' h1 h2 _
    obtain ⟨g', c', rfl⟩ := owns_head h1 (by omega)
    refine h g' c' w' h1 ⟨h2.os, h2.tape, h2.output, ?_, fun k hk hne => ?_⟩
    · have := h2.size; simp at this; omega
    · exact (h2.block k (by simp; omega) hne).trans (Below.heap_alloc _ _ _ hk)

/-- A slice of one element, built. -/
theorem run_buildOne {P : Program} (w : World) (t e : TypeId) (z x : Value) (bytes : Nat) (ht : P.underlying t = some (.slice e)) (hinfo : (P.info? e).map (fun i => (i.zero, i.size, i.bytes)) = some (some z, 1, bytes))
    (hz : z.cells.size = 1) (hx : x.cells = #[x]) : (Instr.buildSlice t 1 #[(0, x)]).run P w = .ok (.slice (some ⟨w.heap.size, 0, none⟩) 1 1) (w.alloc (.cells #[x] e)) := by
  obtain ⟨i, hi, hz0, hz1, hz2⟩ := info_parts hinfo
  obtain ⟨l, hl⟩ : ∃ l, z.cells = #[l] := by
    obtain ⟨y, hy⟩ := List.length_eq_one_iff.1 (show z.cells.toList.length = 1 by simpa using hz)
    exact ⟨y, by rw [← Array.toList_inj]; simpa using hy⟩
  have e2 : ((Array.range 1).map (fun x => [l][x % 1]?.getD default)).setIfInBounds 0 x = #[x] := by
    rw [show Array.range 1 = #[0] from rfl]; simp
  simp [Instr.buildSlice, run_underlying ht, sizeOf, typeInfo, hi, hz1, zeroValue, hz0, hl, Instr.fill, hx, newRow, e2]

/-- 'append(s, x...)' onto an owned row, from whatever slice can be read. -/
theorem wpList_extend {P : Program} (w : World) {ops : Array Oper} {rest : List Oper} {o : Oper} {a : Act} {Q : Exit → Act → World → Prop} (hgd : o.guard = none) (s x : Operand) (t : TypeId)
    (ho : o.op = .call { callee := .builtin .append, args := #[s, x], argTypes := #[t, t] })
    (base : Nat) (e : TypeId) (z : Value) (bytes : Nat) (ht : P.underlying t = some (.slice e)) (hinfo : (P.info? e).map (fun i => (i.zero, i.size, i.bytes)) = some (some z, 1, bytes)) (hzs : z.cells.size = 1)
    (v : Value) (n : Nat) (xs : List Value) (hs : a.eval s = v) (hown : w.ownsRow base e 1 v n xs)
    (v2 : Value) (m : Nat) (news : List Value) (hx : a.eval x = v2) (hr : Row w 1 v2 m news) (h1 : ∀ u ∈ news, u.oneCell' = true)
    (h63 : n + m ≤ maxLen) (hbytes : (n + m) * bytes ≤ 140737488355328) (hbase : base ≤ w.heap.size)
    (h : ∀ a' c' w', w'.ownsRow base e 1 (.slice a' (n + m) c') (n + m) (xs ++ news) → w.grownBy w' v.ownBlock → wpList P ops Q rest (a.put o.dst (.slice a' (n + m) c')) w') :
    wpList P ops Q (o :: rest) a w := by
  obtain ⟨i, hi, hz, hsize, hby⟩ := info_parts hinfo
  obtain ⟨ao, cap, rfl, hle, hm, hlen, hnone, hcell⟩ := hr
  cases ao with
  | none =>
    have hc := hnone rfl
    subst hc
    obtain rfl : m = 0 := by omega
    have hn : news = [] := List.eq_nil_of_length_eq_zero (by simpa using hlen)
    subst hn
    obtain ⟨a', c', rfl⟩ := owns_shape hown
    refine wpList_append_own_none hgd s x t ho base e i 1 ht hi _ n xs hs hown hx ?_
    exact h a' c' w (by simpa using hown) ⟨rfl, rfl, rfl, Nat.le_refl _, fun _ _ _ => rfl⟩
  | some ad =>
    refine wpList_append_own _ hgd s x t ho base e i z 1 bytes ht hi hz hsize hby hzs (by decide) v n xs hs hown ad m cap news hx (by omega) ?_ h1 h63 hbytes hbase ?_
    · intro j u hj
      obtain ⟨b, o', e, hc⟩ := hcell j u hj
      obtain rfl := Option.some.inj e
      rw [Addr.add_lit]
      exact hc
    · intro v' w' h3 h4 _
      obtain ⟨a', c', rfl⟩ := owns_shape h3
      exact h a' c' w' h3 h4

/-- The same, the address of the built slice spelled otherwise. -/
theorem wpList_push_at {P : Program} (wr : World) {ops : Array Oper} {rest : List Oper} {o : Oper} {a : Act} {Q : Exit → Act → World → Prop} (hgd : o.guard = none) (s x : Operand) (t : TypeId)
    (ho : o.op = .call { callee := .builtin .append, args := #[s, x], argTypes := #[t, t] })
    (base : Nat) (e e2 : TypeId) (z : Value) (bytes : Nat) (ht : P.underlying t = some (.slice e)) (hinfo : (P.info? e).map (fun i => (i.zero, i.size, i.bytes)) = some (some z, 1, bytes)) (hzs : z.cells.size = 1)
    (v : Value) (n : Nat) (xs : List Value) (hs : a.eval s = v) (hown : wr.ownsRow base e 1 v n xs)
    (g0 : Nat) (hg0 : g0 = wr.heap.size) (y : Value) (hx : a.eval x = .slice (some ⟨g0, 0, none⟩) 1 1) (hy : y.oneCell' = true)
    (h63 : n + 1 ≤ maxLen) (hbytes : (n + 1) * bytes ≤ 140737488355328) (hbase : base ≤ wr.heap.size)
    (h : ∀ g' c' w', w'.ownsRow base e 1 (.slice (some ⟨g', 0, none⟩) (n + 1) c') (n + 1) (xs ++ [y]) → wr.grownBy w' v.ownBlock → wpList P ops Q rest (a.put o.dst (.slice (some ⟨g', 0, none⟩) (n + 1) c')) w') :
    wpList P ops Q (o :: rest) a (wr.alloc (.cells #[y] e2)) := by
  subst hg0
  exact wpList_push wr hgd s x t ho base e e2 z bytes ht hinfo hzs v n xs hs hown y hx hy h63 hbytes hbase h

/-- 'make([]T, n)': n zeros are owned. -/
theorem wpList_make {P : Program} (w : World) {ops : Array Oper} {rest : List Oper} {o : Oper} {a : Act} {Q : Exit → Act → World → Prop}
    (hg : o.guard = none) (l c : Operand) (t : TypeId) (hop : o.op = Op.makeSlice t l c)
    (base : Nat) (e : TypeId) (z : Value) (bytes : Nat) (h1 : P.underlying t = some (.slice e)) (hinfo : (P.info? e).map (fun i => (i.zero, i.size, i.bytes)) = some (some z, 1, bytes)) (hzs : z.cells = #[z])
    (kl kc : IntKind) (L C : Int) (n : Nat) (hl : a.eval l = .int kl L) (hc : a.eval c = .int kc C) (hL : L = (n : Int)) (hC : C = (n : Int)) (b2 : bytes * n ≤ 281474976710656) (b3 : n ≤ maxLen) (b4 : base ≤ w.heap.size)
    (hK : ∀ w', w'.ownsRow base e 1 (.slice (some ⟨w.heap.size, 0, none⟩) n n) n (List.replicate n z) → Below w.heap.size w w' → wpList P ops Q rest (a.put o.dst (.slice (some ⟨w.heap.size, 0, none⟩) n n)) w') :
    wpList P ops Q (o :: rest) a w := by
  obtain ⟨i, hi, hz, hsize, hby⟩ := info_parts hinfo
  refine wpList_make_full w hg l c t hop base e i z 1 h1 hi hz hsize kl kc L C n hl hc hL hC (by rw [hby]; exact b2) b3 b4 fun w' h2 h3 => ?_
  refine hK w' ?_ (below_of_grown h3 (Nat.le_refl _) (by simp))
  rw [hzs, Nat.mul_one, toList_madeCells_one] at h2
  exact h2

/-- Only blocks of S have been written, of those that stood. -/
structure Wrote (w w' : World) (S : Nat → Prop) : Prop where
  os : w'.os = w.os
  tape : w'.tape = w.tape
  output : w'.output = w.output
  size : w.heap.size ≤ w'.heap.size
  block : ∀ k, k < w.heap.size → ¬ S k → w'.heap[k]? = w.heap[k]?

theorem Wrote.refl (w : World) (S : Nat → Prop) : Wrote w w S := ⟨rfl, rfl, rfl, Nat.le_refl _, fun _ _ _ => rfl⟩
theorem Wrote.trans {w w1 w2 : World} {S S' : Nat → Prop} (h : Wrote w w1 S) (h' : Wrote w1 w2 S') (hS : ∀ k, k < w.heap.size → S' k → S k) : Wrote w w2 S :=
  ⟨h'.os.trans h.os, h'.tape.trans h.tape, h'.output.trans h.output, Nat.le_trans h.size h'.size, fun k hk hn => (h'.block k (Nat.lt_of_lt_of_le hk h.size) (fun e => hn (hS k hk e))).trans (h.block k hk hn)⟩
theorem Wrote.of_grown {w w' : World} {r : Option Nat} (h : w.grownBy w' r) : Wrote w w' (fun k => r = some k) :=
  ⟨h.os, h.tape, h.output, h.size, fun k hk hn => h.block k hk fun e => hn e.symm⟩
theorem Wrote.of_below {w w' : World} {B : Nat} (h : Below B w w') : Wrote w w' (fun k => B ≤ k) :=
  ⟨h.os, h.tape, h.output, h.size, fun k _ hn => h.block k (by omega)⟩
theorem Wrote.mono {w w' : World} {S S' : Nat → Prop} (h : Wrote w w' S) (hS : ∀ k, k < w.heap.size → S k → S' k) : Wrote w w' S' :=
  ⟨h.os, h.tape, h.output, h.size, fun k hk hn => h.block k hk fun e => hn (hS k hk e)⟩
theorem Wrote.below {w w' : World} {S : Nat → Prop} (h : Wrote w w' S) {B : Nat} (hB : B ≤ w.heap.size) (hS : ∀ k, S k → B ≤ k) : Below B w w' :=
  ⟨h.os, h.tape, h.output, h.size, fun k hk => h.block k (by omega) fun e => by have := hS k e; omega⟩
theorem Wrote.drew {w w' : World} {S : Nat → Prop} (h : Wrote w w' S) : Wrote w w'.drew S := ⟨h.os, h.tape, h.output, h.size, h.block⟩
theorem Row.wrote {w w' : World} {S : Nat → Prop} {size : Nat} {v : Value} {n : Nat} {cs : List Value} (h : Row w size v n cs) (hw : Wrote w w' S) (hS : ∀ k, v.ownBlock = some k → ¬ S k) : Row w' size v n cs :=
  h.keep fun b hb hlt => hw.block b hlt (hS b hb)
theorem owns_wrote {w w' : World} {S : Nat → Prop} {base : Nat} {e : TypeId} {size : Nat} {v : Value} {n : Nat} {cs : List Value} (h : w.ownsRow base e size v n cs) (hw : Wrote w w' S) (hS : ∀ k, v.ownBlock = some k → ¬ S k) : w'.ownsRow base e size v n cs :=
  owns_keep h fun b hb hlt => hw.block b hlt (hS b hb)

theorem Row.take {w : World} {a : Option Addr} {n cap : Nat} {cs : List Value} (h : Row w 1 (.slice a n cap) n cs) {k : Nat} (hk : k ≤ n) : Row w 1 (.slice a k cap) k (cs.take k) := by
  obtain ⟨a', cap', e, h1, h2, h3, h4, h5⟩ := h
  obtain ⟨rfl, rfl⟩ : a' = a ∧ cap' = cap := by simpa [eq_comm] using e
  refine ⟨a', cap', rfl, by omega, h2, by simp; omega, h4, fun j u hj => h5 j u ?_⟩
  rw [List.getElem?_take] at hj
  split at hj
  · exact hj
  · cases hj
theorem Row.drop_all {w : World} {a : Option Addr} {n cap : Nat} {cs : List Value} (h : Row w 1 (.slice a n cap) n cs) {k : Nat} (hk : k ≤ n) (hc : cap = k) : Row w 1 (.slice a (n - k) 0) (n - k) (cs.drop k) := by
  obtain ⟨a', cap', e, h1, h2, h3, h4, h5⟩ := h
  obtain ⟨rfl, rfl⟩ : a' = a ∧ cap' = cap := by simpa [eq_comm] using e
  refine ⟨a', 0, rfl, by omega, by simp [maxLen], by simp; omega, fun _ => rfl, fun j u hj => ?_⟩
  rw [List.drop_of_length_le (by omega)] at hj
  simp at hj
theorem Row.drop {w : World} {a : Option Addr} {n cap : Nat} {cs : List Value} (h : Row w 1 (.slice a n cap) n cs) {k : Nat} (hk : k ≤ n) (hc : ¬ cap = k) : Row w 1 (.slice (Option.map (fun x => x.add k) a) (n - k) (cap - k)) (n - k) (cs.drop k) := by
  obtain ⟨a', cap', e, h1, h2, h3, h4, h5⟩ := h
  obtain ⟨rfl, rfl⟩ : a' = a ∧ cap' = cap := by simpa [eq_comm] using e
  refine ⟨_, _, rfl, by omega, by omega, by simp; omega, fun hn => ?_, fun j u hj => ?_⟩
  · have := h4 (by simpa using hn); omega
  · rw [List.getElem?_drop] at hj
    obtain ⟨b, o, rfl, hc⟩ := h5 (k + j) u hj
    refine ⟨b, o + k, by simp [Addr.add_lit], by rw [Nat.add_assoc]; exact hc⟩

end Go.Proofs.Ytpfhflkpnjkgkaa
/-
  Plain facts about sets of small numbers, kept as the bits of a number. No program in sight.
-/


namespace Go.Proofs.Ytpfhflkpnjkgkaa

/-- The numbers below 32 whose bits are set, rising. -/
def bitsOf (m : Nat) : List Nat := (List.range 32).filter m.testBit

/-- The place of the lowest bit that is set, by search. -/
def lowFrom (m : Nat) : Nat → Nat → Nat
  | 0, i => i
  | f + 1, i => if m.testBit i then i else lowFrom m f (i + 1)
def low (m : Nat) : Nat := lowFrom m 32 0

theorem lowFrom_spec (m : Nat) : ∀ (f i : Nat), (∀ j, j < i → m.testBit j = false) → (∃ j, j < i + f ∧ m.testBit j = true) →
    lowFrom m f i < i + f ∧ m.testBit (lowFrom m f i) = true ∧ ∀ j, j < lowFrom m f i → m.testBit j = false := by
  intro f
  induction f with
  | zero => intro i h1 ⟨j, h2, h3⟩; rw [h1 j (by omega)] at h3; cases h3
  | succ f ih =>
    intro i h1 ⟨j, h2, h3⟩
    unfold lowFrom
    split
    · rename_i hb; exact ⟨by omega, hb, h1⟩
    · rename_i hb
      have := ih (i + 1) (fun j hj => by by_cases e : j = i; (· subst e; simpa using hb); exact h1 j (by omega)) ⟨j, by omega, h3⟩
      exact ⟨by omega, this.2⟩

theorem exists_bit {m : Nat} (h0 : m ≠ 0) (h : m < 2 ^ 32) : ∃ j, j < 32 ∧ m.testBit j = true := by
  obtain ⟨j, hj⟩ := Nat.exists_testBit_of_ne_zero h0
  refine ⟨j, ?_, hj⟩
  by_cases hlt : j < 32
  · exact hlt
  · rw [Nat.testBit_lt_two_pow (Nat.lt_of_lt_of_le h (Nat.pow_le_pow_right (by decide) (by omega)))] at hj; cases hj

theorem low_spec {m : Nat} (h0 : m ≠ 0) (h : m < 2 ^ 32) : low m < 32 ∧ m.testBit (low m) = true ∧ ∀ j, j < low m → m.testBit j = false := by
  have := lowFrom_spec m 32 0 (by simp) (by simpa using exists_bit h0 h)
  simpa [low] using this

/-- A number whose lowest bit is k: 2^(k+1) q + 2^k. -/
theorem low_form {m k : Nat} (hk : m.testBit k = true) (hl : ∀ j, j < k → m.testBit j = false) : m = 2 ^ (k + 1) * (m / 2 ^ (k + 1)) + 2 ^ k := by
  have h1 : m % 2 ^ (k + 1) = 2 ^ k := by
    apply Nat.eq_of_testBit_eq
    intro i
    rw [Nat.testBit_mod_two_pow, Nat.testBit_two_pow]
    by_cases h : i < k
    · simp [hl i h]; omega
    · by_cases e : i = k
      · subst e; simp [hk]
      · have : ¬ i < k + 1 := by omega
        have : ¬ k = i := by omega
        simp [*]
  have := Nat.div_add_mod m (2 ^ (k + 1))
  omega

theorem testBit_low_clear {m : Nat} (h0 : m ≠ 0) (h : m < 2 ^ 32) (i : Nat) : (m &&& (m - 1)).testBit i = (m.testBit i && decide (i ≠ low m)) := by
  obtain ⟨_, h2, h3⟩ := low_spec h0 h
  have hf := low_form h2 h3
  generalize hk : low m = k at *
  generalize hq : m / 2 ^ (k + 1) = q at *
  have hp : 0 < 2 ^ k := Nat.two_pow_pos k
  have hm1 : m - 1 = 2 ^ (k + 1) * q + (2 ^ k - 1) := by omega
  have hlt1 : 2 ^ k < 2 ^ (k + 1) := by rw [Nat.pow_succ]; omega
  rw [Nat.testBit_and, hm1, Nat.testBit_two_pow_mul_add _ (by omega)]
  by_cases hi : i < k
  · simp [h3 i hi]
  · by_cases e : i = k
    · subst e
      simp [Nat.testBit_two_pow_sub_one]
    · have hgt : k + 1 ≤ i := by omega
      rw [if_neg (by omega)]
      have : m.testBit i = q.testBit (i - (k + 1)) := by
        rw [hf, Nat.testBit_two_pow_mul_add _ hlt1, if_neg (by omega)]
      rw [this]
      simp [e]

theorem low_clear_lt {m : Nat} (h0 : m ≠ 0) : m &&& (m - 1) < m := by
  have := @Nat.and_le_right m (m - 1)
  omega

theorem filter_range_low (m : Nat) (n : Nat) (k : Nat) (hk : k < n) (h2 : m.testBit k = true) (h3 : ∀ j, j < k → m.testBit j = false) :
    (List.range n).filter m.testBit = k :: (List.range n).filter fun i => m.testBit i && decide (i ≠ k) := by
  obtain ⟨d, rfl⟩ : ∃ d, n = k + (1 + d) := ⟨n - k - 1, by omega⟩
  rw [List.range_add, List.filter_append, List.filter_append]
  have e1 : (List.range k).filter m.testBit = [] := by
    rw [List.filter_eq_nil_iff]; intro a ha; simp [h3 a (by simpa using ha)]
  have e2 : (List.range k).filter (fun i => m.testBit i && decide (i ≠ k)) = [] := by
    rw [List.filter_eq_nil_iff]; intro a ha; simp [h3 a (by simpa using ha)]
  rw [e1, e2, List.range_add, List.map_append, List.filter_append, List.filter_append]
  simp only [List.nil_append, List.range_one, List.map_cons, List.map_nil, Nat.add_zero, List.filter_cons, h2, if_true, List.filter_nil]
  simp only [ne_eq, not_true, decide_false, Bool.and_false, Bool.false_eq_true, if_false, List.nil_append, List.cons_append]
  congr 1
  simp only [List.map_map, List.filter_map]
  congr 1
  apply List.filter_congr
  intro a _
  simp

theorem bitsOf_step {m : Nat} (h0 : m ≠ 0) (h : m < 2 ^ 32) : bitsOf m = low m :: bitsOf (m &&& (m - 1)) := by
  obtain ⟨h1, h2, h3⟩ := low_spec h0 h
  unfold bitsOf
  rw [filter_range_low m 32 (low m) h1 h2 h3]
  congr 2
  funext i
  rw [testBit_low_clear h0 h]

theorem bitsOf_zero : bitsOf 0 = [] := by
  unfold bitsOf; rw [List.filter_eq_nil_iff]; intro a _; simp

theorem length_bitsOf (m : Nat) : (bitsOf m).length ≤ 32 := by
  unfold bitsOf; exact Nat.le_trans (List.length_filter_le _ _) (by simp)

theorem mem_bitsOf {m i : Nat} : i ∈ bitsOf m ↔ i < 32 ∧ m.testBit i = true := by
  simp [bitsOf]

/-- m and its negative share the lowest bit alone. -/
theorem and_neg_low {m : Nat} (h0 : m ≠ 0) (h : m < 2 ^ 32) : m &&& (2 ^ 32 - m) = 2 ^ low m := by
  obtain ⟨h1, h2, h3⟩ := low_spec h0 h
  have hf := low_form h2 h3
  generalize hk : low m = k at *
  generalize hq : m / 2 ^ (k + 1) = q at *
  have hp : 0 < 2 ^ k := Nat.two_pow_pos k
  have hlt1 : 2 ^ k < 2 ^ (k + 1) := by rw [Nat.pow_succ]; omega
  have e32 : (2 : Nat) ^ 32 = 2 ^ (k + 1) * 2 ^ (31 - k) := by rw [← Nat.pow_add]; congr 1; omega
  have hqlt : q < 2 ^ (31 - k) := by
    have : 2 ^ (k + 1) * q < 2 ^ (k + 1) * 2 ^ (31 - k) := by omega
    exact Nat.lt_of_mul_lt_mul_left this
  have hneg : 2 ^ 32 - m = 2 ^ (k + 1) * (2 ^ (31 - k) - (q + 1)) + 2 ^ k := by
    rw [Nat.mul_sub, Nat.mul_add, Nat.mul_one, ← e32]
    have : 2 ^ (k + 1) * (q + 1) ≤ 2 ^ (k + 1) * 2 ^ (31 - k) := Nat.mul_le_mul_left _ hqlt
    rw [Nat.mul_add, Nat.mul_one, ← e32] at this
    have : 2 ^ (k + 1) = 2 ^ k + 2 ^ k := by rw [Nat.pow_succ]; omega
    omega
  apply Nat.eq_of_testBit_eq
  intro i
  rw [Nat.testBit_and, hneg]
  conv => lhs; arg 1; rw [hf]
  rw [Nat.testBit_two_pow_mul_add _ hlt1, Nat.testBit_two_pow_mul_add _ hlt1, Nat.testBit_two_pow]
  by_cases hi : i < k + 1
  · simp [hi]
  · simp only [hi, if_false]
    rw [Nat.testBit_two_pow_sub_succ hqlt]
    have : ¬ k = i := by omega
    simp only [this, decide_false]
    cases q.testBit (i - (k + 1)) <;> simp

theorem two32 : (2 : Nat) ^ 32 = 4294967296 := by decide
theorem bits_neg_low {m : Nat} (h0 : m ≠ 0) (h : m < 4294967296) : bits BinOp.and IntKind.u32 (m : Int) (-(m : Int) % 4294967296) = ((2 ^ low m : Nat) : Int) := by
  have e : (-(m : Int) % 4294967296) = ((4294967296 - m : Nat) : Int) := by omega
  have := and_neg_low h0 (by rw [two32]; exact h)
  rw [two32] at this
  rw [e, u32_and_nat _ _ (by omega) (by omega), this]

def tab32 : List Int := [0, 1, 28, 2, 29, 14, 24, 3, 30, 22, 20, 15, 25, 17, 4, 8, 31, 27, 13, 23, 21, 19, 16, 7, 26, 12, 18, 6, 11, 5, 10, 9]

theorem tab32_low : ∀ k : Nat, k < 32 → tab32.getD (2 ^ k * 125613361 % 4294967296 / 134217728) 0 = (k : Int) ∧ 2 ^ k * 125613361 % 4294967296 / 134217728 < 32 := by
  decide

end Go.Proofs.Ytpfhflkpnjkgkaa
/-
  The program's sets of vertices: what 'inRange', 'one', 'least', 'list', 'wide', 'numbers' return.
-/







namespace Go.Proofs.Ytpfhflkpnjkgkaa
open Go.RowKit

theorem ret_bool {a b : Bool} (h : a = b) : Ending.returned (.bool a) = .returned (.bool b) := by rw [h]
theorem ret_int {k : IntKind} {a b : Int} (h : a = b) : Ending.returned (.int k a) = .returned (.int k b) := by rw [h]

theorem infoI : (Try.prog.info? 2).map (fun i => (i.zero, i.size, i.bytes)) = some (some (.int .i64 0), 1, 8) := by kernel_rfl
theorem infoN : (Try.prog.info? 3).map (fun i => (i.zero, i.size, i.bytes)) = some (some (.int .i64 0), 1, 8) := by kernel_rfl

theorem inRange_any (n lo hi : Int) (w : World) :
    Calls Try.prog 27 #[.int .i64 n, .int .i64 lo, .int .i64 hi] w fun e w' => e = .returned (.bool (decide (lo ≤ n ∧ n ≤ hi))) ∧ w = w' := by
  go_enter Try.func27, Try.ntmps27
  go_wp2
  all_goals go_ret
  all_goals exact ⟨ret_bool (by rw [Bool.eq_iff_iff]; simp; try omega), rfl⟩

theorem bits_clear {m : Nat} (h0 : m ≠ 0) (h : m < 4294967296) : bits BinOp.and IntKind.u32 (m : Int) ((m : Int) - 1) = ((m &&& (m - 1) : Nat) : Int) := by
  have e : ((m : Int) - 1) = ((m - 1 : Nat) : Int) := by omega
  rw [e, u32_and_nat _ _ h (by omega)]

/-- int64 or int: a list of numbers as values. -/
def ints (xs : List Int) : List Value := xs.map (Value.int .i64)
@[simp] theorem ints_length (xs : List Int) : (ints xs).length = xs.length := by simp [ints]
theorem ints_snoc (xs : List Int) (x : Int) : ints (xs ++ [x]) = ints xs ++ [.int .i64 x] := by simp [ints]
theorem take_snoc {α : Type} {xs : List α} {k : Nat} {x : α} (h : xs[k]? = some x) : xs.take (k + 1) = xs.take k ++ [x] := by
  obtain ⟨hk, rfl⟩ := List.getElem?_eq_some_iff.1 h
  exact List.take_succ_eq_append_getElem hk
/-- The number at place j of a slice of numbers that is read. -/
theorem Row.intAt {w : World} {a : Option Addr} {len cap n : Nat} {xs : List Int} {k : IntKind} (h : Row w 1 (.slice a len cap) n (xs.map (Value.int k))) {j : Nat} (hj : j < xs.length) :
    ∃ b o x, a = some ⟨b, o, none⟩ ∧ w.cell? ⟨b, o + j, none⟩ = some (.int k x) ∧ Hid (xs[j]? = some x) := by
  obtain ⟨a', cap', e, h1, h2, h3, h4, h5⟩ := h
  obtain ⟨rfl, rfl, rfl⟩ : a' = a ∧ n = len ∧ cap' = cap := by simpa [eq_comm] using e
  obtain ⟨b, o, rfl, hc⟩ := h5 j (.int k xs[j]) (by simp [hj])
  exact ⟨b, o, xs[j], rfl, hc, Lib.hid (by simp [hj])⟩

/-- The elements of a set, as numbers. -/
def nums (m : Nat) : List Int := (bitsOf m).map fun (i : Nat) => (i : Int)
theorem nums_length (m : Nat) : (nums m).length ≤ 32 := by simpa [nums] using length_bitsOf m
theorem ints_nums (m : Nat) : ints (nums m) = (bitsOf m).map fun (i : Nat) => Value.int .i64 i := by simp [ints, nums]

end Go.Proofs.Ytpfhflkpnjkgkaa
/-
  Plain facts about slices of slices: read, and owned by the call. No program in sight.
-/

namespace Go.Proofs.Ytpfhflkpnjkgkaa
open Go.RowKit

/-- v is a slice of the slices vs, which read css. -/
structure RdG (w : World) (v : Value) (vs : List Value) (css : List (List Value)) : Prop where
  len : vs.length = css.length
  outer : Row w 1 v vs.length vs
  rows : ∀ (i : Nat) u cs, vs[i]? = some u → css[i]? = some cs → Row w 1 u cs.length cs

/-- v is a slice that the call owns, of the slices vs, which it owns as well, each in a block of its own; they read css. -/
structure OwnG (w : World) (base : Nat) (e1 e2 : TypeId) (v : Value) (vs : List Value) (css : List (List Value)) : Prop where
  len : vs.length = css.length
  outer : w.ownsRow base e1 1 v vs.length vs
  rows : ∀ (i : Nat) u cs, vs[i]? = some u → css[i]? = some cs → w.ownsRow base e2 1 u cs.length cs
  apart : vs.Pairwise fun a b => ∀ k, a.ownBlock = some k → b.ownBlock ≠ some k
  unlike : e1 ≠ e2

section
variable {w w' : World} {base : Nat} {e1 e2 : TypeId} {v : Value} {vs : List Value} {css : List (List Value)}

theorem RdG.below (h : RdG w v vs css) (hb : Below w.heap.size w w') : RdG w' v vs css :=
  ⟨h.len, h.outer.below hb, fun i u cs h1 h2 => (h.rows i u cs h1 h2).below hb⟩

theorem OwnG.rd (h : OwnG w base e1 e2 v vs css) : RdG w v vs css :=
  ⟨h.len, Row.of_owns h.outer, fun i u cs h1 h2 => Row.of_owns (h.rows i u cs h1 h2)⟩

theorem OwnG.below (h : OwnG w base e1 e2 v vs css) (hb : Below w.heap.size w w') : OwnG w' base e1 e2 v vs css :=
  ⟨h.len, owns_below h.outer hb, fun i u cs h1 h2 => owns_below (h.rows i u cs h1 h2) hb, h.apart, h.unlike⟩

theorem OwnG.rebase (h : OwnG w base e1 e2 v vs css) {base' : Nat} (hb : base' ≤ base) : OwnG w base' e1 e2 v vs css :=
  ⟨h.len, owns_base h.outer hb, fun i u cs h1 h2 => owns_base (h.rows i u cs h1 h2) hb, h.apart, h.unlike⟩

theorem owns_block {w : World} {base : Nat} {e : TypeId} {size : Nat} {v : Value} {n : Nat} {cs : List Value} (h : w.ownsRow base e size v n cs) {b : Nat} (hb : v.ownBlock = some b) :
    ∃ cur, w.heap[b]? = some (.cells cur e (0, 0)) := by
  obtain ⟨_, ⟨rfl, _⟩ | ⟨g, cap, cur, rfl, _, hg, _⟩⟩ := h
  · simp [Value.ownBlock] at hb
  · simp [Value.ownBlock] at hb; subst hb; exact ⟨cur, hg⟩

theorem owns_unlike {w : World} {base base' : Nat} {e e' : TypeId} {size size' : Nat} {v v' : Value} {n n' : Nat} {cs cs' : List Value} (h : w.ownsRow base e size v n cs) (h' : w.ownsRow base' e' size' v' n' cs') (he : e ≠ e')
    {b : Nat} (hb : v.ownBlock = some b) : v'.ownBlock ≠ some b := by
  intro hb'
  obtain ⟨c, hc⟩ := owns_block h hb
  obtain ⟨c', hc'⟩ := owns_block h' hb'
  rw [hc] at hc'
  simp at hc'
  exact he hc'.2

theorem OwnG.nil (w : World) (base : Nat) (he : e1 ≠ e2) (h : w.ownsRow base e1 1 v 0 []) : OwnG w base e1 e2 v [] [] :=
  ⟨rfl, h, by simp, List.Pairwise.nil, he⟩

/-- A write to the outer row alone leaves the inner rows. -/
theorem OwnG.rows_outer (h : OwnG w base e1 e2 v vs css) (hg : w.grownBy w' v.ownBlock) : ∀ (i : Nat) u cs, vs[i]? = some u → css[i]? = some cs → w'.ownsRow base e2 1 u cs.length cs := by
  intro i u cs h1 h2
  refine owns_keep (h.rows i u cs h1 h2) fun b hb hlt => hg.block b hlt fun e => ?_
  exact owns_unlike (h.rows i u cs h1 h2) h.outer (Ne.symm h.unlike) hb e.symm

theorem pairwise_snoc {α : Type} {R : α → α → Prop} {l : List α} {x : α} (h : l.Pairwise R) (hx : ∀ y ∈ l, R y x) : (l ++ [x]).Pairwise R := by
  rw [List.pairwise_append]
  refine ⟨h, List.pairwise_singleton R x, ?_⟩
  intro a ha b hb
  rw [List.mem_singleton] at hb
  subst hb
  exact hx a ha

/-- One more row: 'u', in memory that is newer than the rows before, is appended. -/
theorem OwnG.push {w1 w2 : World} {u v' : Value} {cs : List Value} {B : Nat} (h : OwnG w base e1 e2 v vs css) (hb : Below w.heap.size w w1) (hu : w1.ownsRow B e2 1 u cs.length cs) (hB : w.heap.size ≤ B) (hbase : base ≤ w.heap.size)
    (ho : w2.ownsRow base e1 1 v' (vs.length + 1) (vs ++ [u])) (hg : w1.grownBy w2 v.ownBlock) : OwnG w2 base e1 e2 v' (vs ++ [u]) (css ++ [cs]) := by
  have h1 := h.below hb
  refine ⟨by simp [h.len], by simpa using ho, fun i u' cs' hu' hcs' => ?_, ?_, h.unlike⟩
  · by_cases hi : i < vs.length
    · rw [List.getElem?_append_left hi] at hu'
      rw [List.getElem?_append_left (by rw [← h.len]; exact hi)] at hcs'
      exact h1.rows_outer hg i u' cs' hu' hcs'
    · have hi2 : i < (vs ++ [u]).length := (List.getElem?_eq_some_iff.1 hu').1
      have : i = vs.length := by simp at hi2; omega
      subst this
      rw [List.getElem?_append_right (Nat.le_refl _)] at hu'
      rw [h.len, List.getElem?_append_right (Nat.le_refl _)] at hcs'
      simp at hu' hcs'
      subst hu'; subst hcs'
      refine owns_keep (owns_base hu (Nat.le_trans hbase hB)) fun b hb' hlt => hg.block b hlt fun e => ?_
      exact owns_unlike hu h1.outer (Ne.symm h.unlike) hb' e.symm
  · refine pairwise_snoc h.apart fun y hy k hk hk' => ?_
    obtain ⟨i, hi⟩ := List.mem_iff_getElem?.1 hy
    have hi2 : i < vs.length := (List.getElem?_eq_some_iff.1 hi).1
    have := (owns_lt (h.rows i y (css[i]'(by rw [← h.len]; exact hi2)) hi (by simp)) hk).2
    have := (owns_lt hu hk').1
    omega

/-- Row i is replaced by u, which is the old one or lies in newer memory. -/
theorem OwnG.set {w1 w2 : World} {u : Value} {cs : List Value} (i : Nat) (h : OwnG w base e1 e2 v vs css) (hb : Below w.heap.size w w1) (hu : w1.ownsRow base e2 1 u cs.length cs) (hnew : vs[i]? = some u ∨ ∀ k, u.ownBlock = some k → w.heap.size ≤ k)
    (ho : w2.ownsRow base e1 1 v vs.length (vs.set i u)) (hg : w1.grownBy w2 v.ownBlock) : OwnG w2 base e1 e2 v (vs.set i u) (css.set i cs) := by
  have h1 := h.below hb
  refine ⟨by simp [h.len], by simpa using ho, fun j u' cs' hu' hcs' => ?_, ?_, h.unlike⟩
  · by_cases hi : i = j
    · subst hi
      have h3 : i < vs.length := by simpa using (List.getElem?_eq_some_iff.1 hu').1
      rw [List.getElem?_set_self h3] at hu'
      rw [List.getElem?_set_self (by rw [← h.len]; exact h3)] at hcs'
      simp at hu' hcs'
      subst hu'; subst hcs'
      refine owns_keep hu fun b hb' hlt => hg.block b hlt fun e => ?_
      exact owns_unlike hu h1.outer (Ne.symm h.unlike) hb' e.symm
    · rw [List.getElem?_set_ne hi] at hu' hcs'
      exact h1.rows_outer hg j u' cs' hu' hcs'
  · rcases hnew with hold | hnew
    · rw [show vs.set i u = vs from ?_]
      · exact h.apart
      · apply List.ext_getElem?
        intro j
        by_cases e : i = j
        · subst e
          have h3 : i < vs.length := (List.getElem?_eq_some_iff.1 hold).1
          rw [List.getElem?_set_self h3, hold]
        · rw [List.getElem?_set_ne e]
    · have hold : ∀ (j : Nat) y, vs[j]? = some y → ∀ k, y.ownBlock = some k → k < w.heap.size := by
        intro j y hy k hk
        have hi2 : j < vs.length := (List.getElem?_eq_some_iff.1 hy).1
        exact (owns_lt (h.rows j y (css[j]'(by rw [← h.len]; exact hi2)) hy (by simp)) hk).2
      rw [List.pairwise_iff_getElem]
      intro p q hp hq hpq k hk hk'
      have hp' : p < vs.length := by simpa using hp
      have hq' : q < vs.length := by simpa using hq
      rw [List.getElem_set] at hk hk'
      split at hk <;> split at hk'
      · omega
      · have := hnew k hk; have := hold q _ (by simp [hq']) k hk'; omega
      · have := hnew k hk'; have := hold p _ (by simp [hp']) k hk; omega
      · exact (List.pairwise_iff_getElem.1 h.apart) p q hp' hq' hpq k hk hk'

/-- A write below 'base' leaves what is owned. -/
theorem OwnG.other (h : OwnG w base e1 e2 v vs css) {p : Addr} (hp : p.block < base) (x : Value) : OwnG (w.setCell p x) base e1 e2 v vs css :=
  ⟨h.len, owns_keep h.outer fun b hb _ => Below.heap_setCell _ _ _ _ (by have := (owns_lt h.outer hb).1; omega),
    fun i u cs h1 h2 => owns_keep (h.rows i u cs h1 h2) fun b hb _ => Below.heap_setCell _ _ _ _ (by have := (owns_lt (h.rows i u cs h1 h2) hb).1; omega), h.apart, h.unlike⟩

/-- Row i is written in place. -/
theorem OwnG.write {w1 : World} {i : Nat} {u : Value} {cs : List Value} (h : OwnG w base e1 e2 v vs css) (hi : vs[i]? = some u) (hu : w1.ownsRow base e2 1 u cs.length cs) (hg : w.grownBy w1 u.ownBlock) :
    OwnG w1 base e1 e2 v vs (css.set i cs) := by
  have hiv : i < vs.length := (List.getElem?_eq_some_iff.1 hi).1
  have hold := h.rows i u (css[i]'(by rw [← h.len]; exact hiv)) hi (by simp)
  refine ⟨by simp [h.len], owns_keep h.outer fun b hb hlt => hg.block b hlt fun e => ?_, fun j u' cs' hu' hcs' => ?_, h.apart, h.unlike⟩
  · exact owns_unlike h.outer hold h.unlike hb e.symm
  · by_cases hij : i = j
    · subst hij
      rw [hi] at hu'
      rw [List.getElem?_set_self (by rw [← h.len]; exact hiv)] at hcs'
      simp at hu' hcs'
      subst hu'; subst hcs'
      exact hu
    · rw [List.getElem?_set_ne hij] at hcs'
      refine owns_keep (h.rows j u' cs' hu' hcs') fun b hb hlt => hg.block b hlt fun e => ?_
      have hjv : j < vs.length := (List.getElem?_eq_some_iff.1 hu').1
      have hp := List.pairwise_iff_getElem.1 h.apart
      have e1 : vs[i] = u := by simpa [hiv] using hi
      have e2 : vs[j] = u' := by simpa [hjv] using hu'
      rcases Nat.lt_or_gt_of_ne hij with hlt' | hlt'
      · exact hp i j hiv hjv hlt' b (by rw [e1]; exact e.symm) (by rw [e2]; exact hb)
      · exact hp j i hjv hiv hlt' b (by rw [e2]; exact hb) (by rw [e1]; exact e.symm)

/-- A row of what is read. -/
theorem RdG.rowAt {a : Option Addr} {len cap : Nat} (h : RdG w (.slice a len cap) vs css) {k : Nat} (hk : k < css.length) :
    ∃ b o u cs, a = some ⟨b, o, none⟩ ∧ w.cell? ⟨b, o + k, none⟩ = some u ∧ Row w 1 u cs.length cs ∧ Hid (vs[k]? = some u) ∧ Hid (css[k]? = some cs) := by
  obtain ⟨a', cap', e, h1, h2, h3, h4, h5⟩ := h.outer
  obtain ⟨rfl, -, rfl⟩ : a' = a ∧ vs.length = len ∧ cap' = cap := by simpa [eq_comm] using e
  have hv : k < vs.length := by rw [h.len]; exact hk
  obtain ⟨b, o, rfl, hc⟩ := h5 k vs[k] (by simp [hv])
  exact ⟨b, o, vs[k], css[k], rfl, hc, h.rows k _ _ (by simp [hv]) (by simp [hk]), Lib.hid (by simp [hv]), Lib.hid (by simp [hk])⟩

theorem RdG.wrote {S : Nat → Prop} (h : RdG w v vs css) (hw : Wrote w w' S) (hS : ∀ k, v.ownBlock = some k ∨ (∃ u ∈ vs, u.ownBlock = some k) → ¬ S k) : RdG w' v vs css :=
  ⟨h.len, h.outer.wrote hw fun k hk => hS k (.inl hk), fun i u cs h1 h2 => (h.rows i u cs h1 h2).wrote hw fun k hk => hS k (.inr ⟨u, List.mem_of_getElem? h1, hk⟩)⟩

theorem OwnG.wrote {S : Nat → Prop} (h : OwnG w base e1 e2 v vs css) (hw : Wrote w w' S) (hS : ∀ k, base ≤ k → ¬ S k) : OwnG w' base e1 e2 v vs css :=
  ⟨h.len, owns_wrote h.outer hw fun k hk => hS k (owns_lt h.outer hk).1, fun i u cs h1 h2 => owns_wrote (h.rows i u cs h1 h2) hw fun k hk => hS k (owns_lt (h.rows i u cs h1 h2) hk).1, h.apart, h.unlike⟩

/-- The blocks of what is owned. -/
theorem OwnG.lt (h : OwnG w base e1 e2 v vs css) {k : Nat} (hk : v.ownBlock = some k ∨ (∃ u ∈ vs, u.ownBlock = some k)) : base ≤ k ∧ k < w.heap.size := by
  rcases hk with hk | ⟨u, hu, hk⟩
  · exact owns_lt h.outer hk
  · obtain ⟨i, hi⟩ := List.mem_iff_getElem?.1 hu
    have hi2 : i < vs.length := (List.getElem?_eq_some_iff.1 hi).1
    exact owns_lt (h.rows i u (css[i]'(by rw [← h.len]; exact hi2)) hi (by simp)) hk

/-- A write into a block of another kind leaves what is owned. -/
theorem OwnG.unlike_setCell (h : OwnG w base e1 e2 v vs css) {p : Addr} {c : Array Value} {t : TypeId} {fr : Nat × Nat} (hp : w.heap[p.block]? = some (.cells c t fr)) (h1 : t ≠ e1) (h2 : t ≠ e2) (x : Value) : OwnG (w.setCell p x) base e1 e2 v vs css := by
  have key : ∀ {e : TypeId} {u : Value} {n : Nat} {cs : List Value}, w.ownsRow base e 1 u n cs → t ≠ e → (w.setCell p x).ownsRow base e 1 u n cs := fun ho hne =>
    owns_keep ho fun b hb _ => Below.heap_setCell _ _ _ _ fun e => by
      obtain ⟨c', hc'⟩ := owns_block ho hb
      rw [e, hp] at hc'
      simp at hc'
      exact hne hc'.2.1
  exact ⟨h.len, key h.outer h1, fun i u cs h3 h4 => key (h.rows i u cs h3 h4) h2, h.apart, h.unlike⟩
theorem Wrote.setCell {w w' : World} {S : Nat → Prop} (h : Wrote w w' S) {p : Addr} (hp : w.heap.size ≤ p.block ∨ S p.block) (x : Value) : Wrote w (w'.setCell p x) S :=
  ⟨h.os, h.tape, h.output, by simpa [World.setCell] using h.size, fun k hk hn => (Below.heap_setCell _ _ _ _ (fun e => by rcases hp with hp | hp; (· omega); exact hn (e ▸ hp))).trans (h.block k hk hn)⟩
theorem Wrote.alloc {w w' : World} {S : Nat → Prop} (h : Wrote w w' S) (o : Obj) : Wrote w (w'.alloc o) S :=
  ⟨h.os, h.tape, h.output, by have := h.size; simp; omega, fun k hk hn => (Below.heap_alloc _ _ _ (Nat.lt_of_lt_of_le hk h.size)).trans (h.block k hk hn)⟩

end
end Go.Proofs.Ytpfhflkpnjkgkaa
