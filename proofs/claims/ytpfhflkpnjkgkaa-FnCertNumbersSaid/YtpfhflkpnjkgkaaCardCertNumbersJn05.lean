import Derived.Test.YtpfhflkpnjkgkaaCardCertNumbersJn02
import Derived.Test.YtpfhflkpnjkgkaaGq09
/-
  Plain facts about memory: a queue, that is a slice of one's own that may begin inside its block; its tail, and 'append' onto it. No program in sight.
-/

namespace Go.Proofs.Ytpfhflkpnjkgkaa
open Go.RowKit

def Qu (w : World) (base : Nat) (e : TypeId) (v : Value) (cs : List Value) : Prop :=
  ∃ g o cap cur, v = .slice (some ⟨g, o, none⟩) cs.length cap ∧ base ≤ g ∧ w.heap[g]? = some (.cells cur e (0, 0)) ∧ cs.length ≤ cap ∧ cap ≤ maxLen ∧ o + cap ≤ cur.size ∧ (cur.toList.drop o).take cs.length = cs

section
variable {w w' : World} {base : Nat} {e : TypeId} {v : Value} {cs : List Value}
theorem Qu.of_owns {g cap : Nat} (h : w.ownsRow base e 1 (.slice (some ⟨g, 0, none⟩) cs.length cap) cs.length cs) : Qu w base e (.slice (some ⟨g, 0, none⟩) cs.length cap) cs := by
  obtain ⟨_, ⟨h1, _⟩ | ⟨g', cap', cur, h1, h2, h3, h4, h5, h6, h7⟩⟩ := h
  · simp at h1
  · obtain ⟨rfl, rfl⟩ : g = g' ∧ cap = cap' := by simpa using h1
    exact ⟨g, 0, cap, cur, rfl, h2, h3, h4, h5, by omega, by simpa using h7⟩
theorem Qu.shape (h : Qu w base e v cs) : ∃ g o cap, v = .slice (some ⟨g, o, none⟩) cs.length cap := by
  obtain ⟨g, o, cap, cur, rfl, _⟩ := h
  exact ⟨g, o, cap, rfl⟩
theorem Qu.cells {g o cap : Nat} (h : Qu w base e (.slice (some ⟨g, o, none⟩) cs.length cap) cs) : ∀ j u, cs[j]? = some u → w.cell? ((⟨g, o, none⟩ : Addr).add j) = some u := by
  obtain ⟨g', o', cap', cur, h1, h2, h3, h4, h5, h6, h7⟩ := h
  obtain ⟨⟨rfl, rfl⟩, rfl⟩ : (g = g' ∧ o = o') ∧ cap = cap' := by simpa using h1
  intro j u hj
  rw [Addr.add_lit, cell_of_row w g (o + j) cur e (0, 0) h3]
  rw [← h7, List.getElem?_take] at hj
  split at hj
  · rw [List.getElem?_drop] at hj
    simpa using hj
  · cases hj
theorem Qu.row (h : Qu w base e v cs) : Row w 1 v cs.length cs := by
  obtain ⟨g, o, cap, cur, rfl, h2, h3, h4, h5, h6, h7⟩ := id h
  refine ⟨_, cap, rfl, h4, h5, by omega, by simp, fun j u hj => ⟨g, o, rfl, ?_⟩⟩
  have := h.cells j u hj
  rwa [Addr.add_lit] at this
theorem Qu.lt (h : Qu w base e v cs) {b : Nat} (hb : v.ownBlock = some b) : base ≤ b ∧ b < w.heap.size := by
  obtain ⟨g, o, cap, cur, rfl, h2, h3, _⟩ := h
  simp [Value.ownBlock] at hb
  subst hb
  exact ⟨h2, (Array.getElem?_eq_some_iff.1 h3).1⟩
theorem Qu.below (h : Qu w base e v cs) (hb : Below w.heap.size w w') : Qu w' base e v cs := by
  obtain ⟨g, o, cap, cur, rfl, h2, h3, r⟩ := h
  exact ⟨g, o, cap, cur, rfl, h2, (hb.block g (Array.getElem?_eq_some_iff.1 h3).1).trans h3, r⟩
theorem Qu.kept {row : Option Nat} (h : Qu w base e v cs) (hg : w.grownBy w' row) (hne : v.ownBlock ≠ row) : Qu w' base e v cs := by
  obtain ⟨g, o, cap, cur, rfl, h2, h3, r⟩ := h
  exact ⟨g, o, cap, cur, rfl, h2, (hg.block g (Array.getElem?_eq_some_iff.1 h3).1 (fun e => hne (by simpa [Value.ownBlock] using e))).trans h3, r⟩
/-- Without its first one. -/
theorem Qu.tail {g o n cap : Nat} {c : Value} (h : Qu w base e (.slice (some ⟨g, o, none⟩) n cap) (c :: cs)) : ∃ o' cap', sliced (some ⟨g, o, none⟩) 1 n cap 1 = .slice (some ⟨g, o', none⟩) cs.length cap' ∧ Qu w base e (.slice (some ⟨g, o', none⟩) cs.length cap') cs := by
  obtain ⟨g', o', cap', cur, h1, h2, h3, h4, h5, h6, h7⟩ := h
  obtain ⟨⟨rfl, rfl⟩, rfl, rfl⟩ : (g = g' ∧ o = o') ∧ n = cs.length + 1 ∧ cap = cap' := by simpa using h1
  simp only [List.length_cons] at h4 h7
  have h8 : (cur.toList.drop (o + 1)).take cs.length = cs := by
    have := congrArg (List.drop 1) h7
    rw [List.drop_take, List.drop_drop] at this
    simpa using this
  unfold sliced
  by_cases hc : cap = 1
  · subst hc
    have : cs = [] := List.length_eq_zero_iff.1 (by omega)
    subst this
    exact ⟨o, 0, by simp, g, o, 0, cur, rfl, h2, h3, by omega, by simp [maxLen], by omega, by simp⟩
  · exact ⟨o + 1, cap - 1, by simp [hc, Addr.add_lit], g, o + 1, cap - 1, cur, rfl, h2, h3, by omega, by omega, by omega, h8⟩
end

/-- 's[1:]' at an element type of one cell. -/
theorem run_tail1 {P : Program} (w : World) (t e : TypeId) (z : Value) (bytes : Nat) (ht : P.underlying t = some (.slice e)) (hinfo : (P.info? e).map (fun i => (i.zero, i.size, i.bytes)) = some (some z, 1, bytes)) (a : Option Addr) (n cap : Nat) :
    (Instr.slice t (.slice a (n + 1) cap) (some (.int .i64 1)) none none).run P w = .ok (sliced a 1 (n + 1) cap 1) w := by
  obtain ⟨i, hi, hz, hsize, hby⟩ := info_parts hinfo
  have he : P.elem t = e := by simp [Program.elem, ht]
  have ht' : P.underlying t = some (.slice (P.elem t)) := by rw [he]; exact ht
  rw [run_slice_l (P := P) w t a (n + 1) cap ht' .i64 1 (by omega) (by omega)]
  simp [he, sizeOf, typeInfo, hi, hsize]

theorem run_append_room_at {P : Program} (w : World) (t ty e : TypeId) (i : TypeInfo) (ht : P.underlying t = some (.slice e)) (hi : P.info? e = some i) (h1s : i.size = 1)
    (g o sLen sCap : Nat) (cur : Array Value) (hg : w.heap[g]? = some (.cells cur e (0, 0)))
    (a : Addr) (m c : Nat) (news : List Value) (hl : news.length = m) (hnews : ∀ j u, news[j]? = some u → w.cell? (a.add j) = some u) (h1 : ∀ u ∈ news, u.oneCell' = true)
    (hroom : sLen + m ≤ sCap) (hfit : o + sLen + news.length ≤ cur.size) :
    (Builtin.append_ #[t, t] ty #[.slice (some ⟨g, o, none⟩) sLen sCap, .slice (some a) m c]).run P w =
      .ok (.slice (some ⟨g, o, none⟩) (sLen + m) sCap) (w.setRow g (cur.toList.take (o + sLen) ++ news ++ cur.toList.drop (o + sLen + news.length)).toArray) := by
  have hf := run_firstCells_some (P := P) w i.size m a m c news (by rw [h1s]; omega) hnews
  have hst := run_storeCells_at P g (o + sLen * i.size) e news 0 cur w hg (by rw [h1s]; simpa using hfit) h1
  simp only [Nat.add_zero, h1s, Nat.mul_one] at hst
  simp only [h1s] at hf
  simp [Builtin.append_, run_underlying ht, sizeOf, typeInfo, hi, h1s, Builtin.lenOf, hroom, hf, Addr.add_lit, hst]

theorem run_append_qu {P : Program} (w : World) (base : Nat) (t ty e : TypeId) (i : TypeInfo) (z : Value) (bytes : Nat) (ht : P.underlying t = some (.slice e)) (hi : P.info? e = some i) (hz : i.zero = some z)
    (hsize : i.size = 1) (hby : i.bytes = bytes) (hzs : z.cells.size = 1)
    (v : Value) (xs : List Value) (hown : Qu w base e v xs)
    (a : Addr) (m c : Nat) (news : List Value) (hl : news.length = m) (hnews : ∀ j u, news[j]? = some u → w.cell? (a.add j) = some u) (h1 : ∀ u ∈ news, u.oneCell' = true)
    (h63 : xs.length + m ≤ maxLen) (hbytes : (xs.length + m) * bytes ≤ 140737488355328) (hbase : base ≤ w.heap.size) :
    ∃ v' w', (Builtin.append_ #[t, t] ty #[v, .slice (some a) m c]).run P w = .ok v' w' ∧ Qu w' base e v' (xs ++ news) ∧ w.grownBy w' v.ownBlock ∧ (∀ k, v'.ownBlock = some k → v.ownBlock = some k ∨ w.heap.size ≤ k) := by
  subst hby
  have hsmall : xs.length + m ≤ 9223372036854775807 := by simp only [maxLen] at h63; omega
  obtain ⟨g, o, cap, cur, rfl, h2, h3, h4, h5, h6, h7⟩ := id hown
  by_cases hroom : xs.length + m ≤ cap
  · have hr := run_append_room_at (P := P) w t ty e i ht hi hsize g o xs.length cap cur h3 a m c news hl hnews h1 hroom (by omega)
    refine ⟨_, _, hr, ⟨g, o, cap, _, by simp [hl], h2, setRow_heap w g cur _ e _ h3, by simp; omega, h5, ?_, ?_⟩, ⟨rfl, rfl, rfl, by simp, fun k _ hk => setRow_other w g k _ (fun e => hk (by simp [Value.ownBlock, e]))⟩, fun k hk => .inl (by simpa [Value.ownBlock] using hk)⟩
    · simp
      omega
    · rw [List.append_assoc, List.drop_append_of_le_length (by simp; omega)]
      have e1 : (cur.toList.take (o + xs.length)).drop o = xs := by
        rw [List.drop_take]
        simpa using h7
      rw [e1, List.length_append, ← List.append_assoc, ← List.length_append]
      exact List.take_left
  · have hr := run_append_grow (P := P) w t ty e i z ht hi hz ⟨g, o, none⟩ xs.length cap xs (by rw [hsize]; omega) hown.cells a m c news (by rw [hsize]; omega) hnews (by omega) (by omega) (growslice_fits (by omega) hbytes)
    have hge := grownCap_ge w (xs.length + m) cap e
    have hcm : grownCap w (xs.length + m) cap e ≤ maxLen := grownCap_le_maxLen w (xs.length + m) cap e h63
    refine ⟨_, _, hr, ⟨w.heap.size, 0, _, _, by simp [hl], hbase, heap_alloc_new w.drew _, by simp; omega, hcm, ?_, ?_⟩, ⟨rfl, rfl, rfl, by simp, fun k hk _ => Below.heap_alloc w.drew _ k hk⟩, fun k hk => .inr (by simp [Value.ownBlock] at hk; omega)⟩
    · simp only [Array.size_append, List.size_toArray, size_zeroCells, hzs, hl]
      omega
    · simp only [Array.toList_append, List.drop_zero]
      exact List.take_left

/-- One more element behind a queue: what 'append(s, y)' does, in one step. -/
theorem wpList_qpush {P : Program} (wr : World) {ops : Array Oper} {rest : List Oper} {o : Oper} {a : Act} {Q : Exit → Act → World → Prop} (hgd : o.guard = none) (s x : Operand) (t : TypeId)
    (ho : o.op = .call { callee := .builtin .append, args := #[s, x], argTypes := #[t, t] })
    (base : Nat) (e e2 : TypeId) (z : Value) (bytes : Nat) (ht : P.underlying t = some (.slice e)) (hinfo : (P.info? e).map (fun i => (i.zero, i.size, i.bytes)) = some (some z, 1, bytes)) (hzs : z.cells.size = 1)
    (v : Value) (n : Nat) (xs : List Value) (hs : a.eval s = v) (hn : xs.length = n) (hown : Qu wr base e v xs)
    (y : Value) (hx : a.eval x = .slice (some ⟨wr.heap.size, 0, none⟩) 1 1) (hy : y.oneCell' = true)
    (h63 : n + 1 ≤ maxLen) (hbytes : (n + 1) * bytes ≤ 140737488355328) (hbase : base ≤ wr.heap.size)
    (h : ∀ g' o' c' w', Qu w' base e (.slice (some ⟨g', o', none⟩) (n + 1) c') (xs ++ [y]) → wr.grownBy w' v.ownBlock → (v.ownBlock = some g' ∨ wr.heap.size ≤ g') → wpList P ops Q rest (a.put o.dst (.slice (some ⟨g', o', none⟩) (n + 1) c')) w') :
    wpList P ops Q (o :: rest) a (wr.alloc (.cells #[y] e2)) := by
  subst hn
  obtain ⟨i, hi, hz, hsize, hby⟩ := info_parts hinfo
  have hown2 : Qu (wr.alloc (.cells #[y] e2)) base e v xs := hown.below ((Below.refl _ _).alloc (Nat.le_refl _) _)
  refine wpList_plain hgd fun K hK => ?_
  obtain ⟨v', w', hrun, h2, h3, h4⟩ := run_append_qu (P := P) (wr.alloc (.cells #[y] e2)) base t o.type e i z bytes ht hi hz hsize hby hzs v xs hown2 ⟨wr.heap.size, 0, none⟩ 1 1 [y] rfl
    (fun j u hj => by
      match j, hj with
      | 0, hj => simp at hj; subst hj; simp [Addr.add])
    (fun u hu => by simp at hu; subst hu; exact hy) h63 hbytes (by simp; omega)
  unfold Oper.wp execOp
  simp only [ho, resolve, invoke, builtin, Sem.run_bind, Sem.run_pure, Result.andThen_ok, List.map_toArray, List.map_cons, List.map_nil, hs, hx, hrun]
  obtain ⟨g', o', c', rfl⟩ := h2.shape
  rw [List.length_append] at h2 ⊢
  refine hK _ _ (h g' o' c' w' h2 ⟨h3.os, h3.tape, h3.output, ?_, fun k hk hne => ?_⟩ ?_)
  · have := h3.size; simp at this; omega
  · exact (h3.block k (by simp; omega) hne).trans (Below.heap_alloc _ _ _ hk)
  · rcases h4 g' rfl with h | h
    · exact .inl h
    · refine .inr ?_; simp at h; omega
/-- The same, the address of the built slice spelled otherwise. -/
theorem wpList_qpush_at {P : Program} (wr : World) {ops : Array Oper} {rest : List Oper} {o : Oper} {a : Act} {Q : Exit → Act → World → Prop} (hgd : o.guard = none) (s x : Operand) (t : TypeId)
    (ho : o.op = .call { callee := .builtin .append, args := #[s, x], argTypes := #[t, t] })
    (base : Nat) (e e2 : TypeId) (z : Value) (bytes : Nat) (ht : P.underlying t = some (.slice e)) (hinfo : (P.info? e).map (fun i => (i.zero, i.size, i.bytes)) = some (some z, 1, bytes)) (hzs : z.cells.size = 1)
    (v : Value) (n : Nat) (xs : List Value) (hs : a.eval s = v) (hn : xs.length = n) (hown : Qu wr base e v xs)
    (g0 : Nat) (hg0 : g0 = wr.heap.size) (y : Value) (hx : a.eval x = .slice (some ⟨g0, 0, none⟩) 1 1) (hy : y.oneCell' = true)
    (h63 : n + 1 ≤ maxLen) (hbytes : (n + 1) * bytes ≤ 140737488355328) (hbase : base ≤ wr.heap.size)
    (h : ∀ g' o' c' w', Qu w' base e (.slice (some ⟨g', o', none⟩) (n + 1) c') (xs ++ [y]) → wr.grownBy w' v.ownBlock → (v.ownBlock = some g' ∨ wr.heap.size ≤ g') → wpList P ops Q rest (a.put o.dst (.slice (some ⟨g', o', none⟩) (n + 1) c')) w') :
    wpList P ops Q (o :: rest) a (wr.alloc (.cells #[y] e2)) := by
  subst hg0
  exact wpList_qpush wr hgd s x t ho base e e2 z bytes ht hinfo hzs v n xs hs hn hown y hx hy h63 hbytes hbase h
end Go.Proofs.Ytpfhflkpnjkgkaa
/-
  'l16Reach' of the reference: what is reached from a vertex within a set.
-/


namespace Go.Proofs.Ytpfhflkpnjkgkaa
open Go.RowKit

def natInts (T : List Nat) : List Value := ints (T.map fun (i : Nat) => (i : Int))
@[simp] theorem natInts_length (T : List Nat) : (natInts T).length = T.length := by simp [natInts]
theorem qtail_nat {w : World} {base : Nat} {e : TypeId} {g o n cap x : Nat} {T : List Nat} (h : Qu w base e (.slice (some ⟨g, o, none⟩) n cap) (natInts (x :: T))) :
    ∃ o' cap', sliced (some ⟨g, o, none⟩) 1 n cap 1 = .slice (some ⟨g, o', none⟩) T.length cap' ∧ Qu w base e (.slice (some ⟨g, o', none⟩) T.length cap') (natInts T) := by
  have := Qu.tail (cs := natInts T) h
  rwa [natInts_length] at this
def slLen : Value → Nat
  | .slice _ n _ => n
  | _ => 0
structure Bfs (n : Nat) (e : Nat → Nat → Bool) (p : Nat → Bool) (s : Nat) (o : Nat → Bool) (T : List Nat) : Prop where
  start : o s = true
  ways : ∀ b, o b = true → b < n ∧ Way n e p s b
  todo : ∀ a ∈ T, o a = true
  closed : ∀ a, o a = true → a ∈ T ∨ ∀ b, b < n → e a b = true → p b = true → o b = true
structure Bfs2 (n : Nat) (e : Nat → Nat → Bool) (p : Nat → Bool) (s a j : Nat) (o : Nat → Bool) (T : List Nat) : Prop where
  start : o s = true
  at_ : o a = true
  ways : ∀ b, o b = true → b < n ∧ Way n e p s b
  todo : ∀ a ∈ T, o a = true
  closed : ∀ x, o x = true → x = a ∨ x ∈ T ∨ ∀ b, b < n → e x b = true → p b = true → o b = true
  near : ∀ b : Nat, (b : Int) ∈ (rowB n p).take j → e a b = true → o b = true
section
variable {n : Nat} {e : Nat → Nat → Bool} {p o : Nat → Bool} {s a j q : Nat} {T : List Nat}
theorem Bfs.first (hs : s < n) : Bfs n e p s (fun b => decide (b = s)) [s] := by
  refine ⟨by simp, fun b hb => ?_, fun x hx => by simpa using hx, fun x hx => .inl (by simpa using hx)⟩
  simp at hb; subst hb; exact ⟨hs, .here⟩
theorem Bfs.enter (h : Bfs n e p s o (a :: T)) : Bfs2 n e p s a 0 o T := by
  refine ⟨h.start, h.todo a (by simp), h.ways, fun x hx => h.todo x (by simp [hx]), fun x hx => ?_, fun b hb => by simp at hb⟩
  rcases h.closed x hx with h1 | h1
  · rcases List.mem_cons.1 h1 with h1 | h1
    · exact .inl h1
    · exact .inr (.inl h1)
  · exact .inr (.inr h1)
theorem Bfs2.skip (h : Bfs2 n e p s a j o T) (hq : (rowB n p)[j]? = some (q : Int)) (hn : e a q = true → o q = true) : Bfs2 n e p s a (j + 1) o T := by
  refine ⟨h.start, h.at_, h.ways, h.todo, h.closed, fun b hb he => ?_⟩
  rw [take_snoc hq, List.mem_append] at hb
  rcases hb with hb | hb
  · exact h.near b hb he
  · simp at hb
    obtain rfl : b = q := by omega
    exact hn he
theorem Bfs2.put (h : Bfs2 n e p s a j o T) (hq : (rowB n p)[j]? = some (q : Int)) (he : e a q = true) : Bfs2 n e p s a (j + 1) (fun b => o b || decide (b = q)) (T ++ [q]) := by
  obtain ⟨q', hqn, hpq, e1⟩ := row_at hq
  obtain rfl : q = q' := by omega
  refine ⟨by simp [h.start], by simp [h.at_], fun b hb => ?_, fun x hx => ?_, fun x hx => ?_, fun b hb he' => ?_⟩
  · rw [Bool.or_eq_true] at hb
    rcases hb with hb | hb
    · exact h.ways b hb
    · simp at hb; subst hb
      exact ⟨hqn, .step (h.ways a h.at_).2 hqn he hpq⟩
  · rcases List.mem_append.1 hx with hx | hx
    · simp [h.todo x hx]
    · simp at hx; simp [hx]
  · rw [Bool.or_eq_true] at hx
    rcases hx with hx | hx
    · rcases h.closed x hx with h1 | h1 | h1
      · exact .inl h1
      · exact .inr (.inl (by simp [h1]))
      · exact .inr (.inr fun b h2 h3 h4 => by simp [h1 b h2 h3 h4])
    · simp at hx; exact .inr (.inl (by simp [hx]))
  · rw [take_snoc hq, List.mem_append] at hb
    rcases hb with hb | hb
    · simp [h.near b hb he']
    · simp at hb
      obtain rfl : b = q := by omega
      simp
theorem Bfs2.leave (h : Bfs2 n e p s a (rowB n p).length o T) : Bfs n e p s o T := by
  refine ⟨h.start, h.ways, h.todo, fun x hx => ?_⟩
  rcases h.closed x hx with h1 | h1 | h1
  · refine .inr fun b h2 h3 h4 => ?_
    rw [h1] at h3
    exact h.near b (by rw [List.take_length]; exact nat_mem_rowB.2 ⟨h2, h4⟩) h3
  · exact .inl h1
  · exact .inr h1
theorem Bfs.done (h : Bfs n e p s o []) : o = wayB n e p s := by
  refine way_pt h.start h.ways fun a b ha hb he hp => ?_
  rcases h.closed a ha with h1 | h1
  · cases h1
  · exact h1 b hb he hp
end

set_option maxHeartbeats 4000000 in
theorem l16Reach_any (g : Value) (n : Nat) (e : Nat → Nat → Bool) (hn : n ≤ 16) (v2 : Value) (p : Nat → Bool) (s : Nat) (hs : s < n) (S : Int) (hS : S = s) (w : World) (hr : RdSS g (rowsB n e) w) (hp : RdS v2 (rowB n p) w) :
    Calls Try.prog 58 #[.agg #[g], v2, .int .i64 S, .bool false] w (SRes w (rowB n (wayB n e p s))) := by
  obtain ⟨a, c, rfl⟩ := hr.shape
  obtain ⟨a2, c2, rfl, -, -, -⟩ := id hp
  rw [rowsB_length] at hr ⊢
  have hpl := rowB_length n p
  subst hS
  obtain ⟨B, hB⟩ : ∃ B, w.heap.size = B := ⟨_, rfl⟩
  obtain ⟨W0, hW0⟩ : ∃ W0, W0 = w.alloc (.cells #[.slice a n c] 42) := ⟨_, rfl⟩
  obtain ⟨W1, hW1⟩ : ∃ W1, W1 = W0.alloc (.cells #[.int .i64 s] 2) := ⟨_, rfl⟩
  obtain ⟨W2, hW2⟩ : ∃ W2, W2 = W1.alloc (.cells #[.int .i64 s] 2) := ⟨_, rfl⟩
  have hz0 : W0.heap.size = B + 1 := by simp [hW0, hB]
  have hz1 : W1.heap.size = B + 2 := by simp [hW1, hz0]
  have hz2 : W2.heap.size = B + 3 := by simp [hW2, hz1]
  have u0 : Below B w W0 := by rw [hW0, ← hB]; exact below_alloc' _ _
  have VG0 : VC 42 B #[.slice a n c] W0 := by rw [hW0]; exact VC.new hB
  have u1 : Below (B + 1) W0 W1 := by rw [hW1, ← hz0]; exact below_alloc' _ _
  have u2 : Below (B + 2) W1 W2 := by rw [hW2, ← hz1]; exact below_alloc' _ _
  have u02 : Below (B + 1) W0 W2 := u1.trans (u2.mono (by omega))
  have ho1 : W1.ownsRow (B + 1) 2 1 (.slice (some ⟨B + 1, 0, none⟩) 1 1) 1 (natInts [s]) := by
    rw [hW1, ← hz0]
    exact World.ownsRow_lit W0 #[.int .i64 s] 1 (Nat.le_refl _) (by simp [maxLen]) rfl
  have ho2 : W2.ownsRow (B + 1) 2 1 (.slice (some ⟨B + 1, 0, none⟩) 1 1) 1 (natInts [s]) := owns_below ho1 (hz1.symm ▸ u2)
  have hq2' : W2.ownsRow (B + 2) 2 1 (.slice (some ⟨B + 2, 0, none⟩) 1 1) 1 (natInts [s]) := by
    rw [hW2, ← hz1]
    exact World.ownsRow_lit W1 #[.int .i64 s] 1 (Nat.le_refl _) (by simp [maxLen]) rfl
  have hq2 : Qu W2 (B + 1) 2 (.slice (some ⟨B + 2, 0, none⟩) 1 1) (natInts [s]) := Qu.of_owns (cs := natInts [s]) (owns_base hq2' (by omega))
  have hrs : rowB n (fun b => decide (b = s)) = [(s : Int)] := by
    rw [← nums_maskB (by omega : n ≤ 32), ← pow_maskB hs]
    have hs0 : into (nums 0) s = nums (0 ||| 2 ^ s) := into_nums 0 s (by omega)
    rw [Nat.zero_or] at hs0
    rw [← hs0]
    simp [nums, bitsOf_zero, into]
  clear hq2' u1 u2 ho1
  go_enter Try.func58, Try.ntmps58
  go_wp2_with fail
  rw [← hW0, ← hW1, ← hW2]
  clear hW0 hW1 hW2
  have hbW : Below (B + 1) W2 W2 := Below.refl _ _
  go_loopw [9, 10] (fun u td wr => ∃ (os : List Int) (T : List Nat) (o : Nat → Bool), Hid (os = rowB n o) ∧ os.length ≤ n ∧ T.length ≤ os.length ∧ Hid (Bfs n e p s o T) ∧ u.ownBlock ≠ td.ownBlock ∧ wr.ownsRow (B + 1) 2 1 u os.length (ints os) ∧ Qu wr (B + 1) 2 td (natInts T) ∧ Below (B + 1) W2 wr) (fun u td _ => slLen td + (n - slLen u))
  case atStart => exact ⟨[(s : Int)], [s], _, Lib.hid hrs.symm, by simp; omega, by simp, Lib.hid (Bfs.first hs), by simp [Value.ownBlock], ho2, hq2, hbW⟩
  case round =>
    clear ho2 hq2 hbW
    obtain ⟨os, T, o, HOS, hol, hTl, HI, hne, ho, hq, hb⟩ := hrel
    have hsz := hb.size
    have hbw := u0.trans ((u02.trans hb).mono (by omega))
    have VGr := VG0.belowAt (u02.trans hb) (by omega)
    have hcg := VGr.cell
    cases T with
    | nil =>
      have HD : Hid (os = rowB n (wayB n e p s)) := Lib.hid (by rw [HOS.out, HI.out.done])
      obtain ⟨qg, qo, qc, rfl⟩ := hq.shape
      obtain ⟨ua, uc, rfl⟩ := owns_shape ho
      go_wp2_with fail
      go_ret
      rw [← HD.out]
      exact ⟨_, rfl, by rw [hB]; exact owns_base ho (by omega), by rw [hB]; exact hbw⟩
    | cons x T1 =>
      obtain ⟨qg, qo, qc, rfl⟩ := hq.shape
      have hcx := hq.cells 0 (.int .i64 x) (by simp [natInts, ints])
      rw [Addr.add_lit, Nat.add_zero] at hcx
      obtain ⟨to, tc, htail, hq1⟩ := qtail_nat hq
      have hsl := run_tail1 (P := Try.prog) wr 26 2 _ _ Try.underlying26 infoI (some ⟨qg, qo, none⟩) T1.length qc
      rw [natInts_length] at htail hne
      rw [show T1.length + 1 = (x :: T1).length from rfl, htail] at hsl
      rw [natInts_length]
      rw [List.length_cons] at hsl hne ⊢
      have hTl2 : T1.length + 1 ≤ os.length := by simpa using hTl
      have hT16 : T1.length + 1 ≤ n := by omega
      clear hTl
      have hxn : x < n := (HI.out.ways x (HI.out.todo x (by simp))).1
      have HE := Lib.hid HI.out.enter
      obtain ⟨ua, uc, rfl⟩ := owns_shape ho
      have hne1 : (Value.slice ua os.length uc).ownBlock ≠ (Value.slice (some ⟨qg, to, none⟩) T1.length tc).ownBlock := hne
      clear htail hne hq HI hbw
      go_wp2_with fail
      clear hsl hcx hcg VGr
      go_loopw [9, 10, 12] (fun u td i wr => ∃ (j : Nat) (os' : List Int) (T' : List Nat) (o' : Nat → Bool), j ≤ (rowB n p).length ∧ i = .int .i64 j ∧ Hid (os' = rowB n o') ∧ os'.length ≤ n ∧ T'.length + os.length = T1.length + os'.length ∧ Hid (Bfs2 n e p s x j o' T') ∧ u.ownBlock ≠ td.ownBlock ∧ wr.ownsRow (B + 1) 2 1 u os'.length (ints os') ∧ Qu wr (B + 1) 2 td (natInts T') ∧ Below (B + 1) W2 wr) (fun _ _ i _ => (rowB n p).length - (intOf i).toNat)
      case atStart => exact ⟨0, os, T1, o, Nat.zero_le _, rfl, HOS, hol, rfl, HE, hne1, ho, hq1, hb⟩
      case round =>
        clear hne1 ho hq1 hb HE HOS hsz
        obtain ⟨j, os', T', o', hj, rfl, HOS, hol', hcnt, HI, hne, ho, hq, hb⟩ := hrel
        have hsz := hb.size
        have hbw := u0.trans ((u02.trans hb).mono (by omega))
        have VGr := VG0.belowAt (u02.trans hb) (by omega)
        have hcg := VGr.cell
        obtain ⟨kg, ko, kc, rfl⟩ := hq.shape
        obtain ⟨va, vc, rfl⟩ := owns_shape ho
        rw [natInts_length] at hne hq ⊢
        by_cases hlt : j < (rowB n p).length
        · obtain ⟨yb, yo, y, rfl, hcy, HY⟩ := Row.intAt (RdS.below hp hbw hB) hlt
          obtain ⟨q, hqn, hpq, rfl⟩ := row_at HY.out
          obtain ⟨vsr, hGx⟩ := (hr.below hbw hB).ex
          obtain ⟨rb, ro, r, xs, rfl, hc, hxr, -, HXX⟩ := hGx.intsAt (k := x) (by simpa using hxn)
          obtain rfl : rowB n (e x) = xs := by have h := HXX.out; rw [rowsB_at e hxn] at h; exact Option.some.inj h
          have HH1 := Lib.hid (has_any r (rowB n (e x)) q wr hxr)
          have HH2 := Lib.hid (has_any (.slice va os'.length vc) os' q wr (Row.of_owns ho))
          rw [contains_rowB, decide_eq_true hqn, Bool.true_and] at HH1
          rw [show os'.contains (q : Int) = o' q by rw [HOS.out, contains_rowB, decide_eq_true hqn, Bool.true_and]] at HH2
          obtain ⟨b1, HB1⟩ : ∃ b, Hid (e x q = b) := ⟨_, Lib.hid rfl⟩
          obtain ⟨b2, HB2⟩ : ∃ b, Hid (o' q = b) := ⟨_, Lib.hid rfl⟩
          rw [HB1.out] at HH1
          rw [HB2.out] at HH2
          clear hGx HXX hxr
          by_cases hqx : q = x
          · have hd : ((q : Int) != (x : Int)) = false := by simp [hqx]
            have HSK := Lib.hid (HI.out.skip HY.out (fun _ => by rw [hqx]; exact HI.out.at_))
            clear hqx
            go_wp2_with fail
            go_roundw
            case rel => exact ⟨j + 1, os', T', o', by omega, by go_num, HOS, hol', hcnt, HSK, hne, ho, hq, hb⟩
            case measure => simp [intOf]; omega
          · have hd : ((q : Int) != (x : Int)) = true := by rw [bne_iff_ne]; omega
            clear hqx
            cases b1 with
            | false =>
              have HSK := Lib.hid (HI.out.skip HY.out (fun h => by rw [HB1.out] at h; cases h))
              go_wp2_with fail
              refine HH1.out.mono ?_
              rintro e1 w' ⟨rfl, rfl⟩
              go_wp2_with fail
              go_roundw
              case rel => exact ⟨j + 1, os', T', o', by omega, by go_num, HOS, hol', hcnt, HSK, hne, ho, hq, hb⟩
              case measure => simp [intOf]; omega
            | true =>
              cases b2 with
              | true =>
                have HSK := Lib.hid (HI.out.skip HY.out (fun _ => HB2.out))
                go_wp2_with fail
                refine HH1.out.mono ?_
                rintro e1 w' ⟨rfl, rfl⟩
                go_wp2_with fail
                refine HH2.out.mono ?_
                rintro e1 w' ⟨rfl, rfl⟩
                go_wp2_with fail
                go_roundw
                case rel => exact ⟨j + 1, os', T', o', by omega, by go_num, HOS, hol', hcnt, HSK, hne, ho, hq, hb⟩
                case measure => simp [intOf]; omega
              | false =>
                have HPU := Lib.hid (HI.out.put HY.out HB1.out)
                have HIN := Lib.hid (into_any (.slice va os'.length vc) os' q wr (Row.of_owns ho) (by omega))
                obtain ⟨os2, HO2⟩ : ∃ os2, Hid (into os' q = os2) := ⟨_, Lib.hid rfl⟩
                rw [HO2.out] at HIN
                have HE : Hid (os2 = rowB n (fun b => o' b || decide (b = q))) := Lib.hid (by rw [← HO2.out, HOS.out, into_rowB (by omega) _ hqn])
                have hol2 : os2.length = os'.length + 1 := by rw [HE.out, HOS.out]; exact rowB_put_length HB2.out hqn
                have hol3 : os2.length ≤ n := by rw [HE.out]; exact rowB_length _ _
                have hT' : T'.length ≤ n := by omega
                have hos2 : os2 ≠ os' := fun h => by rw [h] at hol2; omega
                have HNE := Lib.hid hos2
                have HOL2 := Lib.hid hol2
                clear hos2 hol2
                go_wp2_with fail
                refine HH1.out.mono ?_
                rintro e1 w' ⟨rfl, rfl⟩
                go_wp2_with fail
                refine HH2.out.mono ?_
                rintro e1 w' ⟨rfl, rfl⟩
                go_wp2_with fail
                refine HIN.out.mono ?_
                rintro e1 w3 ⟨u3, rfl, hu3, hb3⟩
                have ho3 : w3.ownsRow wr.heap.size 2 1 u3 os2.length (ints os2) := by
                  rcases hu3 with ⟨_, h⟩ | ho3
                  · exact (HNE.out h).elim
                  · exact ho3
                obtain ⟨wa, wc, rfl⟩ := owns_shape ho3
                have hb4 := hb.trans (hb3.mono (by omega))
                have hq3 := hq.below hb3
                have hz3 := hb3.size
                have hkb : kg < wr.heap.size := (hq.lt rfl).2
                clear hu3 hb3 HIN ho hq hb hbw hcg VGr hcy hc
                go_wp2_with (at_builtin; refine wpList_qpush _ rfl _ _ 26 rfl (B + 1) 2 _ _ 8 Try.underlying26 infoI rfl (.slice (some ⟨kg, ko, none⟩) T'.length kc) T'.length (natInts T') rfl (natInts_length _) hq3 _ rfl rfl (by unfold maxLen; omega) (by omega) (by omega) ?_; intro g' o4 c' w4 hq4 hg hwh)
                have hne4 : (Value.slice wa os2.length wc).ownBlock ≠ (Value.slice (some ⟨g', o4, none⟩) (T'.length + 1) c').ownBlock := fun h => by
                  obtain ⟨h1, h2⟩ := owns_lt ho3 (b := g') (by rw [h]; rfl)
                  rcases hwh with hwh | hwh
                  · simp [Value.ownBlock] at hwh; omega
                  · omega
                have ho4 : w4.ownsRow (B + 1) 2 1 (.slice wa os2.length wc) os2.length (ints os2) := owns_base (ho3.kept hg (.inr fun h => by
                  have := owns_lt ho3 (b := kg) (by rw [h]; rfl)
                  omega)) (by omega)
                have hb5 := hb4.grown hg (by omega) (fun b hb' => (hq3.lt hb').1)
                have hq5 : Qu w4 (B + 1) 2 (.slice (some ⟨g', o4, none⟩) (T'.length + 1) c') (natInts (T' ++ [q])) := by simpa [natInts, ints] using hq4
                clear hq4 hg hwh hq3 ho3 hb4
                go_wp2_with fail
                go_roundw
                case rel => exact ⟨j + 1, os2, T' ++ [q], _, by omega, by go_num, HE, hol3, by have := HOL2.out; simp; omega, HPU, hne4, ho4, hq5, hb5⟩
                case measure => simp [intOf]; omega
        · obtain rfl : j = (rowB n p).length := by omega
          have HL := Lib.hid HI.out.leave
          go_wp2_with fail
          go_roundw
          case rel => exact ⟨os', T', o', HOS, hol', by omega, HL, hne, ho, hq, hb⟩
          case measure => simp [slLen]; omega
end Go.Proofs.Ytpfhflkpnjkgkaa
