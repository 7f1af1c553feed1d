import Derived.Test.YtpfhflkpnjkgkaaDoorAppendJn
/-
  Plain facts about memory: a queue, that is a slice of one's own that may begin inside its block; its tail, and 'append' onto it. No program in sight.
-/

namespace Go.Proofs.YtpfhflkpnjkgkaaDoor
open Go.RowKit

def Qu (w : World) (base : Nat) (e : TypeId) (v : Value) (cs : List Value) : Prop :=
  ∃ g o cap cur, v = .slice (some ⟨g, o, none⟩) cs.length cap ∧ base ≤ g ∧ w.heap[g]? = some (.cells cur e (0, 0)) ∧ cs.length ≤ cap ∧ cap ≤ maxLen ∧ o + cap ≤ cur.size ∧ (cur.toList.drop o).take cs.length = cs

section
variable {w w' : World} {base : Nat} {e : TypeId} {v : Value} {cs : List Value}
theorem Qu.of_owns {g cap : Nat} (h : w.ownsRow base e 1 (.slice (some ⟨g, 0, none⟩) cs.length cap) cs.length cs) : Qu w base e (.slice (some ⟨g, 0, none⟩) cs.length cap) cs := by
  obtain ⟨_, ⟨h1, _⟩ | ⟨g', cap', cur, h1, h2, h3, h4, h5, h6, h7⟩⟩ := h
  · simp at h1
  · obtain ⟨rfl, rfl⟩ : g = g' ∧ cap = cap' := by simpa using h1
    exact ⟨g, 0, cap, cur, rfl, h2, h3, h4, h5, by omega, by simpa using h7⟩
theorem Qu.shape (h : Qu w base e v cs) : ∃ g o cap, v = .slice (some ⟨g, o, none⟩) cs.length cap := by
  obtain ⟨g, o, cap, cur, rfl, _⟩ := h
  exact ⟨g, o, cap, rfl⟩
theorem Qu.cells {g o cap : Nat} (h : Qu w base e (.slice (some ⟨g, o, none⟩) cs.length cap) cs) : ∀ j u, cs[j]? = some u → w.cell? ((⟨g, o, none⟩ : Addr).add j) = some u := by
  obtain ⟨g', o', cap', cur, h1, h2, h3, h4, h5, h6, h7⟩ := h
  obtain ⟨⟨rfl, rfl⟩, rfl⟩ : (g = g' ∧ o = o') ∧ cap = cap' := by simpa using h1
  intro j u hj
  rw [Addr.add_lit, cell_of_row w g (o + j) cur e (0, 0) h3]
  rw [← h7, List.getElem?_take] at hj
  split at hj
  · rw [List.getElem?_drop] at hj
    simpa using hj
  · cases hj
theorem Qu.row (h : Qu w base e v cs) : Row w 1 v cs.length cs := by
  obtain ⟨g, o, cap, cur, rfl, h2, h3, h4, h5, h6, h7⟩ := id h
  refine ⟨_, cap, rfl, h4, h5, by omega, by simp, fun j u hj => ⟨g, o, rfl, ?_⟩⟩
  have := h.cells j u hj
  rwa [Addr.add_lit] at this
theorem Qu.lt (h : Qu w base e v cs) {b : Nat} (hb : v.ownBlock = some b) : base ≤ b ∧ b < w.heap.size := by
  obtain ⟨g, o, cap, cur, rfl, h2, h3, _⟩ := h
  simp [Value.ownBlock] at hb
  subst hb
  exact ⟨h2, (Array.getElem?_eq_some_iff.1 h3).1⟩
theorem Qu.below (h : Qu w base e v cs) (hb : Below w.heap.size w w') : Qu w' base e v cs := by
  obtain ⟨g, o, cap, cur, rfl, h2, h3, r⟩ := h
  exact ⟨g, o, cap, cur, rfl, h2, (hb.block g (Array.getElem?_eq_some_iff.1 h3).1).trans h3, r⟩
theorem Qu.kept {row : Option Nat} (h : Qu w base e v cs) (hg : w.grownBy w' row) (hne : v.ownBlock ≠ row) : Qu w' base e v cs := by
  obtain ⟨g, o, cap, cur, rfl, h2, h3, r⟩ := h
  exact ⟨g, o, cap, cur, rfl, h2, (hg.block g (Array.getElem?_eq_some_iff.1 h3).1 (fun e => hne (by simpa [Value.ownBlock] using e))).trans h3, r⟩
/-- Without its first one. -/
theorem Qu.tail {g o n cap : Nat} {c : Value} (h : Qu w base e (.slice (some ⟨g, o, none⟩) n cap) (c :: cs)) : ∃ o' cap', sliced (some ⟨g, o, none⟩) 1 n cap 1 = .slice (some ⟨g, o', none⟩) cs.length cap' ∧ Qu w base e (.slice (some ⟨g, o', none⟩) cs.length cap') cs := by
  obtain ⟨g', o', cap', cur, h1, h2, h3, h4, h5, h6, h7⟩ := h
  obtain ⟨⟨rfl, rfl⟩, rfl, rfl⟩ : (g = g' ∧ o = o') ∧ n = cs.length + 1 ∧ cap = cap' := by simpa using h1
  simp only [List.length_cons] at h4 h7
  have h8 : (cur.toList.drop (o + 1)).take cs.length = cs := by
    have := congrArg (List.drop 1) h7
    rw [List.drop_take, List.drop_drop] at this
    simpa using this
  unfold sliced
  by_cases hc : cap = 1
  · subst hc
    have : cs = [] := List.length_eq_zero_iff.1 (by omega)
    subst this
    exact ⟨o, 0, by simp, g, o, 0, cur, rfl, h2, h3, by omega, by simp [maxLen], by omega, by simp⟩
  · exact ⟨o + 1, cap - 1, by simp [hc, Addr.add_lit], g, o + 1, cap - 1, cur, rfl, h2, h3, by omega, by omega, by omega, h8⟩
end

/-- 's[1:]' at an element type of one cell. -/
theorem run_tail1 {P : Program} (w : World) (t e : TypeId) (z : Value) (bytes : Nat) (ht : P.underlying t = some (.slice e)) (hinfo : (P.info? e).map (fun i => (i.zero, i.size, i.bytes)) = some (some z, 1, bytes)) (a : Option Addr) (n cap : Nat) :
    (Instr.slice t (.slice a (n + 1) cap) (some (.int .i64 1)) none none).run P w = .ok (sliced a 1 (n + 1) cap 1) w := by
  obtain ⟨i, hi, hz, hsize, hby⟩ := info_parts hinfo
  have he : P.elem t = e := by simp [Program.elem, ht]
  have ht' : P.underlying t = some (.slice (P.elem t)) := by rw [he]; exact ht
  rw [run_slice_l (P := P) w t a (n + 1) cap ht' .i64 1 (by omega) (by omega)]
  simp [he, sizeOf, typeInfo, hi, hsize]

theorem run_append_room_at {P : Program} (w : World) (t ty e : TypeId) (i : TypeInfo) (ht : P.underlying t = some (.slice e)) (hi : P.info? e = some i) (h1s : i.size = 1)
    (g o sLen sCap : Nat) (cur : Array Value) (hg : w.heap[g]? = some (.cells cur e (0, 0)))
    (a : Addr) (m c : Nat) (news : List Value) (hl : news.length = m) (hnews : ∀ j u, news[j]? = some u → w.cell? (a.add j) = some u) (h1 : ∀ u ∈ news, u.oneCell' = true)
    (hroom : sLen + m ≤ sCap) (hfit : o + sLen + news.length ≤ cur.size) :
    (Builtin.append_ #[t, t] ty #[.slice (some ⟨g, o, none⟩) sLen sCap, .slice (some a) m c]).run P w =
      .ok (.slice (some ⟨g, o, none⟩) (sLen + m) sCap) (w.setRow g (cur.toList.take (o + sLen) ++ news ++ cur.toList.drop (o + sLen + news.length)).toArray) := by
  have hf := run_firstCells_some (P := P) w i.size m a m c news (by rw [h1s]; omega) hnews
  have hst := run_storeCells_at P g (o + sLen * i.size) e news 0 cur w hg (by rw [h1s]; simpa using hfit) h1
  simp only [Nat.add_zero, h1s, Nat.mul_one] at hst
  simp only [h1s] at hf
  simp [Builtin.append_, run_underlying ht, sizeOf, typeInfo, hi, h1s, Builtin.lenOf, hroom, hf, Addr.add_lit, hst]

theorem run_append_qu {P : Program} (w : World) (base : Nat) (t ty e : TypeId) (i : TypeInfo) (z : Value) (bytes : Nat) (ht : P.underlying t = some (.slice e)) (hi : P.info? e = some i) (hz : i.zero = some z)
    (hsize : i.size = 1) (hby : i.bytes = bytes) (hzs : z.cells.size = 1)
    (v : Value) (xs : List Value) (hown : Qu w base e v xs)
    (a : Addr) (m c : Nat) (news : List Value) (hl : news.length = m) (hnews : ∀ j u, news[j]? = some u → w.cell? (a.add j) = some u) (h1 : ∀ u ∈ news, u.oneCell' = true)
    (h63 : xs.length + m ≤ maxLen) (hbytes : (xs.length + m) * bytes ≤ 140737488355328) (hbase : base ≤ w.heap.size) :
    ∃ v' w', (Builtin.append_ #[t, t] ty #[v, .slice (some a) m c]).run P w = .ok v' w' ∧ Qu w' base e v' (xs ++ news) ∧ w.grownBy w' v.ownBlock ∧ (∀ k, v'.ownBlock = some k → v.ownBlock = some k ∨ w.heap.size ≤ k) := by
  subst hby
  have hsmall : xs.length + m ≤ 9223372036854775807 := by simp only [maxLen] at h63; omega
  obtain ⟨g, o, cap, cur, rfl, h2, h3, h4, h5, h6, h7⟩ := id hown
  by_cases hroom : xs.length + m ≤ cap
  · have hr := run_append_room_at (P := P) w t ty e i ht hi hsize g o xs.length cap cur h3 a m c news hl hnews h1 hroom (by omega)
    refine ⟨_, _, hr, ⟨g, o, cap, _, by simp [hl], h2, setRow_heap w g cur _ e _ h3, by simp; omega, h5, ?_, ?_⟩, ⟨rfl, rfl, rfl, by simp, fun k _ hk => setRow_other w g k _ (fun e => hk (by simp [Value.ownBlock, e]))⟩, fun k hk => .inl (by simpa [Value.ownBlock] using hk)⟩
    · simp
      omega
    · rw [List.append_assoc, List.drop_append_of_le_length (by simp; omega)]
      have e1 : (cur.toList.take (o + xs.length)).drop o = xs := by
        rw [List.drop_take]
        simpa using h7
      rw [e1, List.length_append, ← List.append_assoc, ← List.length_append]
      exact List.take_left
  · have hr := run_append_grow (P := P) w t ty e i z ht hi hz ⟨g, o, none⟩ xs.length cap xs (by rw [hsize]; omega) hown.cells a m c news (by rw [hsize]; omega) hnews (by omega) (by omega) (growslice_fits (by omega) hbytes)
    have hge := grownCap_ge w (xs.length + m) cap e
    have hcm : grownCap w (xs.length + m) cap e ≤ maxLen := grownCap_le_maxLen w (xs.length + m) cap e h63
    refine ⟨_, _, hr, ⟨w.heap.size, 0, _, _, by simp [hl], hbase, heap_alloc_new w.drew _, by simp; omega, hcm, ?_, ?_⟩, ⟨rfl, rfl, rfl, by simp, fun k hk _ => Below.heap_alloc w.drew _ k hk⟩, fun k hk => .inr (by simp [Value.ownBlock] at hk; omega)⟩
    · simp only [Array.size_append, List.size_toArray, size_zeroCells, hzs, hl]
      omega
    · simp only [Array.toList_append, List.drop_zero]
      exact List.take_left

/-- One more element behind a queue: what 'append(s, y)' does, in one step. -/
theorem wpList_qpush {P : Program} (wr : World) {ops : Array Oper} {rest : List Oper} {o : Oper} {a : Act} {Q : Exit → Act → World → Prop} (hgd : o.guard = none) (s x : Operand) (t : TypeId)
    (ho : o.op = .call { callee := .builtin .append, args := #[s, x], argTypes := #[t, t] })
    (base : Nat) (e e2 : TypeId) (z : Value) (bytes : Nat) (ht : P.underlying t = some (.slice e)) (hinfo : (P.info? e).map (fun i => (i.zero, i.size, i.bytes)) = some (some z, 1, bytes)) (hzs : z.cells.size = 1)
    (v : Value) (n : Nat) (xs : List Value) (hs : a.eval s = v) (hn : xs.length = n) (hown : Qu wr base e v xs)
    (y : Value) (hx : a.eval x = .slice (some ⟨wr.heap.size, 0, none⟩) 1 1) (hy : y.oneCell' = true)
    (h63 : n + 1 ≤ maxLen) (hbytes : (n + 1) * bytes ≤ 140737488355328) (hbase : base ≤ wr.heap.size)
    (h : ∀ g' o' c' w', Qu w' base e (.slice (some ⟨g', o', none⟩) (n + 1) c') (xs ++ [y]) → wr.grownBy w' v.ownBlock → (v.ownBlock = some g' ∨ wr.heap.size ≤ g') → wpList P ops Q rest (a.put o.dst (.slice (some ⟨g', o', none⟩) (n + 1) c')) w') :
    wpList P ops Q (o :: rest) a (wr.alloc (.cells #[y] e2)) := by
  subst hn
  obtain ⟨i, hi, hz, hsize, hby⟩ := info_parts hinfo
  have hown2 : Qu (wr.alloc (.cells #[y] e2)) base e v xs := hown.below ((Below.refl _ _).alloc (Nat.le_refl _) _)
  refine wpList_plain hgd fun K hK => ?_
  obtain ⟨v', w', hrun, h2, h3, h4⟩ := run_append_qu (P := P) (wr.alloc (.cells #[y] e2)) base t o.type e i z bytes ht hi hz hsize hby hzs v xs hown2 ⟨wr.heap.size, 0, none⟩ 1 1 [y] rfl
    (fun j u hj => by
      match j, hj with
      | 0, hj => simp at hj; subst hj; simp [Addr.add])
    (fun u hu => by simp at hu; subst hu; exact hy) h63 hbytes (by simp; omega)
  unfold Oper.wp execOp
  simp only [ho, resolve, invoke, builtin, Sem.run_bind, Sem.run_pure, Result.andThen_ok, List.map_toArray, List.map_cons, List.map_nil, hs, hx, hrun]
  obtain ⟨g', o', c', rfl⟩ := h2.shape
  rw [List.length_append] at h2 ⊢
  refine hK _ _ (h g' o' c' w' h2 ⟨h3.os, h3.tape, h3.output, ?_, fun k hk hne => ?_⟩ ?_)
  · have := h3.size; simp at this; omega
  · exact (h3.block k (by simp; omega) hne).trans (Below.heap_alloc _ _ _ hk)
  · rcases h4 g' rfl with h | h
    · exact .inl h
    · refine .inr ?_; simp at h; omega
/-- The same, the address of the built slice spelled otherwise. -/
theorem wpList_qpush_at {P : Program} (wr : World) {ops : Array Oper} {rest : List Oper} {o : Oper} {a : Act} {Q : Exit → Act → World → Prop} (hgd : o.guard = none) (s x : Operand) (t : TypeId)
    (ho : o.op = .call { callee := .builtin .append, args := #[s, x], argTypes := #[t, t] })
    (base : Nat) (e e2 : TypeId) (z : Value) (bytes : Nat) (ht : P.underlying t = some (.slice e)) (hinfo : (P.info? e).map (fun i => (i.zero, i.size, i.bytes)) = some (some z, 1, bytes)) (hzs : z.cells.size = 1)
    (v : Value) (n : Nat) (xs : List Value) (hs : a.eval s = v) (hn : xs.length = n) (hown : Qu wr base e v xs)
    (g0 : Nat) (hg0 : g0 = wr.heap.size) (y : Value) (hx : a.eval x = .slice (some ⟨g0, 0, none⟩) 1 1) (hy : y.oneCell' = true)
    (h63 : n + 1 ≤ maxLen) (hbytes : (n + 1) * bytes ≤ 140737488355328) (hbase : base ≤ wr.heap.size)
    (h : ∀ g' o' c' w', Qu w' base e (.slice (some ⟨g', o', none⟩) (n + 1) c') (xs ++ [y]) → wr.grownBy w' v.ownBlock → (v.ownBlock = some g' ∨ wr.heap.size ≤ g') → wpList P ops Q rest (a.put o.dst (.slice (some ⟨g', o', none⟩) (n + 1) c')) w') :
    wpList P ops Q (o :: rest) a (wr.alloc (.cells #[y] e2)) := by
  subst hg0
  exact wpList_qpush wr hgd s x t ho base e e2 z bytes ht hinfo hzs v n xs hs hn hown y hx hy h63 hbytes hbase h
end Go.Proofs.YtpfhflkpnjkgkaaDoor
