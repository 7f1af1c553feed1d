import Derived.Test.YtbhobmngnjfgfaaDoorAppendJn
import Derived.Test.YtbhobmngnjfgfaaDoorGq16
/-
  Small helps for the laws that draw.
-/


namespace Go.Proofs.YtbhobmngnjfgfaaDoor
open Go.RowKit
/-- A memory in which a cell reads so. -/
structure KeptC (G : Nat) (g : Value) where
  W : World
  h : W.cell? ⟨G, 0, none⟩ = some g
theorem Tab.updD {w w' : World} {D : Nat} (h : Tab w) (u : Upd D (D + 1) w w') (hD : 2 < D) : Tab w' := fun i hi => (World.cell?_of_block (u.block _ h.lt (by dsimp only; omega))).trans (h i hi)
theorem Upd.ofB {D : Nat} {w w' : World} (h : Below w.heap.size w w') : Upd D (D + 1) w w' := (Upd.of_below h).wide (by omega)
/-- 'append(s, y)' in one step; the row stays where it was, or lies in new memory. -/
theorem wpList_push_wh {P : Program} (wr : World) {ops : Array Oper} {rest : List Oper} {o : Oper} {a : Act} {Q : Exit → Act → World → Prop} (hgd : o.guard = none) (s x : Operand) (t : TypeId)
    (ho : o.op = .call { callee := .builtin .append, args := #[s, x], argTypes := #[t, t] })
    (base : Nat) (e e2 : TypeId) (z : Value) (bytes : Nat) (ht : P.underlying t = some (.slice e)) (hinfo : (P.info? e).map (fun i => (i.zero, i.size, i.bytes)) = some (some z, 1, bytes)) (hzs : z.cells.size = 1)
    (v : Value) (n : Nat) (xs : List Value) (hs : a.eval s = v) (hown : wr.ownsRow base e 1 v n xs)
    (y : Value) (hx : a.eval x = .slice (some ⟨wr.heap.size, 0, none⟩) 1 1) (hy : y.oneCell' = true)
    (h63 : n + 1 ≤ maxLen) (hbytes : (n + 1) * bytes ≤ 140737488355328) (hbase : base ≤ wr.heap.size)
    (h : ∀ g' c' w', w'.ownsRow base e 1 (.slice (some ⟨g', 0, none⟩) (n + 1) c') (n + 1) (xs ++ [y]) → wr.grownBy w' v.ownBlock → (v.ownBlock = some g' ∨ wr.heap.size ≤ g') → wpList P ops Q rest (a.put o.dst (.slice (some ⟨g', 0, none⟩) (n + 1) c')) w') :
    wpList P ops Q (o :: rest) a (wr.alloc (.cells #[y] e2)) := by
  have hlit : (wr.alloc (.cells #[y] e2)).ownsRow wr.heap.size e2 1 (.slice (some ⟨wr.heap.size, 0, none⟩) 1 1) 1 [y] := World.ownsRow_lit wr #[y] 1 (Nat.le_refl _) (by simp [maxLen]) rfl
  refine wpList_extend_where (wr.alloc (.cells #[y] e2)) hgd s x t ho base e z bytes ht hinfo hzs v n xs hs (hown.alloc _) _ 1 [y] (by omega) hx (Row.of_owns hlit) (by simp [hy]) h63 hbytes (by simp; omega) ?_
  intro g' c' w' h1 h2 h3
  refine h g' c' w' h1 ⟨h2.os, h2.tape, h2.output, ?_, fun k hk hne => ?_⟩ ?_
  · have := h2.size; simp at this; omega
  · exact (h2.block k (by simp; omega) hne).trans (Below.heap_alloc _ _ _ hk)
  · rcases h3 with h3 | h3
    · exact .inl h3
    · right; simp at h3; omega

end Go.Proofs.YtbhobmngnjfgfaaDoor
