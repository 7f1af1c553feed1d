import Derived.Test.YtpfhflkpnjkgkaaDoorGq06
/-
  Bundles for functions that build a graph: the reference's graph in a variable, the program's nets.
-/

namespace Go.Proofs.YtpfhflkpnjkgkaaDoor
open Go.RowKit

/-- Block b is a variable of type Graph that holds the slice v. -/
def GC (w : World) (b : Nat) (v : Value) : Prop := w.heap[b]? = some (.cells #[v] 38 (0, 0))
section
variable {w w' : World} {b : Nat} {v : Value}
theorem GC.lt (h : GC w b v) : b < w.heap.size := lt_of_block h
theorem GC.cell (h : GC w b v) : w.cell? ⟨b, 0, none⟩ = some v := cell_of_one h
theorem GC.free (h : GC w b v) : w.frozen? ⟨b, 0, none⟩ = false := free_of_one h
theorem GC.below (h : GC w b v) (hb : Below w.heap.size w w') : GC w' b v := (hb.block b h.lt).trans h
theorem GC.belowAt (h : GC w b v) {B : Nat} (hb : Below B w w') (hB : b < B) : GC w' b v := (hb.block b hB).trans h
theorem GC.set (h : GC w b v) (u : Value) : GC (w.setCell ⟨b, 0, none⟩ u) b u := one_setCell h
theorem GC.other (h : GC w b v) {p : Addr} (hp : b ≠ p.block) (u : Value) : GC (w.setCell p u) b v := (Below.heap_setCell _ _ _ _ hp).trans h
theorem GC.new (w : World) (v : Value) : GC (w.alloc (.cells #[v] 38)) w.heap.size v := heap_alloc_new w _
theorem GC.alloc (h : GC w b v) (o : Obj) : GC (w.alloc o) b v := (Below.heap_alloc _ _ _ h.lt).trans h
theorem GC.drew (h : GC w b v) : GC w.drew b v := h
theorem GC.wrote {S : Nat → Prop} (h : GC w b v) (hw : Wrote w w' S) (hS : ¬ S b) : GC w' b v := (hw.block b h.lt hS).trans h
/-- What is owned lies in no such variable. -/
theorem GC.unlike {base : Nat} {e : TypeId} {u : Value} {n : Nat} {cs : List Value} (h : GC w b v) (ho : w.ownsRow base e 1 u n cs) (he : 38 ≠ e) : u.ownBlock ≠ some b := fun e' => by
  obtain ⟨cur, hcur⟩ := owns_block ho e'
  unfold GC at h
  rw [h] at hcur
  simp at hcur
  exact he hcur.2
theorem GC.own {base : Nat} {u x : Value} {vs : List Value} {css : List (List Value)} (h : GC w b v) (hG : OwnG w base 24 2 u vs css) : OwnG (w.setCell ⟨b, 0, none⟩ x) base 24 2 u vs css :=
  hG.unlike_setCell (p := ⟨b, 0, none⟩) (c := #[v]) (t := 38) (fr := (0, 0)) h (by decide) (by decide) x
end

theorem below_alloc (w : World) (o : Obj) : Below w.heap.size w (w.alloc o) := (Below.refl _ _).alloc (Nat.le_refl _) _

/-- The reference builds a graph: B holds the result (nothing yet), C the graph, whose rows are the sets ms. -/
structure SG (w0 : World) (B C : Nat) (a : Option Addr) (n c : Nat) (vs : List Value) (ms : List Nat) (wr : World) : Prop where
  res : GC wr B (.slice none 0 0)
  var : GC wr C (.slice a n c)
  own : OwnG wr (B + 1) 24 2 (.slice a n c) vs ((rowsOf ms).map ints)
  bel : Below B w0 wr
  ord : B < C
  len : ms.length = n

theorem SG.start {w0 w1 : World} {B : Nat} {a : Option Addr} {n c : Nat} {vs : List Value} {ms : List Nat} (hR : GC w1 B (.slice none 0 0)) (hG : OwnG w1 (B + 1) 24 2 (.slice a n c) vs ((rowsOf ms).map ints)) (hb : Below B w0 w1) (hl : ms.length = n) :
    SG w0 B w1.heap.size a n c vs ms (w1.alloc (.cells #[.slice a n c] 38)) :=
  ⟨hR.alloc _, GC.new _ _, hG.below (below_alloc _ _), hb.alloc (by have := hR.lt; omega) _, hR.lt, hl⟩

theorem SG.store {w0 : World} {B C : Nat} {a : Option Addr} {n c : Nat} {vs : List Value} {ms : List Nat} {wr : World} (h : SG w0 B C a n c vs ms wr) : SG w0 B C a n c vs ms (wr.setCell ⟨C, 0, none⟩ (.slice a n c)) :=
  ⟨h.res.other (by have := h.ord; simp; omega) _, h.var.set _, h.var.own h.own, h.bel.setCell (by have := h.ord; simp; omega) _, h.ord, h.len⟩

theorem SG.below {w0 : World} {B C : Nat} {a : Option Addr} {n c : Nat} {vs : List Value} {ms : List Nat} {wr w' : World} (h : SG w0 B C a n c vs ms wr) (hb : Below wr.heap.size wr w') : SG w0 B C a n c vs ms w' :=
  ⟨h.res.below hb, h.var.below hb, h.own.below hb, h.bel.trans (hb.mono (by have := h.res.lt; omega)), h.ord, h.len⟩

theorem SG.done {w0 : World} {B C : Nat} {a : Option Addr} {n c : Nat} {vs : List Value} {ms : List Nat} {wr : World} (h : SG w0 B C a n c vs ms wr) (hB : w0.heap.size = B) (ok : Bool) :
    GRes w0 (rowsOf ms) ok (.returned (.tuple #[.agg #[.slice a n c], .bool ok])) (wr.setCell ⟨B, 0, none⟩ (.slice a n c)) :=
  ⟨_, vs, rfl, by rw [hB]; exact (h.res.own h.own).rebase (by omega), by rw [hB]; exact h.bel.setCell (by simp) _⟩

/-- No graph. -/
theorem GRes.nothing (w w' : World) (hb : Below w.heap.size w w') : GRes w [] false (.returned (.tuple #[.agg #[.slice none 0 0], .bool false])) w' :=
  ⟨_, [], rfl, OwnG.nil _ _ (by decide) (World.ownsRow_nil _ _ _ 1), hb⟩

/-- The program builds nets: v owns the sets ms. -/
structure NS (B : Nat) (w0 : World) (v : Value) (ms : List Nat) (wr : World) : Prop where
  own : wr.ownsRow B 54 1 v ms.length (sets ms)
  small : Small ms
  bel : Below B w0 wr

/-- The program's result: what 'graph' made, stored in the variable of the result. -/
theorem GRes.stored {w0 wr w' : World} {B : Nat} {r u : Value} {vs : List Value} {ms : List Nat} (hB : w0.heap.size = B) (hr : GC wr B r) (hb : Below B w0 wr) (hG : OwnG w' wr.heap.size 24 2 u vs ((rowsOf ms).map ints)) (hb' : Below wr.heap.size wr w') (ok : Bool) :
    GRes w0 (rowsOf ms) ok (.returned (.tuple #[.agg #[u], .bool ok])) (w'.setCell ⟨B, 0, none⟩ u) := by
  have h1 := hr.lt
  exact ⟨u, vs, rfl, by rw [hB]; exact ((hr.below hb').own hG).rebase (Nat.le_of_lt h1), by rw [hB]; exact (hb.trans (hb'.mono (Nat.le_of_lt h1))).setCell (Nat.le_refl _) _⟩
end Go.Proofs.YtpfhflkpnjkgkaaDoor
