/-
  Bundles for functions that build a graph: the reference's graph in a variable, the program's nets.
-/
import Derived.Test.YtbhobmngnjfgfaaDoorLink
namespace Go.Proofs.YtbhobmngnjfgfaaDoor
open Go.RowKit

/-- Block b is a variable of type Graph that holds the slice v. -/
def GC (w : World) (b : Nat) (v : Value) : Prop := w.heap[b]? = some (.cells #[v] 56 (0, 0))
section
variable {w w' : World} {b : Nat} {v : Value}
theorem GC.lt (h : GC w b v) : b < w.heap.size := lt_of_block h
theorem GC.cell (h : GC w b v) : w.cell? ⟨b, 0, none⟩ = some v := cell_of_one h
theorem GC.free (h : GC w b v) : w.frozen? ⟨b, 0, none⟩ = false := free_of_one h
theorem GC.below (h : GC w b v) (hb : Below w.heap.size w w') : GC w' b v := (hb.block b h.lt).trans h
theorem GC.belowAt (h : GC w b v) {B : Nat} (hb : Below B w w') (hB : b < B) : GC w' b v := (hb.block b hB).trans h
theorem GC.set (h : GC w b v) (u : Value) : GC (w.setCell ⟨b, 0, none⟩ u) b u := one_setCell h
theorem GC.other (h : GC w b v) {p : Addr} (hp : b ≠ p.block) (u : Value) : GC (w.setCell p u) b v := (Below.heap_setCell _ _ _ _ hp).trans h
theorem GC.new (w : World) (v : Value) : GC (w.alloc (.cells #[v] 56)) w.heap.size v := heap_alloc_new w _
theorem GC.alloc (h : GC w b v) (o : Obj) : GC (w.alloc o) b v := (Below.heap_alloc _ _ _ h.lt).trans h
theorem GC.drew (h : GC w b v) : GC w.drew b v := h
theorem GC.wrote {S : Nat → Prop} (h : GC w b v) (hw : Wrote w w' S) (hS : ¬ S b) : GC w' b v := (hw.block b h.lt hS).trans h
/-- What is owned lies in no such variable. -/
theorem GC.unlike {base : Nat} {e : TypeId} {u : Value} {n : Nat} {cs : List Value} (h : GC w b v) (ho : w.ownsRow base e 1 u n cs) (he : 56 ≠ e) : u.ownBlock ≠ some b := fun e' => by
  obtain ⟨cur, hcur⟩ := owns_block ho e'
  unfold GC at h
  rw [h] at hcur
  simp at hcur
  exact he hcur.2
theorem GC.own {base : Nat} {u x : Value} {vs : List Value} {css : List (List Value)} (h : GC w b v) (hG : OwnG w base 30 2 u vs css) : OwnG (w.setCell ⟨b, 0, none⟩ x) base 30 2 u vs css :=
  hG.unlike_setCell (p := ⟨b, 0, none⟩) (c := #[v]) (t := 56) (fr := (0, 0)) h (by decide) (by decide) x
end

theorem below_alloc (w : World) (o : Obj) : Below w.heap.size w (w.alloc o) := (Below.refl _ _).alloc (Nat.le_refl _) _

/-- The reference builds a graph: B holds the result (nothing yet), C the graph, whose rows are the sets ms. -/
structure SG (w0 : World) (B C : Nat) (a : Option Addr) (n c : Nat) (vs : List Value) (ms : List Nat) (wr : World) : Prop where
  res : GC wr B (.slice none 0 0)
  var : GC wr C (.slice a n c)
  own : OwnG wr (B + 1) 30 2 (.slice a n c) vs ((rowsOf ms).map ints)
  bel : Below B w0 wr
  ord : B < C
  len : ms.length = n

theorem SG.start {w0 w1 : World} {B : Nat} {a : Option Addr} {n c : Nat} {vs : List Value} {ms : List Nat} (hR : GC w1 B (.slice none 0 0)) (hG : OwnG w1 (B + 1) 30 2 (.slice a n c) vs ((rowsOf ms).map ints)) (hb : Below B w0 w1) (hl : ms.length = n) :
    SG w0 B w1.heap.size a n c vs ms (w1.alloc (.cells #[.slice a n c] 56)) :=
  ⟨hR.alloc _, GC.new _ _, hG.below (below_alloc _ _), hb.alloc (by have := hR.lt; omega) _, hR.lt, hl⟩

theorem SG.store {w0 : World} {B C : Nat} {a : Option Addr} {n c : Nat} {vs : List Value} {ms : List Nat} {wr : World} (h : SG w0 B C a n c vs ms wr) : SG w0 B C a n c vs ms (wr.setCell ⟨C, 0, none⟩ (.slice a n c)) :=
  ⟨h.res.other (by have := h.ord; simp; omega) _, h.var.set _, h.var.own h.own, h.bel.setCell (by have := h.ord; simp; omega) _, h.ord, h.len⟩

theorem SG.below {w0 : World} {B C : Nat} {a : Option Addr} {n c : Nat} {vs : List Value} {ms : List Nat} {wr w' : World} (h : SG w0 B C a n c vs ms wr) (hb : Below wr.heap.size wr w') : SG w0 B C a n c vs ms w' :=
  ⟨h.res.below hb, h.var.below hb, h.own.below hb, h.bel.trans (hb.mono (by have := h.res.lt; omega)), h.ord, h.len⟩

theorem SG.link {w0 : World} {B C : Nat} {a : Option Addr} {n c : Nat} {vs : List Value} {ms : List Nat} {wr : World} (h : SG w0 B C a n c vs ms wr) (i j : Nat) (I J : Int) (hI : I = i) (hJ : J = j) (hi : i < n) (hj : j < n) (hn : n ≤ 32) :
    Calls Tryd.prog 172 #[.agg #[.slice a n c], .int .i64 I, .int .i64 J] wr fun e w' => e = .returned (.agg #[.slice a n c]) ∧ ∃ vs', SG w0 B C a n c vs' (joinS ms i j) w' := by
  have hl := h.len
  have hB := h.res.lt
  refine (link_sets (B + 1) (.slice a n c) vs ms i j I J hI hJ wr (by omega) (by omega) (by omega) (by omega) (by omega) (by omega) h.own).mono ?_
  rintro e w2 ⟨vs2, rfl, hG2, hw2⟩
  refine ⟨rfl, vs2, h.res.wrote hw2 ?_, h.var.wrote hw2 ?_, hG2, h.bel.trans (hw2.below (by omega) fun k hk => by have := (owns_lt h.own.outer hk).1; omega), h.ord, by simpa using hl⟩
  · exact h.res.unlike h.own.outer (by decide)
  · exact h.var.unlike h.own.outer (by decide)

theorem SG.done {w0 : World} {B C : Nat} {a : Option Addr} {n c : Nat} {vs : List Value} {ms : List Nat} {wr : World} (h : SG w0 B C a n c vs ms wr) (hB : w0.heap.size = B) (ok : Bool) :
    GRes w0 (rowsOf ms) ok (.returned (.tuple #[.agg #[.slice a n c], .bool ok])) (wr.setCell ⟨B, 0, none⟩ (.slice a n c)) :=
  ⟨_, vs, rfl, by rw [hB]; exact (h.res.own h.own).rebase (by omega), by rw [hB]; exact h.bel.setCell (by simp) _⟩

/-- No graph. -/
theorem GRes.nothing (w w' : World) (hb : Below w.heap.size w w') : GRes w [] false (.returned (.tuple #[.agg #[.slice none 0 0], .bool false])) w' :=
  ⟨_, [], rfl, OwnG.nil _ _ (by decide) (World.ownsRow_nil _ _ _ 1), hb⟩

/-- The program builds nets: v owns the sets ms. -/
structure NS (B : Nat) (w0 : World) (v : Value) (ms : List Nat) (wr : World) : Prop where
  own : wr.ownsRow B 98 1 v ms.length (sets ms)
  small : Small ms
  bel : Below B w0 wr

theorem NS.join {B : Nat} {w0 : World} {v : Value} {ms : List Nat} {wr : World} (h : NS B w0 v ms wr) (hB : B ≤ wr.heap.size) (i j : Nat) (I J : Int) (hI : I = i) (hJ : J = j) (hi : i < ms.length) (hj : j < ms.length) (hn : ms.length ≤ 32) :
    Calls Tryd.prog 129 #[v, .int .i64 I, .int .i64 J] wr fun e w' => e = .returned (.tuple #[]) ∧ NS B w0 v (joinS ms i j) w' ∧ wr.grownBy w' v.ownBlock := by
  refine (join_at B v ms i j I J hI hJ h.small hi hj (by omega) (by omega) wr h.own).mono ?_
  rintro e w' ⟨rfl, ho, hg⟩
  exact ⟨rfl, ⟨by rw [joinS_length]; exact ho, h.small.join (by omega) (by omega), h.bel.trans (below_of_grown hg hB fun k hk => (owns_lt h.own hk).1)⟩, hg⟩

theorem NS.graph {B : Nat} {w0 : World} {v : Value} {ms : List Nat} {wr : World} (h : NS B w0 v ms wr) (ht : Tab w0) (hB : 2 < B) (hn : ms.length ≤ 1000) :
    Calls Tryd.prog 130 #[v] wr fun e w' => ∃ u vs, e = .returned (.agg #[u]) ∧
      OwnG w' wr.heap.size 30 2 u vs ((rowsOf ms).map ints) ∧ Below wr.heap.size wr w' :=
  graph_any v ms h.small (by omega) wr (ht.keep h.bel hB) (Row.of_owns h.own)

/-- The program's result: what 'graph' made, stored in the variable of the result. -/
theorem GRes.stored {w0 wr w' : World} {B : Nat} {r u : Value} {vs : List Value} {ms : List Nat} (hB : w0.heap.size = B) (hr : GC wr B r) (hb : Below B w0 wr) (hG : OwnG w' wr.heap.size 30 2 u vs ((rowsOf ms).map ints)) (hb' : Below wr.heap.size wr w') (ok : Bool) :
    GRes w0 (rowsOf ms) ok (.returned (.tuple #[.agg #[u], .bool ok])) (w'.setCell ⟨B, 0, none⟩ u) := by
  have h1 := hr.lt
  exact ⟨u, vs, rfl, by rw [hB]; exact ((hr.below hb').own hG).rebase (Nat.le_of_lt h1), by rw [hB]; exact (hb.trans (hb'.mono (Nat.le_of_lt h1))).setCell (Nat.le_refl _) _⟩
end Go.Proofs.YtbhobmngnjfgfaaDoor
