/-
  What a law is told of an argument []Fact, as a struct Formula.
-/
import Derived.Test.YtbhobmngnjfgfaaDoorArgs2
import Derived.Test.YtbhobmngnjfgfaaDoorForK
import Derived.Deep.Slices
import Derived.Deep.Strs
import Derived.ChangeArms
namespace Go.Proofs.YtbhobmngnjfgfaaDoor
open Go.ChangeShapes Go.WideShapes Go.ChangeAt Go.RowKit Go.Deep Go.Joins

theorem row_of_cellsF {w : World} {a : Option Addr} {n c : Nat} {cs : List Value} (hn : n ≤ c) (hc : c ≤ maxLen) (hl : cs.length = n * 3) (h0 : a = none → c = 0)
    (h : ∀ x, a = some x → ∀ j u, cs[j]? = some u → w.cell? (x.add j) = some u) : Row w 3 (.slice a n c) n cs := by
  refine ⟨a, c, rfl, hn, hc, by omega, h0, fun j u hj => ?_⟩
  have hjl : j < cs.length := (List.getElem?_eq_some_iff.1 hj).1
  cases a with
  | none => have := h0 rfl; omega
  | some x =>
    have hz := h x rfl 0 (cs[0]'(by omega)) (by simp)
    rcases addr_of hz with ⟨b, o, rfl⟩ | h'
    · exact ⟨b, o, rfl, cell_add (h _ rfl j u hj)⟩
    · omega

section
variable {H : Type} {enc : TypeId × Value → H} {w : World} {r : Reach} {b0 base : Nat} {held : Bool} {v : Value} {d : DataW H} {p : List MemPlace}

set_option maxRecDepth 100000 in
theorem cellsF_arg {fuel : Nat} {x : DataW H × List MemPlace} (hf : DataW.trod enc Tryd.prog w base (fun _ => true) held fuel 39 [v] = some x) : ∃ L, RdF v L w := by
  rcases open_slice Tryd.underlying39 hf with ⟨hcs, _⟩ | ⟨a', len, cap, m, n, D, Pl, hcs, _, hlc, hcm, hm, _, hi⟩
  · obtain rfl : v = .slice none 0 0 := by simpa using hcs
    exact ⟨[], row_of_cellsF (Nat.le_refl _) (Nat.zero_le _) rfl (fun _ => rfl) (fun x hx => by cases hx)⟩
  · obtain rfl : v = .slice (some a') len cap := by simpa using hcs
    simp only [if_true] at hm
    have hC : Tryd.prog.cellsOf 171 = 3 := by kernel_rfl
    have each : ∀ i, i < len → ∃ p : Int × Int × Int, w.cell? (a'.add (i * 3)) = some (.int .i64 p.1) ∧ w.cell? (a'.add (i * 3 + 1)) = some (.int .i64 p.2.1) ∧ w.cell? (a'.add (i * 3 + 2)) = some (.int .i64 p.2.2) := fun i hil => by
      obtain ⟨cs', hc, ht'⟩ := hi i (by omega)
      rw [hC] at hc
      obtain ⟨_, hcl, hat⟩ := World.cells?_some hc
      obtain ⟨y0, y1, y2, n', _, _, h0, h1, h2⟩ := trod_struct3 Tryd.underlying171 ht'
      match cs', hcl, hat, h0, h1, h2 with
      | [c0, c1, c2], _, hat, h0, h1, h2 =>
        have g0 : DataW.trod enc Tryd.prog w base (fun _ => true) held n' 2 [c0] = some y0 := h0
        obtain ⟨x0, e0, _, _⟩ := DataW.trod_int Tryd.underlying2 g0
        obtain rfl : c0 = .int .i64 x0 := by simpa using e0
        have g1 : DataW.trod enc Tryd.prog w base (fun _ => true) held n' 2 [c1] = some y1 := h1
        obtain ⟨x1, e1, _, _⟩ := DataW.trod_int Tryd.underlying2 g1
        obtain rfl : c1 = .int .i64 x1 := by simpa using e1
        have g2 : DataW.trod enc Tryd.prog w base (fun _ => true) held n' 2 [c2] = some y2 := h2
        obtain ⟨x2, e2, _, _⟩ := DataW.trod_int Tryd.underlying2 g2
        obtain rfl : c2 = .int .i64 x2 := by simpa using e2
        refine ⟨(x0, x1, x2), by have h := hat 0 (by omega); rw [Go.Deep.add_add] at h; simpa using h, by have h := hat 1 (by omega); rw [Go.Deep.add_add] at h; simpa using h, by have h := hat 2 (by omega); rw [Go.Deep.add_add] at h; simpa using h⟩
    have hf : ∀ i, ∃ p : Int × Int × Int, i < len → w.cell? (a'.add (i * 3)) = some (.int .i64 p.1) ∧ w.cell? (a'.add (i * 3 + 1)) = some (.int .i64 p.2.1) ∧ w.cell? (a'.add (i * 3 + 2)) = some (.int .i64 p.2.2) := fun i => by
      by_cases h : i < len
      · obtain ⟨p, hp⟩ := each i h
        exact ⟨p, fun _ => hp⟩
      · exact ⟨(0, 0, 0), fun h' => (h h').elim⟩
    obtain ⟨f, hf⟩ := Classical.axiomOfChoice hf
    refine ⟨(List.range len).map f, ?_⟩
    have hll : ((List.range len).map f).length = len := by simp
    unfold RdF
    rw [hll]
    refine row_of_cellsF hlc hcm (by simp) (fun e => by cases e) fun x hx j u hj => ?_
    cases hx
    have hjl : j < len * 3 := by have := (List.getElem?_eq_some_iff.1 hj).1; simpa using this
    have hil : j / 3 < len := by omega
    have hp : ((List.range len).map f)[j / 3]? = some (f (j / 3)) := by rw [List.getElem?_map, List.getElem?_range hil]; rfl
    obtain ⟨g0, g1, g2⟩ := cellsF_at hp
    obtain ⟨k0, k1, k2⟩ := hf (j / 3) hil
    have hmod : j = j / 3 * 3 ∨ j = j / 3 * 3 + 1 ∨ j = j / 3 * 3 + 2 := by omega
    rcases hmod with h | h | h
    · have e : u = .int .i64 (f (j / 3)).1 := by
        have h2 := g0
        rw [← h, hj] at h2
        exact Option.some.inj h2
      have h3 := k0
      rw [← h] at h3
      rw [e]
      exact h3
    · have e : u = .int .i64 (f (j / 3)).2.1 := by
        have h2 := g1
        rw [← h, hj] at h2
        exact Option.some.inj h2
      have h3 := k1
      rw [← h] at h3
      rw [e]
      exact h3
    · have e : u = .int .i64 (f (j / 3)).2.2 := by
        have h2 := g2
        rw [← h, hj] at h2
        exact Option.some.inj h2
      have h3 := k2
      rw [← h] at h3
      rw [e]
      exact h3

set_option maxRecDepth 100000 in
theorem formulaArg (hv : Value.okWide Tryd.prog w r b0 41 v) (h : DataW.Trod enc Tryd.prog w base (fun _ => true) held 41 v d p) : ∃ u L, v = .agg #[u] ∧ RdF u L w := by
  obtain ⟨cs, rfl, hsz⟩ := okWide_struct Tryd.underlying41 hv
  have hsz1 : cs.size = 1 := hsz
  obtain ⟨u, rfl⟩ : ∃ u, cs = #[u] := by
    obtain ⟨l⟩ := cs
    match l, hsz1 with
    | [u], _ => exact ⟨u, rfl⟩
  obtain ⟨fuel, hf⟩ := h
  obtain ⟨y0, n, _, _, h0⟩ := trod_struct1 Tryd.underlying41 hf
  have h0' : DataW.trod enc Tryd.prog w base (fun _ => true) held n 39 [u] = some y0 := h0
  obtain ⟨L, hL⟩ := cellsF_arg h0'
  exact ⟨_, L, rfl, hL⟩
end
end Go.Proofs.YtbhobmngnjfgfaaDoor
