import Derived.Deep.Slices
import Derived.Deep.Strs
import Derived.ChangeArms
import Derived.Test.YtpfhflkpnjkgkaaDoorArgs2Jn
import Derived.Test.YtpfhflkpnjkgkaaDoorGq05
/-
  What a law is told of an argument []Part.
-/





namespace Go.Proofs.YtpfhflkpnjkgkaaDoor
open Go.ChangeShapes Go.WideShapes Go.ChangeAt Go.RowKit Go.Deep Go.Joins

theorem row_of_cellsP {w : World} {a : Option Addr} {n c : Nat} {cs : List Value} (hn : n ≤ c) (hc : c ≤ maxLen) (hl : cs.length = n * 3) (h0 : a = none → c = 0)
    (h : ∀ x, a = some x → ∀ j u, cs[j]? = some u → w.cell? (x.add j) = some u) : Row w 3 (.slice a n c) n cs := by
  refine ⟨a, c, rfl, hn, hc, by omega, h0, fun j u hj => ?_⟩
  have hjl : j < cs.length := (List.getElem?_eq_some_iff.1 hj).1
  cases a with
  | none => have := h0 rfl; omega
  | some x =>
    have hz := h x rfl 0 (cs[0]'(by omega)) (by simp)
    rcases addr_of hz with ⟨b, o, rfl⟩ | h'
    · exact ⟨b, o, rfl, cell_add (h _ rfl j u hj)⟩
    · omega

section
variable {H : Type} {enc : TypeId × Value → H} {w : World} {r : Reach} {b0 base : Nat} {held : Bool} {v : Value} {d : DataW H} {p : List MemPlace}

set_option maxRecDepth 100000 in
theorem ints_trod {fuel : Nat} {u : Value} {x : DataW H × List MemPlace} (hf : DataW.trod enc Tryd.prog w base (fun _ => true) held fuel 24 [u] = some x) : ∃ xs, RdS u xs w := by
  rcases open_ints Tryd.underlying24 Tryd.underlying2 (by kernel_rfl) hf with ⟨hcs, _⟩ | ⟨a', len, cap, zs, hcs, _, hlc, hcm, hlen, _, hcell, _⟩
  · obtain rfl : u = .slice none 0 0 := by simpa using hcs
    exact ⟨[], row_of_cells (Nat.le_refl _) (Nat.zero_le _) rfl (fun _ => rfl) (fun x hx => by cases hx)⟩
  · obtain rfl : u = .slice (some a') len cap := by simpa using hcs
    simp only [if_true] at hlen
    have hl : (zs.take len).length = len := by simp; omega
    refine ⟨zs.take len, ?_⟩
    unfold RdS
    rw [hl]
    refine row_of_cells hlc hcm (by simpa using hl) (fun e => by cases e) fun x hx j u hj => ?_
    cases hx
    have hjl : j < len := by
      have := (List.getElem?_eq_some_iff.1 hj).1
      simp at this
      omega
    rw [hcell j (by omega), ← hj]
    simp [ints, List.getD, hjl]
    rw [List.getElem?_eq_getElem (show j < zs.length by omega)]
    rfl

set_option maxRecDepth 100000 in
theorem cellsP_arg {fuel : Nat} {x : DataW H × List MemPlace} (hf : DataW.trod enc Tryd.prog w base (fun _ => true) held fuel 22 [v] = some x) : ∃ L, RdP v L w := by
  rcases open_slice Tryd.underlying22 hf with ⟨hcs, _⟩ | ⟨a', len, cap, m, n, D, Pl, hcs, _, hlc, hcm, hm, _, hi⟩
  · obtain rfl : v = .slice none 0 0 := by simpa using hcs
    exact ⟨[], [], rfl, row_of_cellsP (Nat.le_refl _) (Nat.zero_le _) rfl (fun _ => rfl) (fun x hx => by cases hx), fun i q p hq => by simp at hq⟩
  · obtain rfl : v = .slice (some a') len cap := by simpa using hcs
    simp only [if_true] at hm
    have hC : Tryd.prog.cellsOf 45 = 3 := by kernel_rfl
    have each : ∀ i, i < len → ∃ p : Int × Int × Value × List Int, w.cell? (a'.add (i * 3)) = some (.int .i64 p.1) ∧ w.cell? (a'.add (i * 3 + 1)) = some (.int .i64 p.2.1) ∧ w.cell? (a'.add (i * 3 + 2)) = some p.2.2.1 ∧ RdS p.2.2.1 p.2.2.2 w := fun i hil => by
      obtain ⟨cs', hc, ht'⟩ := hi i (by omega)
      rw [hC] at hc
      obtain ⟨_, hcl, hat⟩ := World.cells?_some hc
      obtain ⟨y0, y1, y2, n', _, _, h0, h1, h2⟩ := trod_struct3 Tryd.underlying45 ht'
      match cs', hcl, hat, h0, h1, h2 with
      | [c0, c1, c2], _, hat, h0, h1, h2 =>
        have g0 : DataW.trod enc Tryd.prog w base (fun _ => true) held n' 2 [c0] = some y0 := h0
        obtain ⟨x0, e0, _, _⟩ := DataW.trod_int Tryd.underlying2 g0
        obtain rfl : c0 = .int .i64 x0 := by simpa using e0
        have g1 : DataW.trod enc Tryd.prog w base (fun _ => true) held n' 2 [c1] = some y1 := h1
        obtain ⟨x1, e1, _, _⟩ := DataW.trod_int Tryd.underlying2 g1
        obtain rfl : c1 = .int .i64 x1 := by simpa using e1
        have g2 : DataW.trod enc Tryd.prog w base (fun _ => true) held n' 24 [c2] = some y2 := h2
        obtain ⟨xs, hxs⟩ := ints_trod g2
        refine ⟨(x0, x1, c2, xs), by have h := hat 0 (by omega); rw [Go.Deep.add_add] at h; simpa using h, by have h := hat 1 (by omega); rw [Go.Deep.add_add] at h; simpa using h, by have h := hat 2 (by omega); rw [Go.Deep.add_add] at h; simpa using h, hxs⟩
    have hf : ∀ i, ∃ p : Int × Int × Value × List Int, i < len → w.cell? (a'.add (i * 3)) = some (.int .i64 p.1) ∧ w.cell? (a'.add (i * 3 + 1)) = some (.int .i64 p.2.1) ∧ w.cell? (a'.add (i * 3 + 2)) = some p.2.2.1 ∧ RdS p.2.2.1 p.2.2.2 w := fun i => by
      by_cases h : i < len
      · obtain ⟨p, hp⟩ := each i h
        exact ⟨p, fun _ => hp⟩
      · exact ⟨(0, 0, undef, []), fun h' => (h h').elim⟩
    obtain ⟨f, hf⟩ := Classical.axiomOfChoice hf
    have hll : ((List.range len).map fun i => ((f i).1, (f i).2.1, (f i).2.2.2)).length = len := by simp
    refine ⟨(List.range len).map fun i => ((f i).1, (f i).2.1, (f i).2.2.2), (List.range len).map fun i => ((f i).1, (f i).2.1, (f i).2.2.1), by simp, ?_, fun i q p hq hp => ?_⟩
    · rw [hll]
      refine row_of_cellsP hlc hcm (by simp) (fun e => by cases e) fun x hx j u hj => ?_
      cases hx
      have hjl : j < len * 3 := by have := (List.getElem?_eq_some_iff.1 hj).1; simpa using this
      have hil : j / 3 < len := by omega
      have hp : ((List.range len).map fun i => ((f i).1, (f i).2.1, (f i).2.2.1))[j / 3]? = some ((f (j / 3)).1, (f (j / 3)).2.1, (f (j / 3)).2.2.1) := by rw [List.getElem?_map, List.getElem?_range hil]; rfl
      obtain ⟨g0, g1, g2⟩ := cellsQ_at hp
      obtain ⟨k0, k1, k2, -⟩ := hf (j / 3) hil
      have hmod : j = j / 3 * 3 ∨ j = j / 3 * 3 + 1 ∨ j = j / 3 * 3 + 2 := by omega
      rcases hmod with h | h | h
      · have e : u = .int .i64 (f (j / 3)).1 := by
          have h2 := g0
          rw [← h, hj] at h2
          exact Option.some.inj h2
        have h3 := k0
        rw [← h] at h3
        rw [e]
        exact h3
      · have e : u = .int .i64 (f (j / 3)).2.1 := by
          have h2 := g1
          rw [← h, hj] at h2
          exact Option.some.inj h2
        have h3 := k1
        rw [← h] at h3
        rw [e]
        exact h3
      · have e : u = (f (j / 3)).2.2.1 := by
          have h2 := g2
          rw [← h, hj] at h2
          exact Option.some.inj h2
        have h3 := k2
        rw [← h] at h3
        rw [e]
        exact h3
    · rw [List.getElem?_map, Option.map_eq_some_iff] at hq hp
      obtain ⟨i1, h1, rfl⟩ := hq
      obtain ⟨i2, h2, rfl⟩ := hp
      obtain rfl : i1 = i2 := by rw [h1] at h2; exact Option.some.inj h2
      have hil : i1 < len := by have := List.mem_of_getElem? h1; simpa using this
      exact ⟨rfl, rfl, (hf i1 hil).2.2.2⟩

set_option maxRecDepth 100000 in
theorem partArg (hv : Value.okWide Tryd.prog w r b0 22 v) (h : DataW.Trod enc Tryd.prog w base (fun _ => true) held 22 v d p) : ∃ L, RdP v L w := by
  obtain ⟨a, l, c, rfl⟩ := okWide_slice Tryd.underlying22 hv
  obtain ⟨fuel, hf⟩ := h
  exact cellsP_arg (v := .slice a l c) (by simpa [Value.cells] using hf)
end
end Go.Proofs.YtpfhflkpnjkgkaaDoor
