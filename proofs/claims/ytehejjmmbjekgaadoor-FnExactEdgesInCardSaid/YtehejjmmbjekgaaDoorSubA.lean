/-
  What a law is told of an argument Sub.
-/
import Derived.Test.YtehejjmmbjekgaaDoorArgs2
import Derived.Test.YtehejjmmbjekgaaDoorSubU
namespace Go.Proofs.YtehejjmmbjekgaaDoor
open Go.ChangeShapes Go.WideShapes Go.ChangeAt Go.RowKit Go.Deep Go.Joins

section
variable {H : Type} {enc : TypeId × Value → H} {w : World} {r : Reach} {b0 base : Nat} {held : Bool} {v : Value} {d : DataW H} {p : List MemPlace}

set_option maxRecDepth 100000 in
theorem ints_trod {fuel : Nat} {x : DataW H × List MemPlace} (h : DataW.trod enc Tryd.prog w base (fun _ => true) held fuel 38 [v] = some x) : ∃ xs, RdS v xs w := by
  rcases open_ints Tryd.underlying38 Tryd.underlying2 (by kernel_rfl) h with ⟨hcs, _⟩ | ⟨a', len, cap, zs, hcs, _, hlc, hcm, hlen, _, hcell, _⟩
  · obtain rfl : v = .slice none 0 0 := by simpa using hcs
    exact ⟨[], row_of_cells (Nat.le_refl _) (Nat.zero_le _) rfl (fun _ => rfl) (fun x hx => by cases hx)⟩
  · obtain rfl : v = .slice (some a') len cap := by simpa using hcs
    simp only [if_true] at hlen
    have hl : (zs.take len).length = len := by simp; omega
    refine ⟨zs.take len, ?_⟩
    unfold RdS
    rw [hl]
    refine row_of_cells hlc hcm (by simpa using hl) (fun e => by cases e) fun x hx j u hj => ?_
    cases hx
    have hjl : j < len := by
      have := (List.getElem?_eq_some_iff.1 hj).1
      simp at this
      omega
    rw [hcell j (by omega), ← hj]
    simp [ints, List.getD, hjl]
    rw [List.getElem?_eq_getElem (show j < zs.length by omega)]
    rfl

set_option maxRecDepth 100000 in
theorem subArg (hv : Value.okWide Tryd.prog w r b0 58 v) (h : DataW.Trod enc Tryd.prog w base (fun _ => true) held 58 v d p) : ∃ su, RdU v su w := by
  obtain ⟨v0, v1, v2, y0, y1, y2, n, rfl, -, -, h0, h1, h2⟩ := open_agg3 Tryd.underlying58 (by kernel_rfl) (by kernel_rfl) hv h
  have g0 : DataW.trod enc Tryd.prog w base (fun _ => true) held n 2 [v0] = some y0 := h0
  have g1 : DataW.trod enc Tryd.prog w base (fun _ => true) held n 38 [v1] = some y1 := h1
  have g2 : DataW.trod enc Tryd.prog w base (fun _ => true) held n 22 [v2] = some y2 := h2
  obtain ⟨k, e, _, _⟩ := DataW.trod_int Tryd.underlying2 g0
  obtain rfl : v0 = .int .i64 k := by simpa using e
  obtain ⟨xs, hs⟩ := ints_trod g1
  obtain ⟨vs, xss, hG⟩ := rows_arg g2
  exact ⟨(k, xs, xss), ⟨_, _, rfl, hs, vs, hG⟩⟩
end
end Go.Proofs.YtehejjmmbjekgaaDoor
