/-
  What a law is told of an argument Model.
-/
import Derived.Test.YtehejjmmbjekgaaDoorArgs2
import Derived.Test.YtehejjmmbjekgaaDoorKinds
import Derived.Lib.SmallJoins
namespace Go.Proofs.YtehejjmmbjekgaaDoor
open Go.ChangeShapes Go.WideShapes Go.ChangeAt Go.RowKit Go.Deep Go.Joins

section
variable {H : Type} {enc : TypeId × Value → H} {w : World} {r : Reach} {b0 base : Nat} {held : Bool} {v : Value} {d : DataW H} {p : List MemPlace}

set_option maxRecDepth 100000 in
theorem modelArg (hv : Value.okWide Tryd.prog w r b0 50 v) (h : DataW.Trod enc Tryd.prog w base (fun _ => true) held 50 v d p) : ∃ u xss, v = .agg #[u] ∧ RdSS u xss w := by
  obtain ⟨cs, rfl, hsz⟩ := okWide_struct Tryd.underlying50 hv
  have hsz1 : cs.size = 1 := hsz
  obtain ⟨u, rfl⟩ : ∃ u, cs = #[u] := by
    obtain ⟨l⟩ := cs
    match l, hsz1 with
    | [u], _ => exact ⟨u, rfl⟩
  obtain ⟨fuel, hf⟩ := h
  obtain ⟨y0, n, _, _, h0⟩ := trod_struct1 Tryd.underlying50 hf
  have h0' : DataW.trod enc Tryd.prog w base (fun _ => true) held n 22 [u] = some y0 := h0
  obtain ⟨a, l, c, e⟩ := slice_form Tryd.underlying22 h0'
  obtain rfl : u = .slice a l c := by simpa using e
  obtain ⟨vs, xss, hG⟩ := rows_arg h0'
  exact ⟨_, xss, rfl, vs, hG⟩
end
end Go.Proofs.YtehejjmmbjekgaaDoor
