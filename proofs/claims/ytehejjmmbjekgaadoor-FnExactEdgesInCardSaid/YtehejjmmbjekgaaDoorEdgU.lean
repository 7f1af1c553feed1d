/-
  EdgesIn: for every argument there is what reference and program return.
-/
import Derived.Test.YtehejjmmbjekgaaDoorEdgT
import Derived.Test.YtehejjmmbjekgaaDoorSubU
namespace Go.Proofs.YtehejjmmbjekgaaDoor
open Go.RowKit

theorem both_EdgesIn (su : SubD) : ∃ rows : List (List Int), 1 + total rows ≤ 1000000000 ∧ rows.length ≤ 1000000000 ∧
    (∀ (w : World) (v0 : Value), Tab w → RdU v0 su w → Calls Tryd.prog 38 #[v0] w (SSRes w rows)) ∧
    (∀ (w : World) (v0 : Value), Tab w → RdU v0 su w → Calls Tryd.prog 40 #[v0] w (SSRes w rows)) := by
  obtain ⟨rows, h1, h2, h⟩ := edgP_has su.2.2
  refine ⟨rows, h1, h2, fun w v0 _ hr => ?_, fun w v0 ht hr => ?_⟩
  · obtain ⟨hh, hp, rfl, hs, hp⟩ := hr.ex
    exact specEdgesIn _ _ _ _ w hp rows h
  · obtain ⟨hh, hp, rfl, hs, hp⟩ := hr.ex
    exact implEdgesIn _ _ _ _ w ht hp rows h
end Go.Proofs.YtehejjmmbjekgaaDoor
