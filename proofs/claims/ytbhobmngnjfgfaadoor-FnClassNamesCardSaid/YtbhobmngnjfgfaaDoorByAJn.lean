import Derived.OpenShut
import Derived.Test.YtbhobmngnjfgfaaDoorArgs2Jn
import Derived.Test.YtbhobmngnjfgfaaDoorGq05
/-
  What a law is told of its argument: bytes.
-/



namespace Go.Proofs.YtbhobmngnjfgfaaDoor
open Go.ChangeShapes Go.WideShapes Go.ChangeAt Go.RowKit Go.Deep Go.Joins

section
variable {H : Type} {enc : TypeId × Value → H} {w : World} {r : Reach} {b0 base : Nat} {held : Bool} {v : Value} {d : DataW H} {p : List MemPlace}

theorem byte_range {zs : List Int} (h : ∀ n ∈ zs, (Lit.int .u8 n).wf = true) {j : Nat} (hj : j < zs.length) : 0 ≤ zs[j] ∧ zs[j] < 256 := by
  have := range_u8 h j
  rw [List.getElem?_eq_getElem hj] at this
  simp at this
  omega

set_option maxRecDepth 100000 in
theorem bytesArg (hv : Value.okWide Tryd.prog w r b0 62 v) (h : DataW.Trod enc Tryd.prog w base (fun _ => true) held 62 v d p) : ∃ bs, RdB v bs w := by
  obtain ⟨a, l, c, rfl⟩ := okWide_slice Tryd.underlying62 hv
  obtain ⟨fuel, hf⟩ := h
  rcases open_ints Tryd.underlying62 Tryd.underlying5 (by kernel_rfl) (show DataW.trod enc Tryd.prog w base (fun _ => true) held fuel 62 [.slice a l c] = some (d, p) by simpa [Value.cells] using hf) with ⟨hcs, _⟩ | ⟨a', len, cap, zs, hcs, _, hlc, hcm, hlen, _, hcell, hwz⟩
  · obtain ⟨rfl, rfl, rfl⟩ : a = none ∧ l = 0 ∧ c = 0 := by simpa using hcs
    exact ⟨[], row_of_cells (Nat.le_refl _) (Nat.zero_le _) rfl (fun _ => rfl) (fun x hx => by cases hx)⟩
  · obtain ⟨rfl, rfl, rfl⟩ : a = some a' ∧ l = len ∧ c = cap := by simpa using hcs
    simp only [if_true] at hlen
    have hl : ((zs.take l).map fun n => UInt8.ofNat n.toNat).length = l := by simp; omega
    refine ⟨(zs.take l).map fun n => UInt8.ofNat n.toNat, ?_⟩
    unfold RdB
    rw [hl]
    refine row_of_cells hlc hcm (by simpa using hl) (fun e => by cases e) fun x hx j u hj => ?_
    cases hx
    have hjl : j < l := by
      have := (List.getElem?_eq_some_iff.1 hj).1
      simp at this
      omega
    have hjz : j < zs.length := by omega
    rw [hcell j hjz, ← hj]
    have hb := byte_range hwz hjz
    simp [u8s, List.getD, hjl, List.getElem?_eq_getElem hjz]
    omega
end
end Go.Proofs.YtbhobmngnjfgfaaDoor
