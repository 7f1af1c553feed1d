import Derived.Lib.SmallJoins
import Derived.OpenShut
import Derived.Test.YtpfhflkpnjkgkaaCardCertNumbersJn16
import Derived.Test.YtpfhflkpnjkgkaaGq02
/-
  What a law is told of its arguments: graphs, rows, slices of numbers.
-/



namespace Go.Proofs.Ytpfhflkpnjkgkaa
open Go.ChangeShapes Go.WideShapes Go.ChangeAt Go.RowKit Go.Deep Go.Joins

section
variable {H : Type} {enc : TypeId × Value → H} {w : World} {r : Reach} {b0 base : Nat} {held : Bool} {v : Value} {d : DataW H} {p : List MemPlace}

set_option maxRecDepth 100000 in
theorem rowsArg (hv : Value.okWide Try.prog w r b0 32 v) (h : DataW.Trod enc Try.prog w base (fun _ => true) held 32 v d p) : ∃ xss, RdSS v xss w := by
  obtain ⟨a, l, c, rfl⟩ := okWide_slice Try.underlying32 hv
  obtain ⟨fuel, hf⟩ := h
  obtain ⟨vs, xss, hG⟩ := rows_arg (v := .slice a l c) (by simpa [Value.cells] using hf)
  exact ⟨xss, vs, hG⟩

set_option maxRecDepth 100000 in
theorem intsArg (hv : Value.okWide Try.prog w r b0 26 v) (h : DataW.Trod enc Try.prog w base (fun _ => true) held 26 v d p) : ∃ xs, RdS v xs w := by
  obtain ⟨a, l, c, rfl⟩ := okWide_slice Try.underlying26 hv
  obtain ⟨fuel, hf⟩ := h
  rcases open_ints Try.underlying26 Try.underlying2 (by kernel_rfl) (show DataW.trod enc Try.prog w base (fun _ => true) held fuel 26 [.slice a l c] = some (d, p) by simpa [Value.cells] using hf) with ⟨hcs, _⟩ | ⟨a', len, cap, zs, hcs, _, hlc, hcm, hlen, _, hcell, _⟩
  · obtain ⟨rfl, rfl, rfl⟩ : a = none ∧ l = 0 ∧ c = 0 := by simpa using hcs
    exact ⟨[], row_of_cells (Nat.le_refl _) (Nat.zero_le _) rfl (fun _ => rfl) (fun x hx => by cases hx)⟩
  · obtain ⟨rfl, rfl, rfl⟩ : a = some a' ∧ l = len ∧ c = cap := by simpa using hcs
    simp only [if_true] at hlen
    have hl : (zs.take l).length = l := by simp; omega
    refine ⟨zs.take l, ?_⟩
    unfold RdS
    rw [hl]
    refine row_of_cells hlc hcm (by simpa using hl) (fun e => by cases e) fun x hx j u hj => ?_
    cases hx
    have hjl : j < l := by
      have := (List.getElem?_eq_some_iff.1 hj).1
      simp at this
      omega
    rw [hcell j (by omega), ← hj]
    simp [ints, List.getD, hjl]
    rw [List.getElem?_eq_getElem (show j < zs.length by omega)]
    rfl

end
end Go.Proofs.Ytpfhflkpnjkgkaa
/-
  What a law is told of its argument: bytes.
-/



namespace Go.Proofs.Ytpfhflkpnjkgkaa
open Go.ChangeShapes Go.WideShapes Go.ChangeAt Go.RowKit Go.Deep Go.Joins

section
variable {H : Type} {enc : TypeId × Value → H} {w : World} {r : Reach} {b0 base : Nat} {held : Bool} {v : Value} {d : DataW H} {p : List MemPlace}

theorem byte_range {zs : List Int} (h : ∀ n ∈ zs, (Lit.int .u8 n).wf = true) {j : Nat} (hj : j < zs.length) : 0 ≤ zs[j] ∧ zs[j] < 256 := by
  have := range_u8 h j
  rw [List.getElem?_eq_getElem hj] at this
  simp at this
  omega

set_option maxRecDepth 100000 in
theorem bytesArg (hv : Value.okWide Try.prog w r b0 22 v) (h : DataW.Trod enc Try.prog w base (fun _ => true) held 22 v d p) : ∃ bs, RdB v bs w := by
  obtain ⟨a, l, c, rfl⟩ := okWide_slice Try.underlying22 hv
  obtain ⟨fuel, hf⟩ := h
  rcases open_ints Try.underlying22 Try.underlying5 (by kernel_rfl) (show DataW.trod enc Try.prog w base (fun _ => true) held fuel 22 [.slice a l c] = some (d, p) by simpa [Value.cells] using hf) with ⟨hcs, _⟩ | ⟨a', len, cap, zs, hcs, _, hlc, hcm, hlen, _, hcell, hwz⟩
  · obtain ⟨rfl, rfl, rfl⟩ : a = none ∧ l = 0 ∧ c = 0 := by simpa using hcs
    exact ⟨[], row_of_cells (Nat.le_refl _) (Nat.zero_le _) rfl (fun _ => rfl) (fun x hx => by cases hx)⟩
  · obtain ⟨rfl, rfl, rfl⟩ : a = some a' ∧ l = len ∧ c = cap := by simpa using hcs
    simp only [if_true] at hlen
    have hl : ((zs.take l).map fun n => UInt8.ofNat n.toNat).length = l := by simp; omega
    refine ⟨(zs.take l).map fun n => UInt8.ofNat n.toNat, ?_⟩
    unfold RdB
    rw [hl]
    refine row_of_cells hlc hcm (by simpa using hl) (fun e => by cases e) fun x hx j u hj => ?_
    cases hx
    have hjl : j < l := by
      have := (List.getElem?_eq_some_iff.1 hj).1
      simp at this
      omega
    have hjz : j < zs.length := by omega
    rw [hcell j hjz, ← hj]
    have hb := byte_range hwz hjz
    simp [u8s, List.getD, hjl, List.getElem?_eq_getElem hjz]
    omega
end
end Go.Proofs.Ytpfhflkpnjkgkaa
