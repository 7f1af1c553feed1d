import Derived.Lib.SmallJoins
import Derived.Test.YtpfhflkpnjkgkaaDoorArgsJn
import Derived.Test.YtpfhflkpnjkgkaaDoorGq05
/-
  What a law is told of its arguments: graphs, rows, slices of numbers.
-/



namespace Go.Proofs.YtpfhflkpnjkgkaaDoor
open Go.ChangeShapes Go.WideShapes Go.ChangeAt Go.RowKit Go.Deep Go.Joins

section
variable {H : Type} {enc : TypeId × Value → H} {w : World} {r : Reach} {b0 base : Nat} {held : Bool} {v : Value} {d : DataW H} {p : List MemPlace}

set_option maxRecDepth 100000 in
theorem rowsArg (hv : Value.okWide Tryd.prog w r b0 33 v) (h : DataW.Trod enc Tryd.prog w base (fun _ => true) held 33 v d p) : ∃ xss, RdSS v xss w := by
  obtain ⟨a, l, c, rfl⟩ := okWide_slice Tryd.underlying33 hv
  obtain ⟨fuel, hf⟩ := h
  obtain ⟨vs, xss, hG⟩ := rows_arg (v := .slice a l c) (by simpa [Value.cells] using hf)
  exact ⟨xss, vs, hG⟩

set_option maxRecDepth 100000 in
theorem intsArg (hv : Value.okWide Tryd.prog w r b0 24 v) (h : DataW.Trod enc Tryd.prog w base (fun _ => true) held 24 v d p) : ∃ xs, RdS v xs w := by
  obtain ⟨a, l, c, rfl⟩ := okWide_slice Tryd.underlying24 hv
  obtain ⟨fuel, hf⟩ := h
  rcases open_ints Tryd.underlying24 Tryd.underlying2 (by kernel_rfl) (show DataW.trod enc Tryd.prog w base (fun _ => true) held fuel 24 [.slice a l c] = some (d, p) by simpa [Value.cells] using hf) with ⟨hcs, _⟩ | ⟨a', len, cap, zs, hcs, _, hlc, hcm, hlen, _, hcell, _⟩
  · obtain ⟨rfl, rfl, rfl⟩ : a = none ∧ l = 0 ∧ c = 0 := by simpa using hcs
    exact ⟨[], row_of_cells (Nat.le_refl _) (Nat.zero_le _) rfl (fun _ => rfl) (fun x hx => by cases hx)⟩
  · obtain ⟨rfl, rfl, rfl⟩ : a = some a' ∧ l = len ∧ c = cap := by simpa using hcs
    simp only [if_true] at hlen
    have hl : (zs.take l).length = l := by simp; omega
    refine ⟨zs.take l, ?_⟩
    unfold RdS
    rw [hl]
    refine row_of_cells hlc hcm (by simpa using hl) (fun e => by cases e) fun x hx j u hj => ?_
    cases hx
    have hjl : j < l := by
      have := (List.getElem?_eq_some_iff.1 hj).1
      simp at this
      omega
    rw [hcell j (by omega), ← hj]
    simp [ints, List.getD, hjl]
    rw [List.getElem?_eq_getElem (show j < zs.length by omega)]
    rfl

set_option maxRecDepth 100000 in
theorem graphArg (hv : Value.okWide Tryd.prog w r b0 35 v) (h : DataW.Trod enc Tryd.prog w base (fun _ => true) held 35 v d p) : ∃ u xss, v = .agg #[u] ∧ RdSS u xss w := by
  obtain ⟨cs, rfl, hsz⟩ := okWide_struct Tryd.underlying35 hv
  have hsz1 : cs.size = 1 := hsz
  obtain ⟨u, rfl⟩ : ∃ u, cs = #[u] := by
    obtain ⟨l⟩ := cs
    match l, hsz1 with
    | [u], _ => exact ⟨u, rfl⟩
  obtain ⟨fuel, hf⟩ := h
  obtain ⟨y0, n, _, _, h0⟩ := trod_struct1 Tryd.underlying35 hf
  have h0' : DataW.trod enc Tryd.prog w base (fun _ => true) held n 33 [u] = some y0 := h0
  obtain ⟨a, l, c, e⟩ := slice_form Tryd.underlying33 h0'
  obtain rfl : u = .slice a l c := by simpa using e
  obtain ⟨vs, xss, hG⟩ := rows_arg h0'
  exact ⟨_, xss, rfl, vs, hG⟩
end
end Go.Proofs.YtpfhflkpnjkgkaaDoor
