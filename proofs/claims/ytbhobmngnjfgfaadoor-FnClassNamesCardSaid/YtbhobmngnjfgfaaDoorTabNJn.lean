import Derived.SliceStrings
import Derived.ChangeVars
import Derived.ChangeBears2
import Derived.Test.YtbhobmngnjfgfaaDoorNamesJn
import Derived.Test.YtbhobmngnjfgfaaDoorTabJn
/-
  What the rows' condition on the names of the classes gives the walks; that the door's own start meets it.
-/





namespace Go.Proofs.YtbhobmngnjfgfaaDoor
open Go.ChangeShapes Go.WideShapes Go.ChangeAt Go.WideElems Go.RowKit

theorem gNames : Tryd.prog.globalNamed "loop.example/g00871/impl.classNames" = some 0 := by kernel_rfl
theorem tNames : (Tryd.prog.globals[0]?).map (·.type) = some 153 := by kernel_rfl
theorem cells9 : Tryd.prog.cellsOf 9 = 1 := by kernel_rfl

def laidN {H : Type} : List (String × DataW H) := [("loop.example/g00871/impl.classNames", Rows.laid_loop_example_g00871_impl_classNames)]

theorem door_metN (os : Os) (args : Array Value) : laidMetH Tryd.prog laidN ((World.doorLaid Tryd.prog 400 os).forCall (fun _ _ => 0) ⟨#[], args, []⟩).memory :=
  laidMetH_of_parts3 (fuel := 8) (laidMet_of_run' 8 (by kernel_rfl) (by kernel_rfl)) (by kernel_rfl) (by kernel_rfl)

theorem of_laidN {W : World} (h : laidMetH Tryd.prog laidN W) : CN W := by
  rw [MakeChecks.laidMetH_plain _ _ _ (by kernel_rfl)] at h
  obtain ⟨ps, ⟨g0, t0, cs0, f0, p0, q0, hg0, ht0, hv0, hd0, _, _⟩, _, _⟩ := h
  obtain rfl := Option.some.inj (gNames.symm.trans hg0)
  obtain rfl := Option.some.inj (tNames.symm.trans ht0)
  have hx : (Rows.laid_loop_example_g00871_impl_classNames : DataW Unit) = .slice (strs cn) [] := rfl
  rw [hx] at hd0
  rcases open_strings Tryd.underlying153 Tryd.underlying9 cells9 hd0 with ⟨_, h0⟩ | ⟨a, len, cap, ss, hcs, _, hlc, hcm, hsl, he, hcell, _⟩
  · cases congrArg Prod.fst h0
  · simp only [if_true] at hsl
    have h1 := congrArg Prod.fst he
    simp only [DataW.slice.injEq] at h1
    obtain ⟨h2, h3⟩ := h1
    have hd : ss.drop len = [] := by
      have := congrArg List.length h3
      simp only [strs, List.length_map, List.length_nil] at this
      exact List.length_eq_zero_iff.1 this.symm
    have hlen : ss.length ≤ len := List.drop_eq_nil_iff.1 hd
    rw [List.take_of_length_le hlen] at h2
    have hss : cn = ss := by
      refine (List.map_inj_right (f := fun s : ByteArray => (DataW.lit (.string s.data.toList) : DataW Unit)) ?_).1 h2
      intro x y e
      simp only [DataW.lit.injEq, Lit.string.injEq] at e
      cases x; cases y
      simp only [Array.toList_inj] at e
      rw [e]
    subst hss
    rw [cn_length] at hsl hlen
    have hl10 : len = 10 := by omega
    subst hl10
    have hc10 : cap = 10 := by omega
    subst hc10
    have hsp : ∃ b o, a = ⟨b, o, none⟩ := by
      have := hcell 0 (by rw [cn_length]; omega)
      obtain ⟨b, o, sp⟩ := a
      cases sp with
      | none => exact ⟨b, o, rfl⟩
      | some x =>
        exfalso
        simp only [Addr.add, if_true, World.cell?] at this
        split at this <;> simp at this
    obtain ⟨b, o, rfl⟩ := hsp
    refine ⟨.slice (some ⟨b, o, none⟩) 10 10, ?_, ⟨_, _, rfl, Nat.le_refl _, hcm, by rw [strV_length, cn_length], (by intro e; cases e), ?_⟩⟩
    · have := World.var?_cell gNames hv0 0
      rw [this, ← Array.getElem?_toList, hcs]
      rfl
    · intro j u hu
      have hj : j < cn.length := by
        have := (List.getElem?_eq_some_iff.1 hu).1
        simpa using this
      have hc := hcell j hj
      refine ⟨b, o, rfl, ?_⟩
      have hu2 : u = .string (cn.getD j ByteArray.empty) := by
        simp only [strV, List.getElem?_map, Option.map_eq_some_iff] at hu
        obtain ⟨s, hs, rfl⟩ := hu
        simp [List.getD, hs]
      rw [hu2, ← hc]
      by_cases h0 : j = 0
      · subst h0; simp [Addr.add]
      · simp [Addr.add, h0]

theorem var?_below {P : Program} {B g : Nat} {W W' : World} {n : String} {cs : Array Value} (h : Below B W W') (hg : P.globalNamed n = some g) (hgB : g < B) (hv : W.var? P n = some cs) : W'.var? P n = some cs := by
  unfold World.var? at hv ⊢
  simp only [hg, Option.bind_some] at hv ⊢
  rw [h.block g hgB]
  exact hv

/-- What the variable reads as, reads so behind a call that leaves what stood. -/
theorem names_after {H : Type} {enc : TypeId × Value → H} {W W' : World} {cs : Array Value} {fuel : Nat} {d : DataW H} {p' : List MemPlace} (hlt : 0 < W.heap.size) (hvar : W.var? Tryd.prog "loop.example/g00871/impl.classNames" = some cs)
    (hd : DataW.trod enc Tryd.prog W 0 (fun _ => true) true fuel 153 cs.toList = some (d, p')) (hltv : ∀ x ∈ p', x.block < W.heap.size) (hB : Below W.heap.size W W') :
    DataW.TrodVars enc Tryd.prog W' (fun b => decide (b < W.heap.size)) ["loop.example/g00871/impl.classNames"] [d] (MemPlace.row ⟨0, 0, none⟩ cs.size ++ p') := by
  have hcs : ∃ v, cs = #[v] := by
    rcases open_strings Tryd.underlying153 Tryd.underlying9 cells9 hd with ⟨h, _⟩ | ⟨a, len, cap, ss, h, _⟩
    · exact ⟨_, by rw [← Array.toList_inj]; exact h⟩
    · exact ⟨_, by rw [← Array.toList_inj]; exact h⟩
  obtain ⟨v, rfl⟩ := hcs
  have hvc : v.cells.toList = [v] := by
    rcases open_strings Tryd.underlying153 Tryd.underlying9 cells9 hd with ⟨h, _⟩ | ⟨a, len, cap, ss, h, _⟩
    · obtain rfl : v = .slice none 0 0 := by simpa using h
      rfl
    · obtain rfl : v = .slice (some a) len cap := by simpa using h
      rfl
  obtain ⟨fuel', hd'⟩ := Below.trod laidOut (by kernel_rfl) (of_decide_eq_true (by kernel_rfl)) (v := v) (⟨fuel, by rw [hvc]; exact hd⟩ : DataW.Trod enc Tryd.prog W 0 (fun _ => true) true 153 v d p') hB hltv
  exact trodVars_mk1 gNames tNames (var?_below hB gNames hlt hvar) (by rw [hvc] at hd'; exact hd')
end Go.Proofs.YtbhobmngnjfgfaaDoor
