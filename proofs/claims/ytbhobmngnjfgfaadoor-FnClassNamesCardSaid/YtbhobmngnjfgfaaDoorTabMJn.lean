import Derived.Lib.SmallJoins
import Derived.Test.YtbhobmngnjfgfaaDoorSayJJn
import Derived.Test.YtbhobmngnjfgfaaDoorTabNJn
/-
  What the rows' condition on four variables gives the walks: the names of the classes and the powers of ten.
-/



namespace Go.Proofs.YtbhobmngnjfgfaaDoor
open Go.ChangeShapes Go.WideShapes Go.ChangeAt Go.WideElems Go.RowKit Go.Lib

theorem tPow : (Tryd.prog.globals[1]?).map (·.type) = some 214 := by kernel_rfl
theorem cellsU64 : Tryd.prog.cellsOf 66 = 1 := by kernel_rfl
theorem cellsP20 : Tryd.prog.cellsOf 214 = 20 := by kernel_rfl
def laid4 {H : Type} : List (String × DataW H) := [("math/bits.deBruijn32tab", Rows.laid_math_bits_deBruijn32tab), ("math/bits.deBruijn64tab", Rows.laid_math_bits_deBruijn64tab), ("internal/strconv.uint64pow10", Rows.laid_internal_strconv_uint64pow10), ("loop.example/g00871/impl.classNames", Rows.laid_loop_example_g00871_impl_classNames)]

theorem door_met4 (os : Os) (args : Array Value) : laidMetH Tryd.prog laid4 ((World.doorLaid Tryd.prog 400 os).forCall (fun _ _ => 0) ⟨#[], args, []⟩).memory :=
  laidMetH_of_parts3 (fuel := 24) (laidMet_of_run' 24 (by kernel_rfl) (by kernel_rfl)) (by kernel_rfl) (by kernel_rfl)

theorem cn_of {enc : TypeId × Value → Unit} {W : World} {base fuel : Nat} {cs0 : Array Value} {p0 : List MemPlace} (hv0 : W.var? Tryd.prog "loop.example/g00871/impl.classNames" = some cs0)
    (hd0 : DataW.trod enc Tryd.prog W base (fun _ => true) false fuel 153 cs0.toList = some (Rows.laid_loop_example_g00871_impl_classNames, p0)) : CN W := by
  have hx : (Rows.laid_loop_example_g00871_impl_classNames : DataW Unit) = .slice (strs cn) [] := rfl
  rw [hx] at hd0
  rcases open_strings Tryd.underlying153 Tryd.underlying9 cells9 hd0 with ⟨_, h0⟩ | ⟨a, len, cap, ss, hcs, _, hlc, hcm, hsl, he, hcell, _⟩
  · cases congrArg Prod.fst h0
  · simp only [if_true] at hsl
    have h1 := congrArg Prod.fst he
    simp only [DataW.slice.injEq] at h1
    obtain ⟨h2, h3⟩ := h1
    have hd : ss.drop len = [] := by
      have := congrArg List.length h3
      simp only [strs, List.length_map, List.length_nil] at this
      exact List.length_eq_zero_iff.1 this.symm
    have hlen : ss.length ≤ len := List.drop_eq_nil_iff.1 hd
    rw [List.take_of_length_le hlen] at h2
    have hss : cn = ss := by
      refine (List.map_inj_right (f := fun s : ByteArray => (DataW.lit (.string s.data.toList) : DataW Unit)) ?_).1 h2
      intro x y e
      simp only [DataW.lit.injEq, Lit.string.injEq] at e
      cases x; cases y
      simp only [Array.toList_inj] at e
      rw [e]
    subst hss
    rw [cn_length] at hsl hlen
    have hl10 : len = 10 := by omega
    subst hl10
    have hc10 : cap = 10 := by omega
    subst hc10
    have hsp : ∃ b o, a = ⟨b, o, none⟩ := by
      have := hcell 0 (by rw [cn_length]; omega)
      obtain ⟨b, o, sp⟩ := a
      cases sp with
      | none => exact ⟨b, o, rfl⟩
      | some x =>
        exfalso
        simp only [Addr.add, if_true, World.cell?] at this
        split at this <;> simp at this
    obtain ⟨b, o, rfl⟩ := hsp
    refine ⟨.slice (some ⟨b, o, none⟩) 10 10, ?_, ⟨_, _, rfl, Nat.le_refl _, hcm, by rw [strV_length, cn_length], (by intro e; cases e), ?_⟩⟩
    · have := World.var?_cell gNames hv0 0
      rw [this, ← Array.getElem?_toList, hcs]
      rfl
    · intro j u hu
      have hj : j < cn.length := by
        have := (List.getElem?_eq_some_iff.1 hu).1
        simpa using this
      have hc := hcell j hj
      refine ⟨b, o, rfl, ?_⟩
      have hu2 : u = .string (cn.getD j ByteArray.empty) := by
        simp only [strV, List.getElem?_map, Option.map_eq_some_iff] at hu
        obtain ⟨s, hs, rfl⟩ := hu
        simp [List.getD, hs]
      rw [hu2, ← hc]
      by_cases h0 : j = 0
      · subst h0; simp [Addr.add]
      · simp [Addr.add, h0]

theorem of_laid4 {W : World} (h : laidMetH Tryd.prog laid4 W) : CN W ∧ P10 W := by
  rw [MakeChecks.laidMetH_plain _ _ _ (by kernel_rfl)] at h
  obtain ⟨ps, ⟨g0, t0, cs0, f0, p0, q0, hg0, ht0, hv0, hd0, ⟨g1, t1, cs1, f1, p1, q1, hg1, ht1, hv1, hd1, ⟨g2, t2, cs2, f2, p2, q2, hg2, ht2, hv2, hd2, ⟨g3, t3, cs3, f3, p3, q3, hg3, ht3, hv3, hd3, _, _⟩, _⟩, _⟩, _⟩, _, _⟩ := h
  obtain rfl := Option.some.inj (gPow.symm.trans hg2)
  obtain rfl := Option.some.inj (tPow.symm.trans ht2)
  obtain rfl := Option.some.inj (gNames.symm.trans hg3)
  obtain rfl := Option.some.inj (tNames.symm.trans ht3)
  refine ⟨cn_of hv3 hd3, ?_⟩
  have hcs := Lib.cells_of_tab (k := .u64) (zs := pow10Tab) Tryd.underlying214 Tryd.underlying66 cellsU64 cellsP20 hd2
  unfold P10 TabIs
  rw [hv2, ← hcs]
end Go.Proofs.YtbhobmngnjfgfaaDoor
