import Derived.Deep.Matrix
import Derived.ProofKit
import Derived.Test.YtpfhflkpnjkgkaaDoorGq05
/-
  What a law is told of an argument of type [][]int64: rows of numbers that can be read.
-/



namespace Go.Proofs.YtpfhflkpnjkgkaaDoor
open Go.ChangeShapes Go.WideShapes Go.ChangeAt Go.RowKit Go.Deep

theorem addr_of {w : World} {a : Addr} {j : Nat} {v : Value} (h : w.cell? (a.add j) = some v) : (∃ b o, a = ⟨b, o, none⟩) ∨ (0 < j) := by
  by_cases hj : j = 0
  · subst hj
    left
    obtain ⟨b, o, sp⟩ := a
    have : sp = none := by simpa [Addr.add] using World.cell?_spot h
    exact ⟨b, o, by rw [this]⟩
  · exact .inr (by omega)

theorem cell_add {w : World} {b o j : Nat} {v : Value} (h : w.cell? (Addr.add ⟨b, o, none⟩ j) = some v) : w.cell? ⟨b, o + j, none⟩ = some v := by
  by_cases hj : j = 0
  · subst hj; simpa [Addr.add] using h
  · simpa [Addr.add, hj] using h

/-- A row read cell by cell. -/
theorem row_of_cells {w : World} {a : Option Addr} {n c : Nat} {cs : List Value} (hn : n ≤ c) (hc : c ≤ maxLen) (hl : cs.length = n) (h0 : a = none → c = 0)
    (h : ∀ x, a = some x → ∀ j u, cs[j]? = some u → w.cell? (x.add j) = some u) : Row w 1 (.slice a n c) n cs := by
  refine ⟨a, c, rfl, hn, hc, by omega, h0, fun j u hj => ?_⟩
  have hjl : j < cs.length := (List.getElem?_eq_some_iff.1 hj).1
  cases a with
  | none => have := h0 rfl; omega
  | some x =>
    have hz := h x rfl 0 (cs[0]'(by omega)) (by simp)
    rcases addr_of hz with ⟨b, o, rfl⟩ | h'
    · exact ⟨b, o, rfl, cell_add (h _ rfl j u hj)⟩
    · omega

theorem rows_arg {H : Type} {enc : TypeId × Value → H} {w : World} {base : Nat} {held : Bool} {fuel : Nat} {v : Value} {x : DataW H × List MemPlace}
    (h : DataW.trod enc Tryd.prog w base (fun _ => true) held fuel 33 [v] = some x) : ∃ (vs : List Value) (xss : List (List Int)), RdG w v vs (xss.map ints) := by
  rcases open_int_rows Tryd.underlying33 Tryd.underlying24 Tryd.underlying2 (by kernel_rfl) (by kernel_rfl) h with ⟨hcs, _⟩ | ⟨a, len, cap, A, L, C, Z, hcs, _, hlc, hcm, _, hrow⟩
  · obtain rfl : v = .slice none 0 0 := by simpa using hcs
    exact ⟨[], [], ⟨rfl, row_of_cells (Nat.le_refl _) (Nat.zero_le _) rfl (fun _ => rfl) (fun x hx => by cases hx), by simp⟩⟩
  · obtain rfl : v = .slice (some a) len cap := by simpa using hcs
    refine ⟨(List.range len).map fun r => .slice (A r) (L r) (C r), (List.range len).map fun r => (Z r).take (L r), ⟨by simp, ?_, ?_⟩⟩
    · simp only [List.length_map, List.length_range]
      refine row_of_cells hlc hcm (by simp) (fun e => by cases e) fun x hx j u hj => ?_
      cases hx
      simp only [List.getElem?_map, Option.map_eq_some_iff] at hj
      obtain ⟨r, hr, rfl⟩ := hj
      obtain ⟨hj, rfl⟩ := List.getElem?_eq_some_iff.1 hr
      simp only [List.length_range] at hj
      simpa using (hrow j (by omega)).1
    · intro i u cs hu hcs
      simp only [List.getElem?_map, Option.map_eq_some_iff] at hu hcs
      obtain ⟨r, hr, rfl⟩ := hu
      obtain ⟨zs, hzs, rfl⟩ := hcs
      obtain ⟨r', hr', rfl⟩ := hzs
      obtain rfl : r = r' := by rw [hr] at hr'; exact Option.some.inj hr'
      have hrl : r < len := by
        have := List.mem_of_getElem? hr
        simpa using this
      obtain ⟨_, h1, h2, h3, _, h5, h6⟩ := hrow r (by omega)
      have hlen : ((Z r).take (L r)).length = L r := by simp; omega
      rw [ints_length, hlen]
      refine row_of_cells h1 h2 (by simp; omega) h5 fun x hx j u hj => ?_
      have hjl : j < L r := by
        have := (List.getElem?_eq_some_iff.1 hj).1
        simp at this
        omega
      have := (h6 x hx).2 j (by omega)
      rw [this, ← hj]
      simp [ints, List.getD, hjl]
      rw [List.getElem?_eq_getElem (show j < (Z r).length by omega)]
      rfl
end Go.Proofs.YtpfhflkpnjkgkaaDoor
