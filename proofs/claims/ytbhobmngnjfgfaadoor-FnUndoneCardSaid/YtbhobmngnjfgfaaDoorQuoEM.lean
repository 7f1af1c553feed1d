import Derived.Test.YtbhobmngnjfgfaaDoorGq06
import Derived.Test.YtbhobmngnjfgfaaDoorGq07
import Derived.Test.YtbhobmngnjfgfaaDoorQuoPM
/-
  'l1Edges', 'EdgesOf', 'l21Between' of the reference.
-/



namespace Go.Proofs.YtbhobmngnjfgfaaDoor
open Go.RowKit

theorem RdSS.rowAt {n : Nat} {e : Nat → Nat → Bool} {w : World} {a : Option Addr} {c : Nat} (h : RdSS (.slice a n c) (rowsB n e) w) {j : Nat} (hj : j < n) :
    ∃ b o ra rc, a = some ⟨b, o, none⟩ ∧ w.cell? ⟨b, o + j, none⟩ = some (.slice ra (rowB n (e j)).length rc) ∧ Row w 1 (.slice ra (rowB n (e j)).length rc) (rowB n (e j)).length (ints (rowB n (e j))) := by
  obtain ⟨vsr, hG⟩ := h.ex
  obtain ⟨rb, ro, r, xs, rfl, hc, hxr, -, HXX⟩ := hG.intsAt (k := j) (by simpa using hj)
  obtain rfl : rowB n (e j) = xs := by have h := HXX.out; rw [rowsB_at e hj] at h; exact Option.some.inj h
  obtain ⟨ra, rc, rfl, -, -, -⟩ := id hxr
  exact ⟨rb, ro, ra, rc, rfl, hc, hxr⟩

theorem has_inL {v : Value} {xs : List Int} {w : World} (hr : RdS v xs w) (x : Nat) {b : Bool} (h : inL xs x = b) :
    Calls Tryd.prog 161 #[v, .int .i64 x] w fun r w' => r = .returned (.bool b) ∧ w = w' := by
  refine (has_any v xs x w hr).mono ?_
  rintro r w' ⟨rfl, rfl⟩
  refine ⟨ret_bool ?_, rfl⟩
  rw [← h]
  unfold inL
  rw [Bool.eq_iff_iff, List.contains_iff_mem, decide_eq_true_eq]

theorem edge_row {w : World} {a : Option Addr} {m c : Nat} {vs : List Value} {n : Nat} {e : Nat → Nat → Bool} {i : Nat} (h : RdG w (.slice a m c) vs ((edgesL n e).map ints)) (hi : i < (edgesL n e).length) :
    ∃ (b o rb ro rc u x : Nat), a = some ⟨b, o, none⟩ ∧ w.cell? ⟨b, o + i, none⟩ = some (.slice (some ⟨rb, ro, none⟩) 2 rc) ∧
      w.cell? ⟨rb, ro, none⟩ = some (.int .i64 u) ∧ w.cell? ⟨rb, ro + 1, none⟩ = some (.int .i64 x) ∧ Hid ((edgesL n e)[i]? = some [(u : Int), (x : Int)]) := by
  obtain ⟨rfl⟩ : m = vs.length := by
    obtain ⟨a', c', e', _⟩ := h.outer
    simp at e'
    omega
  obtain ⟨b, o, r, xs, rfl, hc, hx, -, HX⟩ := h.intsAt hi
  obtain ⟨u, x, hu, hxn, hlt, he, rfl⟩ := mem_edgesL.1 (List.mem_of_getElem? HX.out)
  obtain ⟨ra, rc, rfl, -, -, -⟩ := id hx
  obtain ⟨rb, ro, y, rfl, hc0, h0⟩ := Row.intAt (k := .i64) hx (j := 0) (by simp)
  obtain ⟨rb', ro', y', e', hc1, h1⟩ := Row.intAt (k := .i64) hx (j := 1) (by simp)
  obtain ⟨rfl, rfl⟩ : rb = rb' ∧ ro = ro' := by simpa using e'
  have e0 : y = u := by have := h0.out; simpa [eq_comm] using this
  have e2 : y' = x := by have := h1.out; simpa [eq_comm] using this
  subst e0; subst e2
  exact ⟨b, o, rb, ro, rc, u, x, rfl, hc, hc0, hc1, HX⟩

end Go.Proofs.YtbhobmngnjfgfaaDoor
