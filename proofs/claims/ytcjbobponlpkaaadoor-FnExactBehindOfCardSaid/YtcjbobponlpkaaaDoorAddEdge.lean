/-
  'AddedEdge' of the reference and of the program.
-/
import Derived.Test.YtcjbobponlpkaaaDoorPair
import Derived.Test.YtcjbobponlpkaaaDoorVertex
namespace Go.Proofs.YtcjbobponlpkaaaDoor
open Go.RowKit

/-- What 'AddedEdge' asks. -/
def OkA (xss : List (List Int)) (u v : Int) : Prop := vertexB xss u = true ∧ vertexB xss v = true ∧ u ≠ v ∧ edgeB xss u v = false
instance (xss : List (List Int)) (u v : Int) : Decidable (OkA xss u v) := by unfold OkA; infer_instance
/-- Two vertices of a valid graph. -/
structure Two (xss : List (List Int)) (u v : Int) (n : Nat) (e : Nat → Nat → Bool) (a b : Nat) : Prop where
  adj : Adj n e
  eq : xss = rowsB n e
  len : xss.length = n
  ua : u = a
  vb : v = b
  an : a < n
  bn : b < n
theorem two_of {xss : List (List Int)} {u v : Int} (h1 : vertexB xss u = true) (h2 : vertexB xss v = true) : ∃ e a b, Two xss u v xss.length e a b := by
  unfold vertexB at h1 h2
  rw [Bool.and_eq_true] at h1 h2
  obtain ⟨e, hA, hx⟩ := (okB_iff xss).1 h1.1
  obtain ⟨a, ha, han⟩ := inN_nat h1.2
  obtain ⟨b, hb, hbn⟩ := inN_nat h2.2
  exact ⟨e, a, b, hA, hx, rfl, ha, hb, han, hbn⟩
theorem edgeB_two {xss : List (List Int)} {u v : Int} {n : Nat} {e : Nat → Nat → Bool} {a b : Nat} (h : Two xss u v n e a b) : edgeB xss u v = e a b := by
  obtain ⟨hA, hx, hl, rfl, rfl, ha, hb⟩ := h
  unfold edgeB
  rw [show okB xss = true by rw [hx]; exact okB_adj hA, show inN xss.length (a : Int) = true by rw [inN_iff]; omega, Int.toNat_natCast, hx, rowsB_getD e ha, contains_rowB]
  simp [hb]

/-- An owned graph, changed in place, goes into the variable of the result. -/
theorem GRes.fin2 {w0 wr : World} {B b base : Nat} {u : Value} {vs : List Value} {rows : List (List Int)} (hB : w0.heap.size = B) (hb : Below B w0 wr) (hbb : B ≤ b)
    (hG : OwnG wr base 25 2 u vs (rows.map ints)) (hbase : b < base) (ok : Bool) :
    GRes w0 rows ok (.returned (.tuple #[.agg #[u], .bool ok])) (wr.setCell ⟨b, 0, none⟩ u) := GRes.fin hB hb hbb hG hbase ok

end Go.Proofs.YtcjbobponlpkaaaDoor
