import Derived.Test.YtpfhflkpnjkgkaaDoorOtherJn
/-
  'Complement' of the reference and of the program.
-/

namespace Go.Proofs.YtpfhflkpnjkgkaaDoor
open Go.RowKit

theorem GRes.put {w0 wr w' : World} {B b : Nat} {u : Value} {vs : List Value} {rows : List (List Int)} (hB : w0.heap.size = B) (hb : Below B w0 wr) (hbb : B ≤ b) (hbr : b < wr.heap.size)
    (hG : OwnG w' wr.heap.size 24 2 u vs (rows.map ints)) (hb' : Below wr.heap.size wr w') (ok : Bool) :
    GRes w0 rows ok (.returned (.tuple #[.agg #[u], .bool ok])) (w'.setCell ⟨b, 0, none⟩ u) := by
  subst hB
  exact ⟨u, vs, rfl, (hG.other hbr _).rebase (by omega), (hb.trans (hb'.mono (by omega))).setCell hbb _⟩

theorem total_rowsB (n : Nat) (f : Nat → Nat → Bool) (hn : n ≤ 32) : total (rowsB n f) ≤ 32 * n := by
  have := total_rowsOf (NB n f)
  rw [NB_length, rowsOf_NB hn] at this
  exact this

end Go.Proofs.YtpfhflkpnjkgkaaDoor
