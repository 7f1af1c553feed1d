/-
  The program's sets of vertices: what 'inRange', 'one', 'least', 'list', 'wide', 'numbers' return.
-/
import Derived.Test.YtbhobmngnjfgfaaProg
import Derived.Test.YtbhobmngnjfgfaaMem
import Derived.Test.YtbhobmngnjfgfaaBits
import Derived.WalkKit
import Derived.WalkSpells
import Derived.WalkLawsBesides
import Derived.Lib.Hide
namespace Go.Proofs.Ytbhobmngnjfgfaa
open Go.RowKit

theorem ret_bool {a b : Bool} (h : a = b) : Ending.returned (.bool a) = .returned (.bool b) := by rw [h]
theorem ret_int {k : IntKind} {a b : Int} (h : a = b) : Ending.returned (.int k a) = .returned (.int k b) := by rw [h]

theorem infoI : (Try.prog.info? 2).map (fun i => (i.zero, i.size, i.bytes)) = some (some (.int .i64 0), 1, 8) := by kernel_rfl
theorem infoN : (Try.prog.info? 3).map (fun i => (i.zero, i.size, i.bytes)) = some (some (.int .i64 0), 1, 8) := by kernel_rfl

theorem inRange_any (n lo hi : Int) (w : World) :
    Calls Try.prog 38 #[.int .i64 n, .int .i64 lo, .int .i64 hi] w fun e w' => e = .returned (.bool (decide (lo ≤ n ∧ n ≤ hi))) ∧ w = w' := by
  go_enter Try.func38, Try.ntmps38
  go_wp2
  all_goals go_ret
  all_goals exact ⟨ret_bool (by rw [Bool.eq_iff_iff]; simp; try omega), rfl⟩

theorem bits_clear {m : Nat} (h0 : m ≠ 0) (h : m < 4294967296) : bits BinOp.and IntKind.u32 (m : Int) ((m : Int) - 1) = ((m &&& (m - 1) : Nat) : Int) := by
  have e : ((m : Int) - 1) = ((m - 1 : Nat) : Int) := by omega
  rw [e, u32_and_nat _ _ h (by omega)]

/-- int64 or int: a list of numbers as values. -/
def ints (xs : List Int) : List Value := xs.map (Value.int .i64)
@[simp] theorem ints_length (xs : List Int) : (ints xs).length = xs.length := by simp [ints]
theorem ints_snoc (xs : List Int) (x : Int) : ints (xs ++ [x]) = ints xs ++ [.int .i64 x] := by simp [ints]
theorem take_snoc {α : Type} {xs : List α} {k : Nat} {x : α} (h : xs[k]? = some x) : xs.take (k + 1) = xs.take k ++ [x] := by
  obtain ⟨hk, rfl⟩ := List.getElem?_eq_some_iff.1 h
  exact List.take_succ_eq_append_getElem hk
/-- The number at place j of a slice of numbers that is read. -/
theorem Row.intAt {w : World} {a : Option Addr} {len cap n : Nat} {xs : List Int} {k : IntKind} (h : Row w 1 (.slice a len cap) n (xs.map (Value.int k))) {j : Nat} (hj : j < xs.length) :
    ∃ b o x, a = some ⟨b, o, none⟩ ∧ w.cell? ⟨b, o + j, none⟩ = some (.int k x) ∧ Hid (xs[j]? = some x) := by
  obtain ⟨a', cap', e, h1, h2, h3, h4, h5⟩ := h
  obtain ⟨rfl, rfl, rfl⟩ : a' = a ∧ n = len ∧ cap' = cap := by simpa [eq_comm] using e
  obtain ⟨b, o, rfl, hc⟩ := h5 j (.int k xs[j]) (by simp [hj])
  exact ⟨b, o, xs[j], rfl, hc, Lib.hid (by simp [hj])⟩

/-- The elements of a set, as numbers. -/
def nums (m : Nat) : List Int := (bitsOf m).map fun (i : Nat) => (i : Int)
theorem nums_length (m : Nat) : (nums m).length ≤ 32 := by simpa [nums] using length_bitsOf m
theorem ints_nums (m : Nat) : ints (nums m) = (bitsOf m).map fun (i : Nat) => Value.int .i64 i := by simp [ints, nums]

end Go.Proofs.Ytbhobmngnjfgfaa
