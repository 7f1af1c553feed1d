import Derived.Test.YtpfhflkpnjkgkaaDoorGq03
/-
  'l1Has' and others of the reference that read a slice of numbers.
-/

namespace Go.Proofs.YtpfhflkpnjkgkaaDoor
open Go.RowKit

theorem contains_snoc (xs : List Int) (k : Nat) (x y : Int) (hy : xs[k]? = some y) (h : (xs.take k).contains x = false) : (xs.take (k + 1)).contains x = (y == x) := by
  rw [take_snoc hy, List.contains_append, h]
  simp only [List.contains_cons, List.contains_nil, Bool.or_false, Bool.false_or]
  rw [Bool.eq_iff_iff, beq_iff_eq, beq_iff_eq]; exact eq_comm

theorem has_any (v : Value) (xs : List Int) (x : Int) (w : World) (hr : Row w 1 v xs.length (ints xs)) :
    Calls Tryd.prog 64 #[v, .int .i64 x] w fun e w' => e = .returned (.bool (xs.contains x)) ∧ w = w' := by
  have hl := hr.len
  unfold maxLen at hl
  obtain ⟨a, c, rfl, -, -, -⟩ := id hr
  go_enter Tryd.func64, Tryd.ntmps64
  go_wp2_with fail
  go_loopw [5] (fun i wr => ∃ k : Nat, k ≤ xs.length ∧ i = .int .i64 k ∧ (xs.take k).contains x = false ∧ w = wr) (fun i _ => xs.length - (intOf i).toNat)
  case atStart => exact ⟨0, Nat.zero_le _, rfl, by simp, rfl⟩
  case round =>
    obtain ⟨k, hk, rfl, hno, rfl⟩ := hrel
    have HNO := Lib.hid hno
    clear hno
    by_cases hlt : k < xs.length
    · obtain ⟨b, o, y, rfl, hc, HY⟩ := hr.intAt hlt
      by_cases hyx : y = x
      · have HYX := Lib.hid hyx
        clear hyx
        have hd : (y == x) = true := by simpa using HYX.out
        go_wp2_with fail
        go_ret
        have hin : xs.contains x = true := by
          have h1 := List.mem_of_getElem? HY.out
          rw [HYX.out] at h1
          simpa using h1
        exact ⟨ret_bool hin.symm, rfl⟩
      · have hd : (y == x) = false := by simpa using hyx
        go_wp2_with fail
        go_roundw
        case rel => exact ⟨k + 1, by omega, by go_num, by rw [contains_snoc xs k x y HY.out HNO.out, hd], by trivial⟩
        case measure => simp [intOf]; omega
    · go_wp2_with fail
      go_ret
      have hin : xs.contains x = false := by
        have h1 := HNO.out
        rwa [show k = xs.length by omega, List.take_length] at h1
      exact ⟨ret_bool hin.symm, rfl⟩

theorem size_any (a : Option Addr) (n c : Nat) (w : World) :
    Calls Tryd.prog 32 #[.agg #[.slice a n c]] w fun e w' => e = .returned (.int .i64 n) ∧ Below w.heap.size w w' := by
  go_enter Tryd.func32, Tryd.ntmps32
  go_wp2_with fail
  go_ret
  exact ⟨rfl, (Below.refl _ _).alloc (Nat.le_refl _) _⟩
end Go.Proofs.YtpfhflkpnjkgkaaDoor
