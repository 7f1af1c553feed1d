/-
  'WordModel' of the program: its function, 'slices.Max'.
-/
import Derived.Test.YtehejjmmbjekgaaDoorFindWm
import Derived.Test.YtehejjmmbjekgaaDoorOkay
namespace Go.Proofs.YtehejjmmbjekgaaDoor
open Go.RowKit

/-- A number that is no place in a word. -/
def badW (x : Int) : Bool := !decide (0 ≤ x ∧ x ≤ 16)
theorem wm1_any (x : Int) (W : World) : Calls Tryd.prog 85 #[.int .i64 x] W fun e W' => e = .returned (.bool (badW x)) ∧ Below W.heap.size W W' := by
  have hi := inRange_is x 0 16 _ rfl W
  obtain ⟨b, HBB⟩ : ∃ b, Hid (decide (0 ≤ x ∧ x ≤ 16) = b) := ⟨_, Lib.hid rfl⟩
  rw [HBB.out] at hi
  have HF : Hid (badW x = !b) := Lib.hid (by unfold badW; rw [HBB.out])
  have HI := Lib.hid hi
  clear hi
  go_enter Tryd.func85, Tryd.ntmps85
  go_wp2_with fail
  refine HI.out.mono ?_
  rintro e1 w' ⟨rfl, rfl⟩
  go_wp2_with fail
  go_ret
  exact ⟨ret_bool HF.out.symm, Below.refl _ _⟩

/-- The largest number of a row, from its first one on. -/
def maxTo (x : Int) : List Int → Int
  | [] => x
  | y :: l => maxTo (if x < y then y else x) l
def maxL : List Int → Int
  | [] => 0
  | x :: l => maxTo x l
theorem maxTo_snoc (x : Int) (l : List Int) (y : Int) : maxTo x (l ++ [y]) = if maxTo x l < y then y else maxTo x l := by
  induction l generalizing x with
  | nil => rfl
  | cons z l ih => exact ih _
theorem maxL_succ {xs : List Int} {k : Nat} {y : Int} (hk : 0 < k) (h : xs[k]? = some y) : maxL (xs.take (k + 1)) = if maxL (xs.take k) < y then y else maxL (xs.take k) := by
  rw [take_snoc h]
  cases xs with
  | nil => simp at h
  | cons x l =>
    obtain ⟨k, rfl⟩ : ∃ j, k = j + 1 := ⟨k - 1, by omega⟩
    rw [List.take_succ_cons]
    exact maxTo_snoc x (l.take k) y

set_option maxHeartbeats 1000000 in
theorem max_any (v : Value) (xs : List Int) (hn : 0 < xs.length) (w : World) (hr : RdS v xs w) :
    Calls Tryd.prog 87 #[v] w fun e w' => e = .returned (.int .i64 (maxL xs)) ∧ w = w' := by
  obtain ⟨a, c, rfl, -, -, -⟩ := id hr
  have hlen : xs.length ≤ maxLen := hr.len
  unfold maxLen at hlen
  obtain ⟨xb, xo, x, rfl, hc0, HX⟩ := Row.intAt hr hn
  have hd : ¬ (xs.length : Int) < 1 := by omega
  have HM0 : Hid (x = maxL (xs.take 1)) := Lib.hid (by
    cases xs with
    | nil => simp at hn
    | cons z l => have := HX.out; simp at this; subst this; simp [maxL, maxTo])
  try simp only [Nat.add_zero] at hc0
  go_enter Tryd.func87, Tryd.ntmps87
  go_wp2_with fail
  go_loopw [3, 4] (fun m i wr => ∃ (k : Nat) (M : Int), 0 < k ∧ k ≤ xs.length ∧ i = .int .i64 k ∧ m = .int .i64 M ∧ Hid (M = maxL (xs.take k)) ∧ wr = w) (fun _ i _ => xs.length - (intOf i).toNat)
  case atStart => exact ⟨1, x, by omega, by omega, rfl, rfl, HM0, rfl⟩
  case round =>
    obtain ⟨k, M, hk0, hk, rfl, rfl, HM, rfl⟩ := hrel
    by_cases hlt : k < xs.length
    · obtain ⟨yb, yo, y, e5, hcy, HY⟩ := Row.intAt hr hlt
      obtain ⟨rfl, rfl⟩ : xb = yb ∧ xo = yo := by simpa using e5
      have HS := Lib.hid (maxL_succ hk0 HY.out)
      clear e5
      by_cases hy : M < y
      · have hy2 : ¬ y < M := by omega
        have hy3 : M ≤ y := by omega
        have HS2 : Hid (y = maxL (xs.take (k + 1))) := Lib.hid (by rw [HS.out, ← HM.out, if_pos hy])
        go_wp2_with fail
        go_roundw
        case rel => exact ⟨k + 1, y, by omega, by omega, by go_num, by simp, HS2, by first | rfl | trivial⟩
        case measure => simp [intOf]; omega
      · have HS2 : Hid (M = maxL (xs.take (k + 1))) := Lib.hid (by rw [HS.out, ← HM.out, if_neg hy])
        by_cases hy2 : y < M
        · go_wp2_with fail
          go_roundw
          case rel => exact ⟨k + 1, M, by omega, by omega, by go_num, by simp, HS2, by first | rfl | trivial⟩
          case measure => simp [intOf]; omega
        · obtain rfl : y = M := by omega
          go_wp2_with fail
          go_roundw
          case rel => exact ⟨k + 1, y, by omega, by omega, by go_num, by simp, HS2, by first | rfl | trivial⟩
          case measure => simp [intOf]; omega
    · obtain rfl : k = xs.length := by omega
      have HF : Hid (M = maxL xs) := Lib.hid (by have := HM.out; rwa [List.take_length] at this)
      go_wp2_with fail
      go_ret
      exact ⟨ret_int HF.out, by first | rfl | trivial⟩
end Go.Proofs.YtehejjmmbjekgaaDoor
