/-
  'slices.IndexFunc' and 'ContainsFunc' over the function of 'WordModel'.
-/
import Derived.Test.YtehejjmmbjekgaaDoorSetK
namespace Go.Proofs.YtehejjmmbjekgaaDoor
open Go.RowKit

set_option maxHeartbeats 1000000 in
theorem idxF_any_wm  (p : Int → Bool) (v : Value) (xs : List Int) (w : World) (hr : Row w 1 v xs.length (ints xs))
    (hcall : ∀ x ∈ xs, ∀ W, Below w.heap.size w W → Calls Tryd.prog 85 #[.int .i64 x] W fun e W' => e = .returned (.bool (p x)) ∧ Below W.heap.size W W') :
    Calls Tryd.prog 131 #[v, .func (.func 85) #[] #[]] w fun e w' => ∃ r : Int, e = .returned (.int .i64 r) ∧ Hid (decide (0 ≤ r) = xs.any p) ∧ Below w.heap.size w w' := by
  obtain ⟨a, c, rfl, -, -, -⟩ := id hr
  have hlen := hr.len
  unfold maxLen at hlen
  obtain ⟨B, hB⟩ : ∃ B, w.heap.size = B := ⟨_, rfl⟩
  rw [hB] at hcall
  have hcl : Below B w w := Below.refl _ _
  go_enter Tryd.func131, Tryd.ntmps131
  go_wp2_with fail
  go_loopw [8] (fun i wr => ∃ k : Nat, k ≤ xs.length ∧ i = .int .i64 k ∧ Hid ((xs.take k).any p = false) ∧ Below B w wr) (fun i _ => xs.length - (intOf i).toNat)
  case atStart => exact ⟨0, Nat.zero_le _, rfl, Lib.hid (by simp), hcl⟩
  case round =>
    clear hcl
    obtain ⟨k, hk, rfl, HK, hb⟩ := hrel
    have hsz := hb.size
    by_cases hlt : k < xs.length
    · obtain ⟨yb, yo, x, rfl, hc, HX⟩ := (Row.below hr (hB.symm ▸ hb)).intAt hlt
      have HC := Lib.hid (hcall x (List.mem_of_getElem? HX.out) wr hb)
      obtain ⟨b, HBB⟩ : ∃ b, Hid (p x = b) := ⟨_, Lib.hid rfl⟩
      rw [HBB.out] at HC
      have HS : Hid ((xs.take (k + 1)).any p = b) := Lib.hid (by rw [take_snoc HX.out, List.any_append, HK.out]; simp [HBB.out])
      go_wp2_with fail
      refine HC.out.mono ?_
      rintro e1 w1 ⟨rfl, hb1⟩
      have hb2 := hb.trans (hb1.mono (by omega))
      clear hb1 HC hc hb
      cases b with
      | true =>
        have HF : Hid (xs.any p = true) := Lib.hid (List.any_eq_true.2 ⟨x, List.mem_of_getElem? HX.out, HBB.out⟩)
        go_wp2_with fail
        go_ret
        exact ⟨_, rfl, Lib.hid (by rw [HF.out]; simp), by rw [hB]; exact hb2⟩
      | false =>
        go_wp2_with fail
        go_roundw
        case rel => exact ⟨k + 1, by omega, by go_num, HS, hb2⟩
        case measure => simp [intOf]; omega
    · obtain rfl : k = xs.length := by omega
      go_wp2_with fail
      go_ret
      exact ⟨_, rfl, Lib.hid (by have := HK.out; rw [List.take_length] at this; rw [this]; rfl), by rw [hB]; exact hb⟩
theorem contF_any_wm  (p : Int → Bool) (v : Value) (xs : List Int) (w : World) (hr : Row w 1 v xs.length (ints xs))
    (hcall : ∀ x ∈ xs, ∀ W, Below w.heap.size w W → Calls Tryd.prog 85 #[.int .i64 x] W fun e W' => e = .returned (.bool (p x)) ∧ Below W.heap.size W W') :
    Calls Tryd.prog 84 #[v, .func (.func 85) #[] #[]] w fun e w' => e = .returned (.bool (xs.any p)) ∧ Below w.heap.size w w' := by
  obtain ⟨a, c, rfl, -, -, -⟩ := id hr
  have HI := Lib.hid (idxF_any_wm  p _ xs w hr hcall)
  clear hcall
  go_enter Tryd.func84, Tryd.ntmps84
  go_wp2_with fail
  refine HI.out.mono ?_
  rintro e1 w1 ⟨r, rfl, HR, hb⟩
  go_wp2_with fail
  go_ret
  exact ⟨ret_bool HR.out, hb⟩
end Go.Proofs.YtehejjmmbjekgaaDoor
