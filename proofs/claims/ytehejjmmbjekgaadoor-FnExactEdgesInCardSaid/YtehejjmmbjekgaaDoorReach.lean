/-
  'reach' of the program: what is reached from a vertex within a set.
-/
import Derived.Test.YtehejjmmbjekgaaDoorSetK
namespace Go.Proofs.YtehejjmmbjekgaaDoor
open Go.RowKit

theorem way_pt {n : Nat} {e : Nat → Nat → Bool} {p : Nat → Bool} {v : Nat} {o : Nat → Bool} (h0 : o v = true) (h1 : ∀ b, o b = true → b < n ∧ Way n e p v b)
    (h2 : ∀ a b, o a = true → b < n → e a b = true → p b = true → o b = true) : o = wayB n e p v := by
  funext b
  rw [Bool.eq_iff_iff, wayB_iff]
  refine ⟨fun h => (h1 b h).2, fun h => ?_⟩
  induction h with
  | here => exact h0
  | step h hb he hp ih => exact h2 _ _ ih hb he hp
theorem mask_le {n : Nat} {o o' : Nat → Bool} (h : ∀ b, o b = true → o' b = true) : maskB n o ≤ maskB n o' := by
  have e1 : maskB n o' = maskB n o ||| maskB n o' := by
    apply Nat.eq_of_testBit_eq
    intro i
    rw [Nat.testBit_or, testBit_maskB, testBit_maskB]
    cases hi : o i with
    | false => simp
    | true => rw [h i hi]; simp
  rw [e1]
  exact Nat.left_le_or
theorem mask_lt16 {n : Nat} (hn : n ≤ 16) (o : Nat → Bool) : maskB n o < 65536 := by
  have h := lt_of_bits (m := maskB n o) (n := n) fun i hi => by rw [testBit_maskB]; simp; omega
  exact Nat.lt_of_lt_of_le h (Nat.pow_le_pow_right (by decide) hn)

/-- What the run holds: a part of what is reached. -/
structure Met (n : Nat) (e : Nat → Nat → Bool) (p : Nat → Bool) (v : Nat) (o : Nat → Bool) : Prop where
  start : o v = true
  ways : ∀ b, o b = true → b < n ∧ Way n e p v b
/-- The same inside a round: the neighbours of the first j have been put in. -/
structure Met2 (n : Nat) (e : Nat → Nat → Bool) (p : Nat → Bool) (v : Nat) (o : Nat → Bool) (j : Nat) (o' : Nat → Bool) : Prop where
  more : ∀ b, o b = true → o' b = true
  ways : ∀ b, o' b = true → b < n ∧ Way n e p v b
  near : ∀ a b : Nat, (a : Int) ∈ (rowB n o).take j → b < n → e a b = true → p b = true → o' b = true
theorem Met2.start {n : Nat} {e : Nat → Nat → Bool} {p : Nat → Bool} {v : Nat} {o : Nat → Bool} (h : Met n e p v o) : Met2 n e p v o 0 o :=
  ⟨fun _ h => h, h.ways, fun a b ha => by simp at ha⟩
theorem Met2.succ {n : Nat} {e : Nat → Nat → Bool} {p : Nat → Bool} {v : Nat} {o o' : Nat → Bool} {j q : Nat} (h : Met2 n e p v o j o') (hq : (rowB n o)[j]? = some (q : Int)) :
    Met2 n e p v o (j + 1) (fun b => o' b || (decide (b < n) && (e q b && p b))) := by
  obtain ⟨q', hqn, hoq, e1⟩ := row_at hq
  obtain rfl : q = q' := by omega
  refine ⟨fun b hb => by rw [h.more b hb]; rfl, fun b hb => ?_, fun a b ha hb he hp => ?_⟩
  · rw [Bool.or_eq_true] at hb
    rcases hb with hb | hb
    · exact h.ways b hb
    · simp at hb
      exact ⟨hb.1, .step (h.ways q (h.more q hoq)).2 hb.1 hb.2.1 hb.2.2⟩
  · rw [take_snoc hq, List.mem_append] at ha
    rcases ha with ha | ha
    · rw [h.near a b ha hb he hp]; rfl
    · simp at ha
      obtain rfl : a = q := by omega
      simp [hb, he, hp]
theorem Met2.met {n : Nat} {e : Nat → Nat → Bool} {p : Nat → Bool} {v : Nat} {o o' : Nat → Bool} {j : Nat} (h0 : Met n e p v o) (h : Met2 n e p v o j o') : Met n e p v o' := ⟨h.more v h0.start, h.ways⟩
theorem Met2.done {n : Nat} {e : Nat → Nat → Bool} {p : Nat → Bool} {v : Nat} {o o' : Nat → Bool} (h0 : Met n e p v o) (h : Met2 n e p v o (rowB n o).length o') (hm : maskB n o' = maskB n o) : o = wayB n e p v := by
  refine way_pt h0.start h0.ways fun a b ha hb he hp => ?_
  have h1 := h.near a b (by rw [List.take_length]; exact nat_mem_rowB.2 ⟨(h0.ways a ha).1, ha⟩) hb he hp
  rw [← mask_eq_iff.1 hm b hb]
  exact h1

end Go.Proofs.YtehejjmmbjekgaaDoor
