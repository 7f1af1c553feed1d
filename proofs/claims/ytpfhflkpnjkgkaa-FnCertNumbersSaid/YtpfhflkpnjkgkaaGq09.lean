import Derived.Test.YtpfhflkpnjkgkaaGq08
/-
  'slices.IndexFunc' and 'ContainsFunc' over the closure of 'isStable'.
-/

namespace Go.Proofs.Ytpfhflkpnjkgkaa
open Go.RowKit

end Go.Proofs.Ytpfhflkpnjkgkaa
/-
  The sets of so many numbers, tried in their order, plainly.
-/


namespace Go.Proofs.Ytpfhflkpnjkgkaa
open Go.RowKit

theorem range_split {d m : Nat} (h : d < m) : List.range m = List.range d ++ d :: List.range' (d + 1) (m - d - 1) := by
  have h1 : m = d + (m - d - 1 + 1) := by omega
  conv => lhs; rw [h1, List.range_add]
  congr 1
  rw [← List.range'_succ, List.range'_eq_map_range]
theorem find_mid {pre x rest : List Nat} {fit : Nat → Bool} (h0 : pre.any fit = false) (h1 : x.any fit = true) : (pre ++ (x ++ rest)).find? fit = x.find? fit ∧ (pre ++ (x ++ rest)).any fit = true := by
  have hp : pre.find? fit = none := by
    rw [List.find?_eq_none]
    intro y hy
    rw [List.any_eq_false] at h0
    exact h0 y hy
  rw [List.any_eq_true] at h1
  obtain ⟨y, hy, hfy⟩ := h1
  refine ⟨?_, by rw [List.any_append, List.any_append, List.any_eq_true.2 ⟨y, hy, hfy⟩]; simp⟩
  rw [List.find?_append, List.find?_append, hp, Option.none_or]
  cases hx : x.find? fit with
  | none => rw [List.find?_eq_none] at hx; exact (hx y hy hfy).elim
  | some z => rfl
/-- What a search for the smallest set returns. -/
def SmallRes (n : Nat) (fit : Nat → Bool) (w : World) (e : Ending) (w' : World) : Prop :=
  ∃ (r : Nat) (ok : Bool), e = .returned (.tuple #[.int .u32 (r : Nat), .bool ok]) ∧
    Hid ((ok = true ∧ IsBest size (fun s => fit s = true) (2 ^ n) r) ∨ (ok = false ∧ r = 0 ∧ ∀ t, t < 2 ^ n → fit t = false)) ∧ Below w.heap.size w w'
/-- What has been tried ahead of the d-th start. -/
def tried (n k f c d : Nat) : List Nat := (List.range d).flatMap fun d => combos n k (f + d + 1) (c ||| 2 ^ (f + d))
theorem tried_succ (n k f c d : Nat) : tried n k f c (d + 1) = tried n k f c d ++ combos n k (f + d + 1) (c ||| 2 ^ (f + d)) := by
  unfold tried
  rw [List.range_succ, List.flatMap_append]
  simp
theorem combos_tried {n k f c d : Nat} (h : d < n - (f + k)) : ∃ rest, combos n (k + 1) f c = tried n k f c d ++ (combos n k (f + d + 1) (c ||| 2 ^ (f + d)) ++ rest) := by
  unfold tried
  rw [show combos n (k + 1) f c = (List.range (n - (f + k))).flatMap fun d => combos n k (f + d + 1) (c ||| 2 ^ (f + d)) from rfl, range_split h, List.flatMap_append, List.flatMap_cons]
  exact ⟨_, rfl⟩
theorem below_bits {n f c : Nat} (hf : f ≤ n) (hc : ∀ j, f ≤ j → c.testBit j = false) : c < 2 ^ n := Nat.lt_pow_two_of_testBit c fun j hj => hc j (by omega)
theorem pow16 {n s : Nat} (hn : n ≤ 16) (h : s < 2 ^ n) : s < 65536 := Nat.lt_of_lt_of_le h (Nat.pow_le_pow_right (n := 2) (j := 16) (by decide) hn)
end Go.Proofs.Ytpfhflkpnjkgkaa
/-
  'chooseSets' over the closure of 'bestStable'.
-/

namespace Go.Proofs.Ytpfhflkpnjkgkaa
open Go.RowKit

end Go.Proofs.Ytpfhflkpnjkgkaa
/-
  'reach' of the program: what is reached from a vertex within a set.
-/

namespace Go.Proofs.Ytpfhflkpnjkgkaa
open Go.RowKit

theorem way_pt {n : Nat} {e : Nat → Nat → Bool} {p : Nat → Bool} {v : Nat} {o : Nat → Bool} (h0 : o v = true) (h1 : ∀ b, o b = true → b < n ∧ Way n e p v b)
    (h2 : ∀ a b, o a = true → b < n → e a b = true → p b = true → o b = true) : o = wayB n e p v := by
  funext b
  rw [Bool.eq_iff_iff, wayB_iff]
  refine ⟨fun h => (h1 b h).2, fun h => ?_⟩
  induction h with
  | here => exact h0
  | step h hb he hp ih => exact h2 _ _ ih hb he hp
theorem mask_le {n : Nat} {o o' : Nat → Bool} (h : ∀ b, o b = true → o' b = true) : maskB n o ≤ maskB n o' := by
  have e1 : maskB n o' = maskB n o ||| maskB n o' := by
    apply Nat.eq_of_testBit_eq
    intro i
    rw [Nat.testBit_or, testBit_maskB, testBit_maskB]
    cases hi : o i with
    | false => simp
    | true => rw [h i hi]; simp
  rw [e1]
  exact Nat.left_le_or
theorem mask_lt16 {n : Nat} (hn : n ≤ 16) (o : Nat → Bool) : maskB n o < 65536 := by
  have h := lt_of_bits (m := maskB n o) (n := n) fun i hi => by rw [testBit_maskB]; simp; omega
  exact Nat.lt_of_lt_of_le h (Nat.pow_le_pow_right (by decide) hn)

/-- What the run holds: a part of what is reached. -/
structure Met (n : Nat) (e : Nat → Nat → Bool) (p : Nat → Bool) (v : Nat) (o : Nat → Bool) : Prop where
  start : o v = true
  ways : ∀ b, o b = true → b < n ∧ Way n e p v b
/-- The same inside a round: the neighbours of the first j have been put in. -/
structure Met2 (n : Nat) (e : Nat → Nat → Bool) (p : Nat → Bool) (v : Nat) (o : Nat → Bool) (j : Nat) (o' : Nat → Bool) : Prop where
  more : ∀ b, o b = true → o' b = true
  ways : ∀ b, o' b = true → b < n ∧ Way n e p v b
  near : ∀ a b : Nat, (a : Int) ∈ (rowB n o).take j → b < n → e a b = true → p b = true → o' b = true
theorem Met2.start {n : Nat} {e : Nat → Nat → Bool} {p : Nat → Bool} {v : Nat} {o : Nat → Bool} (h : Met n e p v o) : Met2 n e p v o 0 o :=
  ⟨fun _ h => h, h.ways, fun a b ha => by simp at ha⟩
theorem Met2.succ {n : Nat} {e : Nat → Nat → Bool} {p : Nat → Bool} {v : Nat} {o o' : Nat → Bool} {j q : Nat} (h : Met2 n e p v o j o') (hq : (rowB n o)[j]? = some (q : Int)) :
    Met2 n e p v o (j + 1) (fun b => o' b || (decide (b < n) && (e q b && p b))) := by
  obtain ⟨q', hqn, hoq, e1⟩ := row_at hq
  obtain rfl : q = q' := by omega
  refine ⟨fun b hb => by rw [h.more b hb]; rfl, fun b hb => ?_, fun a b ha hb he hp => ?_⟩
  · rw [Bool.or_eq_true] at hb
    rcases hb with hb | hb
    · exact h.ways b hb
    · simp at hb
      exact ⟨hb.1, .step (h.ways q (h.more q hoq)).2 hb.1 hb.2.1 hb.2.2⟩
  · rw [take_snoc hq, List.mem_append] at ha
    rcases ha with ha | ha
    · rw [h.near a b ha hb he hp]; rfl
    · simp at ha
      obtain rfl : a = q := by omega
      simp [hb, he, hp]
theorem Met2.met {n : Nat} {e : Nat → Nat → Bool} {p : Nat → Bool} {v : Nat} {o o' : Nat → Bool} {j : Nat} (h0 : Met n e p v o) (h : Met2 n e p v o j o') : Met n e p v o' := ⟨h.more v h0.start, h.ways⟩
theorem Met2.done {n : Nat} {e : Nat → Nat → Bool} {p : Nat → Bool} {v : Nat} {o o' : Nat → Bool} (h0 : Met n e p v o) (h : Met2 n e p v o (rowB n o).length o') (hm : maskB n o' = maskB n o) : o = wayB n e p v := by
  refine way_pt h0.start h0.ways fun a b ha hb he hp => ?_
  have h1 := h.near a b (by rw [List.take_length]; exact nat_mem_rowB.2 ⟨(h0.ways a ha).1, ha⟩) hb he hp
  rw [← mask_eq_iff.1 hm b hb]
  exact h1

end Go.Proofs.Ytpfhflkpnjkgkaa
/-
  The program's 'partsOf' and 'results'.
-/

namespace Go.Proofs.Ytpfhflkpnjkgkaa
open Go.RowKit

/-- The parts of a set as masks. -/
noncomputable def partsM (n : Nat) (e : Nat → Nat → Bool) (p : Nat → Bool) (j : Nat) : List Nat := (partsTo n e p j).map (maskB n)
theorem partsM_length (n : Nat) (e : Nat → Nat → Bool) (p : Nat → Bool) (j : Nat) : (partsM n e p j).length = (partsTo n e p j).length := by simp [partsM]
theorem sets_snoc (ms : List Nat) (x : Nat) : sets (ms ++ [x]) = sets ms ++ [.int .u32 (x : Nat)] := by simp [sets]

/-- The least one of what is left: the next part. -/
theorem parts_step {n : Nat} {e : Nat → Nat → Bool} {p : Nat → Bool} (hn : n ≤ 16) (hA : Adj n e) (hpn : ∀ b, p b = true → b < n) {J m : Nat} (hm : m = maskB n (leftB n e p J)) (h0 : m ≠ 0) :
    low m < n ∧ wayB n e (leftB n e p J) (low m) = wayB n e p (low m) ∧ partsTo n e p (low m + 1) = partsTo n e p J ++ [wayB n e p (low m)] ∧ (∀ b, leftB n e p (low m + 1) b = (leftB n e p J b && !wayB n e p (low m) b)) ∧ leftB n e p J (low m) = true := by
  have hm32 : m < 2 ^ 32 := by rw [two32, hm]; exact maskB_small (by omega) _
  obtain ⟨_, h2, h3⟩ := low_spec h0 hm32
  generalize low m = l at *
  rw [hm, testBit_maskB, Bool.and_eq_true, decide_eq_true_eq] at h2
  have hlow : ∀ i, J ≤ i → i < l → leftB n e p J i = false := fun i _ hi => by
    have := h3 i hi
    rw [hm, testBit_maskB] at this
    simpa [show i < n by omega] using this
  have hJl := (leftB_ge h2.2).1
  obtain ⟨g1, g2⟩ := jumpLeft hJl hlow
  have e1 := leftB_of_done g2
  have hl : leftB n e p l l = true := by rw [e1]; exact h2.2
  refine ⟨h2.1, ?_, ?_, fun b => ?_, h2.2⟩
  · rw [← e1]; exact wayB_left hA hpn hl
  · rw [partsTo_yes hl, g1]
  · rw [leftB_yes hl, e1]
theorem parts_end {n : Nat} {e : Nat → Nat → Bool} {p : Nat → Bool} {J : Nat} (hJ : J ≤ n) (h : maskB n (leftB n e p J) = 0) : partsTo n e p n = partsTo n e p J :=
  (jumpLeft hJ fun i _ hi => maskB_eq_zero.1 h i hi).1
theorem mask_less {n : Nat} {o o' : Nat → Bool} {l : Nat} (hl : l < n) (h0 : o l = true) (h1 : o' l = false) (h : ∀ b, o' b = true → o b = true) : maskB n o' < maskB n o := by
  refine Nat.lt_of_le_of_ne (mask_le h) fun he => ?_
  have := mask_eq_iff.1 he l hl
  rw [h0, h1] at this
  cases this

end Go.Proofs.Ytpfhflkpnjkgkaa
