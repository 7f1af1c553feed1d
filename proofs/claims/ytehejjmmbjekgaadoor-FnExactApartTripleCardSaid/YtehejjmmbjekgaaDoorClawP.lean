/-
  Claws, plainly: three neighbours of a vertex of which no two are joined; the first one.
-/
import Derived.Test.YtehejjmmbjekgaaDoorPlainCh
import Derived.Test.YtehejjmmbjekgaaDoorOnesEx
namespace Go.Proofs.YtehejjmmbjekgaaDoor
open Go.RowKit

/-- No two of three are joined. -/
def St (e : Nat → Nat → Bool) (x y z : Nat) : Prop := e x y = false ∧ e x z = false ∧ e y z = false
/-- The set is three neighbours of v of which no two are joined. -/
def Claw (n : Nat) (e : Nat → Nat → Bool) (v s : Nat) : Prop :=
  ∃ x y z : Nat, x < y ∧ y < z ∧ z < n ∧ e v x = true ∧ e v y = true ∧ e v z = true ∧ St e x y z ∧ ∀ b, s.testBit b = (decide (b = x) || decide (b = y) || decide (b = z))
structure IsClaw (n : Nat) (e : Nat → Nat → Bool) (v s : Nat) : Prop where
  lt : v < n
  fits : Claw n e v s
  least : ∀ t, Claw n e v t → ¬ Lex t s
  first : ∀ u, u < v → ∀ t, ¬ Claw n e u t
theorem Claw.lt {n : Nat} {e : Nat → Nat → Bool} {v s : Nat} (h : Claw n e v s) : s < 2 ^ n := by
  obtain ⟨x, y, z, h1, h2, h3, -, -, -, -, hb⟩ := h
  exact lt_of_bits fun i hi => by rw [hb]; simp; omega
theorem IsClaw.unique {n : Nat} {e : Nat → Nat → Bool} {v s u t : Nat} (hn : n ≤ 16) (h : IsClaw n e v s) (h' : IsClaw n e u t) : v = u ∧ s = t := by
  have hvu : v = u := by
    rcases Nat.lt_trichotomy v u with hlt | heq | hlt
    · exact (h'.first v hlt s h.fits).elim
    · exact heq
    · exact (h.first u hlt t h'.fits).elim
  subst hvu
  refine ⟨rfl, ?_⟩
  apply Classical.byContradiction
  intro hne
  have hp : 2 ^ n ≤ 65536 := Nat.pow_le_pow_right (n := 2) (j := 16) (by decide) hn
  have h1 := h.fits.lt
  have h2 := h'.fits.lt
  rcases Lex.total (by omega) (by omega) hne with hl | hl
  · exact h'.least s h.fits hl
  · exact h.least t h'.fits hl

/-! ### The first one in the order of a row -/
def N1 (n : Nat) (e : Nat → Nat → Bool) (v i : Nat) : Prop := ∀ x y z : Nat, (x : Int) ∈ (rowB n (e v)).take i → x < y → y < z → z < n → e v y = true → e v z = true → ¬ St e x y z
def N2 (n : Nat) (e : Nat → Nat → Bool) (v x k : Nat) : Prop := ∀ y z : Nat, (y : Int) ∈ (rowB n (e v)).take k → x < y → y < z → z < n → e v z = true → ¬ St e x y z
def N3 (n : Nat) (e : Nat → Nat → Bool) (v x y m : Nat) : Prop := ∀ z : Nat, (z : Int) ∈ (rowB n (e v)).take m → y < z → ¬ St e x y z
section
variable {n : Nat} {e : Nat → Nat → Bool} {v : Nat}
theorem take_lt {i x y : Nat} (hi : (rowB n (e v))[i]? = some (x : Int)) (h : (y : Int) ∈ (rowB n (e v)).take (i + 1)) : y ≤ x := by
  obtain ⟨k, hk, hy⟩ := mem_take_iff.1 h
  by_cases he : k = i
  · subst he; rw [hi] at hy; have := Option.some.inj hy; omega
  · have := rising_at (rowB_rising n (e v)) hy hi (by omega); omega
theorem mem_of_lt {i x y : Nat} (hi : (rowB n (e v))[i]? = some (x : Int)) (hy : y < n) (he : e v y = true) (h : y < x) : (y : Int) ∈ (rowB n (e v)).take i := by
  obtain ⟨k, hk⟩ := List.mem_iff_getElem?.1 (nat_mem_rowB.2 ⟨hy, he⟩)
  refine mem_take_iff.2 ⟨k, ?_, hk⟩
  apply Classical.byContradiction
  intro hn
  by_cases hke : k = i
  · subst hke; rw [hi] at hk; have := Option.some.inj hk; omega
  · have := rising_at (rowB_rising n (e v)) hi hk (by omega); omega
theorem N1.start : N1 n e v 0 := fun x y z h => by simp at h
theorem N2.start {i x : Nat} (hi : (rowB n (e v))[i]? = some (x : Int)) : N2 n e v x (i + 1) := fun y z h hxy => by have := take_lt hi h; omega
theorem N3.start {k x y : Nat} (hk : (rowB n (e v))[k]? = some (y : Int)) : N3 n e v x y (k + 1) := fun z h hyz => by have := take_lt hk h; omega
theorem N3.succ {x y m z : Nat} (h : N3 n e v x y m) (hm : (rowB n (e v))[m]? = some (z : Int)) (hs : ¬ St e x y z) : N3 n e v x y (m + 1) := by
  intro z' hz hyz
  rw [take_snoc hm, List.mem_append] at hz
  rcases hz with hz | hz
  · exact h z' hz hyz
  · simp at hz
    obtain rfl : z' = z := by omega
    exact hs
theorem N2.succ {x k y : Nat} (h : N2 n e v x k) (hk : (rowB n (e v))[k]? = some (y : Int)) (hs : N3 n e v x y (rowB n (e v)).length) : N2 n e v x (k + 1) := by
  intro y' z hy hxy hyz hzn hez
  rw [take_snoc hk, List.mem_append] at hy
  rcases hy with hy | hy
  · exact h y' z hy hxy hyz hzn hez
  · simp at hy
    obtain rfl : y' = y := by omega
    exact hs z (by rw [List.take_length]; exact nat_mem_rowB.2 ⟨hzn, hez⟩) hyz
theorem N1.succ {i x : Nat} (h : N1 n e v i) (hi : (rowB n (e v))[i]? = some (x : Int)) (hs : N2 n e v x (rowB n (e v)).length) : N1 n e v (i + 1) := by
  intro x' y z hx hxy hyz hzn hey hez
  rw [take_snoc hi, List.mem_append] at hx
  rcases hx with hx | hx
  · exact h x' y z hx hxy hyz hzn hey hez
  · simp at hx
    obtain rfl : x' = x := by omega
    exact hs y z (by rw [List.take_length]; exact nat_mem_rowB.2 ⟨by omega, hey⟩) hxy hyz hzn hez
theorem N1.done (h : N1 n e v (rowB n (e v)).length) (t : Nat) : ¬ Claw n e v t := by
  rintro ⟨x, y, z, h1, h2, h3, hx, hy, hz, hs, -⟩
  exact h x y z (by rw [List.take_length]; exact nat_mem_rowB.2 ⟨by omega, hx⟩) h1 h2 h3 hy hz hs
/-- What is found first is the first one. -/
theorem claw_found {i k m x y z : Nat} (hv : v < n) (hf : ∀ u, u < v → ∀ t, ¬ Claw n e u t) (hi : (rowB n (e v))[i]? = some (x : Int)) (hk : (rowB n (e v))[k]? = some (y : Int)) (hm : (rowB n (e v))[m]? = some (z : Int)) (hik : i < k) (hkm : k < m)
    (h1 : N1 n e v i) (h2 : N2 n e v x k) (h3 : N3 n e v x y m) (hs : St e x y z) : ∃ s, IsClaw n e v s ∧ rowB n s.testBit = [(x : Int), (y : Int), (z : Int)] := by
  obtain ⟨x', hxn, hex, ex⟩ := row_at hi
  obtain rfl : x = x' := by omega
  obtain ⟨y', hyn, hey, ey⟩ := row_at hk
  obtain rfl : y = y' := by omega
  obtain ⟨z', hzn, hez, ez⟩ := row_at hm
  obtain rfl : z = z' := by omega
  have hrise := rowB_rising n (e v)
  have hxy : x < y := by have := rising_at hrise hi hk hik; omega
  have hyz : y < z := by have := rising_at hrise hk hm hkm; omega
  have hbits : ∀ b, (maskB n fun b => decide (b = x) || decide (b = y) || decide (b = z)).testBit b = (decide (b = x) || decide (b = y) || decide (b = z)) := fun b => by
    rw [testBit_maskB]
    by_cases hb : b < n
    · simp [hb]
    · simp [hb]; omega
  refine ⟨maskB n fun b => decide (b = x) || decide (b = y) || decide (b = z), ⟨hv, ⟨x, y, z, hxy, hyz, hzn, hex, hey, hez, hs, hbits⟩, ?_, hf⟩, ?_⟩
  · rintro t ⟨x', y', z', g1, g2, g3, hx', hy', hz', hs', hb'⟩ ⟨j, j1, j2, j3⟩
    rw [hb'] at j1
    rw [hbits] at j2
    have c1 := j3 x
    have c2 := j3 y
    have c3 := j3 z
    rw [hb', hbits] at c1 c2 c3
    have d1 := j3 x'
    have d2 := j3 y'
    rw [hb', hbits] at d1 d2
    have q1 : ¬ x' < x := fun h => h1 x' y' z' (mem_of_lt hi (by omega) hx' h) g1 g2 g3 hy' hz' hs'
    have q2 : x' = x → ¬ y' < y := fun he h => by subst he; exact h2 y' z' (mem_of_lt hk (by omega) hy' h) g1 g2 g3 hz' hs'
    have q3 : x' = x → y' = y → ¬ z' < z := fun he he2 h => by subst he; subst he2; exact h3 z' (mem_of_lt hm g3 hz' h) g2 hs'
    simp at j1 j2 c1 c2 c3 d1 d2
    omega
  · refine rising_ext (rowB_rising _ _) (by simp; omega) fun a => ?_
    rw [mem_rowB]
    constructor
    · rintro ⟨b, hb, hpb, rfl⟩
      rw [hbits] at hpb
      simp at hpb ⊢
      omega
    · intro ha
      simp at ha
      rcases ha with rfl | rfl | rfl
      · exact ⟨x, by omega, by rw [hbits]; simp, rfl⟩
      · exact ⟨y, by omega, by rw [hbits]; simp, rfl⟩
      · exact ⟨z, by omega, by rw [hbits]; simp, rfl⟩
end
end Go.Proofs.YtehejjmmbjekgaaDoor
