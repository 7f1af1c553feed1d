import Derived.BigQuiet
import Derived.Test.YtpfhflkpnjkgkaaGq08
import Derived.Test.YtpfhflkpnjkgkaaGq09
/-
  'PartsOf', 'CutVertices' and 'BetweenOf' of the program.
-/

namespace Go.Proofs.Ytpfhflkpnjkgkaa
open Go.RowKit

def allB (n : Nat) : Nat → Bool := fun b => decide (b < n)
def butB (p : Nat → Bool) (v : Nat) : Nat → Bool := fun b => p b && !decide (b = v)
theorem allB_lt {n b : Nat} (h : allB n b = true) : b < n := by simpa [allB] using h
theorem butB_lt {n : Nat} {p : Nat → Bool} (hp : ∀ b, p b = true → b < n) (v : Nat) : ∀ b, butB p v b = true → b < n := fun b h => by
  unfold butB at h
  rw [Bool.and_eq_true] at h
  exact hp b h.1
theorem mask_allB (n : Nat) : maskB n (fun _ => true) = maskB n (allB n) := maskB_ext fun i hi => by simp [allB, hi]
theorem mask_butB {n : Nat} (hn : n ≤ 32) (p : Nat → Bool) {v : Nat} (hv : v < n) : bits BinOp.andNot IntKind.u32 ((maskB n p : Nat) : Int) ((2 ^ v : Nat) : Int) = ((maskB n (butB p v) : Nat) : Int) := by
  rw [pow_maskB hv, mask_andNot hn]
  rfl
theorem rowsOf_partsM {n : Nat} (hn : n ≤ 32) (e : Nat → Nat → Bool) (p : Nat → Bool) (j : Nat) : rowsOf (partsM n e p j) = (partsTo n e p j).map (rowB n) := by
  unfold rowsOf partsM
  rw [List.map_map]
  exact List.map_congr_left fun q _ => nums_maskB hn q
theorem small_partsM {n : Nat} (hn : n ≤ 32) (e : Nat → Nat → Bool) (p : Nat → Bool) (j : Nat) : Small (partsM n e p j) := fun m hm => by
  unfold partsM at hm
  obtain ⟨q, _, rfl⟩ := List.mem_map.1 hm
  exact maskB_small hn q

/-- What 'PartsOf' gives. -/
def PartsP (xss rss : List (List Int)) : Prop :=
  (okB xss = false ∧ rss = []) ∨ ∃ e, Adj xss.length e ∧ xss = rowsB xss.length e ∧ rss = (partsTo xss.length e (allB xss.length) xss.length).map (rowB xss.length)

/-- Is v a cut vertex of a set? -/
noncomputable def cutB (n : Nat) (e : Nat → Nat → Bool) (p : Nat → Bool) (v : Nat) : Bool := decide ((partsTo n e p n).length < (partsTo n e (butB p v) n).length)

/-- What 'CutVertices' gives. -/
def CutsP (xss : List (List Int)) (rs : List Int) : Prop :=
  (okB xss = false ∧ rs = []) ∨ ∃ e, Adj xss.length e ∧ xss = rowsB xss.length e ∧ rs = rowB xss.length (cutB xss.length e (allB xss.length))

end Go.Proofs.Ytpfhflkpnjkgkaa
/-
  'isStable', 'rules', 'isCover', 'bestStable' of the program.
-/



namespace Go.Proofs.Ytpfhflkpnjkgkaa
open Go.RowKit

/-- Has v a neighbour in a set? -/
def touch (n : Nat) (e : Nat → Nat → Bool) (p : Nat → Bool) (v : Nat) : Bool := decide (maskB n (fun u => e v u && p u) ≠ 0)
def stB (n : Nat) (e : Nat → Nat → Bool) (p : Nat → Bool) : Bool := !(rowB n p).any fun x => touch n e p x.toNat
theorem touch_iff {n : Nat} {e : Nat → Nat → Bool} {p : Nat → Bool} {v : Nat} : touch n e p v = true ↔ ∃ u, u < n ∧ e v u = true ∧ p u = true := by
  unfold touch
  rw [decide_eq_true_eq, ne_eq, maskB_eq_zero]
  constructor
  · intro h
    apply Classical.byContradiction
    intro hn
    refine h fun u hu => ?_
    cases h1 : e v u <;> cases h2 : p u <;> first | rfl | exact (hn ⟨u, hu, h1, h2⟩).elim
  · rintro ⟨u, hu, h1, h2⟩ h
    have := h u hu
    rw [h1, h2] at this
    cases this
theorem stB_iff {n : Nat} {e : Nat → Nat → Bool} {p : Nat → Bool} : stB n e p = true ↔ ∀ v, v < n → p v = true → ∀ u, u < n → p u = true → e v u = false := by
  unfold stB
  rw [Bool.not_eq_true', List.any_eq_false]
  constructor
  · intro h v hv hp u hu hpu
    have := h (v : Int) (nat_mem_rowB.2 ⟨hv, hp⟩)
    rw [Int.toNat_natCast] at this
    cases he : e v u with
    | false => rfl
    | true => exact (this (touch_iff.2 ⟨u, hu, he, hpu⟩)).elim
  · intro h x hx
    obtain ⟨v, hv, hp, rfl⟩ := mem_rowB.1 hx
    rw [Int.toNat_natCast]
    intro ht
    obtain ⟨u, hu, he, hpu⟩ := touch_iff.1 ht
    rw [h v hv hp u hu hpu] at he
    cases he
theorem stB_ext {n : Nat} {e e' : Nat → Nat → Bool} {p p' : Nat → Bool} (he : ∀ u v, u < n → v < n → e u v = e' u v) (h : ∀ b, b < n → p b = p' b) : stB n e p = stB n e' p' := by
  rw [Bool.eq_iff_iff, stB_iff, stB_iff]
  constructor
  · intro h1 v hv hp u hu hpu
    rw [← he v u hv hu]
    exact h1 v hv (by rw [h v hv]; exact hp) u hu (by rw [h u hu]; exact hpu)
  · intro h1 v hv hp u hu hpu
    rw [he v u hv hu]
    exact h1 v hv (by rw [← h v hv]; exact hp) u hu (by rw [← h u hu]; exact hpu)

/-! ### rules -/
def domB (n : Nat) (e : Nat → Nat → Bool) (p : Nat → Bool) (b : Nat) : Bool := p b || (List.range n).any fun v => p v && e v b
def ruleB (n : Nat) (e : Nat → Nat → Bool) (p : Nat → Bool) : Bool := decide (maskB n (domB n e p) = maskB n (allB n))
def domL (e : Nat → Nat → Bool) (p : Nat → Bool) (xs : List Int) (b : Nat) : Bool := p b || xs.any fun x => e x.toNat b
theorem domL_succ (e : Nat → Nat → Bool) (p : Nat → Bool) {xs : List Int} {j q : Nat} (h : xs[j]? = some (q : Int)) (b : Nat) : domL e p (xs.take (j + 1)) b = (domL e p (xs.take j) b || e q b) := by
  unfold domL
  rw [take_snoc h, List.any_append, Bool.or_assoc]
  simp
theorem domL_row (n : Nat) (e : Nat → Nat → Bool) (p : Nat → Bool) (b : Nat) : domL e p (rowB n p) b = domB n e p b := by
  unfold domL domB
  congr 1
  rw [Bool.eq_iff_iff, List.any_eq_true, List.any_eq_true]
  constructor
  · rintro ⟨x, hx, h⟩
    obtain ⟨a, ha, hp, rfl⟩ := mem_rowB.1 hx
    exact ⟨a, List.mem_range.2 ha, by rw [hp]; simpa using h⟩
  · rintro ⟨a, ha, h⟩
    rw [Bool.and_eq_true] at h
    exact ⟨(a : Int), nat_mem_rowB.2 ⟨List.mem_range.1 ha, h.1⟩, by simpa using h.2⟩

/-! ### isCover -/
def covB (n : Nat) (e : Nat → Nat → Bool) (p : Nat → Bool) : Bool := stB n e fun b => allB n b && !p b
def coE (e : Nat → Nat → Bool) : Nat → Nat → Bool := fun a b => decide (a ≠ b) && !e a b
theorem mask_self {n m : Nat} (h : m < 2 ^ n) : maskB n m.testBit = m := by
  apply Nat.eq_of_testBit_eq
  intro i
  rw [testBit_maskB]
  by_cases hi : i < n
  · simp [hi]
  · simp [hi, bits_above h i (by omega)]

/-- Where more is better. -/
def keyM (m : Nat) : Nat := 32 - size m
theorem size_zero {m : Nat} (hm : m < 4294967296) (h : size m = 0) : m = 0 := by
  apply Classical.byContradiction
  intro h0
  unfold size at h
  rw [bitsOf_step h0 (by rw [two32]; exact hm)] at h
  simp at h
theorem size_le (m : Nat) : size m ≤ 32 := length_bitsOf m
theorem sets_block {w : World} {v : Value} {n : Nat} {ms : List Nat} (h : Row w 1 v n (sets ms)) (h0 : 0 < ms.length) {b : Nat} (hb : v.ownBlock = some b) : b < w.heap.size := by
  obtain ⟨a, c, rfl, -, -, -⟩ := id h
  obtain ⟨gb, go, x, rfl, hcx, _⟩ := h.setAt (j := 0) h0
  have := block_lt hcx
  simp [Value.ownBlock] at hb
  simp at this
  omega

end Go.Proofs.Ytpfhflkpnjkgkaa
/-
  The reference's tests of sets of bits: 'l28Near', 'l25Stable', 'l25Clique'.
-/


namespace Go.Proofs.Ytpfhflkpnjkgkaa
open Go.RowKit

theorem natL_at {n : Nat} {e : Nat → Nat → Bool} {j : Nat} (hj : j < n) {x : Int} (h : (natL (NB n e))[j]? = some x) : x = (maskB n (e j) : Nat) := by
  unfold natL at h
  rw [List.getElem?_map, NB_at e hj] at h
  simpa using h.symm
theorem bits_or_mask {n : Nat} (hn : n ≤ 16) (p q : Nat → Bool) : bits BinOp.or IntKind.i64 ((maskB n p : Nat) : Int) ((maskB n q : Nat) : Int) = ((maskB n (fun i => p i || q i) : Nat) : Int) := by
  rw [i64_or_nat _ _ (maskB_small (by omega) _) (maskB_small (by omega) _)]
  congr 1
  apply Nat.eq_of_testBit_eq
  intro i
  rw [Nat.testBit_or, testBit_maskB, testBit_maskB, testBit_maskB]
  cases decide (i < n) <;> simp
theorem bits_and_mask {n : Nat} (hn : n ≤ 16) (p q : Nat → Bool) : bits BinOp.and IntKind.i64 ((maskB n p : Nat) : Int) ((maskB n q : Nat) : Int) = ((maskB n (fun i => p i && q i) : Nat) : Int) := by
  rw [i64_and_nat _ _ (maskB_small (by omega) _) (maskB_small (by omega) _)]
  congr 1
  apply Nat.eq_of_testBit_eq
  intro i
  rw [Nat.testBit_and, testBit_maskB, testBit_maskB, testBit_maskB]
  cases decide (i < n) <;> simp
theorem bits_andNot_mask {n : Nat} (hn : n ≤ 16) (p q : Nat → Bool) : bits BinOp.andNot IntKind.i64 ((maskB n p : Nat) : Int) ((maskB n q : Nat) : Int) = ((maskB n (fun i => p i && !q i) : Nat) : Int) := by
  rw [i64_andNot_nat _ _ (maskB_small (by omega) _) (maskB_small (by omega) _)]
  congr 1
  apply Nat.eq_of_testBit_eq
  intro i
  rw [Nat.testBit_and, testBit_maskB, testBit_flip (maskB_small (by omega) _), testBit_maskB, testBit_maskB]
  by_cases h : i < n
  · have : i < 32 := by omega
    simp [h, this]
  · simp [h]

def domTo (e : Nat → Nat → Bool) (p : Nat → Bool) (j b : Nat) : Bool := p b || (List.range j).any fun v => p v && e v b
theorem domTo_yes {e : Nat → Nat → Bool} {p : Nat → Bool} {j : Nat} (h : p j = true) (b : Nat) : domTo e p (j + 1) b = (domTo e p j b || e j b) := by
  unfold domTo
  rw [List.range_succ, List.any_append, Bool.or_assoc]
  simp [h]
theorem domTo_no {e : Nat → Nat → Bool} {p : Nat → Bool} {j : Nat} (h : p j = false) (b : Nat) : domTo e p (j + 1) b = domTo e p j b := by
  unfold domTo
  rw [List.range_succ, List.any_append]
  simp [h]

/-- Are all others of a set neighbours of v? -/
def allAdj (n : Nat) (e : Nat → Nat → Bool) (p : Nat → Bool) (v : Nat) : Bool := decide (maskB n (fun u => p u && !e v u) = 2 ^ v)
theorem allAdj_iff {n : Nat} {e : Nat → Nat → Bool} (hA : Adj n e) {p : Nat → Bool} {v : Nat} (hv : v < n) (hp : p v = true) : allAdj n e p v = true ↔ ∀ u, u < n → p u = true → coE e v u = false := by
  unfold allAdj coE
  rw [decide_eq_true_eq, pow_maskB hv, mask_eq_iff]
  constructor
  · intro h u hu hpu
    have := h u hu
    rw [hpu] at this
    by_cases huv : u = v
    · simp [huv]
    · cases he : e v u with
      | true => simp
      | false => rw [he] at this; simp [huv] at this
  · intro h u hu
    by_cases huv : u = v
    · subst huv; simp [hp, hA.irr u hu]
    · cases hpu : p u with
      | false => simp [huv]
      | true =>
        have := h u hu hpu
        have hvu : v ≠ u := fun h => huv h.symm
        simp [hvu] at this
        simp [huv, this]

end Go.Proofs.Ytpfhflkpnjkgkaa
/-
  'slices.IndexFunc' and 'ContainsFunc' over the function of 'goodWeights'.
-/

namespace Go.Proofs.Ytpfhflkpnjkgkaa
open Go.RowKit

end Go.Proofs.Ytpfhflkpnjkgkaa
/-
  The size of a set (OnesCount32's table is a constant text).
-/



namespace Go.Proofs.Ytpfhflkpnjkgkaa
open Go.RowKit

theorem cnt_split (m f a b : Nat) : cnt m f (a + b) = cnt m f a + cnt m (f + a) b := by
  unfold cnt
  have h := List.range'_append (s := f) (m := a) (n := b) (step := 1)
  rw [Nat.one_mul] at h
  rw [← h, List.filter_append, List.length_append]
theorem cnt_shift (m k len : Nat) (q : Nat) (hq : ∀ j, j < len → q.testBit j = m.testBit (k + j)) : cnt m k len = cnt q 0 len := by
  unfold cnt
  rw [show List.range' k len = (List.range' 0 len).map (fun i => k + i) by rw [← List.range_eq_range', List.range'_eq_map_range], List.filter_map, List.length_map]
  congr 1
  apply List.filter_congr
  intro j hj
  rw [List.mem_range'_1] at hj
  exact (hq j (by omega)).symm
theorem size_byte {n : Nat} (h : n < 256) : size n ≤ 8 := by
  rw [size_cnt (n := 8) (by decide) (bits_above (by simpa using h))]
  exact cnt_le _ _ _
theorem byte_bits (m k j : Nat) (hj : j < 8) : (m / 2 ^ k % 256).testBit j = m.testBit (k + j) := by
  rw [show (256 : Nat) = 2 ^ 8 from rfl, Nat.testBit_mod_two_pow, Nat.testBit_div_two_pow]
  simp [hj, Nat.add_comm]
theorem size_bytes {m : Nat} (hm : m < 4294967296) : size m = size (m / 16777216 % 256) + size (m / 65536 % 256) + size (m / 256 % 256) + size (m % 256) := by
  have h8 : ∀ q, q < 256 → size q = cnt q 0 8 := fun q hq => size_cnt (n := 8) (by decide) (bits_above (by simpa using hq))
  rw [size_cnt (n := 32) (by decide) (bits_above (by rw [two32]; exact hm)), h8 _ (by omega), h8 _ (by omega), h8 _ (by omega), h8 _ (by omega)]
  rw [show (32 : Nat) = 8 + (8 + (8 + 8)) from rfl, cnt_split, cnt_split, cnt_split]
  simp only [Nat.zero_add]
  have a0 : cnt m 0 8 = cnt (m % 256) 0 8 := cnt_shift m 0 8 _ fun j hj => by have := byte_bits m 0 j hj; simpa using this
  have a1 : cnt m 8 8 = cnt (m / 256 % 256) 0 8 := cnt_shift m 8 8 _ fun j hj => byte_bits m 8 j hj
  have a2 : cnt m (8 + 8) 8 = cnt (m / 65536 % 256) 0 8 := cnt_shift m 16 8 _ fun j hj => byte_bits m 16 j hj
  have a3 : cnt m (8 + 8 + 8) 8 = cnt (m / 16777216 % 256) 0 8 := cnt_shift m 24 8 _ fun j hj => byte_bits m 24 j hj
  rw [a0, a1, a2, a3]
  omega

def popEx (s : ByteArray) : Bool := (List.range 256).all fun n => match s[n]? with
  | some b => decide (b.toNat = size n)
  | none => false
theorem popEx_at {s : ByteArray} (h : popEx s = true) {n : Nat} (hn : n < 256) : ∃ b, s[n]? = some b ∧ b.toNat = size n := by
  have h1 := List.all_eq_true.1 h n (List.mem_range.2 hn)
  cases hb : s[n]? with
  | none => rw [hb] at h1; cases h1
  | some b =>
    rw [hb] at h1
    refine ⟨b, rfl, ?_⟩
    simpa using h1
theorem run_index_strEx {P : Program} (t : TypeId) (s : ByteArray) (k : IntKind) (i : Int) (b : UInt8) (h : P.underlying t = some .string) (h0 : 0 ≤ i) (hb : s[i.toNat]? = some b) (w : World) :
    (Instr.index t (.string s) (.int k i)).run P w = .ok (.int .u8 b.toNat) w := by
  simp [Instr.index, run_underlying h, asIntOf, h0, hb, go_sem]
theorem quiet_popEx {P : Program} {C : World → Prop} {a : Act} {o : Oper} {K : Act → Prop} (t : TypeId) (x i : Operand) (s : ByteArray) (k : IntKind) (z : Int) (n : Nat) (h : o.op = .index t x i) (hx : a.eval x = .string s) (hi : a.eval i = .int k z)
    (hu : P.underlying t = some .string) (hs : popEx s = true) (hz : z = n) (hn : n < 256) (hk : ∀ c : Nat, Hid (c = size n) → K (a.put o.dst (.int .u8 (c : Int)))) : o.quiet P a C K := by
  subst hz
  obtain ⟨b, hb, h8⟩ := popEx_at hs hn
  refine ⟨.int .u8 b.toNat, fun w _ => ?_, hk _ (Lib.hid h8)⟩
  have e : (execOp a.eval o).run P w = .ok (.value (.int .u8 b.toNat)) w := by
    unfold execOp
    rw [h]
    simp only [hx, hi]
    have := run_index_strEx t s k (n : Int) b hu (by omega) (by simpa using hb) w
    simp [this, go_sem]
  unfold Oper.quietAt
  rw [e]
  exact ⟨rfl, rfl⟩

end Go.Proofs.Ytpfhflkpnjkgkaa
