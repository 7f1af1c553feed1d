import Derived.BigQuiet
import Derived.Test.YtbhobmngnjfgfaaDoorGq11
import Derived.Test.YtbhobmngnjfgfaaDoorGq12
import Derived.Test.YtbhobmngnjfgfaaDoorGq13
/-
  'isStable', 'rules', 'isCover', 'bestStable' of the program.
-/



namespace Go.Proofs.YtbhobmngnjfgfaaDoor
open Go.RowKit

/-- Has v a neighbour in a set? -/
def touch (n : Nat) (e : Nat → Nat → Bool) (p : Nat → Bool) (v : Nat) : Bool := decide (maskB n (fun u => e v u && p u) ≠ 0)
def stB (n : Nat) (e : Nat → Nat → Bool) (p : Nat → Bool) : Bool := !(rowB n p).any fun x => touch n e p x.toNat
theorem touch_iff {n : Nat} {e : Nat → Nat → Bool} {p : Nat → Bool} {v : Nat} : touch n e p v = true ↔ ∃ u, u < n ∧ e v u = true ∧ p u = true := by
  unfold touch
  rw [decide_eq_true_eq, ne_eq, maskB_eq_zero]
  constructor
  · intro h
    apply Classical.byContradiction
    intro hn
    refine h fun u hu => ?_
    cases h1 : e v u <;> cases h2 : p u <;> first | rfl | exact (hn ⟨u, hu, h1, h2⟩).elim
  · rintro ⟨u, hu, h1, h2⟩ h
    have := h u hu
    rw [h1, h2] at this
    cases this
theorem stB_iff {n : Nat} {e : Nat → Nat → Bool} {p : Nat → Bool} : stB n e p = true ↔ ∀ v, v < n → p v = true → ∀ u, u < n → p u = true → e v u = false := by
  unfold stB
  rw [Bool.not_eq_true', List.any_eq_false]
  constructor
  · intro h v hv hp u hu hpu
    have := h (v : Int) (nat_mem_rowB.2 ⟨hv, hp⟩)
    rw [Int.toNat_natCast] at this
    cases he : e v u with
    | false => rfl
    | true => exact (this (touch_iff.2 ⟨u, hu, he, hpu⟩)).elim
  · intro h x hx
    obtain ⟨v, hv, hp, rfl⟩ := mem_rowB.1 hx
    rw [Int.toNat_natCast]
    intro ht
    obtain ⟨u, hu, he, hpu⟩ := touch_iff.1 ht
    rw [h v hv hp u hu hpu] at he
    cases he
theorem stB_ext {n : Nat} {e e' : Nat → Nat → Bool} {p p' : Nat → Bool} (he : ∀ u v, u < n → v < n → e u v = e' u v) (h : ∀ b, b < n → p b = p' b) : stB n e p = stB n e' p' := by
  rw [Bool.eq_iff_iff, stB_iff, stB_iff]
  constructor
  · intro h1 v hv hp u hu hpu
    rw [← he v u hv hu]
    exact h1 v hv (by rw [h v hv]; exact hp) u hu (by rw [h u hu]; exact hpu)
  · intro h1 v hv hp u hu hpu
    rw [he v u hv hu]
    exact h1 v hv (by rw [← h v hv]; exact hp) u hu (by rw [← h u hu]; exact hpu)

set_option maxHeartbeats 1000000 in
theorem stable1_any (n : Nat) (e : Nat → Nat → Bool) (hn : n ≤ 16) (p : Nat → Bool) (v : Value) (A Z : Nat) (q : Nat) (hq : q < n) (x : Int) (hx : x = q) (z : Int) (hz : z = (maskB n p : Nat)) (W : World) (hA : VC 120 A #[v] W) (hZ : VC 98 Z #[.int .u32 z] W) (hr : Row W 1 v n (sets (NB n e))) :
    Calls Tryd.prog 178 #[.int .i64 x, .pointer (some ⟨A, 0, none⟩), .pointer (some ⟨Z, 0, none⟩)] W fun r W' => r = .returned (.bool (touch n e p q)) ∧ Below W.heap.size W W' := by
  subst hx
  obtain ⟨a, c, rfl, -, -, -⟩ := id hr
  obtain ⟨gb, go, x, rfl, hcx, HX⟩ := hr.setAt (j := q) (by simpa using hq)
  obtain rfl : maskB n (e q) = x := by have h := HX.out; rw [NB_at e hq] at h; exact Option.some.inj h
  obtain ⟨xi, HXI⟩ : ∃ z : Int, Hid (((maskB n (e q) : Nat) : Int) = z) := ⟨_, Lib.hid rfl⟩
  obtain ⟨k, HK⟩ : ∃ z : Nat, Hid (z = maskB n (fun u => e q u && p u)) := ⟨_, Lib.hid rfl⟩
  have hba : bits BinOp.and IntKind.u32 xi z = (k : Int) := by rw [← HXI.out, hz, HK.out, mask_and (by omega)]
  have HT : Hid (touch n e p q = ((k : Int) != 0)) := Lib.hid (by unfold touch; rw [← HK.out, Bool.eq_iff_iff]; simp)
  have hca := hA.cell
  have hcz := hZ.cell
  rw [HXI.out] at hcx
  clear HX hz
  go_enter Tryd.func178, Tryd.ntmps178
  go_wp2_with fail
  refine wp_region_ord [1] [0, 2, 3, 4, 5, 6, 7] [] [] (by kernel_rfl) (by kernel_rfl) (fun _ _ d _ _ h => by cases d <;> exact h) ?_
  simp only [pickOps, List.filterMap_cons, List.filterMap_nil, List.getElem?_cons_succ, List.getElem?_cons_zero]
  repeat quiet_step (fail)
  simp only [wpQuiet_nil_eq, wpSegs_nil_eq]
  go_wp2_with fail
  go_ret
  exact ⟨ret_bool HT.out.symm, below_drewN' W 1⟩

set_option maxHeartbeats 1000000 in
theorem isStable_any (v : Value) (n : Nat) (e : Nat → Nat → Bool) (hn : n ≤ 16) (p : Nat → Bool) (z : Int) (hz : z = (maskB n p : Nat)) (w : World) (ht : Tab w) (hr : Row w 1 v n (sets (NB n e))) :
    Calls Tryd.prog 122 #[v, .int .u32 z] w fun r w' => r = .returned (.bool (stB n e p)) ∧ Below w.heap.size w w' := by
  have hmf : ∀ (fn : Fn) (first cap : Array Value) (w : World), (Instr.makeFunc fn first cap).run Tryd.prog w = .ok (.func fn first cap) w := fun _ _ _ _ => rfl
  obtain ⟨a, c, rfl, -, -, -⟩ := id hr
  obtain ⟨B, hB⟩ : ∃ B, w.heap.size = B := ⟨_, rfl⟩
  have hTB : 2 < B := by rw [← hB]; exact ht.lt
  obtain ⟨W0, hW0⟩ : ∃ W0, W0 = w.alloc (.cells #[.slice a n c] 120) := ⟨_, rfl⟩
  obtain ⟨W1, hW1⟩ : ∃ W1, W1 = W0.alloc (.cells #[.int .u32 z] 98) := ⟨_, rfl⟩
  have hz0 : W0.heap.size = B + 1 := by simp [hW0, hB]
  have hz1 : W1.heap.size = B + 2 := by simp [hW1, hz0]
  have u0 : Below B w W0 := by rw [hW0, ← hB]; exact below_alloc' _ _
  have u1 : Below B w W1 := by rw [hW1]; exact u0.alloc (by omega) _
  have VA0 : VC 120 B #[.slice a n c] W0 := by rw [hW0]; exact VC.new hB
  have VA1 : VC 120 B #[.slice a n c] W1 := by rw [hW1]; exact VA0.upd (Upd.alloc _ _) (by omega)
  have VZ1 : VC 98 (B + 1) #[.int .u32 z] W1 := by rw [hW1]; exact VC.new hz0
  have hcz := VZ1.cell
  have HLI := Lib.hid (listB_any (n := n) (by omega) p z hz W1 (ht.keep u1 hTB))
  have HZ := Lib.hid hz
  clear hz u0 VA0
  go_enter Tryd.func122, Tryd.ntmps122
  go_wp2_with fail
  rw [← hW0, ← hW1]
  clear hW0 hW1
  refine HLI.out.mono ?_
  rintro e1' w2 ⟨u2, rfl, hL2, hb2⟩
  obtain ⟨la, lc, rfl⟩ := owns_shape hL2
  have hb02 := u1.trans (hb2.mono (by omega))
  have VA2 := VA1.belowAt hb2 (by omega)
  have VZ2 := VZ1.belowAt hb2 (by omega)
  have hzz := hb2.size
  have HC := Lib.hid (contF_any_st B (B + 1) (fun x => touch n e p x.toNat) (.slice la (rowB n p).length lc) (rowB n p) w2 (Row.of_owns hL2) (fun x hx W hbW => by
    obtain ⟨q, hq, _, rfl⟩ := mem_rowB.1 hx
    have := stable1_any n e hn p (.slice a n c) B (B + 1) q hq (q : Int) rfl z HZ.out W (VA2.belowAt hbW (by omega)) (VZ2.belowAt hbW (by omega)) (hr.below (hB.symm ▸ (hb02.trans (hbW.mono (by omega)))))
    rw [Int.toNat_natCast]
    exact this))
  clear HLI hL2 hb2 hcz
  go_wp2_with fail
  refine HC.out.mono ?_
  rintro e2 w3 ⟨rfl, hb3⟩
  go_wp2_with fail
  go_ret
  exact ⟨ret_bool (by unfold stB; rfl), by rw [hB]; exact hb02.trans (hb3.mono (by omega))⟩

/-! ### rules -/
def domB (n : Nat) (e : Nat → Nat → Bool) (p : Nat → Bool) (b : Nat) : Bool := p b || (List.range n).any fun v => p v && e v b
def ruleB (n : Nat) (e : Nat → Nat → Bool) (p : Nat → Bool) : Bool := decide (maskB n (domB n e p) = maskB n (allB n))
def domL (e : Nat → Nat → Bool) (p : Nat → Bool) (xs : List Int) (b : Nat) : Bool := p b || xs.any fun x => e x.toNat b
theorem domL_succ (e : Nat → Nat → Bool) (p : Nat → Bool) {xs : List Int} {j q : Nat} (h : xs[j]? = some (q : Int)) (b : Nat) : domL e p (xs.take (j + 1)) b = (domL e p (xs.take j) b || e q b) := by
  unfold domL
  rw [take_snoc h, List.any_append, Bool.or_assoc]
  simp
theorem domL_row (n : Nat) (e : Nat → Nat → Bool) (p : Nat → Bool) (b : Nat) : domL e p (rowB n p) b = domB n e p b := by
  unfold domL domB
  congr 1
  rw [Bool.eq_iff_iff, List.any_eq_true, List.any_eq_true]
  constructor
  · rintro ⟨x, hx, h⟩
    obtain ⟨a, ha, hp, rfl⟩ := mem_rowB.1 hx
    exact ⟨a, List.mem_range.2 ha, by rw [hp]; simpa using h⟩
  · rintro ⟨a, ha, h⟩
    rw [Bool.and_eq_true] at h
    exact ⟨(a : Int), nat_mem_rowB.2 ⟨List.mem_range.1 ha, h.1⟩, by simpa using h.2⟩

set_option maxHeartbeats 2000000 in
theorem rules_any (v : Value) (n : Nat) (e : Nat → Nat → Bool) (hn : n ≤ 16) (p : Nat → Bool) (z : Int) (hz : z = (maskB n p : Nat)) (w : World) (ht : Tab w) (hr : Row w 1 v n (sets (NB n e))) :
    Calls Tryd.prog 111 #[v, .int .u32 z] w fun r w' => r = .returned (.bool (ruleB n e p)) ∧ Below w.heap.size w w' := by
  obtain ⟨a, c, rfl, -, -, -⟩ := id hr
  obtain ⟨B, hB⟩ : ∃ B, w.heap.size = B := ⟨_, rfl⟩
  obtain ⟨m0, HM0⟩ : ∃ m : Nat, Hid (m = maskB n p) := ⟨_, Lib.hid rfl⟩
  obtain rfl : z = (m0 : Int) := by rw [hz, HM0.out]
  obtain ⟨mi, HMI⟩ : ∃ z : Int, Hid ((m0 : Int) = z) := ⟨_, Lib.hid rfl⟩
  have HLI := Lib.hid (listB_any (n := n) (by omega) p mi (by rw [← HMI.out, HM0.out]) w ht)
  rw [hB] at HLI
  have hyl := rowB_length n p
  have hm0 : Hid (m0 = maskB n (domL e p ((rowB n p).take 0))) := Lib.hid (by rw [HM0.out, List.take_zero]; exact maskB_ext fun i _ => by simp [domL])
  rw [HMI.out]
  clear hz
  go_enter Tryd.func111, Tryd.ntmps111
  go_wp2_with fail
  refine HLI.out.mono ?_
  rintro e1 w1 ⟨u1, rfl, hL1, hb1⟩
  obtain ⟨la, lc, rfl⟩ := owns_shape hL1
  have hRL := Row.of_owns hL1
  obtain ⟨C, hC⟩ : ∃ C, w1.heap.size = C := ⟨_, rfl⟩
  have hBC : B ≤ C := by have := hb1.size; omega
  have hcl : Below C w1 w1 := Below.refl _ _
  clear hL1 HLI
  go_wp2_with fail
  go_loopw [5, 12] (fun t i wr => ∃ j m : Nat, j ≤ (rowB n p).length ∧ i = .int .i64 j ∧ t = .int .u32 m ∧ Hid (m = maskB n (domL e p ((rowB n p).take j))) ∧ Below C w1 wr) (fun _ i _ => (rowB n p).length - (intOf i).toNat)
  case atStart => exact ⟨0, m0, Nat.zero_le _, rfl, by rw [HMI.out], hm0, hcl⟩
  case round =>
    clear hcl
    obtain ⟨j, m, hj, rfl, rfl, HM, hb⟩ := hrel
    by_cases hlt : j < (rowB n p).length
    · obtain ⟨yb, yo, y, rfl, hcy, HY⟩ := Row.intAt (Row.below hRL (hC.symm ▸ hb)) hlt
      obtain ⟨q, hq, hpq, rfl⟩ := row_at HY.out
      obtain ⟨gb, go, x, rfl, hcx, HX⟩ := (hr.below (hB.symm ▸ (hb1.trans (hb.mono hBC)))).setAt (j := q) (by simpa using hq)
      obtain rfl : maskB n (e q) = x := by have h := HX.out; rw [NB_at e hq] at h; exact Option.some.inj h
      obtain ⟨xi, HXI⟩ : ∃ z : Int, Hid (((maskB n (e q) : Nat) : Int) = z) := ⟨_, Lib.hid rfl⟩
      obtain ⟨z1, HZ1⟩ : ∃ z : Int, Hid ((m : Int) = z) := ⟨_, Lib.hid rfl⟩
      obtain ⟨z5, HZ5⟩ : ∃ z : Nat, Hid (z = maskB n (domL e p ((rowB n p).take (j + 1)))) := ⟨_, Lib.hid rfl⟩
      have hb2' : bits BinOp.or IntKind.u32 z1 xi = (z5 : Int) := by
        rw [← HZ1.out, HM.out, ← HXI.out, HZ5.out, maskB_or (by omega)]
        congr 1
        exact maskB_ext fun i hi => (domL_succ e p HY.out i).symm
      rw [HXI.out] at hcx
      rw [HZ1.out]
      clear HX
      go_wp2_with fail
      go_roundw
      case rel => exact ⟨j + 1, z5, by omega, by go_num, rfl, HZ5, hb⟩
      case measure => simp [intOf]; omega
    · obtain rfl : j = (rowB n p).length := by omega
      obtain ⟨k, HK⟩ : ∃ k : Nat, Hid (k = maskB n (allB n)) := ⟨_, Lib.hid rfl⟩
      obtain ⟨ki, HKI⟩ : ∃ z : Int, Hid (z = (k : Int)) := ⟨_, Lib.hid rfl⟩
      have HF : Hid (ruleB n e p = decide (m = k)) := Lib.hid (by
        unfold ruleB
        rw [HM.out, HK.out, List.take_length]
        congr 2
        exact maskB_ext fun i _ => (domL_row n e p i).symm)
      go_wp2_with fail
      refine (all_netsAt _ n hn ki (by rw [HKI.out, HK.out, mask_allB]) ⟨_, _, rfl⟩ _).mono ?_
      rintro e2 w' ⟨rfl, rfl⟩
      go_wp2_with fail
      go_ret
      exact ⟨ret_bool (by rw [HF.out, HKI.out, Bool.eq_iff_iff]; simp; omega), by rw [hB]; exact hb1.trans (hb.mono hBC)⟩

/-! ### isCover -/
def covB (n : Nat) (e : Nat → Nat → Bool) (p : Nat → Bool) : Bool := stB n e fun b => allB n b && !p b
def coE (e : Nat → Nat → Bool) : Nat → Nat → Bool := fun a b => decide (a ≠ b) && !e a b
theorem mask_self {n m : Nat} (h : m < 2 ^ n) : maskB n m.testBit = m := by
  apply Nat.eq_of_testBit_eq
  intro i
  rw [testBit_maskB]
  by_cases hi : i < n
  · simp [hi]
  · simp [hi, bits_above h i (by omega)]

/-- Where more is better. -/
def keyM (m : Nat) : Nat := 32 - size m
theorem size_zero {m : Nat} (hm : m < 4294967296) (h : size m = 0) : m = 0 := by
  apply Classical.byContradiction
  intro h0
  unfold size at h
  rw [bitsOf_step h0 (by rw [two32]; exact hm)] at h
  simp at h
theorem size_le (m : Nat) : size m ≤ 32 := length_bitsOf m
theorem sets_block {w : World} {v : Value} {n : Nat} {ms : List Nat} (h : Row w 1 v n (sets ms)) (h0 : 0 < ms.length) {b : Nat} (hb : v.ownBlock = some b) : b < w.heap.size := by
  obtain ⟨a, c, rfl, -, -, -⟩ := id h
  obtain ⟨gb, go, x, rfl, hcx, _⟩ := h.setAt (j := 0) h0
  have := block_lt hcx
  simp [Value.ownBlock] at hb
  simp at this
  omega

end Go.Proofs.YtbhobmngnjfgfaaDoor
/-
  The reference's tests of sets of bits: 'l28Near', 'l25Stable', 'l25Clique'.
-/


namespace Go.Proofs.YtbhobmngnjfgfaaDoor
open Go.RowKit

theorem natL_at {n : Nat} {e : Nat → Nat → Bool} {j : Nat} (hj : j < n) {x : Int} (h : (natL (NB n e))[j]? = some x) : x = (maskB n (e j) : Nat) := by
  unfold natL at h
  rw [List.getElem?_map, NB_at e hj] at h
  simpa using h.symm
theorem bits_or_mask {n : Nat} (hn : n ≤ 16) (p q : Nat → Bool) : bits BinOp.or IntKind.i64 ((maskB n p : Nat) : Int) ((maskB n q : Nat) : Int) = ((maskB n (fun i => p i || q i) : Nat) : Int) := by
  rw [i64_or_nat _ _ (maskB_small (by omega) _) (maskB_small (by omega) _)]
  congr 1
  apply Nat.eq_of_testBit_eq
  intro i
  rw [Nat.testBit_or, testBit_maskB, testBit_maskB, testBit_maskB]
  cases decide (i < n) <;> simp
theorem bits_and_mask {n : Nat} (hn : n ≤ 16) (p q : Nat → Bool) : bits BinOp.and IntKind.i64 ((maskB n p : Nat) : Int) ((maskB n q : Nat) : Int) = ((maskB n (fun i => p i && q i) : Nat) : Int) := by
  rw [i64_and_nat _ _ (maskB_small (by omega) _) (maskB_small (by omega) _)]
  congr 1
  apply Nat.eq_of_testBit_eq
  intro i
  rw [Nat.testBit_and, testBit_maskB, testBit_maskB, testBit_maskB]
  cases decide (i < n) <;> simp
theorem bits_andNot_mask {n : Nat} (hn : n ≤ 16) (p q : Nat → Bool) : bits BinOp.andNot IntKind.i64 ((maskB n p : Nat) : Int) ((maskB n q : Nat) : Int) = ((maskB n (fun i => p i && !q i) : Nat) : Int) := by
  rw [i64_andNot_nat _ _ (maskB_small (by omega) _) (maskB_small (by omega) _)]
  congr 1
  apply Nat.eq_of_testBit_eq
  intro i
  rw [Nat.testBit_and, testBit_maskB, testBit_flip (maskB_small (by omega) _), testBit_maskB, testBit_maskB]
  by_cases h : i < n
  · have : i < 32 := by omega
    simp [h, this]
  · simp [h]

def domTo (e : Nat → Nat → Bool) (p : Nat → Bool) (j b : Nat) : Bool := p b || (List.range j).any fun v => p v && e v b
theorem domTo_yes {e : Nat → Nat → Bool} {p : Nat → Bool} {j : Nat} (h : p j = true) (b : Nat) : domTo e p (j + 1) b = (domTo e p j b || e j b) := by
  unfold domTo
  rw [List.range_succ, List.any_append, Bool.or_assoc]
  simp [h]
theorem domTo_no {e : Nat → Nat → Bool} {p : Nat → Bool} {j : Nat} (h : p j = false) (b : Nat) : domTo e p (j + 1) b = domTo e p j b := by
  unfold domTo
  rw [List.range_succ, List.any_append]
  simp [h]

set_option maxHeartbeats 2000000 in
theorem near25_any (v2 : Value) (n : Nat) (e : Nat → Nat → Bool) (hn : n ≤ 16) (m : Nat) (hm : m < 2 ^ n) (M : Int) (hM : M = m) (w : World) (hr : RdS v2 (natL (NB n e)) w) :
    Calls Tryd.prog 115 #[v2, .int .i64 M] w fun r w' => r = .returned (.int .i64 (maskB n (domB n e m.testBit) : Nat)) ∧ w = w' := by
  obtain ⟨a2, c2, rfl, -, -, -⟩ := id hr
  have hm32 : m < 4294967296 := by have := pow16 hn hm; omega
  have HMS := Lib.hid (mask_self hm)
  have HL := Lib.hid (show (natL (NB n e)).length = n by rw [natL_length]; simp)
  rw [HL.out]
  subst hM
  have hst : Hid (m = maskB n (domTo e m.testBit 0)) := Lib.hid (by rw [maskB_ext (q := m.testBit) fun i _ => by simp [domTo], HMS.out])
  clear hm
  go_enter Tryd.func115, Tryd.ntmps115
  go_wp2_with fail
  go_loopw [5, 6] (fun s i wr => ∃ (j k : Nat), j ≤ n ∧ i = .int .i64 j ∧ s = .int .i64 k ∧ Hid (k = maskB n (domTo e m.testBit j)) ∧ wr = w) (fun _ i _ => n - (intOf i).toNat)
  case atStart => exact ⟨0, m, Nat.zero_le _, rfl, rfl, hst, rfl⟩
  case round =>
    obtain ⟨j, k, hj, rfl, rfl, HK, rfl⟩ := hrel
    by_cases hlt : j < n
    · have hbit := shr_bit (v := j) hm32
      obtain ⟨yb, yo, y, rfl, hcy, HY⟩ := Row.intAt hr (j := j) (by rw [HL.out]; exact hlt)
      have HYE := Lib.hid (natL_at hlt HY.out)
      obtain ⟨b, HBB⟩ : ∃ b, Hid (m.testBit j = b) := ⟨_, Lib.hid rfl⟩
      rw [HBB.out] at hbit
      cases b with
      | true =>
        obtain ⟨ki, HKI⟩ : ∃ z : Int, Hid ((k : Int) = z) := ⟨_, Lib.hid rfl⟩
        obtain ⟨k2, HK2⟩ : ∃ z : Nat, Hid (z = maskB n (domTo e m.testBit (j + 1))) := ⟨_, Lib.hid rfl⟩
        have hbo : bits BinOp.or IntKind.i64 ki y = (k2 : Int) := by
          rw [← HKI.out, HK.out, HYE.out, HK2.out, bits_or_mask hn]
          congr 1
          exact maskB_ext fun i _ => (domTo_yes HBB.out i).symm
        rw [HKI.out]
        go_wp2_with fail
        go_roundw
        case rel => exact ⟨j + 1, k2, by omega, by go_num, rfl, HK2, by first | rfl | trivial⟩
        case measure => simp [intOf]; omega
      | false =>
        have HK2 : Hid (k = maskB n (domTo e m.testBit (j + 1))) := Lib.hid (by rw [HK.out]; exact maskB_ext fun i _ => (domTo_no HBB.out i).symm)
        go_wp2_with fail
        go_roundw
        case rel => exact ⟨j + 1, k, by omega, by go_num, rfl, HK2, by first | rfl | trivial⟩
        case measure => simp [intOf]; omega
    · obtain rfl : j = n := by omega
      go_wp2_with fail
      go_ret
      exact ⟨ret_int (congrArg (fun (m : Nat) => (m : Int)) HK.out), by first | rfl | trivial⟩

set_option maxHeartbeats 2000000 in
theorem stable25_any (v2 : Value) (n : Nat) (e : Nat → Nat → Bool) (hn : n ≤ 16) (m : Nat) (hm : m < 2 ^ n) (M : Int) (hM : M = m) (w : World) (hr : RdS v2 (natL (NB n e)) w) :
    Calls Tryd.prog 125 #[v2, .int .i64 M] w fun r w' => r = .returned (.bool (stB n e m.testBit)) ∧ w = w' := by
  obtain ⟨a2, c2, rfl, -, -, -⟩ := id hr
  have hm32 : m < 4294967296 := by have := pow16 hn hm; omega
  have HMS := Lib.hid (mask_self hm)
  have HL := Lib.hid (show (natL (NB n e)).length = n by rw [natL_length]; simp)
  rw [HL.out]
  subst hM
  clear hm
  go_enter Tryd.func125, Tryd.ntmps125
  go_wp2_with fail
  go_loopw [5] (fun i wr => ∃ (j : Nat), j ≤ n ∧ i = .int .i64 j ∧ Hid (∀ v, v < j → m.testBit v = true → touch n e m.testBit v = false) ∧ wr = w) (fun i _ => n - (intOf i).toNat)
  case atStart => exact ⟨0, Nat.zero_le _, rfl, Lib.hid fun v h => by omega, rfl⟩
  case round =>
    obtain ⟨j, hj, rfl, HK, rfl⟩ := hrel
    by_cases hlt : j < n
    · have hbit := shr_bit (v := j) hm32
      obtain ⟨yb, yo, y, rfl, hcy, HY⟩ := Row.intAt hr (j := j) (by rw [HL.out]; exact hlt)
      have HYE := Lib.hid (natL_at hlt HY.out)
      obtain ⟨b, HBB⟩ : ∃ b, Hid (m.testBit j = b) := ⟨_, Lib.hid rfl⟩
      rw [HBB.out] at hbit
      cases b with
      | true =>
        obtain ⟨k, HK2⟩ : ∃ z : Nat, Hid (z = maskB n (fun u => e j u && m.testBit u)) := ⟨_, Lib.hid rfl⟩
        obtain ⟨mi, HMI⟩ : ∃ z : Int, Hid ((m : Int) = z) := ⟨_, Lib.hid rfl⟩
        have hba : bits BinOp.and IntKind.i64 y mi = (k : Int) := by rw [HYE.out, ← HMI.out, HK2.out, ← bits_and_mask hn, HMS.out]
        have HT : Hid (touch n e m.testBit j = decide (k ≠ 0)) := Lib.hid (by unfold touch; rw [← HK2.out])
        rw [HMI.out] at hbit ⊢
        by_cases h0 : k = 0
        · have hd : ((k : Int) != 0) = false := by simp [h0]
          have HK3 : Hid (∀ v, v < j + 1 → m.testBit v = true → touch n e m.testBit v = false) := Lib.hid fun v hv hb => by
            by_cases hvj : v = j
            · subst hvj; rw [HT.out]; simp [h0]
            · exact HK.out v (by omega) hb
          clear h0
          go_wp2_with fail
          go_roundw
          case rel => exact ⟨j + 1, by omega, by go_num, HK3, by first | rfl | trivial⟩
          case measure => simp [intOf]; omega
        · have hd : ((k : Int) != 0) = true := by simpa using h0
          have HF : Hid (stB n e m.testBit = false) := Lib.hid (by
            rw [← Bool.not_eq_true]
            intro hs
            obtain ⟨u, hu, he, hpu⟩ := touch_iff.1 (show touch n e m.testBit j = true by rw [HT.out]; simpa using h0)
            rw [stB_iff.1 hs j hlt HBB.out u hu hpu] at he
            cases he)
          clear h0
          go_wp2_with fail
          go_ret
          exact ⟨ret_bool HF.out.symm, by first | rfl | trivial⟩
      | false =>
        have HK3 : Hid (∀ v, v < j + 1 → m.testBit v = true → touch n e m.testBit v = false) := Lib.hid fun v hv hb => by
          by_cases hvj : v = j
          · subst hvj; rw [HBB.out] at hb; cases hb
          · exact HK.out v (by omega) hb
        go_wp2_with fail
        go_roundw
        case rel => exact ⟨j + 1, by omega, by go_num, HK3, by first | rfl | trivial⟩
        case measure => simp [intOf]; omega
    · obtain rfl : j = n := by omega
      have HF : Hid (stB j e m.testBit = true) := Lib.hid (stB_iff.2 fun v hv hb u hu hpu => by
        have := HK.out v hv hb
        cases he : e v u with
        | false => rfl
        | true => rw [touch_iff.2 ⟨u, hu, he, hpu⟩] at this; cases this)
      go_wp2_with fail
      go_ret
      exact ⟨ret_bool HF.out.symm, by first | rfl | trivial⟩

/-- Are all others of a set neighbours of v? -/
def allAdj (n : Nat) (e : Nat → Nat → Bool) (p : Nat → Bool) (v : Nat) : Bool := decide (maskB n (fun u => p u && !e v u) = 2 ^ v)
theorem allAdj_iff {n : Nat} {e : Nat → Nat → Bool} (hA : Adj n e) {p : Nat → Bool} {v : Nat} (hv : v < n) (hp : p v = true) : allAdj n e p v = true ↔ ∀ u, u < n → p u = true → coE e v u = false := by
  unfold allAdj coE
  rw [decide_eq_true_eq, pow_maskB hv, mask_eq_iff]
  constructor
  · intro h u hu hpu
    have := h u hu
    rw [hpu] at this
    by_cases huv : u = v
    · simp [huv]
    · cases he : e v u with
      | true => simp
      | false => rw [he] at this; simp [huv] at this
  · intro h u hu
    by_cases huv : u = v
    · subst huv; simp [hp, hA.irr u hu]
    · cases hpu : p u with
      | false => simp [huv]
      | true =>
        have := h u hu hpu
        have hvu : v ≠ u := fun h => huv h.symm
        simp [hvu] at this
        simp [huv, this]

set_option maxHeartbeats 2000000 in
theorem clique25_any (v2 : Value) (n : Nat) (e : Nat → Nat → Bool) (hA : Adj n e) (m : Nat) (hm : m < 2 ^ n) (M : Int) (hM : M = m) (w : World) (hr : RdS v2 (natL (NB n e)) w) :
    Calls Tryd.prog 183 #[v2, .int .i64 M] w fun r w' => r = .returned (.bool (stB n (coE e) m.testBit)) ∧ w = w' := by
  have hn := hA.le
  obtain ⟨a2, c2, rfl, -, -, -⟩ := id hr
  have hm32 : m < 4294967296 := by have := pow16 hn hm; omega
  have HMS := Lib.hid (mask_self hm)
  have HL := Lib.hid (show (natL (NB n e)).length = n by rw [natL_length]; simp)
  have HA := Lib.hid hA
  rw [HL.out]
  subst hM
  clear hm hA
  go_enter Tryd.func183, Tryd.ntmps183
  go_wp2_with fail
  go_loopw [5] (fun i wr => ∃ (j : Nat), j ≤ n ∧ i = .int .i64 j ∧ Hid (∀ v, v < j → m.testBit v = true → allAdj n e m.testBit v = true) ∧ wr = w) (fun i _ => n - (intOf i).toNat)
  case atStart => exact ⟨0, Nat.zero_le _, rfl, Lib.hid fun v h => by omega, rfl⟩
  case round =>
    obtain ⟨j, hj, rfl, HK, rfl⟩ := hrel
    by_cases hlt : j < n
    · have hbit := shr_bit (v := j) hm32
      obtain ⟨yb, yo, y, rfl, hcy, HY⟩ := Row.intAt hr (j := j) (by rw [HL.out]; exact hlt)
      have HYE := Lib.hid (natL_at hlt HY.out)
      obtain ⟨b, HBB⟩ : ∃ b, Hid (m.testBit j = b) := ⟨_, Lib.hid rfl⟩
      rw [HBB.out] at hbit
      cases b with
      | true =>
        obtain ⟨k, HK2⟩ : ∃ z : Nat, Hid (z = maskB n (fun u => m.testBit u && !e j u)) := ⟨_, Lib.hid rfl⟩
        obtain ⟨mi, HMI⟩ : ∃ z : Int, Hid ((m : Int) = z) := ⟨_, Lib.hid rfl⟩
        have hba : bits BinOp.andNot IntKind.i64 mi y = (k : Int) := by rw [HYE.out, ← HMI.out, HK2.out, ← bits_andNot_mask hn, HMS.out]
        obtain ⟨pq, hpq⟩ : ∃ q2 : Nat, 2 ^ j = q2 := ⟨_, rfl⟩
        have hpi : (2 : Int) ^ j = (pq : Int) := by rw [← hpq]; simp
        have hps : pq ≤ 65536 := by rw [← hpq]; exact Nat.pow_le_pow_right (n := 2) (j := 16) (by decide) (by omega)
        have HT : Hid (allAdj n e m.testBit j = decide (k = pq)) := Lib.hid (by unfold allAdj; rw [← HK2.out, hpq])
        clear hpq
        obtain ⟨d, hdd⟩ : ∃ d : Int, (m : Int) / (pq : Int) = d := ⟨_, rfl⟩
        have hdm : (m : Int) / 2 ^ j = d := by rw [hpi]; exact hdd
        rw [hdm] at hbit
        have hmd : mi / (pq : Int) = d := by rw [← HMI.out]; exact hdd
        have hmd2 : mi / 2 ^ j = d := by rw [← HMI.out]; exact hdm
        rw [HMI.out]
        clear hdd hdm
        by_cases h0 : k = pq
        · have hd : ((k : Int) != (pq : Int)) = false := by simp [h0]
          have HK3 : Hid (∀ v, v < j + 1 → m.testBit v = true → allAdj n e m.testBit v = true) := Lib.hid fun v hv hb => by
            by_cases hvj : v = j
            · subst hvj; rw [HT.out]; simp [h0]
            · exact HK.out v (by omega) hb
          clear h0
          go_wp2_with fail
          go_roundw
          case rel => exact ⟨j + 1, by omega, by go_num, HK3, by first | rfl | trivial⟩
          case measure => simp [intOf]; omega
        · have hd : ((k : Int) != (pq : Int)) = true := by rw [bne_iff_ne]; omega
          have HF : Hid (stB n (coE e) m.testBit = false) := Lib.hid (by
            rw [← Bool.not_eq_true]
            intro hs
            have h1 := (allAdj_iff HA.out hlt HBB.out).2 (stB_iff.1 hs j hlt HBB.out)
            rw [HT.out] at h1
            exact h0 (by simpa using h1))
          clear h0
          go_wp2_with fail
          go_ret
          exact ⟨ret_bool HF.out.symm, by first | rfl | trivial⟩
      | false =>
        have HK3 : Hid (∀ v, v < j + 1 → m.testBit v = true → allAdj n e m.testBit v = true) := Lib.hid fun v hv hb => by
          by_cases hvj : v = j
          · subst hvj; rw [HBB.out] at hb; cases hb
          · exact HK.out v (by omega) hb
        go_wp2_with fail
        go_roundw
        case rel => exact ⟨j + 1, by omega, by go_num, HK3, by first | rfl | trivial⟩
        case measure => simp [intOf]; omega
    · obtain rfl : j = n := by omega
      have HF : Hid (stB j (coE e) m.testBit = true) := Lib.hid (stB_iff.2 fun v hv hb u hu hpu => (allAdj_iff HA.out hv hb).1 (HK.out v hv hb) u hu hpu)
      go_wp2_with fail
      go_ret
      exact ⟨ret_bool HF.out.symm, by first | rfl | trivial⟩
end Go.Proofs.YtbhobmngnjfgfaaDoor
/-
  'slices.IndexFunc' and 'ContainsFunc' over the function of 'goodWeights'.
-/

namespace Go.Proofs.YtbhobmngnjfgfaaDoor
open Go.RowKit

set_option maxHeartbeats 1000000 in
theorem idxF_any_gw  (p : Int → Bool) (v : Value) (xs : List Int) (w : World) (hr : Row w 1 v xs.length (ints xs))
    (hcall : ∀ x ∈ xs, ∀ W, Below w.heap.size w W → Calls Tryd.prog 176 #[.int .i64 x] W fun e W' => e = .returned (.bool (p x)) ∧ Below W.heap.size W W') :
    Calls Tryd.prog 203 #[v, .func (.func 176) #[] #[]] w fun e w' => ∃ r : Int, e = .returned (.int .i64 r) ∧ Hid (decide (0 ≤ r) = xs.any p) ∧ Below w.heap.size w w' := by
  obtain ⟨a, c, rfl, -, -, -⟩ := id hr
  have hlen := hr.len
  unfold maxLen at hlen
  obtain ⟨B, hB⟩ : ∃ B, w.heap.size = B := ⟨_, rfl⟩
  rw [hB] at hcall
  have hcl : Below B w w := Below.refl _ _
  go_enter Tryd.func203, Tryd.ntmps203
  go_wp2_with fail
  go_loopw [8] (fun i wr => ∃ k : Nat, k ≤ xs.length ∧ i = .int .i64 k ∧ Hid ((xs.take k).any p = false) ∧ Below B w wr) (fun i _ => xs.length - (intOf i).toNat)
  case atStart => exact ⟨0, Nat.zero_le _, rfl, Lib.hid (by simp), hcl⟩
  case round =>
    clear hcl
    obtain ⟨k, hk, rfl, HK, hb⟩ := hrel
    have hsz := hb.size
    by_cases hlt : k < xs.length
    · obtain ⟨yb, yo, x, rfl, hc, HX⟩ := (Row.below hr (hB.symm ▸ hb)).intAt hlt
      have HC := Lib.hid (hcall x (List.mem_of_getElem? HX.out) wr hb)
      obtain ⟨b, HBB⟩ : ∃ b, Hid (p x = b) := ⟨_, Lib.hid rfl⟩
      rw [HBB.out] at HC
      have HS : Hid ((xs.take (k + 1)).any p = b) := Lib.hid (by rw [take_snoc HX.out, List.any_append, HK.out]; simp [HBB.out])
      go_wp2_with fail
      refine HC.out.mono ?_
      rintro e1 w1 ⟨rfl, hb1⟩
      have hb2 := hb.trans (hb1.mono (by omega))
      clear hb1 HC hc hb
      cases b with
      | true =>
        have HF : Hid (xs.any p = true) := Lib.hid (List.any_eq_true.2 ⟨x, List.mem_of_getElem? HX.out, HBB.out⟩)
        go_wp2_with fail
        go_ret
        exact ⟨_, rfl, Lib.hid (by rw [HF.out]; simp), by rw [hB]; exact hb2⟩
      | false =>
        go_wp2_with fail
        go_roundw
        case rel => exact ⟨k + 1, by omega, by go_num, HS, hb2⟩
        case measure => simp [intOf]; omega
    · obtain rfl : k = xs.length := by omega
      go_wp2_with fail
      go_ret
      exact ⟨_, rfl, Lib.hid (by have := HK.out; rw [List.take_length] at this; rw [this]; rfl), by rw [hB]; exact hb⟩
theorem contF_any_gw  (p : Int → Bool) (v : Value) (xs : List Int) (w : World) (hr : Row w 1 v xs.length (ints xs))
    (hcall : ∀ x ∈ xs, ∀ W, Below w.heap.size w W → Calls Tryd.prog 176 #[.int .i64 x] W fun e W' => e = .returned (.bool (p x)) ∧ Below W.heap.size W W') :
    Calls Tryd.prog 175 #[v, .func (.func 176) #[] #[]] w fun e w' => e = .returned (.bool (xs.any p)) ∧ Below w.heap.size w w' := by
  obtain ⟨a, c, rfl, -, -, -⟩ := id hr
  have HI := Lib.hid (idxF_any_gw  p _ xs w hr hcall)
  clear hcall
  go_enter Tryd.func175, Tryd.ntmps175
  go_wp2_with fail
  refine HI.out.mono ?_
  rintro e1 w1 ⟨r, rfl, HR, hb⟩
  go_wp2_with fail
  go_ret
  exact ⟨ret_bool HR.out, hb⟩
end Go.Proofs.YtbhobmngnjfgfaaDoor
/-
  The size of a set (OnesCount32's table is a constant text).
-/



namespace Go.Proofs.YtbhobmngnjfgfaaDoor
open Go.RowKit

theorem cnt_split (m f a b : Nat) : cnt m f (a + b) = cnt m f a + cnt m (f + a) b := by
  unfold cnt
  have h := List.range'_append (s := f) (m := a) (n := b) (step := 1)
  rw [Nat.one_mul] at h
  rw [← h, List.filter_append, List.length_append]
theorem cnt_shift (m k len : Nat) (q : Nat) (hq : ∀ j, j < len → q.testBit j = m.testBit (k + j)) : cnt m k len = cnt q 0 len := by
  unfold cnt
  rw [show List.range' k len = (List.range' 0 len).map (fun i => k + i) by rw [← List.range_eq_range', List.range'_eq_map_range], List.filter_map, List.length_map]
  congr 1
  apply List.filter_congr
  intro j hj
  rw [List.mem_range'_1] at hj
  exact (hq j (by omega)).symm
theorem size_byte {n : Nat} (h : n < 256) : size n ≤ 8 := by
  rw [size_cnt (n := 8) (by decide) (bits_above (by simpa using h))]
  exact cnt_le _ _ _
theorem byte_bits (m k j : Nat) (hj : j < 8) : (m / 2 ^ k % 256).testBit j = m.testBit (k + j) := by
  rw [show (256 : Nat) = 2 ^ 8 from rfl, Nat.testBit_mod_two_pow, Nat.testBit_div_two_pow]
  simp [hj, Nat.add_comm]
theorem size_bytes {m : Nat} (hm : m < 4294967296) : size m = size (m / 16777216 % 256) + size (m / 65536 % 256) + size (m / 256 % 256) + size (m % 256) := by
  have h8 : ∀ q, q < 256 → size q = cnt q 0 8 := fun q hq => size_cnt (n := 8) (by decide) (bits_above (by simpa using hq))
  rw [size_cnt (n := 32) (by decide) (bits_above (by rw [two32]; exact hm)), h8 _ (by omega), h8 _ (by omega), h8 _ (by omega), h8 _ (by omega)]
  rw [show (32 : Nat) = 8 + (8 + (8 + 8)) from rfl, cnt_split, cnt_split, cnt_split]
  simp only [Nat.zero_add]
  have a0 : cnt m 0 8 = cnt (m % 256) 0 8 := cnt_shift m 0 8 _ fun j hj => by have := byte_bits m 0 j hj; simpa using this
  have a1 : cnt m 8 8 = cnt (m / 256 % 256) 0 8 := cnt_shift m 8 8 _ fun j hj => byte_bits m 8 j hj
  have a2 : cnt m (8 + 8) 8 = cnt (m / 65536 % 256) 0 8 := cnt_shift m 16 8 _ fun j hj => byte_bits m 16 j hj
  have a3 : cnt m (8 + 8 + 8) 8 = cnt (m / 16777216 % 256) 0 8 := cnt_shift m 24 8 _ fun j hj => byte_bits m 24 j hj
  rw [a0, a1, a2, a3]
  omega

def popEx (s : ByteArray) : Bool := (List.range 256).all fun n => match s[n]? with
  | some b => decide (b.toNat = size n)
  | none => false
theorem popEx_at {s : ByteArray} (h : popEx s = true) {n : Nat} (hn : n < 256) : ∃ b, s[n]? = some b ∧ b.toNat = size n := by
  have h1 := List.all_eq_true.1 h n (List.mem_range.2 hn)
  cases hb : s[n]? with
  | none => rw [hb] at h1; cases h1
  | some b =>
    rw [hb] at h1
    refine ⟨b, rfl, ?_⟩
    simpa using h1
theorem run_index_strEx {P : Program} (t : TypeId) (s : ByteArray) (k : IntKind) (i : Int) (b : UInt8) (h : P.underlying t = some .string) (h0 : 0 ≤ i) (hb : s[i.toNat]? = some b) (w : World) :
    (Instr.index t (.string s) (.int k i)).run P w = .ok (.int .u8 b.toNat) w := by
  simp [Instr.index, run_underlying h, asIntOf, h0, hb, go_sem]
theorem quiet_popEx {P : Program} {C : World → Prop} {a : Act} {o : Oper} {K : Act → Prop} (t : TypeId) (x i : Operand) (s : ByteArray) (k : IntKind) (z : Int) (n : Nat) (h : o.op = .index t x i) (hx : a.eval x = .string s) (hi : a.eval i = .int k z)
    (hu : P.underlying t = some .string) (hs : popEx s = true) (hz : z = n) (hn : n < 256) (hk : ∀ c : Nat, Hid (c = size n) → K (a.put o.dst (.int .u8 (c : Int)))) : o.quiet P a C K := by
  subst hz
  obtain ⟨b, hb, h8⟩ := popEx_at hs hn
  refine ⟨.int .u8 b.toNat, fun w _ => ?_, hk _ (Lib.hid h8)⟩
  have e : (execOp a.eval o).run P w = .ok (.value (.int .u8 b.toNat)) w := by
    unfold execOp
    rw [h]
    simp only [hx, hi]
    have := run_index_strEx t s k (n : Int) b hu (by omega) (by simpa using hb) w
    simp [this, go_sem]
  unfold Oper.quietAt
  rw [e]
  exact ⟨rfl, rfl⟩

set_option maxHeartbeats 4000000 in
set_option maxRecDepth 100000 in
theorem ones_exact (m : Nat) (hm : m < 4294967296) (w : World) :
    Calls Tryd.prog 192 #[.int .u32 m] w fun e w' => e = .returned (.int .i64 (size m : Nat)) ∧ Below w.heap.size w w' := by
  have hand : ∀ z : Nat, z < 4294967296 → bits BinOp.and IntKind.u32 (z : Int) 255 = ((z % 256 : Nat) : Int) := fun z hz => by
    rw [show (255 : Int) = ((255 : Nat) : Int) from rfl, u32_and_nat z 255 hz (by decide), show (255 : Nat) = 2 ^ 8 - 1 from rfl, Nat.and_two_pow_sub_one_eq_mod]
  obtain ⟨n1, h1⟩ : ∃ n : Nat, (m : Int) / 16777216 = n := ⟨m / 16777216, by omega⟩
  obtain ⟨n2, h2⟩ : ∃ n : Nat, bits BinOp.and IntKind.u32 ((m : Int) / 65536) 255 = n := ⟨m / 65536 % 256, by rw [show (m : Int) / 65536 = ((m / 65536 : Nat) : Int) by omega]; exact hand _ (by omega)⟩
  obtain ⟨n3, h3⟩ : ∃ n : Nat, bits BinOp.and IntKind.u32 ((m : Int) / 256) 255 = n := ⟨m / 256 % 256, by rw [show (m : Int) / 256 = ((m / 256 : Nat) : Int) by omega]; exact hand _ (by omega)⟩
  obtain ⟨n4, h4⟩ : ∃ n : Nat, bits BinOp.and IntKind.u32 (m : Int) 255 = n := ⟨m % 256, hand _ hm⟩
  have e2 : n2 = m / 65536 % 256 := by rw [show (m : Int) / 65536 = ((m / 65536 : Nat) : Int) by omega, hand _ (by omega)] at h2; omega
  have e3 : n3 = m / 256 % 256 := by rw [show (m : Int) / 256 = ((m / 256 : Nat) : Int) by omega, hand _ (by omega)] at h3; omega
  have e4 : n4 = m % 256 := by rw [hand _ hm] at h4; omega
  have hb1 : n1 < 256 := by omega
  have hb2 : n2 < 256 := by omega
  have hb3 : n3 < 256 := by omega
  have hb4 : n4 < 256 := by omega
  have e1 : n1 = m / 16777216 % 256 := by omega
  have HZ : Hid (size m = size n1 + size n2 + size n3 + size n4) := Lib.hid (by rw [e1, e2, e3, e4, size_bytes hm])
  have HB : Hid (size n1 ≤ 8 ∧ size n2 ≤ 8 ∧ size n3 ≤ 8 ∧ size n4 ≤ 8) := Lib.hid ⟨size_byte hb1, size_byte hb2, size_byte hb3, size_byte hb4⟩
  clear e1 e2 e3 e4 hand
  go_enter Tryd.func192, Tryd.ntmps192
  go_wp2_with fail
  refine wp_region_calm (by kernel_rfl) (by kernel_rfl) ?_
  repeat quiet_step (fail)
  refine BigFrame.wpQuiet_want (by kernel_rfl) (fun K hK => quiet_popEx _ _ _ _ _ _ n1 rfl rfl rfl (by kernel_rfl) (by kernel_rfl) rfl hb1 fun c1 hz1 => hK _ ?_)
  clear K hK
  have hc1 : c1 ≤ 8 := by rw [hz1.out]; exact HB.out.1
  simp only [Act.put, go_sem]
  repeat quiet_step (fail)
  refine BigFrame.wpQuiet_want (by kernel_rfl) (fun K hK => quiet_popEx _ _ _ _ _ _ n2 rfl rfl rfl (by kernel_rfl) (by kernel_rfl) rfl hb2 fun c2 hz2 => hK _ ?_)
  clear K hK
  have hc2 : c2 ≤ 8 := by rw [hz2.out]; exact HB.out.2.1
  simp only [Act.put, go_sem]
  repeat quiet_step (fail)
  refine BigFrame.wpQuiet_want (by kernel_rfl) (fun K hK => quiet_popEx _ _ _ _ _ _ n3 rfl rfl rfl (by kernel_rfl) (by kernel_rfl) rfl hb3 fun c3 hz3 => hK _ ?_)
  clear K hK
  have hc3 : c3 ≤ 8 := by rw [hz3.out]; exact HB.out.2.2.1
  simp only [Act.put, go_sem]
  repeat quiet_step (fail)
  refine BigFrame.wpQuiet_want (by kernel_rfl) (fun K hK => quiet_popEx _ _ _ _ _ _ n4 rfl rfl rfl (by kernel_rfl) (by kernel_rfl) rfl hb4 fun c4 hz4 => hK _ ?_)
  clear K hK
  have hc4 : c4 ≤ 8 := by rw [hz4.out]; exact HB.out.2.2.2
  simp only [Act.put, go_sem]
  repeat quiet_step (fail)
  have hw : IntKind.i64.wrap (IntKind.u8.wrap (IntKind.u8.wrap (IntKind.u8.wrap ((c1 : Int) + c2) + c3) + c4)) = ((c1 + c2 + c3 + c4 : Nat) : Int) := by
    have a1 : IntKind.u8.wrap ((c1 : Int) + c2) = ((c1 + c2 : Nat) : Int) := by simp [IntKind.wrap, go_sem]; omega
    have a2 : IntKind.u8.wrap (((c1 + c2 : Nat) : Int) + c3) = ((c1 + c2 + c3 : Nat) : Int) := by simp [IntKind.wrap, go_sem]; omega
    have a3 : IntKind.u8.wrap (((c1 + c2 + c3 : Nat) : Int) + c4) = ((c1 + c2 + c3 + c4 : Nat) : Int) := by simp [IntKind.wrap, go_sem]; omega
    rw [a1, a2, a3]
    simp [IntKind.wrap, go_sem]
    omega
  rw [hw]
  simp only [wpQuiet_nil_eq]
  intro W hbW
  go_wp2_with fail
  go_ret
  exact ⟨ret_int (by rw [HZ.out, hz1.out, hz2.out, hz3.out, hz4.out]), hbW⟩

set_option maxHeartbeats 1000000 in
theorem size_exact (m : Nat) (hm : m < 4294967296) (w : World) :
    Calls Tryd.prog 154 #[.int .u32 m] w fun e w' => e = .returned (.int .i64 (size m : Nat)) ∧ Below w.heap.size w w' := by
  go_enter Tryd.func154, Tryd.ntmps154
  go_wp2_with fail
  refine (ones_exact m hm w).mono ?_
  rintro e w' ⟨rfl, hb⟩
  go_wp2_with fail
  go_ret
  exact ⟨rfl, hb⟩
end Go.Proofs.YtbhobmngnjfgfaaDoor
