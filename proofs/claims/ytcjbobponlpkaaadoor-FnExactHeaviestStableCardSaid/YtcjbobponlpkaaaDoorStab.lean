/-
  'isStable', 'rules', 'isCover', 'bestStable' of the program.
-/
import Derived.Test.YtcjbobponlpkaaaDoorFindSt
import Derived.Test.YtcjbobponlpkaaaDoorChBs
import Derived.Test.YtcjbobponlpkaaaDoorCuts
namespace Go.Proofs.YtcjbobponlpkaaaDoor
open Go.RowKit

/-- Has v a neighbour in a set? -/
def touch (n : Nat) (e : Nat → Nat → Bool) (p : Nat → Bool) (v : Nat) : Bool := decide (maskB n (fun u => e v u && p u) ≠ 0)
def stB (n : Nat) (e : Nat → Nat → Bool) (p : Nat → Bool) : Bool := !(rowB n p).any fun x => touch n e p x.toNat
theorem touch_iff {n : Nat} {e : Nat → Nat → Bool} {p : Nat → Bool} {v : Nat} : touch n e p v = true ↔ ∃ u, u < n ∧ e v u = true ∧ p u = true := by
  unfold touch
  rw [decide_eq_true_eq, ne_eq, maskB_eq_zero]
  constructor
  · intro h
    apply Classical.byContradiction
    intro hn
    refine h fun u hu => ?_
    cases h1 : e v u <;> cases h2 : p u <;> first | rfl | exact (hn ⟨u, hu, h1, h2⟩).elim
  · rintro ⟨u, hu, h1, h2⟩ h
    have := h u hu
    rw [h1, h2] at this
    cases this
theorem stB_iff {n : Nat} {e : Nat → Nat → Bool} {p : Nat → Bool} : stB n e p = true ↔ ∀ v, v < n → p v = true → ∀ u, u < n → p u = true → e v u = false := by
  unfold stB
  rw [Bool.not_eq_true', List.any_eq_false]
  constructor
  · intro h v hv hp u hu hpu
    have := h (v : Int) (nat_mem_rowB.2 ⟨hv, hp⟩)
    rw [Int.toNat_natCast] at this
    cases he : e v u with
    | false => rfl
    | true => exact (this (touch_iff.2 ⟨u, hu, he, hpu⟩)).elim
  · intro h x hx
    obtain ⟨v, hv, hp, rfl⟩ := mem_rowB.1 hx
    rw [Int.toNat_natCast]
    intro ht
    obtain ⟨u, hu, he, hpu⟩ := touch_iff.1 ht
    rw [h v hv hp u hu hpu] at he
    cases he
theorem stB_ext {n : Nat} {e e' : Nat → Nat → Bool} {p p' : Nat → Bool} (he : ∀ u v, u < n → v < n → e u v = e' u v) (h : ∀ b, b < n → p b = p' b) : stB n e p = stB n e' p' := by
  rw [Bool.eq_iff_iff, stB_iff, stB_iff]
  constructor
  · intro h1 v hv hp u hu hpu
    rw [← he v u hv hu]
    exact h1 v hv (by rw [h v hv]; exact hp) u hu (by rw [h u hu]; exact hpu)
  · intro h1 v hv hp u hu hpu
    rw [he v u hv hu]
    exact h1 v hv (by rw [← h v hv]; exact hp) u hu (by rw [← h u hu]; exact hpu)

set_option maxHeartbeats 1000000 in
theorem stable1_any (n : Nat) (e : Nat → Nat → Bool) (hn : n ≤ 16) (p : Nat → Bool) (v : Value) (A Z : Nat) (q : Nat) (hq : q < n) (x : Int) (hx : x = q) (z : Int) (hz : z = (maskB n p : Nat)) (W : World) (hA : VC 56 A #[v] W) (hZ : VC 53 Z #[.int .u32 z] W) (hr : Row W 1 v n (sets (NB n e))) :
    Calls Tryd.prog 131 #[.int .i64 x, .pointer (some ⟨A, 0, none⟩), .pointer (some ⟨Z, 0, none⟩)] W fun r W' => r = .returned (.bool (touch n e p q)) ∧ Below W.heap.size W W' := by
  subst hx
  obtain ⟨a, c, rfl, -, -, -⟩ := id hr
  obtain ⟨gb, go, x, rfl, hcx, HX⟩ := hr.setAt (j := q) (by simpa using hq)
  obtain rfl : maskB n (e q) = x := by have h := HX.out; rw [NB_at e hq] at h; exact Option.some.inj h
  obtain ⟨xi, HXI⟩ : ∃ z : Int, Hid (((maskB n (e q) : Nat) : Int) = z) := ⟨_, Lib.hid rfl⟩
  obtain ⟨k, HK⟩ : ∃ z : Nat, Hid (z = maskB n (fun u => e q u && p u)) := ⟨_, Lib.hid rfl⟩
  have hba : bits BinOp.and IntKind.u32 xi z = (k : Int) := by rw [← HXI.out, hz, HK.out, mask_and (by omega)]
  have HT : Hid (touch n e p q = ((k : Int) != 0)) := Lib.hid (by unfold touch; rw [← HK.out, Bool.eq_iff_iff]; simp)
  have hca := hA.cell
  have hcz := hZ.cell
  rw [HXI.out] at hcx
  clear HX hz
  go_enter Tryd.func131, Tryd.ntmps131
  go_wp2_with fail
  refine wp_region_ord [1] [0, 2, 3, 4, 5, 6, 7] [] [] (by kernel_rfl) (by kernel_rfl) (fun _ _ d _ _ h => by cases d <;> exact h) ?_
  simp only [pickOps, List.filterMap_cons, List.filterMap_nil, List.getElem?_cons_succ, List.getElem?_cons_zero]
  repeat quiet_step (fail)
  simp only [wpQuiet_nil_eq, wpSegs_nil_eq]
  go_wp2_with fail
  go_ret
  exact ⟨ret_bool HT.out.symm, below_drewN' W 1⟩

set_option maxHeartbeats 1000000 in
theorem isStable_any (v : Value) (n : Nat) (e : Nat → Nat → Bool) (hn : n ≤ 16) (p : Nat → Bool) (z : Int) (hz : z = (maskB n p : Nat)) (w : World) (ht : Tab w) (hr : Row w 1 v n (sets (NB n e))) :
    Calls Tryd.prog 106 #[v, .int .u32 z] w fun r w' => r = .returned (.bool (stB n e p)) ∧ Below w.heap.size w w' := by
  have hmf : ∀ (fn : Fn) (first cap : Array Value) (w : World), (Instr.makeFunc fn first cap).run Tryd.prog w = .ok (.func fn first cap) w := fun _ _ _ _ => rfl
  obtain ⟨a, c, rfl, -, -, -⟩ := id hr
  obtain ⟨B, hB⟩ : ∃ B, w.heap.size = B := ⟨_, rfl⟩
  have hTB : 0 < B := by rw [← hB]; exact ht.lt
  obtain ⟨W0, hW0⟩ : ∃ W0, W0 = w.alloc (.cells #[.slice a n c] 56) := ⟨_, rfl⟩
  obtain ⟨W1, hW1⟩ : ∃ W1, W1 = W0.alloc (.cells #[.int .u32 z] 53) := ⟨_, rfl⟩
  have hz0 : W0.heap.size = B + 1 := by simp [hW0, hB]
  have hz1 : W1.heap.size = B + 2 := by simp [hW1, hz0]
  have u0 : Below B w W0 := by rw [hW0, ← hB]; exact below_alloc' _ _
  have u1 : Below B w W1 := by rw [hW1]; exact u0.alloc (by omega) _
  have VA0 : VC 56 B #[.slice a n c] W0 := by rw [hW0]; exact VC.new hB
  have VA1 : VC 56 B #[.slice a n c] W1 := by rw [hW1]; exact VA0.upd (Upd.alloc _ _) (by omega)
  have VZ1 : VC 53 (B + 1) #[.int .u32 z] W1 := by rw [hW1]; exact VC.new hz0
  have hcz := VZ1.cell
  have HLI := Lib.hid (listB_any (n := n) (by omega) p z hz W1 (ht.keep u1 hTB))
  have HZ := Lib.hid hz
  clear hz u0 VA0
  go_enter Tryd.func106, Tryd.ntmps106
  go_wp2_with fail
  rw [← hW0, ← hW1]
  clear hW0 hW1
  refine HLI.out.mono ?_
  rintro e1' w2 ⟨u2, rfl, hL2, hb2⟩
  obtain ⟨la, lc, rfl⟩ := owns_shape hL2
  have hb02 := u1.trans (hb2.mono (by omega))
  have VA2 := VA1.belowAt hb2 (by omega)
  have VZ2 := VZ1.belowAt hb2 (by omega)
  have hzz := hb2.size
  have HC := Lib.hid (contF_any_st B (B + 1) (fun x => touch n e p x.toNat) (.slice la (rowB n p).length lc) (rowB n p) w2 (Row.of_owns hL2) (fun x hx W hbW => by
    obtain ⟨q, hq, _, rfl⟩ := mem_rowB.1 hx
    have := stable1_any n e hn p (.slice a n c) B (B + 1) q hq (q : Int) rfl z HZ.out W (VA2.belowAt hbW (by omega)) (VZ2.belowAt hbW (by omega)) (hr.below (hB.symm ▸ (hb02.trans (hbW.mono (by omega)))))
    rw [Int.toNat_natCast]
    exact this))
  clear HLI hL2 hb2 hcz
  go_wp2_with fail
  refine HC.out.mono ?_
  rintro e2 w3 ⟨rfl, hb3⟩
  go_wp2_with fail
  go_ret
  exact ⟨ret_bool (by unfold stB; rfl), by rw [hB]; exact hb02.trans (hb3.mono (by omega))⟩

/-! ### rules -/
def domB (n : Nat) (e : Nat → Nat → Bool) (p : Nat → Bool) (b : Nat) : Bool := p b || (List.range n).any fun v => p v && e v b
def ruleB (n : Nat) (e : Nat → Nat → Bool) (p : Nat → Bool) : Bool := decide (maskB n (domB n e p) = maskB n (allB n))
def domL (e : Nat → Nat → Bool) (p : Nat → Bool) (xs : List Int) (b : Nat) : Bool := p b || xs.any fun x => e x.toNat b
theorem domL_succ (e : Nat → Nat → Bool) (p : Nat → Bool) {xs : List Int} {j q : Nat} (h : xs[j]? = some (q : Int)) (b : Nat) : domL e p (xs.take (j + 1)) b = (domL e p (xs.take j) b || e q b) := by
  unfold domL
  rw [take_snoc h, List.any_append, Bool.or_assoc]
  simp
theorem domL_row (n : Nat) (e : Nat → Nat → Bool) (p : Nat → Bool) (b : Nat) : domL e p (rowB n p) b = domB n e p b := by
  unfold domL domB
  congr 1
  rw [Bool.eq_iff_iff, List.any_eq_true, List.any_eq_true]
  constructor
  · rintro ⟨x, hx, h⟩
    obtain ⟨a, ha, hp, rfl⟩ := mem_rowB.1 hx
    exact ⟨a, List.mem_range.2 ha, by rw [hp]; simpa using h⟩
  · rintro ⟨a, ha, h⟩
    rw [Bool.and_eq_true] at h
    exact ⟨(a : Int), nat_mem_rowB.2 ⟨List.mem_range.1 ha, h.1⟩, by simpa using h.2⟩

set_option maxHeartbeats 2000000 in
theorem rules_any (v : Value) (n : Nat) (e : Nat → Nat → Bool) (hn : n ≤ 16) (p : Nat → Bool) (z : Int) (hz : z = (maskB n p : Nat)) (w : World) (ht : Tab w) (hr : Row w 1 v n (sets (NB n e))) :
    Calls Tryd.prog 94 #[v, .int .u32 z] w fun r w' => r = .returned (.bool (ruleB n e p)) ∧ Below w.heap.size w w' := by
  obtain ⟨a, c, rfl, -, -, -⟩ := id hr
  obtain ⟨B, hB⟩ : ∃ B, w.heap.size = B := ⟨_, rfl⟩
  obtain ⟨m0, HM0⟩ : ∃ m : Nat, Hid (m = maskB n p) := ⟨_, Lib.hid rfl⟩
  obtain rfl : z = (m0 : Int) := by rw [hz, HM0.out]
  obtain ⟨mi, HMI⟩ : ∃ z : Int, Hid ((m0 : Int) = z) := ⟨_, Lib.hid rfl⟩
  have HLI := Lib.hid (listB_any (n := n) (by omega) p mi (by rw [← HMI.out, HM0.out]) w ht)
  rw [hB] at HLI
  have hyl := rowB_length n p
  have hm0 : Hid (m0 = maskB n (domL e p ((rowB n p).take 0))) := Lib.hid (by rw [HM0.out, List.take_zero]; exact maskB_ext fun i _ => by simp [domL])
  rw [HMI.out]
  clear hz
  go_enter Tryd.func94, Tryd.ntmps94
  go_wp2_with fail
  refine HLI.out.mono ?_
  rintro e1 w1 ⟨u1, rfl, hL1, hb1⟩
  obtain ⟨la, lc, rfl⟩ := owns_shape hL1
  have hRL := Row.of_owns hL1
  obtain ⟨C, hC⟩ : ∃ C, w1.heap.size = C := ⟨_, rfl⟩
  have hBC : B ≤ C := by have := hb1.size; omega
  have hcl : Below C w1 w1 := Below.refl _ _
  clear hL1 HLI
  go_wp2_with fail
  go_loopw [5, 12] (fun t i wr => ∃ j m : Nat, j ≤ (rowB n p).length ∧ i = .int .i64 j ∧ t = .int .u32 m ∧ Hid (m = maskB n (domL e p ((rowB n p).take j))) ∧ Below C w1 wr) (fun _ i _ => (rowB n p).length - (intOf i).toNat)
  case atStart => exact ⟨0, m0, Nat.zero_le _, rfl, by rw [HMI.out], hm0, hcl⟩
  case round =>
    clear hcl
    obtain ⟨j, m, hj, rfl, rfl, HM, hb⟩ := hrel
    by_cases hlt : j < (rowB n p).length
    · obtain ⟨yb, yo, y, rfl, hcy, HY⟩ := Row.intAt (Row.below hRL (hC.symm ▸ hb)) hlt
      obtain ⟨q, hq, hpq, rfl⟩ := row_at HY.out
      obtain ⟨gb, go, x, rfl, hcx, HX⟩ := (hr.below (hB.symm ▸ (hb1.trans (hb.mono hBC)))).setAt (j := q) (by simpa using hq)
      obtain rfl : maskB n (e q) = x := by have h := HX.out; rw [NB_at e hq] at h; exact Option.some.inj h
      obtain ⟨xi, HXI⟩ : ∃ z : Int, Hid (((maskB n (e q) : Nat) : Int) = z) := ⟨_, Lib.hid rfl⟩
      obtain ⟨z1, HZ1⟩ : ∃ z : Int, Hid ((m : Int) = z) := ⟨_, Lib.hid rfl⟩
      obtain ⟨z5, HZ5⟩ : ∃ z : Nat, Hid (z = maskB n (domL e p ((rowB n p).take (j + 1)))) := ⟨_, Lib.hid rfl⟩
      have hb2' : bits BinOp.or IntKind.u32 z1 xi = (z5 : Int) := by
        rw [← HZ1.out, HM.out, ← HXI.out, HZ5.out, maskB_or (by omega)]
        congr 1
        exact maskB_ext fun i hi => (domL_succ e p HY.out i).symm
      rw [HXI.out] at hcx
      rw [HZ1.out]
      clear HX
      go_wp2_with fail
      go_roundw
      case rel => exact ⟨j + 1, z5, by omega, by go_num, rfl, HZ5, hb⟩
      case measure => simp [intOf]; omega
    · obtain rfl : j = (rowB n p).length := by omega
      obtain ⟨k, HK⟩ : ∃ k : Nat, Hid (k = maskB n (allB n)) := ⟨_, Lib.hid rfl⟩
      obtain ⟨ki, HKI⟩ : ∃ z : Int, Hid (z = (k : Int)) := ⟨_, Lib.hid rfl⟩
      have HF : Hid (ruleB n e p = decide (m = k)) := Lib.hid (by
        unfold ruleB
        rw [HM.out, HK.out, List.take_length]
        congr 2
        exact maskB_ext fun i _ => (domL_row n e p i).symm)
      go_wp2_with fail
      refine (all_netsAt _ n hn ki (by rw [HKI.out, HK.out, mask_allB]) ⟨_, _, rfl⟩ _).mono ?_
      rintro e2 w' ⟨rfl, rfl⟩
      go_wp2_with fail
      go_ret
      exact ⟨ret_bool (by rw [HF.out, HKI.out, Bool.eq_iff_iff]; simp; omega), by rw [hB]; exact hb1.trans (hb.mono hBC)⟩

/-! ### isCover -/
def covB (n : Nat) (e : Nat → Nat → Bool) (p : Nat → Bool) : Bool := stB n e fun b => allB n b && !p b
set_option maxHeartbeats 1000000 in
theorem isCover_any (v : Value) (n : Nat) (e : Nat → Nat → Bool) (hn : n ≤ 16) (p : Nat → Bool) (z : Int) (hz : z = (maskB n p : Nat)) (w : World) (ht : Tab w) (hr : Row w 1 v n (sets (NB n e))) :
    Calls Tryd.prog 97 #[v, .int .u32 z] w fun r w' => r = .returned (.bool (covB n e p)) ∧ Below w.heap.size w w' := by
  obtain ⟨a, c, rfl, -, -, -⟩ := id hr
  obtain ⟨ki, HKI⟩ : ∃ z : Int, Hid (z = (maskB n (allB n) : Nat)) := ⟨_, Lib.hid rfl⟩
  obtain ⟨y, HY⟩ : ∃ z : Int, Hid (z = (maskB n (fun b => allB n b && !p b) : Nat)) := ⟨_, Lib.hid rfl⟩
  have hba : bits BinOp.andNot IntKind.u32 ki z = y := by rw [HKI.out, hz, HY.out, mask_andNot (by omega)]
  have HS := Lib.hid (isStable_any (.slice a n c) n e hn _ y HY.out w ht hr)
  clear hz
  go_enter Tryd.func97, Tryd.ntmps97
  go_wp2_with fail
  refine (all_netsAt _ n hn ki (by rw [HKI.out, mask_allB]) ⟨_, _, rfl⟩ _).mono ?_
  rintro e2 w' ⟨rfl, rfl⟩
  go_wp2_with fail
  refine HS.out.mono ?_
  rintro e2 w1 ⟨rfl, hb1⟩
  go_wp2_with fail
  go_ret
  exact ⟨ret_bool rfl, hb1⟩

def coE (e : Nat → Nat → Bool) : Nat → Nat → Bool := fun a b => decide (a ≠ b) && !e a b
theorem mask_self {n m : Nat} (h : m < 2 ^ n) : maskB n m.testBit = m := by
  apply Nat.eq_of_testBit_eq
  intro i
  rw [testBit_maskB]
  by_cases hi : i < n
  · simp [hi]
  · simp [hi, bits_above h i (by omega)]

/-! ### bestStable -/
set_option maxHeartbeats 1000000 in
theorem best1_any (v : Value) (n : Nat) (e : Nat → Nat → Bool) (hn : n ≤ 16) (s : Nat) (hs : s < 2 ^ n) (F A : Nat) (x : Value) (W : World) (ht : Tab W) (hF : VC 53 F #[x] W) (hA : VC 56 A #[v] W) (hne : A ≠ F) (hr : Row W 1 v n (sets (NB n e))) (hTF : 0 < F) (hrF : v.ownBlock ≠ some F) :
    Calls Tryd.prog 124 #[.int .u32 (s : Nat), .pointer (some ⟨F, 0, none⟩), .pointer (some ⟨A, 0, none⟩)] W fun r W' => r = .returned (.bool (stB n e s.testBit)) ∧ Below W.heap.size (W.setCell ⟨F, 0, none⟩ (.int .u32 (s : Nat))) W' := by
  obtain ⟨a, c, rfl, -, -, -⟩ := id hr
  have hc := hF.cell
  have hf := hF.free
  have hx2 := (hA.other (p := ⟨F, 0, none⟩) hne (.int .u32 (s : Nat))).cell
  have hzS : (W.setCell ⟨F, 0, none⟩ (.int .u32 (s : Nat))).heap.size = W.heap.size := by simp [World.setCell]
  have hrS : Row (W.setCell ⟨F, 0, none⟩ (.int .u32 (s : Nat))) 1 (.slice a n c) n (sets (NB n e)) := hr.keep fun b hb _ => Below.heap_setCell _ _ _ _ (fun h => hrF (by rw [hb]; exact congrArg some h))
  have htS : Tab (W.setCell ⟨F, 0, none⟩ (.int .u32 (s : Nat))) := ht.keep (B := F) ((Below.refl F W).setCell (by simp) _) hTF
  obtain ⟨si, HSI⟩ : ∃ z : Int, Hid ((s : Int) = z) := ⟨_, Lib.hid rfl⟩
  have HS := Lib.hid (isStable_any (.slice a n c) n e hn s.testBit si (by rw [← HSI.out, mask_self hs]) _ htS hrS)
  rw [hzS] at HS
  rw [HSI.out] at HS hx2 hzS ⊢
  clear hrS htS hs
  go_enter Tryd.func124, Tryd.ntmps124
  go_wp2_with fail
  refine HS.out.mono ?_
  rintro e2 w1 ⟨rfl, hb1⟩
  go_wp2_with fail
  go_ret
  exact ⟨ret_bool rfl, hb1⟩

/-- Where more is better. -/
def keyM (m : Nat) : Nat := 32 - size m
theorem size_zero {m : Nat} (hm : m < 4294967296) (h : size m = 0) : m = 0 := by
  apply Classical.byContradiction
  intro h0
  unfold size at h
  rw [bitsOf_step h0 (by rw [two32]; exact hm)] at h
  simp at h
theorem size_le (m : Nat) : size m ≤ 32 := length_bitsOf m
theorem sets_block {w : World} {v : Value} {n : Nat} {ms : List Nat} (h : Row w 1 v n (sets ms)) (h0 : 0 < ms.length) {b : Nat} (hb : v.ownBlock = some b) : b < w.heap.size := by
  obtain ⟨a, c, rfl, -, -, -⟩ := id h
  obtain ⟨gb, go, x, rfl, hcx, _⟩ := h.setAt (j := 0) h0
  have := block_lt hcx
  simp [Value.ownBlock] at hb
  simp at this
  omega

set_option maxHeartbeats 2000000 in
theorem bestStable_any (v : Value) (n : Nat) (e : Nat → Nat → Bool) (hn0 : 0 < n) (hn : n ≤ 16) (w : World) (ht : Tab w) (hr : Row w 1 v n (sets (NB n e))) (r0 : Nat) (hr0 : IsBest keyM (fun s => stB n e s.testBit = true) (2 ^ n) r0) :
    Calls Tryd.prog 99 #[v] w fun r w' => r = .returned (.int .u32 (r0 : Nat)) ∧ Below w.heap.size w w' := by
  have hmf : ∀ (fn : Fn) (first cap : Array Value) (w : World), (Instr.makeFunc fn first cap).run Tryd.prog w = .ok (.func fn first cap) w := fun _ _ _ _ => rfl
  have hblk : ∀ b, v.ownBlock = some b → b < w.heap.size := fun b hb => sets_block hr (by simpa using hn0) hb
  obtain ⟨a, c, rfl, -, -, -⟩ := id hr
  obtain ⟨B, hB⟩ : ∃ B, w.heap.size = B := ⟨_, rfl⟩
  rw [hB] at hblk
  have hTB : 0 < B := by rw [← hB]; exact ht.lt
  have HR0 := Lib.hid hr0
  clear hr0
  obtain ⟨W0, hW0⟩ : ∃ W0, W0 = w.alloc (.cells #[.slice a n c] 56) := ⟨_, rfl⟩
  obtain ⟨W1, hW1⟩ : ∃ W1, W1 = W0.alloc (.cells #[.int .u32 0] 53) := ⟨_, rfl⟩
  have hz0 : W0.heap.size = B + 1 := by simp [hW0, hB]
  have hz1 : W1.heap.size = B + 2 := by simp [hW1, hz0]
  have u0 : Below B w W0 := by rw [hW0, ← hB]; exact below_alloc' _ _
  have u1 : Below B w W1 := by rw [hW1]; exact u0.alloc (by omega) _
  have VA0 : VC 56 B #[.slice a n c] W0 := by rw [hW0]; exact VC.new hB
  have VA1 : VC 56 B #[.slice a n c] W1 := by rw [hW1]; exact VA0.upd (Upd.alloc _ _) (by omega)
  have VF1 : VC 53 (B + 1) #[.int .u32 0] W1 := by rw [hW1]; exact VC.new hz0
  have hc0 := VA1.cell
  have hCH : Hid (∀ s W, s < 2 ^ n → (Below B w W ∧ VC 56 B #[.slice a n c] W ∧ ∃ x : Value, VC 53 (B + 1) #[x] W) →
      Calls Tryd.prog 124 #[.int .u32 (s : Nat), .pointer (some ⟨B + 1, 0, none⟩), .pointer (some ⟨B, 0, none⟩)] W fun e' W' => e' = .returned (.bool (stB n e s.testBit)) ∧
        (Below B w W' ∧ VC 56 B #[.slice a n c] W' ∧ ∃ x : Value, VC 53 (B + 1) #[x] W') ∧ VC 53 (B + 1) #[.int .u32 (s : Nat)] W') := Lib.hid fun s W hs ⟨hb, hX, x, hF⟩ => by
    have hbS : Below B w (W.setCell ⟨B + 1, 0, none⟩ (.int .u32 (s : Nat))) := hb.setCell (by simp) _
    have hFl := hF.lt
    refine (best1_any (.slice a n c) n e hn s hs (B + 1) B x W (ht.keep hb hTB) hF hX (by omega) (hr.below (hB.symm ▸ hb)) (by omega) (fun h => by have := hblk _ h; omega)).mono ?_
    rintro e' W' ⟨rfl, hb'⟩
    have hXS := (hX.other (p := ⟨B + 1, 0, none⟩) (by simp) (.int .u32 (s : Nat))).belowAt hb' (by omega)
    have hFS := (hF.set (.int .u32 (s : Nat))).belowAt hb' (by omega)
    exact ⟨rfl, ⟨hbS.trans (hb'.mono (by omega)), hXS, _, hFS⟩, hFS⟩
  clear u0 VA0
  go_enter Tryd.func99, Tryd.ntmps99
  go_wp2_with fail
  rw [← hW0, ← hW1]
  clear hW0 hW1
  go_loopw [4] (fun v wr => ∃ k : Nat, v = .int .i64 k ∧ k ≤ n ∧ Hid (∀ t, t < 2 ^ n → k < size t → stB n e t.testBit = false) ∧ Below B w wr ∧ VC 56 B #[.slice a n c] wr ∧ ∃ x : Value, VC 53 (B + 1) #[x] wr) (fun v _ => (intOf v).toNat)
  case atStart =>
    refine ⟨n, rfl, Nat.le_refl _, Lib.hid fun t ht h => ?_, u1, VA1, _, VF1⟩
    have h1 : size t = cnt t 0 n := size_cnt (by omega) (bits_above ht)
    have := cnt_le t 0 n
    omega
  case round =>
    clear u1 VA1 VF1 hc0
    obtain ⟨k, rfl, hk, HK, hb, hX, x, hF⟩ := hrel
    have hcx := hX.cell
    by_cases hlt : 0 < k
    · have hle : (0 : Int) < (k : Int) := by omega
      have HCA := Lib.hid (choose_any_bs (B + 1) B n hn (fun s => stB n e s.testBit)
        (fun W => Below B w W ∧ VC 56 B #[.slice a n c] W ∧ ∃ x : Value, VC 53 (B + 1) #[x] W) (fun s W => VC 53 (B + 1) #[.int .u32 (s : Nat)] W) hCH.out k (by omega) 0 0 0 (k : Int) 0 wr rfl rfl rfl (Nat.zero_le _) (fun j _ => by simp) ⟨hb, hX, x, hF⟩)
      clear hb hX hF
      go_wp2_with fail
      refine HCA.out.mono ?_
      rintro e1 w1 ⟨rfl, ⟨hb1, hX1, x1, hF1⟩, hA1⟩
      clear HCA hcx
      cases hany : (combos n k 0 0).any (fun s => stB n e s.testBit) with
      | true =>
        obtain ⟨s, hs⟩ : ∃ s, (combos n k 0 0).find? (fun s => stB n e s.testBit) = some s := by
          cases hf : (combos n k 0 0).find? (fun s => stB n e s.testBit) with
          | some s => exact ⟨s, rfl⟩
          | none =>
            rw [List.find?_eq_none] at hf
            rw [List.any_eq_true] at hany
            obtain ⟨y, hy, hfy⟩ := hany
            exact (hf y hy hfy).elim
        have hFs := hA1 s hs
        obtain ⟨h1, h2, h3⟩ := find_first (combos_order (fun j _ => by simp) (Nat.zero_le _)) hs
        obtain ⟨h4, h5⟩ := (mem_all (by omega)).1 h1
        have hbe : IsBest keyM (fun s => stB n e s.testBit = true) (2 ^ n) s := ⟨h4, h2, fun t ht hft ha => by
          have q1 := size_le t
          have q2 := size_le s
          unfold Ahead keyM at ha
          rcases ha with ha | ⟨ha, hl⟩
          · have := HK.out t ht (by omega)
            rw [hft] at this
            cases this
          · rcases h3 t ((mem_all (by omega)).2 ⟨ht, by omega⟩) hft with h6 | h6
            · subst h6; exact hl.irrefl
            · exact h6.asymm hl⟩
        have heq : s = r0 := hbe.unique (by have := Nat.pow_le_pow_right (n := 2) (j := 16) (by decide) hn; omega) HR0.out
        subst heq
        have hc := hFs.cell
        clear hany hs h1 h2 h3 h4 h5 hA1 hbe
        go_wp2_with fail
        go_ret
        exact ⟨rfl, by rw [hB]; exact hb1⟩
      | false =>
        have HK2 : Hid (∀ t, t < 2 ^ n → k - 1 < size t → stB n e t.testBit = false) := Lib.hid fun t ht hst => by
          by_cases hsk : size t = k
          · rw [List.any_eq_false] at hany
            have := hany t ((mem_all (by omega)).2 ⟨ht, hsk⟩)
            simpa using this
          · exact HK.out t ht (by omega)
        clear hany hA1
        go_wp2_with fail
        go_roundw
        case rel => exact ⟨k - 1, by go_num, by omega, HK2, hb1, hX1, x1, hF1⟩
        case measure => simp [intOf]; omega
    · have hle : ¬ (0 : Int) < (k : Int) := by omega
      have hbe : IsBest keyM (fun s => stB n e s.testBit = true) (2 ^ n) 0 := by
        refine ⟨Nat.pow_pos (by decide), stB_iff.2 fun v _ h => by simp at h, fun t ht hft ha => ?_⟩
        have hs0 : size t = 0 := by
          apply Classical.byContradiction
          intro hne
          have := HK.out t ht (by omega)
          rw [hft] at this
          cases this
        have := size_zero (by have := pow16 hn ht; omega) hs0
        subst this
        exact ha.irrefl
      have heq : 0 = r0 := hbe.unique (by have := Nat.pow_le_pow_right (n := 2) (j := 16) (by decide) hn; omega) HR0.out
      have HEQ := Lib.hid heq
      clear heq hbe
      go_wp2_with fail
      go_ret
      exact ⟨ret_int (by rw [← HEQ.out]; rfl), by first | exact hb | (rw [hB]; exact hb)⟩
end Go.Proofs.YtcjbobponlpkaaaDoor
