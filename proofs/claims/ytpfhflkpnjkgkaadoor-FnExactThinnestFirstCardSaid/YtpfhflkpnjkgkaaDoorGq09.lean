import Derived.Test.YtpfhflkpnjkgkaaDoorGq08
/-
  Induced graphs: 'l2Of' of the reference; 'has', 'narrow', 'induced' of the program.
-/

namespace Go.Proofs.YtpfhflkpnjkgkaaDoor
open Go.RowKit

/-- The vertex at a place of a list. -/
def atL (xs : List Int) (i : Nat) : Nat := (xs.getD i 0).toNat
theorem atL_eq {xs : List Int} {i x : Nat} (h : xs[i]? = some (x : Int)) : atL xs i = x := by simp [atL, List.getD, h]
/-- All are vertices of n. -/
def InP (n : Nat) (xs : List Int) : Prop := ∀ x ∈ xs, 0 ≤ x ∧ x < (n : Int)
theorem InP.at {n : Nat} {xs : List Int} (h : InP n xs) {i : Nat} {x : Int} (hx : xs[i]? = some x) : ∃ k : Nat, x = k ∧ k < n := by
  have := h x (List.mem_of_getElem? hx)
  exact ⟨x.toNat, by omega, by omega⟩

end Go.Proofs.YtpfhflkpnjkgkaaDoor
/-
  'has', 'narrow', 'induced' of the program.
-/

namespace Go.Proofs.YtpfhflkpnjkgkaaDoor
open Go.RowKit

/-- A table filled row by row. -/
def fill (f : Nat → Nat → Bool) (k j : Nat) : Nat → Nat → Bool := fun a b => (decide (a < k) || (decide (a = k) && decide (b < j))) && f a b
theorem fill_no (f : Nat → Nat → Bool) {k j : Nat} (h : f k j = false) : fill f k j = fill f k (j + 1) := by
  funext a b
  unfold fill
  by_cases h1 : a = k
  · subst h1
    by_cases h2 : b = j
    · subst h2; simp [h]
    · have e : decide (b < j) = decide (b < j + 1) := by rw [Bool.eq_iff_iff]; simp; omega
      rw [e]
  · simp [h1]
theorem fill_yes {n : Nat} (f : Nat → Nat → Bool) {k j : Nat} (hk : k < n) (hj : j < n) (h : f k j = true) :
    (NB n (fill f k j)).set k ((NB n (fill f k j)).getD k 0 ||| 2 ^ j) = NB n (fill f k (j + 1)) := by
  refine eq_NB (by simp) fun a b ha => ?_
  rw [getD_set _ _ _ _ (by simpa using hk)]
  by_cases h1 : a = k
  · subst h1
    rw [if_pos rfl, NB_getD _ hk, Nat.testBit_or, testBit_maskB, Nat.testBit_two_pow]
    unfold fill
    by_cases h2 : b = j
    · subst h2; simp [h, hj]
    · have e : decide (b < j) = decide (b < j + 1) := by rw [Bool.eq_iff_iff]; simp; omega
      have h3 : ¬ j = b := fun h => h2 h.symm
      rw [e]
      simp [h3]
  · rw [if_neg h1, NB_getD _ ha, testBit_maskB]
    unfold fill
    simp [h1]
theorem fill_next (n : Nat) (f : Nat → Nat → Bool) (k : Nat) : NB n (fill f k n) = NB n (fill f (k + 1) 0) := by
  refine NB_ext fun a b ha hb => ?_
  unfold fill
  have e : (decide (a < k) || (decide (a = k) && decide (b < n))) = (decide (a < k + 1) || (decide (a = k + 1) && decide (b < 0))) := by rw [Bool.eq_iff_iff]; simp [hb]; omega
  rw [e]
theorem fill_zero (f : Nat → Nat → Bool) : fill f 0 0 = fun _ _ => false := by
  funext a b
  unfold fill
  simp
theorem fill_all (n : Nat) (f : Nat → Nat → Bool) : NB n (fill f n 0) = NB n f := by
  refine NB_ext fun a b ha hb => ?_
  unfold fill
  simp [ha]

end Go.Proofs.YtpfhflkpnjkgkaaDoor
/-
  'BehindOf' of the program: 'behind'.
-/


namespace Go.Proofs.YtpfhflkpnjkgkaaDoor
open Go.RowKit

/-- What stands behind s, by those that are gone. -/
noncomputable def behB (n : Nat) (e : Nat → Nat → Bool) (p : Nat → Bool) (s b : Nat) : Bool := ((List.range n).any fun a => wayB n e p s a && e a b) && !p b && !decide (b = s)
def nearL (e : Nat → Nat → Bool) (xs : List Int) (b : Nat) : Bool := xs.any fun a => e a.toNat b
theorem nearL_succ (e : Nat → Nat → Bool) {xs : List Int} {j q : Nat} (h : xs[j]? = some (q : Int)) (b : Nat) : nearL e (xs.take (j + 1)) b = (nearL e (xs.take j) b || e q b) := by
  unfold nearL
  rw [take_snoc h, List.any_append]
  simp
theorem nearL_row {n : Nat} {e : Nat → Nat → Bool} {p : Nat → Bool} {b : Nat} : nearL e (rowB n p) b = (List.range n).any fun a => p a && e a b := by
  unfold nearL
  rw [Bool.eq_iff_iff, List.any_eq_true, List.any_eq_true]
  constructor
  · rintro ⟨x, hx, h⟩
    obtain ⟨a, ha, hp, rfl⟩ := mem_rowB.1 hx
    exact ⟨a, List.mem_range.2 ha, by rw [hp]; simpa using h⟩
  · rintro ⟨a, ha, h⟩
    rw [Bool.and_eq_true] at h
    exact ⟨(a : Int), nat_mem_rowB.2 ⟨List.mem_range.1 ha, h.1⟩, by simpa using h.2⟩

set_option maxHeartbeats 2000000 in
theorem behind_any (v : Value) (n : Nat) (e : Nat → Nat → Bool) (hn : n ≤ 16) (p : Nat → Bool) (s : Nat) (hs : s < n) (S : Int) (hS : S = s) (z : Int) (hz : z = (maskB n p : Nat)) (w : World) (ht : Tab w) (hr : Row w 1 v n (sets (NB n e))) :
    Calls Tryd.prog 58 #[v, .int .u32 z, .int .i64 S] w fun r w' => r = .returned (.int .u32 (maskB n (behB n e p s) : Nat)) ∧ Below w.heap.size w w' := by
  obtain ⟨a, c, rfl, -, -, -⟩ := id hr
  obtain ⟨B, hB⟩ : ∃ B, w.heap.size = B := ⟨_, rfl⟩
  have hTB : 0 < B := by rw [← hB]; exact ht.lt
  have HZ := Lib.hid hz
  have HSE := Lib.hid hS
  clear hz hS
  obtain ⟨y0, HY0⟩ : ∃ y : Int, Hid (y = ((2 ^ s : Nat) : Int)) := ⟨_, Lib.hid rfl⟩
  obtain ⟨y1, HY1⟩ : ∃ y : Int, Hid (y = (maskB n (fun b => p b || decide (b = s)) : Nat)) := ⟨_, Lib.hid rfl⟩
  have hbo : bits BinOp.or IntKind.u32 z y0 = y1 := by rw [HZ.out, HY0.out, HY1.out, pow_maskB hs, maskB_or (by omega)]
  have HRE := Lib.hid (reach_any (.slice a n c) n e hn _ s hs S HSE.out y1 HY1.out w ht hr)
  rw [wayB_eq (p := fun b => p b || decide (b = s)) (q := p) (fun b _ h => by simp at h; exact h.symm) (fun b _ h => .inr (by simp [h]))] at HRE
  obtain ⟨q0, HQ0⟩ : ∃ q, Hid (q = wayB n e p s) := ⟨_, Lib.hid rfl⟩
  obtain ⟨y2, HY2⟩ : ∃ y : Int, Hid (y = (maskB n q0 : Nat)) := ⟨_, Lib.hid rfl⟩
  rw [← HQ0.out, ← HY2.out] at HRE
  have hm0 : Hid (0 = maskB n (nearL e ((rowB n q0).take 0))) := Lib.hid (by rw [List.take_zero]; exact (maskB_eq_zero.2 fun i _ => rfl).symm)
  have hyl := rowB_length n q0
  go_enter Tryd.func58, Tryd.ntmps58
  go_wp2_with fail
  refine (one_at S s HSE.out (by omega) y0 HY0.out _).mono ?_
  rintro e1 w' ⟨rfl, rfl⟩
  go_wp2_with fail
  refine HRE.out.mono ?_
  rintro e1 w0 ⟨rfl, hb0⟩
  rw [hB] at hb0
  have hz0 := hb0.size
  have HLI := Lib.hid (listB_any (n := n) (by omega) q0 y2 HY2.out w0 (ht.keep hb0 hTB))
  clear HRE
  go_wp2_with fail
  refine HLI.out.mono ?_
  rintro e1 w1 ⟨u1, rfl, hL1, hb1⟩
  obtain ⟨la, lc, rfl⟩ := owns_shape hL1
  have hRL := Row.of_owns hL1
  replace hb1 := hb0.trans (hb1.mono (by omega))
  obtain ⟨C, hC⟩ : ∃ C, w1.heap.size = C := ⟨_, rfl⟩
  have hBC : B ≤ C := by have := hb1.size; omega
  have hcl : Below C w1 w1 := Below.refl _ _
  clear hL1 HLI hb0 hz0
  go_wp2_with fail
  go_loopw [8, 21] (fun t i wr => ∃ j m : Nat, j ≤ (rowB n q0).length ∧ i = .int .i64 j ∧ t = .int .u32 m ∧ Hid (m = maskB n (nearL e ((rowB n q0).take j))) ∧ Below C w1 wr) (fun _ i _ => (rowB n q0).length - (intOf i).toNat)
  case atStart => exact ⟨0, 0, Nat.zero_le _, rfl, rfl, hm0, hcl⟩
  case round =>
    clear hcl
    obtain ⟨j, m, hj, rfl, rfl, HM, hb⟩ := hrel
    by_cases hlt : j < (rowB n q0).length
    · obtain ⟨yb, yo, y, rfl, hcy, HY⟩ := Row.intAt (Row.below hRL (hC.symm ▸ hb)) hlt
      obtain ⟨q, hq, hpq, rfl⟩ := row_at HY.out
      obtain ⟨gb, go, x, rfl, hcx, HX⟩ := (hr.below (hB.symm ▸ (hb1.trans (hb.mono hBC)))).setAt (j := q) (by simpa using hq)
      obtain rfl : maskB n (e q) = x := by have h := HX.out; rw [NB_at e hq] at h; exact Option.some.inj h
      obtain ⟨xi, HXI⟩ : ∃ z : Int, Hid (((maskB n (e q) : Nat) : Int) = z) := ⟨_, Lib.hid rfl⟩
      obtain ⟨z1, HZ1⟩ : ∃ z : Int, Hid ((m : Int) = z) := ⟨_, Lib.hid rfl⟩
      obtain ⟨z5, HZ5⟩ : ∃ z : Nat, Hid (z = maskB n (nearL e ((rowB n q0).take (j + 1)))) := ⟨_, Lib.hid rfl⟩
      have hb2' : bits BinOp.or IntKind.u32 z1 xi = (z5 : Int) := by
        rw [← HZ1.out, HM.out, ← HXI.out, HZ5.out, maskB_or (by omega)]
        congr 1
        exact maskB_ext fun i hi => (nearL_succ e HY.out i).symm
      rw [HXI.out] at hcx
      rw [HZ1.out]
      clear HX
      go_wp2_with fail
      go_roundw
      case rel => exact ⟨j + 1, z5, by omega, by go_num, rfl, HZ5, hb⟩
      case measure => simp [intOf]; omega
    · obtain rfl : j = (rowB n q0).length := by omega
      obtain ⟨z1, HZ1⟩ : ∃ z : Int, Hid ((m : Int) = z) := ⟨_, Lib.hid rfl⟩
      obtain ⟨z2, HZ2⟩ : ∃ z : Int, Hid (z = (maskB n (fun b => nearL e (rowB n q0) b && !p b) : Nat)) := ⟨_, Lib.hid rfl⟩
      obtain ⟨z3, HZ3⟩ : ∃ z : Int, Hid (z = (maskB n (behB n e p s) : Nat)) := ⟨_, Lib.hid rfl⟩
      have hb1' : bits BinOp.andNot IntKind.u32 z1 z = z2 := by rw [← HZ1.out, HM.out, HZ.out, HZ2.out, List.take_length, mask_andNot (by omega)]
      have hb2' : bits BinOp.andNot IntKind.u32 z2 y0 = z3 := by
        rw [HZ2.out, HY0.out, HZ3.out, pow_maskB hs, mask_andNot (by omega)]
        congr 1
        exact maskB_ext fun i hi => by unfold behB; rw [nearL_row, HQ0.out]
      rw [HZ1.out]
      go_wp2_with fail
      refine (one_at S s HSE.out (by omega) y0 HY0.out _).mono ?_
      rintro e1 w' ⟨rfl, rfl⟩
      go_wp2_with fail
      go_ret
      exact ⟨ret_int HZ3.out, by rw [hB]; exact hb1.trans (hb.mono hBC)⟩

/-- What 'BehindOf' gives. -/
def BehP (xss : List (List Int)) (xs : List Int) (v : Int) (rs : List Int) : Prop :=
  ((okB xss && decide (SetP xss.length xs) && inN xss.length v && !xs.contains v) = false ∧ rs = []) ∨ ∃ e p s, Adj xss.length e ∧ xss = rowsB xss.length e ∧ xs = rowB xss.length p ∧ v = (s : Nat) ∧ s < xss.length ∧
    (okB xss && decide (SetP xss.length xs) && inN xss.length v && !xs.contains v) = true ∧ rs = rowB xss.length (behB xss.length e p s)

end Go.Proofs.YtpfhflkpnjkgkaaDoor
/-
  The least width of taking away what is left: both ways of reckoning. No program in sight.
-/

namespace Go.Proofs.YtpfhflkpnjkgkaaDoor

/-- How many stand behind v, where those of S are gone. -/
noncomputable def bhN (n : Nat) (e : Nat → Nat → Bool) (S v : Nat) : Nat := (rowB n (behB n e S.testBit v)).length
/-- Those that are not gone. -/
def leftN (n S : Nat) : List Nat := (List.range n).filter fun v => !S.testBit v
/-- The least of numbers below 16. -/
def minL (l : List Nat) : Nat := l.foldl min 16
noncomputable def widF (n : Nat) (e : Nat → Nat → Bool) : Nat → Nat → Nat
  | 0, _ => 0
  | f + 1, S => if leftN n S = [] then 0 else minL ((leftN n S).map fun v => max (bhN n e S v) (widF n e f (S ||| 2 ^ v)))
/-- The least width. -/
noncomputable def wid (n : Nat) (e : Nat → Nat → Bool) (S : Nat) : Nat := widF n e (leftN n S).length S
/-- The width where v goes next. -/
noncomputable def wit (n : Nat) (e : Nat → Nat → Bool) (S v : Nat) : Nat := max (bhN n e S v) (wid n e (S ||| 2 ^ v))

theorem mem_leftN {n S v : Nat} : v ∈ leftN n S ↔ v < n ∧ S.testBit v = false := by
  unfold leftN
  rw [List.mem_filter, List.mem_range]
  simp
theorem leftN_put {n S v : Nat} (hv : v ∈ leftN n S) : (leftN n (S ||| 2 ^ v)).length + 1 = (leftN n S).length := by
  obtain ⟨h1, h2⟩ := mem_leftN.1 hv
  unfold leftN
  have key : ∀ m, ((List.range m).filter fun x => !(S ||| 2 ^ v).testBit x).length + (if v < m then 1 else 0) = ((List.range m).filter fun x => !S.testBit x).length := by
    intro m
    induction m with
    | zero => simp
    | succ m ih =>
      rw [List.range_succ, List.filter_append, List.filter_append, List.length_append, List.length_append, ← ih]
      have hb : (S ||| 2 ^ v).testBit m = (S.testBit m || decide (v = m)) := by rw [Nat.testBit_or, Nat.testBit_two_pow]
      simp only [List.filter_cons, List.filter_nil, hb]
      by_cases hvm : v = m
      · subst hvm
        simp [h2]
      · have e1 : (if v < m + 1 then 1 else 0) = (if v < m then 1 else 0 : Nat) := by
          by_cases hl : v < m
          · rw [if_pos hl, if_pos (by omega)]
          · rw [if_neg hl, if_neg (by omega)]
        rw [e1]
        simp [hvm]
        omega
  have := key n
  rw [if_pos h1] at this
  exact this
theorem wid_eq (n : Nat) (e : Nat → Nat → Bool) (S : Nat) : wid n e S = if leftN n S = [] then 0 else minL ((leftN n S).map (wit n e S)) := by
  unfold wid
  cases hl : (leftN n S).length with
  | zero => rw [List.length_eq_zero_iff] at hl; rw [if_pos hl]; rfl
  | succ f =>
    unfold widF
    have hne : ¬ leftN n S = [] := fun h => by rw [h] at hl; cases hl
    rw [if_neg hne, if_neg hne]
    congr 1
    refine List.map_congr_left fun v hv => ?_
    unfold wit wid
    have := leftN_put hv
    rw [show (leftN n (S ||| 2 ^ v)).length = f by omega]
theorem foldl_min_le : ∀ (l : List Nat) (a : Nat), l.foldl min a ≤ a ∧ ∀ x ∈ l, l.foldl min a ≤ x := by
  intro l
  induction l with
  | nil => intro a; exact ⟨Nat.le_refl _, by simp⟩
  | cons y l ih =>
    intro a
    obtain ⟨h1, h2⟩ := ih (min a y)
    refine ⟨by simp only [List.foldl_cons]; omega, fun x hx => ?_⟩
    simp only [List.foldl_cons]
    rcases List.mem_cons.1 hx with rfl | hx
    · omega
    · exact h2 x hx
theorem foldl_min_mem : ∀ (l : List Nat) (a : Nat), l.foldl min a = a ∨ l.foldl min a ∈ l := by
  intro l
  induction l with
  | nil => intro a; exact .inl rfl
  | cons y l ih =>
    intro a
    simp only [List.foldl_cons]
    rcases ih (min a y) with h | h
    · by_cases hay : a ≤ y
      · left; rw [h]; omega
      · right; rw [h, show min a y = y by omega]; simp
    · exact .inr (List.mem_cons.2 (.inr h))
theorem bhN_le (n : Nat) (e : Nat → Nat → Bool) (S v : Nat) : bhN n e S v ≤ n := rowB_length _ _
theorem wid_le {n : Nat} (hn : n ≤ 10) (e : Nat → Nat → Bool) : ∀ S, wid n e S ≤ 10 := by
  have key : ∀ k S, (leftN n S).length = k → wid n e S ≤ 10 := by
    intro k
    induction k with
    | zero => intro S h; rw [wid_eq, if_pos (List.length_eq_zero_iff.1 h)]; omega
    | succ k ih =>
      intro S h
      cases hl : leftN n S with
      | nil => rw [hl] at h; cases h
      | cons v l =>
        have hv : v ∈ leftN n S := by rw [hl]; simp
        have h1 := leftN_put hv
        have h2 := ih (S ||| 2 ^ v) (by omega)
        have h3 := bhN_le n e S v
        rw [wid_eq, if_neg (by rw [hl]; simp)]
        have h4 := (foldl_min_le ((leftN n S).map (wit n e S)) 16).2 (wit n e S v) (List.mem_map.2 ⟨v, hv, rfl⟩)
        unfold minL
        unfold wit at h4 ⊢
        omega
  exact fun S => key _ S rfl
theorem wit_le {n : Nat} (hn : n ≤ 10) (e : Nat → Nat → Bool) (S v : Nat) : wit n e S v ≤ 10 := by
  have := wid_le hn e (S ||| 2 ^ v)
  have := bhN_le n e S v
  unfold wit
  omega
/-- Where v may go first: no wider than the least. -/
theorem thin_iff {n : Nat} (e : Nat → Nat → Bool) {v : Nat} (hv : v < n) : wit n e 0 v = wid n e 0 ↔ bhN n e 0 v ≤ wid n e 0 ∧ wid n e (0 ||| 2 ^ v) ≤ wid n e 0 := by
  have hm : v ∈ leftN n 0 := mem_leftN.2 ⟨hv, Nat.zero_testBit v⟩
  have h1 : wid n e 0 ≤ wit n e 0 v := by
    rw [wid_eq, if_neg (fun h => by rw [h] at hm; cases hm)]
    exact (foldl_min_le _ 16).2 _ (List.mem_map.2 ⟨v, hm, rfl⟩)
  unfold wit at h1 ⊢
  omega
/-- At the start there stand behind v its neighbours. -/
theorem bhN_zero {n : Nat} {e : Nat → Nat → Bool} (hA : Adj n e) {v : Nat} (hv : v < n) : bhN n e 0 v = (rowB n (e v)).length := by
  unfold bhN
  congr 1
  refine rowB_ext fun b hb => ?_
  rw [Bool.eq_iff_iff]
  unfold behB
  simp only [Bool.and_eq_true, Bool.not_eq_true', decide_eq_false_iff_not, List.any_eq_true, List.mem_range, Nat.zero_testBit]
  constructor
  · rintro ⟨⟨⟨a, ha, hw, hab⟩, -⟩, hne⟩
    have : a = v := by
      have h := wayB_iff.1 hw
      cases h with
      | here => rfl
      | step _ _ _ hp => rw [Nat.zero_testBit] at hp; cases hp
    rw [← this]; exact hab
  · intro h
    refine ⟨⟨⟨v, hv, wayB_iff.2 .here, h⟩, trivial⟩, ?_⟩
    rintro rfl
    rw [hA.irr b hb] at h
    cases h
end Go.Proofs.YtpfhflkpnjkgkaaDoor
