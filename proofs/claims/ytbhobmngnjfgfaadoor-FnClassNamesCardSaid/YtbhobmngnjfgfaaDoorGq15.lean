import Derived.Test.YtbhobmngnjfgfaaDoorGq06
import Derived.Test.YtbhobmngnjfgfaaDoorGq14
/-
  Weights, and the order of sets by size and numbers: 'goodWeights', 'l25Weights', 'slices.Compare', 'compareSets', 'bySize'.
-/




namespace Go.Proofs.YtbhobmngnjfgfaaDoor
open Go.RowKit

/-! ### Weights -/
def lightB (x : Int) : Bool := !decide (0 ≤ x ∧ x ≤ 1000)
def goodW (ws : List Int) (n : Nat) : Bool := decide (ws.length = n) && !ws.any lightB
theorem goodW_iff {ws : List Int} {n : Nat} (h : goodW ws n = true) : ws.length = n ∧ ∀ x ∈ ws, 0 ≤ x ∧ x ≤ 1000 := by
  unfold goodW at h
  rw [Bool.and_eq_true, decide_eq_true_eq, Bool.not_eq_true', List.any_eq_false] at h
  refine ⟨h.1, fun x hx => ?_⟩
  have := h.2 x hx
  unfold lightB at this
  simpa using this
def wsum (ws : List Int) (l : List Int) : Int := (l.map fun x => ws.getD x.toNat 0).sum
theorem wsum_nil (ws : List Int) : wsum ws [] = 0 := rfl
theorem wsum_snoc (ws l : List Int) (x : Int) : wsum ws (l ++ [x]) = wsum ws l + ws.getD x.toNat 0 := by simp [wsum]
theorem wsum_bound {ws : List Int} (hw : ∀ x ∈ ws, 0 ≤ x ∧ x ≤ 1000) (l : List Int) : 0 ≤ wsum ws l ∧ wsum ws l ≤ 1000 * l.length := by
  induction l with
  | nil => simp [wsum]
  | cons a l ih =>
    have h1 : wsum ws (a :: l) = ws.getD a.toNat 0 + wsum ws l := by simp [wsum]
    have h2 : 0 ≤ ws.getD a.toNat 0 ∧ ws.getD a.toNat 0 ≤ 1000 := by
      rw [List.getD_eq_getElem?_getD]
      cases h : ws[a.toNat]? with
      | none => simp
      | some x => exact hw x (List.mem_of_getElem? h)
    rw [h1, List.length_cons]
    omega
def wt (ws : List Int) (n s : Nat) : Int := wsum ws (rowB n s.testBit)
theorem rowB_succ (n : Nat) (p : Nat → Bool) : rowB (n + 1) p = rowB n p ++ if p n = true then [(n : Int)] else [] := by
  unfold rowB
  rw [List.range_succ, List.filter_append, List.map_append]
  by_cases h : p n = true <;> simp [h]

theorem gw1_any (x : Int) (W : World) : Calls Tryd.prog 176 #[.int .i64 x] W fun e W' => e = .returned (.bool (lightB x)) ∧ Below W.heap.size W W' := by
  have hi := inRange_is x 0 1000 _ rfl W
  obtain ⟨b, HBB⟩ : ∃ b, Hid (decide (0 ≤ x ∧ x ≤ 1000) = b) := ⟨_, Lib.hid rfl⟩
  rw [HBB.out] at hi
  have HF : Hid (lightB x = !b) := Lib.hid (by unfold lightB; rw [HBB.out])
  have HI := Lib.hid hi
  clear hi
  go_enter Tryd.func176, Tryd.ntmps176
  go_wp2_with fail
  refine HI.out.mono ?_
  rintro e1 w' ⟨rfl, rfl⟩
  go_wp2_with fail
  go_ret
  exact ⟨ret_bool HF.out.symm, Below.refl _ _⟩

set_option maxHeartbeats 1000000 in
theorem goodWeights_any (a : Option Addr) (n c : Nat) (v : Value) (ws : List Int) (w : World) (hr : RdS v ws w) (hn : n ≤ 1000000000) :
    Calls Tryd.prog 121 #[.agg #[.slice a n c], v] w fun e w' => e = .returned (.bool (goodW ws n)) ∧ Below w.heap.size w w' := by
  obtain ⟨a1, c1, rfl, -, -, -⟩ := id hr
  have hlen : ws.length ≤ maxLen := hr.len
  unfold maxLen at hlen
  obtain ⟨B, hB⟩ : ∃ B, w.heap.size = B := ⟨_, rfl⟩
  have u1 : Below B w (w.alloc (.cells #[.slice a n c] 56)) := by subst hB; exact below_alloc' _ _
  have VG0 : VC 56 B #[.slice a n c] (w.alloc (.cells #[.slice a n c] 56)) := VC.new hB
  have hz0 : (w.alloc (.cells #[.slice a n c] 56)).heap.size = B + 1 := by simp [hB]
  have hcg := VG0.cell
  have HC := Lib.hid (contF_any_gw lightB (.slice a1 ws.length c1) ws (w.alloc (.cells #[.slice a n c] 56)) (Row.below hr (hB.symm ▸ u1)) (fun x _ W _ => gw1_any x W))
  by_cases h : ws.length = n
  · subst h
    have HF : Hid (goodW ws ws.length = !ws.any lightB) := Lib.hid (by unfold goodW; simp)
    go_enter Tryd.func121, Tryd.ntmps121
    go_wp2_with fail
    generalize w.alloc (.cells #[.slice a ws.length c] 56) = W at *
    refine HC.out.mono ?_
    rintro e1 w1 ⟨rfl, hb1⟩
    have hb := u1.trans (hb1.mono (by omega))
    clear hb1
    go_wp2_with fail
    go_ret
    exact ⟨ret_bool HF.out.symm, by rw [hB]; exact hb⟩
  · have hd : ((ws.length : Int) == (n : Int)) = false := by rw [beq_eq_false_iff_ne]; omega
    have hd2 : ¬ (ws.length : Int) = (n : Int) := by omega
    have HF : Hid (goodW ws n = false) := Lib.hid (by unfold goodW; simp [h])
    go_enter Tryd.func121, Tryd.ntmps121
    go_wp2_with fail
    go_ret
    exact ⟨ret_bool HF.out.symm, by rw [hB]; exact u1⟩

/-! ### The order of sets -/
def cmpI (x y : Int) : Int := if x < y then -1 else if y < x then 1 else 0
theorem isNaN_any (x : Int) (w : World) : Calls Tryd.prog 217 #[.int .i64 x] w fun e w' => e = .returned (.bool false) ∧ w = w' := by
  go_enter Tryd.func217, Tryd.ntmps217
  go_wp2_with fail
  go_ret
  exact ⟨ret_bool (by simp), rfl⟩
theorem cmp_any (x y d : Int) (hd : cmpI x y = d) (w : World) : Calls Tryd.prog 215 #[.int .i64 x, .int .i64 y] w fun e w' => e = .returned (.int .i64 d) ∧ w = w' := by
  go_enter Tryd.func215, Tryd.ntmps215
  go_wp2_with fail
  refine (isNaN_any x w).mono ?_
  rintro e1 w' ⟨rfl, rfl⟩
  go_wp2_with fail
  refine (isNaN_any y w).mono ?_
  rintro e1 w' ⟨rfl, rfl⟩
  subst hd
  by_cases h1 : x < y
  · have HF : Hid (cmpI x y = -1) := Lib.hid (if_pos h1)
    go_wp2_with fail
    go_ret
    exact ⟨ret_int HF.out.symm, rfl⟩
  · by_cases h2 : y < x
    · have HF : Hid (cmpI x y = 1) := Lib.hid (by unfold cmpI; rw [if_neg h1, if_pos h2])
      go_wp2_with fail
      go_ret
      exact ⟨ret_int HF.out.symm, rfl⟩
    · have HF : Hid (cmpI x y = 0) := Lib.hid (by unfold cmpI; rw [if_neg h1, if_neg h2])
      go_wp2_with fail
      go_ret
      exact ⟨ret_int HF.out.symm, rfl⟩

/-- The first place where two rows differ. -/
def Diff (xs ys : List Int) : Prop := ∃ i x y, xs.take i = ys.take i ∧ xs[i]? = some x ∧ ys[i]? = some y ∧ x < y
def CmpL (xs ys : List Int) (d : Int) : Prop := (d = 0 ∧ xs = ys) ∨ (d = -1 ∧ Diff xs ys) ∨ (d = 1 ∧ Diff ys xs)

set_option maxHeartbeats 1000000 in
theorem compareL_any (v u : Value) (xs ys : List Int) (hl : ys.length = xs.length) (w : World) (hr : Row w 1 v xs.length (ints xs)) (hr2 : Row w 1 u ys.length (ints ys)) :
    Calls Tryd.prog 206 #[v, u] w fun e w' => ∃ d : Int, e = .returned (.int .i64 d) ∧ Hid (CmpL xs ys d) ∧ w = w' := by
  have hlen := hr.len
  unfold maxLen at hlen
  obtain ⟨a, c, rfl, -, -, -⟩ := id hr
  obtain ⟨a2, c2, rfl, -, -, -⟩ := id hr2
  have HL := Lib.hid hl
  rw [hl] at hr2 ⊢
  clear hl
  go_enter Tryd.func206, Tryd.ntmps206
  go_wp2_with fail
  go_loopw [11] (fun i wr => ∃ k : Nat, k ≤ xs.length ∧ i = .int .i64 k ∧ Hid (xs.take k = ys.take k) ∧ wr = w) (fun i _ => xs.length - (intOf i).toNat)
  case atStart => exact ⟨0, Nat.zero_le _, rfl, Lib.hid (by simp), rfl⟩
  case round =>
    obtain ⟨k, hk, rfl, HK, rfl⟩ := hrel
    by_cases hlt : k < xs.length
    · obtain ⟨xb, xo, x, rfl, hcx, HX⟩ := hr.intAt hlt
      have hr2' : Row wr 1 (.slice a2 ys.length c2) ys.length (ints ys) := by rw [HL.out]; exact hr2
      obtain ⟨yb, yo, y, rfl, hcy, HY⟩ := hr2'.intAt (j := k) (by rw [HL.out]; exact hlt)
      clear hr2'
      by_cases h1 : x < y
      · have HC := Lib.hid (cmp_any x y (-1) (if_pos h1) wr)
        have HF : Hid (CmpL xs ys (-1)) := Lib.hid (.inr (.inl ⟨rfl, k, x, y, HK.out, HX.out, HY.out, h1⟩))
        clear h1
        go_wp2_with fail
        refine HC.out.mono ?_
        rintro e1 w' ⟨rfl, rfl⟩
        go_wp2_with fail
        go_ret
        exact ⟨_, rfl, HF, by first | rfl | trivial⟩
      · by_cases h2 : y < x
        · have HC := Lib.hid (cmp_any x y 1 (by unfold cmpI; rw [if_neg h1, if_pos h2]) wr)
          have HF : Hid (CmpL xs ys 1) := Lib.hid (.inr (.inr ⟨rfl, k, y, x, HK.out.symm, HY.out, HX.out, h2⟩))
          clear h1 h2
          go_wp2_with fail
          refine HC.out.mono ?_
          rintro e1 w' ⟨rfl, rfl⟩
          go_wp2_with fail
          go_ret
          exact ⟨_, rfl, HF, by first | rfl | trivial⟩
        · have HC := Lib.hid (cmp_any x y 0 (by unfold cmpI; rw [if_neg h1, if_neg h2]) wr)
          obtain rfl : x = y := by omega
          have HS : Hid (xs.take (k + 1) = ys.take (k + 1)) := Lib.hid (by rw [take_snoc HX.out, take_snoc HY.out, HK.out])
          clear h1 h2
          go_wp2_with fail
          refine HC.out.mono ?_
          rintro e1 w' ⟨rfl, rfl⟩
          go_wp2_with fail
          go_roundw
          case rel => exact ⟨k + 1, by omega, by go_num, HS, by first | rfl | trivial⟩
          case measure => simp [intOf]; omega
    · obtain rfl : k = xs.length := by omega
      have HF : Hid (CmpL xs ys 0) := Lib.hid (.inl ⟨rfl, by have h := HK.out; rw [List.take_length, List.take_of_length_le (by rw [HL.out]; exact Nat.le_refl _)] at h; exact h⟩)
      go_wp2_with fail
      go_ret
      exact ⟨_, rfl, HF, by first | rfl | trivial⟩

theorem diff_lex {n s t : Nat} (h : Diff (rowB n s.testBit) (rowB n t.testBit)) : Lex s t := by
  obtain ⟨i, x, y, h1, hx, hy, hlt⟩ := h
  obtain ⟨x', hxn, hsx, rfl⟩ := row_at hx
  obtain ⟨y', hyn, hty, rfl⟩ := row_at hy
  have hxy : x' < y' := by omega
  have hrs := rowB_rising n s.testBit
  have hrt := rowB_rising n t.testBit
  refine ⟨x', hsx, ?_, fun j hj => ?_⟩
  · cases hb : t.testBit x' with
    | false => rfl
    | true =>
      exfalso
      obtain ⟨k, hk⟩ := List.mem_iff_getElem?.1 (nat_mem_rowB.2 ⟨hxn, hb⟩)
      have hki : k < i := by
        apply Classical.byContradiction
        intro hn
        by_cases he : k = i
        · subst he; rw [hy] at hk; have := Option.some.inj hk; omega
        · have := rising_at hrt hy hk (by omega); omega
      have hm : ((x' : Nat) : Int) ∈ (rowB n s.testBit).take i := by rw [h1]; exact mem_take_iff.2 ⟨k, hki, hk⟩
      obtain ⟨k2, h3, h4⟩ := mem_take_iff.1 hm
      have := rising_at hrs h4 hx h3
      omega
  · have key : ∀ (p q : Nat → Bool), (rowB n p).take i = (rowB n q).take i → (∀ z, (rowB n p)[i]? = some z → (j : Int) < z) → (rowB n p)[i]? ≠ none → p j = true → q j = true := by
      intro p q h1 h2 h3 hp
      obtain ⟨z, hz⟩ := Option.ne_none_iff_exists'.1 h3
      have hjz := h2 z hz
      obtain ⟨z', hzn, _, rfl⟩ := row_at hz
      obtain ⟨k, hk⟩ := List.mem_iff_getElem?.1 (nat_mem_rowB.2 ⟨(by omega : j < n), hp⟩)
      have hki : k < i := by
        apply Classical.byContradiction
        intro hn
        by_cases he : k = i
        · subst he; rw [hz] at hk; have := Option.some.inj hk; omega
        · have := rising_at (rowB_rising n p) hz hk (by omega); omega
      have hm : ((j : Nat) : Int) ∈ (rowB n q).take i := by rw [← h1]; exact mem_take_iff.2 ⟨k, hki, hk⟩
      exact (nat_mem_rowB.1 (List.mem_of_mem_take hm)).2
    have a1 := key s.testBit t.testBit h1 (fun z hz => by rw [hx] at hz; have := Option.some.inj hz; omega) (by rw [hx]; simp)
    have a2 := key t.testBit s.testBit h1.symm (fun z hz => by rw [hy] at hz; have := Option.some.inj hz; omega) (by rw [hy]; simp)
    cases hs : s.testBit j with
    | true => exact (a1 hs).symm
    | false =>
      cases ht : t.testBit j with
      | false => rfl
      | true => rw [a2 ht] at hs; cases hs
theorem size_row {n s : Nat} (hn : n ≤ 32) (hs : s < 2 ^ n) : (rowB n s.testBit).length = size s := by
  rw [size_cnt hn (bits_above hs)]
  unfold rowB cnt
  rw [List.length_map, List.range_eq_range']
theorem cmp_lex {n s t : Nat} (hn : n ≤ 16) (hs : s < 2 ^ n) (ht : t < 2 ^ n) {d : Int} (h : CmpL (rowB n s.testBit) (rowB n t.testBit) d) : d < 0 ↔ lexB s t = true := by
  have hp := Nat.pow_le_pow_right (n := 2) (j := 16) (by decide) hn
  rw [lexB_iff (by omega) (by omega)]
  rcases h with ⟨rfl, h⟩ | ⟨rfl, h⟩ | ⟨rfl, h⟩
  · have he : s = t := by
      apply Nat.eq_of_testBit_eq
      intro i
      by_cases hi : i < n
      · have h1 := nat_mem_rowB (n := n) (p := s.testBit) (i := i)
        have h2 := nat_mem_rowB (n := n) (p := t.testBit) (i := i)
        rw [h, h2] at h1
        rw [Bool.eq_iff_iff]
        exact ⟨fun h3 => (h1.2 ⟨hi, h3⟩).2, fun h3 => (h1.1 ⟨hi, h3⟩).2⟩
      · rw [bits_above hs i (by omega), bits_above ht i (by omega)]
    subst he
    exact ⟨fun h => by omega, fun h => (h.irrefl).elim⟩
  · exact ⟨fun _ => diff_lex h, fun _ => by omega⟩
  · exact ⟨fun h => by omega, fun h2 => (h2.asymm (diff_lex h)).elim⟩

set_option maxHeartbeats 1000000 in
theorem compareSets_any (n s t : Nat) (hn : n ≤ 16) (hs : s < 2 ^ n) (ht : t < 2 ^ n) (hst : size t = size s) (S T : Int) (hS : S = s) (hT : T = t) (w : World) (htab : Tab w) :
    Calls Tryd.prog 180 #[.int .u32 S, .int .u32 T] w fun e w' => ∃ d : Int, e = .returned (.int .i64 d) ∧ Hid (d < 0 ↔ lexB s t = true) ∧ Below w.heap.size w w' := by
  have H1 := Lib.hid (listB_any (n := n) (by omega) s.testBit S (by rw [mask_self hs]; exact hS) w htab)
  have H2 := fun W hW => Lib.hid (listB_any (n := n) (by omega) t.testBit T (by rw [mask_self ht]; exact hT) W hW)
  have HLE := Lib.hid (show (rowB n t.testBit).length = (rowB n s.testBit).length by rw [size_row (by omega) hs, size_row (by omega) ht, hst])
  have HCL := fun d h => Lib.hid (cmp_lex (d := d) hn hs ht h)
  have HTB := Lib.hid htab
  clear hS hT hs ht hst htab
  go_enter Tryd.func180, Tryd.ntmps180
  go_wp2_with fail
  refine H1.out.mono ?_
  rintro e1 w1 ⟨u1, rfl, ho1, hb1⟩
  obtain ⟨a1, c1, rfl⟩ := owns_shape ho1
  have HT1 := Lib.hid (HTB.out.keep hb1 HTB.out.lt)
  have HR1 := Lib.hid (Row.of_owns ho1)
  have HB1 := Lib.hid hb1
  clear H1 ho1 hb1
  go_wp2_with fail
  refine (H2 _ HT1.out).out.mono ?_
  rintro e1 w2 ⟨u2, rfl, ho2, hb2⟩
  obtain ⟨a2, c2, rfl⟩ := owns_shape ho2
  have HR2 := Lib.hid (Row.of_owns ho2)
  have HC := Lib.hid (compareL_any _ _ _ _ HLE.out w2 (HR1.out.below hb2) HR2.out)
  have HB2 := Lib.hid (HB1.out.trans (hb2.mono HB1.out.size))
  clear H2 ho2 hb2
  go_wp2_with fail
  refine HC.out.mono ?_
  rintro e1 w3 ⟨d, rfl, HD, rfl⟩
  go_wp2_with fail
  go_ret
  exact ⟨_, rfl, Lib.hid ((HCL d HD.out).out), HB2.out⟩

set_option maxHeartbeats 1000000 in
theorem bySize_any (n s t : Nat) (hn : n ≤ 16) (hs : s < 2 ^ n) (ht : t < 2 ^ n) (S T : Int) (hS : S = s) (hT : T = t) (w : World) (htab : Tab w) :
    Calls Tryd.prog 124 #[.int .u32 S, .int .u32 T] w fun e w' => ∃ d : Int, e = .returned (.int .i64 d) ∧ Hid (d < 0 ↔ (size s < size t ∨ (size s = size t ∧ lexB s t = true))) ∧ Below w.heap.size w w' := by
  have hp := Nat.pow_le_pow_right (n := 2) (j := 16) (by decide) hn
  have HS : ∀ W, Hid (Calls Tryd.prog 154 #[.int .u32 S] W fun e w' => e = .returned (.int .i64 (size s : Nat)) ∧ Below W.heap.size W w') := fun W => Lib.hid (by rw [hS]; exact size_exact s (by omega) W)
  have HT : ∀ W, Hid (Calls Tryd.prog 154 #[.int .u32 T] W fun e w' => e = .returned (.int .i64 (size t : Nat)) ∧ Below W.heap.size W w') := fun W => Lib.hid (by rw [hT]; exact size_exact t (by omega) W)
  have HCS := fun hst W hW => Lib.hid (compareSets_any n s t hn hs ht hst S T hS hT W hW)
  have hs32 := size_le s
  have ht32 := size_le t
  have HTB := Lib.hid htab
  obtain ⟨sk, HSK⟩ : ∃ k, Hid (size s = k) := ⟨_, Lib.hid rfl⟩
  obtain ⟨tk, HTK⟩ : ∃ k, Hid (size t = k) := ⟨_, Lib.hid rfl⟩
  rw [HSK.out] at HS hs32 HCS ⊢
  rw [HTK.out] at HT ht32 HCS ⊢
  clear hS hT hs ht hp htab
  go_enter Tryd.func124, Tryd.ntmps124
  go_wp2_with fail
  refine (HS _).out.mono ?_
  rintro e1 w1 ⟨rfl, hb1⟩
  have HB1 := Lib.hid hb1
  clear hb1
  go_wp2_with fail
  refine (HT _).out.mono ?_
  rintro e1 w2 ⟨rfl, hb2⟩
  have HB2 := Lib.hid (HB1.out.trans (hb2.mono HB1.out.size))
  clear hb2 HB1
  by_cases h : sk = tk
  · subst h
    have HC := HCS rfl w2 (HTB.out.keep HB2.out HTB.out.lt)
    have hd : ((sk : Int) != (sk : Int)) = false := by simp
    go_wp2_with fail
    refine HC.out.mono ?_
    rintro e1 w3 ⟨d, rfl, HD, hb3⟩
    have HB3 := Lib.hid (HB2.out.trans (hb3.mono HB2.out.size))
    clear hb3
    go_wp2_with fail
    go_ret
    exact ⟨_, rfl, by first | exact HD | exact Lib.hid (HD.out.trans ⟨fun h => Or.inr ⟨rfl, h⟩, fun h => by rcases h with h | h; (· omega); exact h.2⟩), HB3.out⟩
  · have hd : ((sk : Int) != (tk : Int)) = true := by rw [bne_iff_ne]; omega
    have HH := Lib.hid h
    clear h
    go_wp2_with fail
    refine (HS _).out.mono ?_
    rintro e1 w3 ⟨rfl, hb3⟩
    have HB3 := Lib.hid (HB2.out.trans (hb3.mono HB2.out.size))
    clear hb3
    go_wp2_with fail
    refine (HT _).out.mono ?_
    rintro e1 w4 ⟨rfl, hb4⟩
    have HB4 := Lib.hid (HB3.out.trans (hb4.mono HB3.out.size))
    clear hb4
    go_wp2_with fail
    go_ret
    exact ⟨_, rfl, Lib.hid (by have := HH.out; constructor; (· intro h; left; omega); (· intro h; rcases h with h | h <;> omega)), HB4.out⟩
end Go.Proofs.YtbhobmngnjfgfaaDoor
