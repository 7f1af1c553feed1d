import Derived.Test.YtpfhflkpnjkgkaaDoorGq02
/-
  The reference's base: 'l1In', 'l1Copy', 'l1Into', 'l1Empty', 'l1Link'.
-/

namespace Go.Proofs.YtpfhflkpnjkgkaaDoor
open Go.RowKit

theorem l1In_any (n lo hi : Int) (w : World) :
    Calls Tryd.prog 22 #[.int .i64 n, .int .i64 lo, .int .i64 hi] w fun e w' => e = .returned (.bool (decide (lo ≤ n ∧ n ≤ hi))) ∧ w = w' := by
  go_enter Tryd.func22, Tryd.ntmps22
  go_wp2
  all_goals go_ret
  all_goals exact ⟨ret_bool (by rw [Bool.eq_iff_iff]; simp; try omega), rfl⟩

theorem ints_one (xs : List Int) : ∀ u ∈ ints xs, u.oneCell' = true := ints_oneCell _ _

set_option maxHeartbeats 400000 in
theorem copy_any (v : Value) (xs : List Int) (w : World) (hr : Row w 1 v xs.length (ints xs)) (hn : xs.length ≤ 1000000000) :
    Calls Tryd.prog 60 #[v] w fun e w' => ∃ v', e = .returned v' ∧ w'.ownsRow w.heap.size 2 1 v' xs.length (ints xs) ∧ Below w.heap.size w w' := by
  obtain ⟨a, cap, rfl, -, -, -⟩ := id hr
  have h0 := World.ownsRow_lit (base := w.heap.size) (e := 2) (size := 1) w #[] 0 (Nat.le_refl _) (by simp [maxLen]) rfl
  go_enter Tryd.func60, Tryd.ntmps60
  go_wp2_with (at_builtin; refine wpList_extend _ rfl _ _ 24 rfl w.heap.size 2 _ 8 Tryd.underlying24 infoI rfl (.slice (some ⟨w.heap.size, 0, none⟩) 0 0) 0 [] rfl h0 (.slice a xs.length cap) xs.length (ints xs) rfl (hr.alloc _) (ints_one _) (by unfold maxLen; omega) (by omega) (by simp) ?_; intro a' c' w1 ho hg)
  go_ret
  refine ⟨_, rfl, by simpa using ho, ((Below.refl _ _).alloc (Nat.le_refl _) _).grown hg (by simp) (by simp [Value.ownBlock])⟩

/-- With one more, rising: what 'l1Into' returns. -/
def into : List Int → Int → List Int
  | [], n => [n]
  | x :: r, n => if x < n then x :: into r n else if x = n then x :: r else n :: x :: r
theorem into_take {xs : List Int} {n : Int} {k : Nat} (hk : k ≤ xs.length) (h : ∀ j x, j < k → xs[j]? = some x → x < n) : into xs n = xs.take k ++ into (xs.drop k) n := by
  induction k generalizing xs with
  | zero => simp
  | succ k ih =>
    cases xs with
    | nil => simp at hk
    | cons x r =>
      have h0 := h 0 x (by omega) (by simp)
      rw [into, if_pos h0, ih (xs := r) (by simpa using hk) (fun j y hj hy => h (j + 1) y (by omega) (by simpa using hy))]
      simp
theorem into_length (xs : List Int) (n : Int) : (into xs n).length ≤ xs.length + 1 := by
  induction xs with
  | nil => simp [into]
  | cons x r ih =>
    unfold into
    split
    · simp; omega
    · split <;> simp

set_option maxHeartbeats 1000000 in
theorem into_any (v : Value) (xs : List Int) (n : Int) (w : World) (hr : Row w 1 v xs.length (ints xs)) (hn : xs.length ≤ 1000000) :
    Calls Tryd.prog 45 #[v, .int .i64 n] w fun e w' => ∃ v', e = .returned v' ∧
      ((v' = v ∧ into xs n = xs) ∨ w'.ownsRow w.heap.size 2 1 v' (into xs n).length (ints (into xs n))) ∧ Below w.heap.size w w' := by
  obtain ⟨a, cap, rfl, hcap, hmax, -⟩ := id hr
  unfold maxLen at hmax
  go_enter Tryd.func45, Tryd.ntmps45
  go_wp2_with fail
  go_loop [5] (fun i => ∃ k : Nat, k ≤ xs.length ∧ i = .int .i64 k ∧ ∀ j x, j < k → xs[j]? = some x → x < n) (fun i => xs.length - (intOf i).toNat)
  case atStart => exact ⟨0, Nat.zero_le _, rfl, fun j x hj => (by omega)⟩
  case round =>
    obtain ⟨k, hk, rfl, hlow⟩ := hrel
    have HL := Lib.hid hlow
    clear hlow
    by_cases hlt : k < xs.length
    · obtain ⟨b, o, x, rfl, hc, HX⟩ := hr.intAt hlt
      have hd : xs.drop k = x :: xs.drop (k + 1) := by
        have h1 := HX.out
        obtain ⟨h2, rfl⟩ := List.getElem?_eq_some_iff.1 h1
        exact List.drop_eq_getElem_cons h2
      have HD := Lib.hid hd
      clear hd
      by_cases hxn : x < n
      · go_wp2_with fail
        go_round
        case rel =>
          refine ⟨k + 1, by omega, by go_num, fun j y hj hy => ?_⟩
          by_cases e : j = k
          · subst e; have := HX.out; rw [hy] at this; have := Option.some.inj this; omega
          · exact HL.out j y (by omega) hy
        case measure => simp [intOf]; omega
      · have hI := into_take (n := n) hk HL.out
        by_cases hxe : x = n
        · have he : (x == n) = true := by simp [hxe]
          have hI2 : into xs n = xs := by rw [hI, HD.out, into, if_neg hxn, if_pos hxe, ← HD.out, List.take_append_drop]
          have HI := Lib.hid hI2
          clear hI hI2 hxe
          go_wp2_with fail
          go_ret
          exact ⟨_, rfl, .inl ⟨rfl, HI.out⟩, Below.refl _ _⟩
        · have he : (x == n) = false := by simpa using hxe
          have hI2 : into xs n = xs.take k ++ [n] ++ xs.drop k := by rw [hI, HD.out, into, if_neg hxn, if_neg hxe]; simp
          have HI := Lib.hid hI2
          clear hI hI2 hxe
          have hrt : Row w 1 (.slice (some ⟨b, o, none⟩) k cap) (xs.take k).length (ints (xs.take k)) := by
            have := hr.take hk
            rw [show (ints xs).take k = ints (xs.take k) by simp [ints]] at this
            rw [show (xs.take k).length = k by simp; omega]
            exact this
          by_cases hck : cap = k
          · omega
          · have hrd := hr.drop hk hck
            rw [show (ints xs).drop k = ints (xs.drop k) by simp [ints], Option.map_some, Addr.add_lit] at hrd
            go_wp2_with fail
            refine (copy_any _ (xs.take k) w hrt (by simp; omega)).mono ?_
            rintro e w1 ⟨v1, rfl, ho1, hb1⟩
            have hlk : (xs.take k).length = k := by simp; omega
            rw [hlk] at ho1
            clear hlk
            have hsz := hb1.size
            go_wp2_with (first
              | (at_builtin; refine wpList_push _ rfl _ _ 24 rfl w.heap.size 2 _ _ 8 Tryd.underlying24 infoI rfl _ _ _ rfl ho1 _ rfl rfl (by unfold maxLen; omega) (by omega) hsz ?_; intro g' c' w2 ho2 hg2; have hb2 := hb1.grown hg2 hsz (fun q hq => (owns_lt ho1 hq).1); have hrd2 := hrd.below hb2; have hsz2 := hb2.size)
              | (at_builtin; refine wpList_extend _ rfl _ _ 24 rfl w.heap.size 2 _ 8 Tryd.underlying24 infoI rfl (.slice (some ⟨g', 0, none⟩) (k + 1) c') (k + 1) _ rfl ho2 (.slice (some ⟨b, o + k, none⟩) (xs.length - k) (cap - k)) (xs.length - k) _ rfl hrd2 (ints_one _) (by unfold maxLen; omega) (by omega) hsz2 ?_; intro a3 c3 w3 ho3 hg3))
            go_ret
            refine ⟨_, rfl, .inr ?_, hb2.grown hg3 hsz2 (fun q hq => (owns_lt ho2 (by simpa [Value.ownBlock] using hq)).1)⟩
            rw [HI.out]
            have e1 : (xs.take k ++ [n] ++ xs.drop k).length = k + 1 + (xs.length - k) := by simp; omega
            rw [e1]
            simpa [ints] using ho3
    · have hke : k = xs.length := by omega
      subst hke
      have hI : into xs n = xs ++ [n] := by
        have := into_take (n := n) (Nat.le_refl xs.length) HL.out
        simpa [into] using this
      have HI := Lib.hid hI
      clear hI
      have hl0 : (ints xs).length = xs.length := ints_length xs
      by_cases hck : cap = xs.length
      · subst hck
        have hrd := hr.drop_all (Nat.le_refl _) rfl
        rw [Nat.sub_self, List.drop_of_length_le (by omega)] at hrd
        clear hl0
        go_wp2_with fail
        refine (copy_any _ xs w hr (by omega)).mono ?_
        rintro e w1 ⟨v1, rfl, ho1, hb1⟩
        have hsz := hb1.size
        go_wp2_with (first
          | (at_builtin; refine wpList_push _ rfl _ _ 24 rfl w.heap.size 2 _ _ 8 Tryd.underlying24 infoI rfl _ _ _ rfl ho1 _ rfl rfl (by unfold maxLen; omega) (by omega) hsz ?_; intro g' c' w2 ho2 hg2; have hb2 := hb1.grown hg2 hsz (fun q hq => (owns_lt ho1 hq).1); have hrd2 := hrd.below hb2; have hsz2 := hb2.size)
          | (at_builtin; refine wpList_extend _ rfl _ _ 24 rfl w.heap.size 2 _ 8 Tryd.underlying24 infoI rfl (.slice (some ⟨g', 0, none⟩) (xs.length + 1) c') (xs.length + 1) _ rfl ho2 (.slice a 0 0) (0) _ rfl hrd2 (by simp) (by unfold maxLen; omega) (by omega) hsz2 ?_; intro a3 c3 w3 ho3 hg3))
        go_ret
        refine ⟨_, rfl, .inr ?_, hb2.grown hg3 hsz2 (fun q hq => (owns_lt ho2 (by simpa [Value.ownBlock] using hq)).1)⟩
        rw [HI.out]
        simpa [ints] using ho3
      · have hrd := hr.drop (Nat.le_refl _) hck
        rw [Nat.sub_self, List.drop_of_length_le (by omega)] at hrd
        clear hl0
        go_wp2_with fail
        refine (copy_any _ xs w hr (by omega)).mono ?_
        rintro e w1 ⟨v1, rfl, ho1, hb1⟩
        have hsz := hb1.size
        go_wp2_with (first
          | (at_builtin; refine wpList_push _ rfl _ _ 24 rfl w.heap.size 2 _ _ 8 Tryd.underlying24 infoI rfl _ _ _ rfl ho1 _ rfl rfl (by unfold maxLen; omega) (by omega) hsz ?_; intro g' c' w2 ho2 hg2; have hb2 := hb1.grown hg2 hsz (fun q hq => (owns_lt ho1 hq).1); have hrd2 := hrd.below hb2; have hsz2 := hb2.size)
          | (at_builtin; refine wpList_extend _ rfl _ _ 24 rfl w.heap.size 2 _ 8 Tryd.underlying24 infoI rfl (.slice (some ⟨g', 0, none⟩) (xs.length + 1) c') (xs.length + 1) _ rfl ho2 (.slice (Option.map (fun x => x.add xs.length) a) 0 (cap - xs.length)) (0) _ rfl hrd2 (by simp) (by unfold maxLen; omega) (by omega) hsz2 ?_; intro a3 c3 w3 ho3 hg3))
        go_ret
        refine ⟨_, rfl, .inr ?_, hb2.grown hg3 hsz2 (fun q hq => (owns_lt ho2 (by simpa [Value.ownBlock] using hq)).1)⟩
        rw [HI.out]
        simpa [ints] using ho3
/-- Both are neighbours: what 'l1Link' does to the rows. -/
def link (xss : List (List Int)) (u v : Nat) : List (List Int) :=
  let yss := xss.set u (into (xss.getD u []) v)
  yss.set v (into (yss.getD v []) u)
@[simp] theorem link_length (xss : List (List Int)) (u v : Nat) : (link xss u v).length = xss.length := by simp [link]

/-- A value that is one slice in a struct: what a call that makes a graph leaves. -/
def GRes (w : World) (rows : List (List Int)) (ok : Bool) (e : Ending) (w' : World) : Prop :=
  ∃ u vs, e = .returned (.tuple #[.agg #[u], .bool ok]) ∧ OwnG w' w.heap.size 24 2 u vs (rows.map ints) ∧ Below w.heap.size w w'

end Go.Proofs.YtpfhflkpnjkgkaaDoor
/-
  The plain law of 'l1Link' and 'join': rows kept as lists and as sets stay alike.
-/

namespace Go.Proofs.YtpfhflkpnjkgkaaDoor
open Go.RowKit

theorem into_above (xs : List Nat) (v : Nat) (h : ∀ x ∈ xs, v < x) : into (xs.map fun (i : Nat) => (i : Int)) v = ((v :: xs).map fun (i : Nat) => (i : Int)) := by
  cases xs with
  | nil => simp [into]
  | cons x r =>
    have := h x (by simp)
    simp only [List.map_cons, into]
    rw [if_neg (by omega), if_neg (by omega)]

theorem into_filter (p : Nat → Bool) (v : Nat) : ∀ (n a : Nat), a ≤ v → v < a + n →
    into (((List.range' a n).filter p).map fun (i : Nat) => (i : Int)) v = ((List.range' a n).filter fun i => p i || decide (i = v)).map fun (i : Nat) => (i : Int)
  | 0, a, h1, h2 => by omega
  | n + 1, a, h1, h2 => by
    rw [List.range'_succ]
    by_cases hv : a = v
    · subst hv
      have hrest : (List.range' (a + 1) n).filter (fun i => p i || decide (i = a)) = (List.range' (a + 1) n).filter p := by
        apply List.filter_congr
        intro i hi
        have := (List.mem_range'_1.1 hi).1
        have : ¬ i = a := by omega
        simp [this]
      by_cases hp : p a = true
      · rw [List.filter_cons_of_pos hp, List.filter_cons_of_pos (by simp), hrest]
        simp [into]
      · rw [List.filter_cons_of_neg hp, List.filter_cons_of_pos (by simp), hrest]
        refine into_above _ _ fun x hx => ?_
        have := (List.mem_range'_1.1 (List.mem_filter.1 hx).1).1
        omega
    · have ih := into_filter p v n (a + 1) (by omega) (by omega)
      have hd : (p a || decide (a = v)) = p a := by simp [hv]
      by_cases hp : p a = true
      · rw [List.filter_cons_of_pos hp, List.filter_cons_of_pos (by rw [hd]; exact hp), List.map_cons, List.map_cons, into, if_pos (by omega), ih]
      · rw [List.filter_cons_of_neg hp, List.filter_cons_of_neg (by rw [hd]; exact hp), ih]

theorem into_nums (m v : Nat) (hv : v < 32) : into (nums m) v = nums (m ||| 2 ^ v) := by
  unfold nums bitsOf
  rw [List.range_eq_range', into_filter m.testBit v 32 0 (by omega) (by omega)]
  congr 2
  funext i
  rw [Nat.testBit_or, Nat.testBit_two_pow]
  congr 1
  exact decide_eq_decide.2 eq_comm

theorem getD_rowsOf (ms : List Nat) (u : Nat) (hu : u < ms.length) : (rowsOf ms).getD u [] = nums (ms.getD u 0) := by
  simp [rowsOf, List.getD, hu]
theorem rowsOf_set (ms : List Nat) (u x : Nat) : (rowsOf ms).set u (nums x) = rowsOf (ms.set u x) := by simp [rowsOf, List.map_set]
@[simp] theorem rowsOf_length (ms : List Nat) : (rowsOf ms).length = ms.length := by simp [rowsOf]

theorem link_rowsOf (ms : List Nat) (u v : Nat) (hu : u < ms.length) (hv : v < ms.length) (hu2 : u < 32) (hv2 : v < 32) : link (rowsOf ms) u v = rowsOf (joinS ms u v) := by
  unfold link joinS
  simp only
  rw [getD_rowsOf _ _ hu, into_nums _ _ hv2, rowsOf_set, getD_rowsOf _ _ (by simpa using hv), into_nums _ _ hu2, rowsOf_set]

theorem rowsOf_short (ms : List Nat) : ∀ xs ∈ rowsOf ms, xs.length < 1000 := by
  intro xs hx
  obtain ⟨m, _, rfl⟩ := List.mem_map.1 hx
  have := nums_length m
  omega

theorem rowsOf_zeros (n : Nat) : rowsOf (List.replicate n 0) = List.replicate n [] := by
  simp [rowsOf, nums, bitsOf_zero]

/-- Rows that are sets hold few numbers. -/
theorem total_rowsOf (ms : List Nat) : ((rowsOf ms).map List.length).sum ≤ 32 * ms.length := by
  induction ms with
  | nil => simp [rowsOf]
  | cons m ms ih =>
    have := nums_length m
    simp only [rowsOf, List.map_cons, List.sum_cons, List.length_cons] at ih ⊢
    omega

/-- The nets of a star. -/
def starM (n k : Nat) : List Nat := (List.range k).foldl (fun ms v => joinS ms 0 (v + 1)) (List.replicate (n + 1) 0)
theorem starM_succ (n k : Nat) : starM n (k + 1) = joinS (starM n k) 0 (k + 1) := by simp [starM, List.range_succ]
@[simp] theorem starM_length (n k : Nat) : (starM n k).length = n + 1 := by
  induction k with
  | zero => simp [starM]
  | succ k ih => rw [starM_succ, joinS_length, ih]
theorem starM_small (n k : Nat) (hk : k < 32) : Small (starM n k) := by
  induction k with
  | zero => exact small_zeros _
  | succ k ih => rw [starM_succ]; exact (ih (by omega)).join (by omega) hk
end Go.Proofs.YtpfhflkpnjkgkaaDoor
/-
  Valid graphs, plainly: rows that are given by a yes-no function of two vertices.
-/

namespace Go.Proofs.YtpfhflkpnjkgkaaDoor
open Go.RowKit

/-- The numbers below n that p lets by. -/
def rowB (n : Nat) (p : Nat → Bool) : List Int := ((List.range n).filter p).map fun (i : Nat) => (i : Int)
def rowsB (n : Nat) (f : Nat → Nat → Bool) : List (List Int) := (List.range n).map fun u => rowB n (f u)
/-- The same as a set. -/
def maskB (n : Nat) (p : Nat → Bool) : Nat := ((List.range n).filter p).foldl (fun m i => m ||| 2 ^ i) 0
def NB (n : Nat) (f : Nat → Nat → Bool) : List Nat := (List.range n).map fun u => maskB n (f u)

theorem testBit_fold (l : List Nat) (m i : Nat) : (l.foldl (fun m i => m ||| 2 ^ i) m).testBit i = (m.testBit i || decide (i ∈ l)) := by
  induction l generalizing m with
  | nil => simp
  | cons a l ih =>
    rw [List.foldl_cons, ih, Nat.testBit_or, Nat.testBit_two_pow, Bool.or_assoc]
    congr 1
    rw [Bool.eq_iff_iff, Bool.or_eq_true, decide_eq_true_eq, decide_eq_true_eq, decide_eq_true_eq, List.mem_cons]
    constructor
    · rintro (h | h)
      · exact .inl h.symm
      · exact .inr h
    · rintro (h | h)
      · exact .inl h.symm
      · exact .inr h

theorem testBit_maskB (n : Nat) (p : Nat → Bool) (i : Nat) : (maskB n p).testBit i = (decide (i < n) && p i) := by
  unfold maskB
  rw [testBit_fold, Bool.eq_iff_iff]
  simp

theorem lt_of_bits {m n : Nat} (h : ∀ i, n ≤ i → m.testBit i = false) : m < 2 ^ n := Nat.lt_pow_two_of_testBit m fun i hi => h i hi
theorem lt32_of_bits {m n : Nat} (hn : n ≤ 32) (h : ∀ i, n ≤ i → m.testBit i = false) : m < 4294967296 := by
  have := lt_of_bits (n := 32) (m := m) fun i hi => h i (by omega)
  rwa [two32] at this
theorem maskB_small {n : Nat} (hn : n ≤ 32) (p : Nat → Bool) : maskB n p < 4294967296 :=
  lt32_of_bits hn fun i hi => by rw [testBit_maskB]; simp; omega

theorem filter_range_lt (n d : Nat) (p : Nat → Bool) : (List.range (n + d)).filter (fun i => decide (i < n) && p i) = (List.range n).filter p := by
  rw [List.range_add, List.filter_append]
  have h2 : (List.map (fun x => n + x) (List.range d)).filter (fun i => decide (i < n) && p i) = [] := by
    rw [List.filter_eq_nil_iff]
    intro a ha
    obtain ⟨b, _, rfl⟩ := List.mem_map.1 ha
    have : ¬ n + b < n := by omega
    simp [this]
  rw [h2, List.append_nil]
  apply List.filter_congr
  intro i hi
  simp [List.mem_range.1 hi]

theorem bitsOf_maskB {n : Nat} (hn : n ≤ 32) (p : Nat → Bool) : bitsOf (maskB n p) = (List.range n).filter p := by
  unfold bitsOf
  obtain ⟨d, hd⟩ : ∃ d, 32 = n + d := ⟨32 - n, by omega⟩
  rw [hd, ← filter_range_lt n d p]
  apply List.filter_congr
  intro i _
  exact testBit_maskB n p i
theorem nums_maskB {n : Nat} (hn : n ≤ 32) (p : Nat → Bool) : nums (maskB n p) = rowB n p := by
  unfold nums rowB
  rw [bitsOf_maskB hn]
theorem rowsOf_NB {n : Nat} (hn : n ≤ 32) (f : Nat → Nat → Bool) : rowsOf (NB n f) = rowsB n f := by
  unfold rowsOf NB rowsB
  rw [List.map_map]
  apply List.map_congr_left
  intro u _
  exact nums_maskB hn _

@[simp] theorem NB_length (n : Nat) (f : Nat → Nat → Bool) : (NB n f).length = n := by simp [NB]
@[simp] theorem rowsB_length (n : Nat) (f : Nat → Nat → Bool) : (rowsB n f).length = n := by simp [rowsB]
theorem NB_getD {n u : Nat} (f : Nat → Nat → Bool) (hu : u < n) : (NB n f).getD u 0 = maskB n (f u) := by simp [NB, List.getD, hu]
theorem rowsB_getD {n u : Nat} (f : Nat → Nat → Bool) (hu : u < n) : (rowsB n f).getD u [] = rowB n (f u) := by simp [rowsB, List.getD, hu]
theorem rowsB_at {n u : Nat} (f : Nat → Nat → Bool) (hu : u < n) : (rowsB n f)[u]? = some (rowB n (f u)) := by simp [rowsB, hu]
theorem NB_at {n u : Nat} (f : Nat → Nat → Bool) (hu : u < n) : (NB n f)[u]? = some (maskB n (f u)) := by simp [NB, hu]
theorem NB_small {n : Nat} (hn : n ≤ 32) (f : Nat → Nat → Bool) : Small (NB n f) := by
  intro m hm
  obtain ⟨u, _, rfl⟩ := List.mem_map.1 hm
  exact maskB_small hn _

theorem rowB_ext {n : Nat} {p q : Nat → Bool} (h : ∀ i, i < n → p i = q i) : rowB n p = rowB n q := by
  unfold rowB
  rw [List.filter_congr fun i hi => h i (List.mem_range.1 hi)]
theorem maskB_ext {n : Nat} {p q : Nat → Bool} (h : ∀ i, i < n → p i = q i) : maskB n p = maskB n q := by
  unfold maskB
  rw [List.filter_congr fun i hi => h i (List.mem_range.1 hi)]
theorem rowsB_ext {n : Nat} {f g : Nat → Nat → Bool} (h : ∀ u v, u < n → v < n → f u v = g u v) : rowsB n f = rowsB n g := by
  unfold rowsB
  apply List.map_congr_left
  intro u hu
  exact rowB_ext fun v hv => h u v (List.mem_range.1 hu) hv
theorem NB_ext {n : Nat} {f g : Nat → Nat → Bool} (h : ∀ u v, u < n → v < n → f u v = g u v) : NB n f = NB n g := by
  unfold NB
  apply List.map_congr_left
  intro u hu
  exact maskB_ext fun v hv => h u v (List.mem_range.1 hu) hv

/-- Sets that say what f says. -/
theorem eq_NB {ms : List Nat} {n : Nat} {f : Nat → Nat → Bool} (hl : ms.length = n) (h : ∀ u v, u < n → (ms.getD u 0).testBit v = (decide (v < n) && f u v)) : ms = NB n f := by
  apply List.ext_getElem (by simpa using hl)
  intro u h1 h2
  apply Nat.eq_of_testBit_eq
  intro v
  have hu : u < n := by omega
  have e1 : ms[u] = ms.getD u 0 := by simp [List.getD, h1]
  have e2 : (NB n f)[u] = maskB n (f u) := by simp [NB]
  rw [e1, e2, h u v hu, testBit_maskB]

theorem getD_set (ms : List Nat) (u a x : Nat) (hu : u < ms.length) : (ms.set u x).getD a 0 = if a = u then x else ms.getD a 0 := by
  simp only [List.getD, List.getElem?_set]
  by_cases h : a = u
  · subst h; simp [hu]
  · rw [if_neg (fun e => h e.symm), if_neg h]

theorem testBit_joinS (ms : List Nat) (u v a b : Nat) (hu : u < ms.length) (hv : v < ms.length) :
    ((joinS ms u v).getD a 0).testBit b = ((ms.getD a 0).testBit b || (decide (a = u) && decide (b = v)) || (decide (a = v) && decide (b = u))) := by
  unfold joinS
  simp only
  rw [getD_set _ _ _ _ (by simpa using hv), getD_set _ _ _ _ hu, getD_set _ _ _ _ hu]
  by_cases h1 : a = v
  · subst h1
    by_cases h2 : a = u
    · subst h2
      simp [Nat.testBit_or, Nat.testBit_two_pow, eq_comm]
    · simp [Nat.testBit_or, Nat.testBit_two_pow, h2, eq_comm]
  · by_cases h2 : a = u
    · subst h2
      simp [Nat.testBit_or, Nat.testBit_two_pow, h1, eq_comm]
    · simp [h1, h2]

/-- One more edge. -/
def plus (f : Nat → Nat → Bool) (u v : Nat) : Nat → Nat → Bool := fun a b => f a b || (decide (a = u) && decide (b = v)) || (decide (a = v) && decide (b = u))
theorem joinS_NB {n : Nat} (f : Nat → Nat → Bool) {u v : Nat} (hu : u < n) (hv : v < n) : joinS (NB n f) u v = NB n (plus f u v) := by
  refine eq_NB (by simp) fun a b ha => ?_
  rw [testBit_joinS _ _ _ _ _ (by simpa using hu) (by simpa using hv), NB_getD f ha, testBit_maskB]
  unfold plus
  by_cases hb : b < n
  · simp [hb]
  · have h1 : ¬ b = v := by omega
    have h2 : ¬ b = u := by omega
    simp [hb, h1, h2]
theorem NB_zeros (n : Nat) : NB n (fun _ _ => false) = List.replicate n 0 := by
  apply List.ext_getElem (by simp)
  intro u h1 h2
  have e : (List.range n).filter (fun _ => false) = [] := List.filter_eq_nil_iff.2 (by simp)
  simp [NB, maskB, e]
theorem rowsB_zeros (n : Nat) : rowsB n (fun _ _ => false) = List.replicate n [] := by
  apply List.ext_getElem (by simp)
  intro u h1 h2
  have e : (List.range n).filter (fun _ => false) = [] := List.filter_eq_nil_iff.2 (by simp)
  simp [rowsB, rowB, e]

/-! ### Valid rows -/
theorem mem_rowB {n : Nat} {p : Nat → Bool} {x : Int} : x ∈ rowB n p ↔ ∃ i, i < n ∧ p i = true ∧ x = (i : Int) := by
  simp only [rowB, List.mem_map, List.mem_filter, List.mem_range]
  constructor
  · rintro ⟨i, ⟨h1, h2⟩, rfl⟩; exact ⟨i, h1, h2, rfl⟩
  · rintro ⟨i, h1, h2, rfl⟩; exact ⟨i, ⟨h1, h2⟩, rfl⟩
theorem nat_mem_rowB {n : Nat} {p : Nat → Bool} {i : Nat} : (i : Int) ∈ rowB n p ↔ i < n ∧ p i = true := by
  rw [mem_rowB]
  constructor
  · rintro ⟨j, h1, h2, h3⟩
    obtain rfl : i = j := by omega
    exact ⟨h1, h2⟩
  · rintro ⟨h1, h2⟩; exact ⟨i, h1, h2, rfl⟩
theorem contains_rowB {n : Nat} {p : Nat → Bool} {i : Nat} : (rowB n p).contains (i : Int) = (decide (i < n) && p i) := by
  rw [Bool.eq_iff_iff, List.contains_iff_mem, nat_mem_rowB]
  simp
theorem rowB_length (n : Nat) (p : Nat → Bool) : (rowB n p).length ≤ n := by
  unfold rowB
  rw [List.length_map]
  exact Nat.le_trans (List.length_filter_le _ _) (by simp)

theorem pairwise_range (n : Nat) : (List.range n).Pairwise (· < ·) := List.pairwise_lt_range
theorem rowB_rising (n : Nat) (p : Nat → Bool) : (rowB n p).Pairwise (· < ·) := by
  unfold rowB
  rw [List.pairwise_map]
  refine ((pairwise_range n).filter p).imp ?_
  intro a b h
  omega

theorem rising_ext : ∀ {xs ys : List Int}, xs.Pairwise (· < ·) → ys.Pairwise (· < ·) → (∀ x, x ∈ xs ↔ x ∈ ys) → xs = ys
  | [], [], _, _, _ => rfl
  | [], y :: ys, _, _, h => by have := (h y).2 (by simp); cases this
  | x :: xs, [], _, _, h => by have := (h x).1 (by simp); cases this
  | x :: xs, y :: ys, h1, h2, h => by
    rw [List.pairwise_cons] at h1 h2
    have hxy : x = y := by
      have hx := (h x).1 (by simp)
      have hy := (h y).2 (by simp)
      rcases List.mem_cons.1 hx with e | hx
      · exact e
      · rcases List.mem_cons.1 hy with e | hy
        · exact e.symm
        · have := h1.1 y hy; have := h2.1 x hx; omega
    subst hxy
    congr 1
    refine rising_ext h1.2 h2.2 fun z => ?_
    constructor
    · intro hz
      rcases List.mem_cons.1 ((h z).1 (List.mem_cons_of_mem _ hz)) with e | hz'
      · have := h1.1 z hz; omega
      · exact hz'
    · intro hz
      rcases List.mem_cons.1 ((h z).2 (List.mem_cons_of_mem _ hz)) with e | hz'
      · have := h2.1 z hz; omega
      · exact hz'

/-- A set of vertices below n: in range, rising. -/
def SetP (n : Nat) (xs : List Int) : Prop := (∀ x ∈ xs, 0 ≤ x ∧ x < (n : Int)) ∧ xs.Pairwise (· < ·)
instance (n : Nat) (xs : List Int) : Decidable (SetP n xs) := by unfold SetP; infer_instance
theorem setP_rowB (n : Nat) (p : Nat → Bool) : SetP n (rowB n p) := by
  refine ⟨fun x hx => ?_, rowB_rising n p⟩
  obtain ⟨i, h1, _, rfl⟩ := mem_rowB.1 hx
  omega
/-- What a list says. -/
def inL (xs : List Int) (i : Nat) : Bool := decide ((i : Int) ∈ xs)
theorem SetP.eq {n : Nat} {xs : List Int} (h : SetP n xs) : xs = rowB n (inL xs) := by
  refine rising_ext h.2 (rowB_rising n _) fun x => ?_
  rw [mem_rowB]
  constructor
  · intro hx
    have := h.1 x hx
    exact ⟨x.toNat, by omega, by simp only [inL, decide_eq_true_eq]; rwa [Int.toNat_of_nonneg this.1], by omega⟩
  · rintro ⟨i, _, h2, rfl⟩
    simpa [inL] using h2
theorem SetP.length {n : Nat} {xs : List Int} (h : SetP n xs) : xs.length ≤ n := by
  rw [h.eq]; exact rowB_length _ _
theorem setP_nil (n : Nat) : SetP n [] := ⟨by simp, List.Pairwise.nil⟩
theorem setP_snoc {n : Nat} {xs : List Int} {k : Nat} {x : Int} (hx : xs[k]? = some x) (h : SetP n (xs.take k)) :
    SetP n (xs.take (k + 1)) ↔ (0 ≤ x ∧ x < (n : Int)) ∧ ∀ y, 0 < k → xs[k - 1]? = some y → y < x := by
  rw [take_snoc hx]
  have hk : k < xs.length := (List.getElem?_eq_some_iff.1 hx).1
  unfold SetP
  rw [List.pairwise_append]
  constructor
  · rintro ⟨h1, _, _, h4⟩
    refine ⟨h1 x (by simp), fun y hk0 hy => h4 y ?_ x (by simp)⟩
    refine List.mem_of_getElem? (i := k - 1) ?_
    rw [List.getElem?_take, if_pos (by omega)]
    exact hy
  · rintro ⟨h1, h2⟩
    refine ⟨fun z hz => ?_, h.2, List.pairwise_singleton _ _, fun a ha b hb => ?_⟩
    · rcases List.mem_append.1 hz with hz | hz
      · exact h.1 z hz
      · rw [List.mem_singleton.1 hz]; exact h1
    · rw [List.mem_singleton.1 hb]
      obtain ⟨i, hi⟩ := List.mem_iff_getElem?.1 ha
      have hil : i < k := by
        have := (List.getElem?_eq_some_iff.1 hi).1
        simp at this
        omega
      have hlast := h2 (xs[k - 1]'(by omega)) (by omega) (List.getElem?_eq_getElem _)
      by_cases e : i = k - 1
      · subst e
        rw [List.getElem?_take, if_pos (by omega), List.getElem?_eq_getElem (by omega)] at hi
        rw [← Option.some.inj hi]; exact hlast
      · have hp := List.pairwise_iff_getElem.1 h.2 i (k - 1) (by simp; omega) (by simp; omega) (by omega)
        rw [List.getElem_take, List.getElem_take] at hp
        rw [List.getElem?_take, if_pos (by omega), List.getElem?_eq_getElem (by omega)] at hi
        rw [← Option.some.inj hi]
        omega

/-- The reference's and the program's 'GraphOk', plainly. -/
def OkP (xss : List (List Int)) : Prop :=
  (1 ≤ xss.length ∧ xss.length ≤ 16) ∧ (∀ v, v < xss.length → SetP xss.length (xss.getD v []) ∧ ¬ (v : Int) ∈ xss.getD v []) ∧
    ∀ v, v < xss.length → ∀ u ∈ xss.getD v [], (v : Int) ∈ xss.getD u.toNat []
instance (xss : List (List Int)) : Decidable (OkP xss) := by unfold OkP; infer_instance
def okB (xss : List (List Int)) : Bool := decide (OkP xss)

/-- A valid graph on n vertices, as a yes-no function. -/
structure Adj (n : Nat) (e : Nat → Nat → Bool) : Prop where
  pos : 1 ≤ n
  le : n ≤ 16
  irr : ∀ u, u < n → e u u = false
  sym : ∀ u v, u < n → v < n → e u v = e v u

theorem ok_of_adj {n : Nat} {e : Nat → Nat → Bool} (h : Adj n e) : OkP (rowsB n e) := by
  refine ⟨by simp [h.pos, h.le], fun v hv => ?_, fun v hv u hu => ?_⟩
  · rw [rowsB_length] at hv
    rw [rowsB_length, rowsB_getD e hv]
    refine ⟨setP_rowB _ _, fun hm => ?_⟩
    rw [nat_mem_rowB, h.irr v hv] at hm
    cases hm.2
  · rw [rowsB_length] at hv
    rw [rowsB_getD e hv] at hu
    obtain ⟨i, h1, h2, rfl⟩ := mem_rowB.1 hu
    rw [Int.toNat_natCast, rowsB_getD e h1, nat_mem_rowB]
    exact ⟨hv, by rw [h.sym i v h1 hv]; exact h2⟩
theorem adj_of_ok {xss : List (List Int)} (h : OkP xss) : ∃ e, Adj xss.length e ∧ xss = rowsB xss.length e := by
  obtain ⟨⟨h1, h2⟩, h3, h4⟩ := h
  refine ⟨fun u => inL (xss.getD u []), ⟨h1, h2, fun u hu => ?_, fun u v hu hv => ?_⟩, ?_⟩
  · simpa [inL] using (h3 u hu).2
  · rw [Bool.eq_iff_iff]
    simp only [inL, decide_eq_true_eq]
    constructor
    · intro hm; simpa using h4 u hu _ hm
    · intro hm; simpa using h4 v hv _ hm
  · apply List.ext_getElem (by simp)
    intro u hu1 hu2
    have e1 : xss[u] = xss.getD u [] := by simp [List.getD, hu1]
    have e2 : (rowsB xss.length fun u => inL (xss.getD u []))[u] = rowB xss.length (inL (xss.getD u [])) := by simp [rowsB]
    rw [e1, e2]
    exact (h3 u hu1).1.eq
theorem okB_iff (xss : List (List Int)) : okB xss = true ↔ ∃ e, Adj xss.length e ∧ xss = rowsB xss.length e := by
  unfold okB
  rw [decide_eq_true_eq]
  constructor
  · exact adj_of_ok
  · rintro ⟨e, h1, h2⟩
    rw [h2]; exact ok_of_adj h1
theorem okB_adj {n : Nat} {e : Nat → Nat → Bool} (h : Adj n e) : okB (rowsB n e) = true := by
  unfold okB; rw [decide_eq_true_eq]; exact ok_of_adj h
end Go.Proofs.YtpfhflkpnjkgkaaDoor
/-
  Plain facts: a graph laid edge by edge; sets with and without.
-/

namespace Go.Proofs.YtpfhflkpnjkgkaaDoor
open Go.RowKit

/-- The edges of g (asked at the smaller vertex first) whose greater vertex is below k, and those of k to vertices below j. -/
def tri (g : Nat → Nat → Bool) (k j : Nat) : Nat → Nat → Bool := fun a b =>
  (decide (a < b) && (decide (b < k) || (decide (b = k) && decide (a < j))) && g a b) || (decide (b < a) && (decide (a < k) || (decide (a = k) && decide (b < j))) && g b a)

theorem tri_yes (g : Nat → Nat → Bool) {k j : Nat} (hg : g j k = true) (hjk : j < k) : plus (tri g k j) j k = tri g k (j + 1) := by
  funext a b
  unfold plus tri
  by_cases h1 : a = j ∧ b = k
  · obtain ⟨rfl, rfl⟩ := h1
    simp [hg, hjk]
  · by_cases h2 : a = k ∧ b = j
    · obtain ⟨rfl, rfl⟩ := h2
      simp [hg, hjk]
    · have e1 : (decide (a = j) && decide (b = k)) = false := by simp; intro h; exact fun h' => h1 ⟨h, h'⟩
      have e2 : (decide (a = k) && decide (b = j)) = false := by simp; intro h; exact fun h' => h2 ⟨h, h'⟩
      have e3 : (decide (b = k) && decide (a < j + 1)) = (decide (b = k) && decide (a < j)) := by rw [Bool.eq_iff_iff]; simp; intro h; omega
      have e4 : (decide (a = k) && decide (b < j + 1)) = (decide (a = k) && decide (b < j)) := by rw [Bool.eq_iff_iff]; simp; intro h; omega
      rw [e1, e2, e3, e4]
      simp
theorem tri_no (g : Nat → Nat → Bool) {k j : Nat} (hg : g j k = false) : tri g k j = tri g k (j + 1) := by
  funext a b
  unfold tri
  by_cases h1 : a = j ∧ b = k
  · obtain ⟨rfl, rfl⟩ := h1
    by_cases hab : a < b
    · have : ¬ b < a := by omega
      simp [hg, this]
    · by_cases hba : b < a
      · have h1 : ¬ a < b := by omega
        have h2 : ¬ a = b := by omega
        simp [h1, h2]
      · simp [hab, hba]
  · by_cases h2 : a = k ∧ b = j
    · obtain ⟨rfl, rfl⟩ := h2
      by_cases hab : a < b
      · have h1 : ¬ b < a := by omega
        have h2 : ¬ b = a := by omega
        simp [h1, h2]
      · by_cases hba : b < a
        · simp [hg, hab]
        · simp [hab, hba]
    · have e3 : (decide (b = k) && decide (a < j + 1)) = (decide (b = k) && decide (a < j)) := by rw [Bool.eq_iff_iff]; simp; intro h; omega
      have e4 : (decide (a = k) && decide (b < j + 1)) = (decide (a = k) && decide (b < j)) := by rw [Bool.eq_iff_iff]; simp; intro h; omega
      rw [e3, e4]
theorem tri_next (g : Nat → Nat → Bool) (k : Nat) : tri g k k = tri g (k + 1) 0 := by
  funext a b
  unfold tri
  by_cases hab : a < b
  · have h1 : ¬ b < a := by omega
    have e : (decide (b < k) || (decide (b = k) && decide (a < k))) = decide (b < k + 1) := by rw [Bool.eq_iff_iff]; simp; omega
    simp [hab, h1, e]
  · by_cases hba : b < a
    · have e : (decide (a < k) || (decide (a = k) && decide (b < k))) = decide (a < k + 1) := by rw [Bool.eq_iff_iff]; simp; omega
      simp [hab, hba, e]
    · simp [hab, hba]
theorem tri_zero (g : Nat → Nat → Bool) : tri g 0 0 = fun _ _ => false := by
  funext a b
  unfold tri
  simp
/-- All edges laid. -/
def sym (g : Nat → Nat → Bool) : Nat → Nat → Bool := fun a b => (decide (a < b) && g a b) || (decide (b < a) && g b a)
theorem tri_all (g : Nat → Nat → Bool) (n : Nat) : NB n (tri g n 0) = NB n (sym g) := by
  refine NB_ext fun a b ha hb => ?_
  unfold tri sym
  simp [ha, hb]
theorem sym_of (g : Nat → Nat → Bool) (n : Nat) (h : ∀ a b, a < n → b < n → g a b = g b a) : NB n (sym g) = NB n (fun a b => decide (a ≠ b) && g a b) := by
  refine NB_ext fun a b ha hb => ?_
  unfold sym
  rcases Nat.lt_trichotomy a b with h1 | h1 | h1
  · have h2 : ¬ b < a := by omega
    have h3 : ¬ a = b := by omega
    simp [h1, h2, h3]
  · subst h1; simp
  · have h2 : ¬ a < b := by omega
    have h3 : ¬ a = b := by omega
    simp [h1, h2, h3, h b a hb ha]

/-! ### Sets -/
theorem testBit_flip {m : Nat} (h : m < 4294967296) (i : Nat) : (4294967295 - m).testBit i = (decide (i < 32) && !m.testBit i) := by
  have := Nat.testBit_two_pow_sub_succ (x := m) (n := 32) (by rw [two32]; exact h) i
  rwa [show 2 ^ 32 - (m + 1) = 4294967295 - m by rw [two32]; omega] at this
theorem maskB_andNot {n : Nat} (hn : n ≤ 32) (p : Nat → Bool) {m : Nat} (hm : m < 4294967296) :
    bits BinOp.andNot IntKind.u32 ((maskB n p : Nat) : Int) ((m : Nat) : Int) = ((maskB n (fun i => p i && !m.testBit i) : Nat) : Int) := by
  rw [u32_andNot_nat _ _ (maskB_small hn p) hm]
  congr 1
  apply Nat.eq_of_testBit_eq
  intro i
  rw [Nat.testBit_and, testBit_maskB, testBit_flip hm, testBit_maskB]
  by_cases h : i < n
  · have : i < 32 := by omega
    simp [h, this]
  · simp [h]
theorem maskB_and {n : Nat} (hn : n ≤ 32) (p : Nat → Bool) {m : Nat} (hm : m < 4294967296) :
    bits BinOp.and IntKind.u32 ((maskB n p : Nat) : Int) ((m : Nat) : Int) = ((maskB n (fun i => p i && m.testBit i) : Nat) : Int) := by
  rw [u32_and_nat _ _ (maskB_small hn p) hm]
  congr 1
  apply Nat.eq_of_testBit_eq
  intro i
  rw [Nat.testBit_and, testBit_maskB, testBit_maskB, Bool.and_assoc]
theorem maskB_or {n : Nat} (hn : n ≤ 32) (p q : Nat → Bool) :
    bits BinOp.or IntKind.u32 ((maskB n p : Nat) : Int) ((maskB n q : Nat) : Int) = ((maskB n (fun i => p i || q i) : Nat) : Int) := by
  rw [u32_or_nat _ _ (maskB_small hn p) (maskB_small hn q)]
  congr 1
  apply Nat.eq_of_testBit_eq
  intro i
  rw [Nat.testBit_or, testBit_maskB, testBit_maskB, testBit_maskB]
  cases decide (i < n) <;> simp
theorem pow_maskB {n v : Nat} (hv : v < n) : 2 ^ v = maskB n (fun i => decide (i = v)) := by
  apply Nat.eq_of_testBit_eq
  intro i
  rw [testBit_maskB, Nat.testBit_two_pow, Bool.eq_iff_iff]
  simp
  constructor
  · rintro rfl; exact ⟨hv, rfl⟩
  · rintro ⟨_, rfl⟩; rfl
theorem full_maskB (n : Nat) : 2 ^ n - 1 = maskB n (fun _ => true) := by
  apply Nat.eq_of_testBit_eq
  intro i
  rw [testBit_maskB, Nat.testBit_two_pow_sub_one]
  simp
theorem maskB_zero (n : Nat) : maskB n (fun _ => false) = 0 := by
  apply Nat.eq_of_testBit_eq
  intro i
  rw [testBit_maskB]
  simp
theorem maskB_eq_zero {n : Nat} {p : Nat → Bool} : maskB n p = 0 ↔ ∀ i, i < n → p i = false := by
  constructor
  · intro h i hi
    have := testBit_maskB n p i
    rw [h] at this
    simpa [hi] using this.symm
  · intro h
    rw [maskB_ext (q := fun _ => false) h, maskB_zero]
/-- Sets of the first k numbers of a list. -/
theorem inL_take_succ {xs : List Int} {k : Nat} {x : Nat} (h : xs[k]? = some (x : Int)) : inL (xs.take (k + 1)) = fun i => inL (xs.take k) i || decide (i = x) := by
  funext i
  unfold inL
  rw [take_snoc h, Bool.eq_iff_iff]
  simp
  constructor
  · rintro (h | h)
    · exact .inl h
    · exact .inr (by omega)
  · rintro (h | rfl)
    · exact .inl h
    · exact .inr rfl
end Go.Proofs.YtpfhflkpnjkgkaaDoor
