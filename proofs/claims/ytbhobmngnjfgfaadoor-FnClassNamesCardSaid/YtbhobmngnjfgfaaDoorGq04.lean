import Derived.Test.YtbhobmngnjfgfaaDoorGq03
/-
  The law's helpers over arguments: szInt64S, szInt64SS (how much), toInt64S, toInt64SS (copies).
-/

namespace Go.Proofs.YtbhobmngnjfgfaaDoor
open Go.RowKit

theorem szS_any (v : Value) (xs : List Int) (L : Int) (hL : L ≤ 1048576) (hL0 : 0 ≤ L) (w : World) (hr : Row w 1 v xs.length (ints xs)) :
    Calls Tryd.prog 148 #[v, .int .i64 L] w fun e w' => ∃ r, e = .returned (.int .i64 r) ∧ ((r = -1 ∧ L < xs.length) ∨ (r = L - xs.length ∧ 0 ≤ r)) ∧ w = w' := by
  have hl := hr.len
  unfold maxLen at hl
  obtain ⟨a, c, rfl, -, -, -⟩ := id hr
  by_cases h : L - xs.length < 0
  · go_enter Tryd.func148, Tryd.ntmps148
    go_wp2_with fail
    go_ret
    exact ⟨-1, rfl, .inl ⟨rfl, by omega⟩, rfl⟩
  · go_enter Tryd.func148, Tryd.ntmps148
    go_wp2_with fail
    go_ret
    exact ⟨_, rfl, .inr ⟨rfl, by omega⟩, rfl⟩

theorem set_fill (xs : List Int) (k : Nat) (x : Int) (hx : xs[k]? = some x) :
    (ints (xs.take k) ++ List.replicate (xs.length - k) (Value.int .i64 0)).set k (.int .i64 x) = ints (xs.take (k + 1)) ++ List.replicate (xs.length - (k + 1)) (Value.int .i64 0) := by
  obtain ⟨hk, rfl⟩ := List.getElem?_eq_some_iff.1 hx
  have hl : (ints (xs.take k)).length = k := by simp; omega
  rw [List.set_append_right _ _ (by omega), hl, Nat.sub_self, show xs.length - k = (xs.length - (k + 1)) + 1 by omega, List.replicate_succ, List.set_cons_zero, take_snoc hx, ints_snoc]
  simp

set_option maxHeartbeats 1000000 in
theorem toS_any (v : Value) (xs : List Int) (hn : xs.length ≤ 1048576) (w : World) (hr : Row w 1 v xs.length (ints xs)) :
    Calls Tryd.prog 151 #[v] w fun e w' => ∃ c, e = .returned (.slice (some ⟨w.heap.size, 0, none⟩) xs.length c) ∧ w'.ownsRow w.heap.size 2 1 (.slice (some ⟨w.heap.size, 0, none⟩) xs.length c) xs.length (ints xs) ∧ Below w.heap.size w w' := by
  obtain ⟨a, c, rfl, -, -, -⟩ := id hr
  obtain ⟨B, hB⟩ : ∃ B, w.heap.size = B := ⟨_, rfl⟩
  go_enter Tryd.func151, Tryd.ntmps151
  go_wp2_with (at_make; refine wpList_make _ rfl _ _ 30 rfl w.heap.size 2 (.int .i64 0) 8 Tryd.underlying30 infoI rfl .i64 .i64 _ _ xs.length rfl rfl (by omega) (by omega) (by omega) (by unfold maxLen; omega) (by simp) ?_; intro w1 ho1 hb1)
  go_loopw [4] (fun i wr => ∃ k : Nat, k ≤ xs.length ∧ i = .int .i64 k ∧ wr.ownsRow B 2 1 (.slice (some ⟨B, 0, none⟩) xs.length xs.length) xs.length (ints (xs.take k) ++ List.replicate (xs.length - k) (.int .i64 0)) ∧ Below B w wr) (fun i _ => xs.length - (intOf i).toNat)
  case atStart => exact ⟨0, Nat.zero_le _, rfl, by subst hB; simpa [ints] using ho1, by subst hB; exact hb1⟩
  case round =>
    obtain ⟨k, hk, rfl, ho, hb⟩ := hrel
    by_cases hlt : k < xs.length
    · obtain ⟨b, o, x, rfl, hc, HX⟩ := (hr.below (hB.symm ▸ hb)).intAt hlt
      have hf := ho.frozenAt k
      have hx : wr.cell? ⟨B, k, none⟩ = some (.int .i64 0) := by
        rw [ho.cellAt k (by omega), List.getElem?_append_right (by simp; omega)]
        rw [show k - (ints (xs.take k)).length = 0 by simp; omega, show xs.length - k = (xs.length - k - 1) + 1 by omega, List.replicate_succ]
        rfl
      have hst := ho.stored k (.int .i64 x)
      rw [set_fill xs k x HX.out] at hst
      obtain ⟨ho2, hg2⟩ := hst
      have hb2 := hb.trans (below_of_grown hg2 (by have := hb.size; omega) (fun b hb' => by simp at hb'; omega))
      clear hb ho
      go_wp2_with fail
      go_roundw
      case rel => exact ⟨k + 1, by omega, by go_num, ho2, hb2⟩
      case measure => simp [intOf]; omega
    · obtain rfl : k = xs.length := by omega
      go_wp2_with fail
      go_ret
      subst hB
      exact ⟨xs.length, rfl, by simpa using ho, hb⟩

theorem total_snoc (xss : List (List Int)) (xs : List Int) : total (xss ++ [xs]) = total xss + xs.length := by
  simp only [total, List.map_append, List.sum_append, List.map_cons, List.map_nil, List.sum_cons, List.sum_nil]
  omega

/-- How much: what is left, or less than nothing. -/
theorem szSS_any (v : Value) (vs : List Value) (xss : List (List Int)) (L : Int) (hL : L ≤ 1048576) (hL0 : 0 ≤ L) (w : World) (hr : RdG w v vs (xss.map ints)) :
    Calls Tryd.prog 89 #[v, .int .i64 L] w fun e w' => ∃ r, e = .returned (.int .i64 r) ∧ (r = -1 ∨ (0 ≤ r ∧ r = L - xss.length - total xss)) ∧ w = w' := by
  have hl := hr.outer.len
  unfold maxLen at hl
  have e1 : vs.length = xss.length := by simpa using hr.len
  obtain ⟨a, c, rfl, -, -, -⟩ := id hr.outer
  rw [e1] at hr hl ⊢
  clear e1
  by_cases h0 : L - xss.length < 0
  · go_enter Tryd.func89, Tryd.ntmps89
    go_wp2_with fail
    go_ret
    exact ⟨-1, rfl, .inl rfl, rfl⟩
  · go_enter Tryd.func89, Tryd.ntmps89
    go_wp2_with fail
    go_loopw [5, 1] (fun i l wr => ∃ (k : Nat) (q : Int), k ≤ xss.length ∧ i = .int .i64 k ∧ l = .int .i64 q ∧ 0 ≤ q ∧ q = L - xss.length - total (xss.take k) ∧ w = wr) (fun i _ _ => xss.length - (intOf i).toNat)
    case atStart => exact ⟨0, _, Nat.zero_le _, rfl, rfl, by omega, by simp [total], rfl⟩
    case round =>
      obtain ⟨k, q, hk, rfl, rfl, hq0, hq, rfl⟩ := hrel
      by_cases hlt : k < xss.length
      · obtain ⟨b, o, u, xs, rfl, hc, hu, -, HX⟩ := hr.intsAt hlt
        have hql : q ≤ 1048576 := by omega
        have HQ := Lib.hid hq
        clear hq
        have htk : total (xss.take (k + 1)) = total (xss.take k) + xs.length := by rw [take_snoc HX.out]; exact total_snoc _ _
        go_wp2_with fail
        refine (szS_any u xs q hql hq0 _ hu).mono ?_
        rintro e w' ⟨r, rfl, hcase, rfl⟩
        rcases hcase with ⟨rfl, -⟩ | ⟨hr1, hr0⟩
        · go_wp2_with fail
          go_ret
          exact ⟨-1, rfl, .inl rfl, rfl⟩
        · have hrl : r ≤ 1048576 := by omega
          have HR := Lib.hid hr1
          have HT := Lib.hid htk
          clear hr1 htk
          go_wp2_with fail
          go_roundw
          case rel => exact ⟨k + 1, r, by omega, by go_num, rfl, hr0, by have h1 := HQ.out; have h2 := HR.out; have h3 := HT.out; omega, by trivial⟩
          case measure => simp [intOf]; omega
      · obtain rfl : k = xss.length := by omega
        rw [List.take_length] at hq
        have HQ := Lib.hid hq
        clear hq
        go_wp2_with fail
        go_ret
        exact ⟨q, rfl, .inr ⟨hq0, HQ.out⟩, rfl⟩

/-- 'make([][]T, n)': n rows of nothing. -/
theorem OwnG.zeros {w : World} {base : Nat} {e1 e2 : TypeId} (he : e1 ≠ e2) {v : Value} {n : Nat} (h : w.ownsRow base e1 1 v n (List.replicate n (.slice none 0 0))) :
    OwnG w base e1 e2 v (List.replicate n (.slice none 0 0)) (List.replicate n []) := by
  refine ⟨by simp, by simpa using h, fun i u cs h1 h2 => ?_, ?_, he⟩
  · have hu := List.eq_of_mem_replicate (List.mem_of_getElem? h1)
    have hc := List.eq_of_mem_replicate (List.mem_of_getElem? h2)
    subst hu; subst hc
    exact World.ownsRow_nil _ _ _ _
  · rw [List.pairwise_replicate]
    right
    intro k hk
    simp [Value.ownBlock] at hk

/-- Rows, the first k of them written. -/
def rowsUp (xss : List (List Int)) (k : Nat) : List (List Int) := xss.take k ++ List.replicate (xss.length - k) []
@[simp] theorem rowsUp_length (xss : List (List Int)) (k : Nat) (hk : k ≤ xss.length) : (rowsUp xss k).length = xss.length := by simp [rowsUp]; omega
theorem rowsUp_set (xss : List (List Int)) (k : Nat) (xs : List Int) (hx : xss[k]? = some xs) : (rowsUp xss k).set k xs = rowsUp xss (k + 1) := by
  obtain ⟨hk, rfl⟩ := List.getElem?_eq_some_iff.1 hx
  have hl : (xss.take k).length = k := by simp; omega
  unfold rowsUp
  rw [List.set_append_right _ _ (by omega), hl, Nat.sub_self, show xss.length - k = (xss.length - (k + 1)) + 1 by omega, List.replicate_succ, List.set_cons_zero, take_snoc hx, List.append_assoc]
  rfl

set_option maxHeartbeats 1000000 in
theorem toSS_any (v : Value) (vs : List Value) (xss : List (List Int)) (hn : xss.length ≤ 1048576) (hs : ∀ xs ∈ xss, xs.length ≤ 1048576) (w : World) (hr : RdG w v vs (xss.map ints)) :
    Calls Tryd.prog 93 #[v] w fun e w' => ∃ u us, e = .returned u ∧ OwnG w' w.heap.size 30 2 u us (xss.map ints) ∧ Below w.heap.size w w' := by
  have e1 : vs.length = xss.length := by simpa using hr.len
  obtain ⟨a, c, rfl, -, -, -⟩ := id hr.outer
  rw [e1] at hr ⊢
  clear e1
  obtain ⟨B, hB⟩ : ∃ B, w.heap.size = B := ⟨_, rfl⟩
  have HS := Lib.hid hs
  clear hs
  go_enter Tryd.func93, Tryd.ntmps93
  go_wp2_with (at_make; refine wpList_make _ rfl _ _ 51 rfl w.heap.size 30 (.slice none 0 0) 24 Tryd.underlying51 infoR rfl .i64 .i64 _ _ xss.length rfl rfl (by omega) (by omega) (by omega) (by unfold maxLen; omega) (by simp) ?_; intro w1 ho1 hb1)
  have hG1 : OwnG w1 B 30 2 (.slice (some ⟨B, 0, none⟩) xss.length xss.length) (List.replicate xss.length (.slice none 0 0)) ((rowsUp xss 0).map ints) := by
    subst hB
    have := OwnG.zeros (e2 := 2) (by decide) ho1
    simpa [rowsUp, ints] using this
  rw [hB] at hb1
  clear ho1
  go_wp2_with fail
  go_loopw [4] (fun i wr => ∃ (k : Nat) (us : List Value), k ≤ xss.length ∧ i = .int .i64 k ∧ OwnG wr B 30 2 (.slice (some ⟨B, 0, none⟩) xss.length xss.length) us ((rowsUp xss k).map ints) ∧ Below B w wr) (fun i _ => xss.length - (intOf i).toNat)
  case atStart => exact ⟨0, _, Nat.zero_le _, rfl, hG1, hb1⟩
  case round =>
    clear hG1 hb1
    obtain ⟨k, us, hk, rfl, hG, hb⟩ := hrel
    have hsz := hb.size
    have hul : us.length = xss.length := by rw [hG.len, List.length_map, rowsUp_length _ _ hk]
    by_cases hlt : k < xss.length
    · obtain ⟨b, o, u, xs, rfl, hc, hu, -, HX⟩ := (hr.below (hB.symm ▸ hb)).intsAt hlt
      have hxl : xs.length ≤ 1048576 := HS.out xs (List.mem_of_getElem? HX.out)
      have HUL := Lib.hid hul
      clear hul
      go_wp2_with fail
      refine (toS_any u xs hxl _ hu).mono ?_
      rintro e w2 ⟨uc, rfl, ho2, hb2⟩
      have hout := owns_below hG.outer hb2
      rw [HUL.out] at hout
      have hf := hout.frozenAt k
      have hx : ∃ y, w2.cell? ⟨B, k, none⟩ = some y := by
        rw [hout.cellAt k (by omega)]
        exact ⟨us[k]'(by rw [HUL.out]; exact hlt), List.getElem?_eq_getElem _⟩
      obtain ⟨y, hx⟩ := hx
      have hst := hout.stored k (.slice (some ⟨wr.heap.size, 0, none⟩) xs.length uc)
      have hG2 := hG.set (cs := ints xs) k hb2 (by simpa using owns_base ho2 (by omega)) (.inr fun j hj => by simp [Value.ownBlock] at hj; omega) (by rw [HUL.out]; exact hst.1) hst.2
      have hb3 := hb.trans ((hb2.mono (by omega)).trans (below_of_grown hst.2 (by have := hb2.size; omega) (fun b hb' => by simp at hb'; omega)))
      rw [← List.map_set, rowsUp_set xss k xs HX.out] at hG2
      clear hst hout hG hb hb2 ho2
      go_wp2_with fail
      go_roundw
      case rel => exact ⟨k + 1, _, by omega, by go_num, hG2, hb3⟩
      case measure => simp [intOf]; omega
    · obtain rfl : k = xss.length := by omega
      go_wp2_with fail
      go_ret
      subst hB
      exact ⟨_, us, rfl, by simpa [rowsUp] using hG, hb⟩
end Go.Proofs.YtbhobmngnjfgfaaDoor
/-
  The reference's base: 'l1In', 'l1Copy', 'l1Into', 'l1Empty', 'l1Link'.
-/

namespace Go.Proofs.YtbhobmngnjfgfaaDoor
open Go.RowKit

theorem l1In_any (n lo hi : Int) (w : World) :
    Calls Tryd.prog 68 #[.int .i64 n, .int .i64 lo, .int .i64 hi] w fun e w' => e = .returned (.bool (decide (lo ≤ n ∧ n ≤ hi))) ∧ w = w' := by
  go_enter Tryd.func68, Tryd.ntmps68
  go_wp2
  all_goals go_ret
  all_goals exact ⟨ret_bool (by rw [Bool.eq_iff_iff]; simp; try omega), rfl⟩

theorem ints_one (xs : List Int) : ∀ u ∈ ints xs, u.oneCell' = true := ints_oneCell _ _

set_option maxHeartbeats 400000 in
theorem copy_any (v : Value) (xs : List Int) (w : World) (hr : Row w 1 v xs.length (ints xs)) (hn : xs.length ≤ 1000000000) :
    Calls Tryd.prog 191 #[v] w fun e w' => ∃ v', e = .returned v' ∧ w'.ownsRow w.heap.size 2 1 v' xs.length (ints xs) ∧ Below w.heap.size w w' := by
  obtain ⟨a, cap, rfl, -, -, -⟩ := id hr
  have h0 := World.ownsRow_lit (base := w.heap.size) (e := 2) (size := 1) w #[] 0 (Nat.le_refl _) (by simp [maxLen]) rfl
  go_enter Tryd.func191, Tryd.ntmps191
  go_wp2_with (at_builtin; refine wpList_extend _ rfl _ _ 30 rfl w.heap.size 2 _ 8 Tryd.underlying30 infoI rfl (.slice (some ⟨w.heap.size, 0, none⟩) 0 0) 0 [] rfl h0 (.slice a xs.length cap) xs.length (ints xs) rfl (hr.alloc _) (ints_one _) (by unfold maxLen; omega) (by omega) (by simp) ?_; intro a' c' w1 ho hg)
  go_ret
  refine ⟨_, rfl, by simpa using ho, ((Below.refl _ _).alloc (Nat.le_refl _) _).grown hg (by simp) (by simp [Value.ownBlock])⟩

/-- With one more, rising: what 'l1Into' returns. -/
def into : List Int → Int → List Int
  | [], n => [n]
  | x :: r, n => if x < n then x :: into r n else if x = n then x :: r else n :: x :: r
theorem into_take {xs : List Int} {n : Int} {k : Nat} (hk : k ≤ xs.length) (h : ∀ j x, j < k → xs[j]? = some x → x < n) : into xs n = xs.take k ++ into (xs.drop k) n := by
  induction k generalizing xs with
  | zero => simp
  | succ k ih =>
    cases xs with
    | nil => simp at hk
    | cons x r =>
      have h0 := h 0 x (by omega) (by simp)
      rw [into, if_pos h0, ih (xs := r) (by simpa using hk) (fun j y hj hy => h (j + 1) y (by omega) (by simpa using hy))]
      simp
theorem into_length (xs : List Int) (n : Int) : (into xs n).length ≤ xs.length + 1 := by
  induction xs with
  | nil => simp [into]
  | cons x r ih =>
    unfold into
    split
    · simp; omega
    · split <;> simp

set_option maxHeartbeats 1000000 in
theorem into_any (v : Value) (xs : List Int) (n : Int) (w : World) (hr : Row w 1 v xs.length (ints xs)) (hn : xs.length ≤ 1000000) :
    Calls Tryd.prog 150 #[v, .int .i64 n] w fun e w' => ∃ v', e = .returned v' ∧
      ((v' = v ∧ into xs n = xs) ∨ w'.ownsRow w.heap.size 2 1 v' (into xs n).length (ints (into xs n))) ∧ Below w.heap.size w w' := by
  obtain ⟨a, cap, rfl, hcap, hmax, -⟩ := id hr
  unfold maxLen at hmax
  go_enter Tryd.func150, Tryd.ntmps150
  go_wp2_with fail
  go_loop [5] (fun i => ∃ k : Nat, k ≤ xs.length ∧ i = .int .i64 k ∧ ∀ j x, j < k → xs[j]? = some x → x < n) (fun i => xs.length - (intOf i).toNat)
  case atStart => exact ⟨0, Nat.zero_le _, rfl, fun j x hj => (by omega)⟩
  case round =>
    obtain ⟨k, hk, rfl, hlow⟩ := hrel
    have HL := Lib.hid hlow
    clear hlow
    by_cases hlt : k < xs.length
    · obtain ⟨b, o, x, rfl, hc, HX⟩ := hr.intAt hlt
      have hd : xs.drop k = x :: xs.drop (k + 1) := by
        have h1 := HX.out
        obtain ⟨h2, rfl⟩ := List.getElem?_eq_some_iff.1 h1
        exact List.drop_eq_getElem_cons h2
      have HD := Lib.hid hd
      clear hd
      by_cases hxn : x < n
      · go_wp2_with fail
        go_round
        case rel =>
          refine ⟨k + 1, by omega, by go_num, fun j y hj hy => ?_⟩
          by_cases e : j = k
          · subst e; have := HX.out; rw [hy] at this; have := Option.some.inj this; omega
          · exact HL.out j y (by omega) hy
        case measure => simp [intOf]; omega
      · have hI := into_take (n := n) hk HL.out
        by_cases hxe : x = n
        · have he : (x == n) = true := by simp [hxe]
          have hI2 : into xs n = xs := by rw [hI, HD.out, into, if_neg hxn, if_pos hxe, ← HD.out, List.take_append_drop]
          have HI := Lib.hid hI2
          clear hI hI2 hxe
          go_wp2_with fail
          go_ret
          exact ⟨_, rfl, .inl ⟨rfl, HI.out⟩, Below.refl _ _⟩
        · have he : (x == n) = false := by simpa using hxe
          have hI2 : into xs n = xs.take k ++ [n] ++ xs.drop k := by rw [hI, HD.out, into, if_neg hxn, if_neg hxe]; simp
          have HI := Lib.hid hI2
          clear hI hI2 hxe
          have hrt : Row w 1 (.slice (some ⟨b, o, none⟩) k cap) (xs.take k).length (ints (xs.take k)) := by
            have := hr.take hk
            rw [show (ints xs).take k = ints (xs.take k) by simp [ints]] at this
            rw [show (xs.take k).length = k by simp; omega]
            exact this
          by_cases hck : cap = k
          · omega
          · have hrd := hr.drop hk hck
            rw [show (ints xs).drop k = ints (xs.drop k) by simp [ints], Option.map_some, Addr.add_lit] at hrd
            go_wp2_with fail
            refine (copy_any _ (xs.take k) w hrt (by simp; omega)).mono ?_
            rintro e w1 ⟨v1, rfl, ho1, hb1⟩
            have hlk : (xs.take k).length = k := by simp; omega
            rw [hlk] at ho1
            clear hlk
            have hsz := hb1.size
            go_wp2_with (first
              | (at_builtin; refine wpList_push _ rfl _ _ 30 rfl w.heap.size 2 _ _ 8 Tryd.underlying30 infoI rfl _ _ _ rfl ho1 _ rfl rfl (by unfold maxLen; omega) (by omega) hsz ?_; intro g' c' w2 ho2 hg2; have hb2 := hb1.grown hg2 hsz (fun q hq => (owns_lt ho1 hq).1); have hrd2 := hrd.below hb2; have hsz2 := hb2.size)
              | (at_builtin; refine wpList_extend _ rfl _ _ 30 rfl w.heap.size 2 _ 8 Tryd.underlying30 infoI rfl (.slice (some ⟨g', 0, none⟩) (k + 1) c') (k + 1) _ rfl ho2 (.slice (some ⟨b, o + k, none⟩) (xs.length - k) (cap - k)) (xs.length - k) _ rfl hrd2 (ints_one _) (by unfold maxLen; omega) (by omega) hsz2 ?_; intro a3 c3 w3 ho3 hg3))
            go_ret
            refine ⟨_, rfl, .inr ?_, hb2.grown hg3 hsz2 (fun q hq => (owns_lt ho2 (by simpa [Value.ownBlock] using hq)).1)⟩
            rw [HI.out]
            have e1 : (xs.take k ++ [n] ++ xs.drop k).length = k + 1 + (xs.length - k) := by simp; omega
            rw [e1]
            simpa [ints] using ho3
    · have hke : k = xs.length := by omega
      subst hke
      have hI : into xs n = xs ++ [n] := by
        have := into_take (n := n) (Nat.le_refl xs.length) HL.out
        simpa [into] using this
      have HI := Lib.hid hI
      clear hI
      have hl0 : (ints xs).length = xs.length := ints_length xs
      by_cases hck : cap = xs.length
      · subst hck
        have hrd := hr.drop_all (Nat.le_refl _) rfl
        rw [Nat.sub_self, List.drop_of_length_le (by omega)] at hrd
        clear hl0
        go_wp2_with fail
        refine (copy_any _ xs w hr (by omega)).mono ?_
        rintro e w1 ⟨v1, rfl, ho1, hb1⟩
        have hsz := hb1.size
        go_wp2_with (first
          | (at_builtin; refine wpList_push _ rfl _ _ 30 rfl w.heap.size 2 _ _ 8 Tryd.underlying30 infoI rfl _ _ _ rfl ho1 _ rfl rfl (by unfold maxLen; omega) (by omega) hsz ?_; intro g' c' w2 ho2 hg2; have hb2 := hb1.grown hg2 hsz (fun q hq => (owns_lt ho1 hq).1); have hrd2 := hrd.below hb2; have hsz2 := hb2.size)
          | (at_builtin; refine wpList_extend _ rfl _ _ 30 rfl w.heap.size 2 _ 8 Tryd.underlying30 infoI rfl (.slice (some ⟨g', 0, none⟩) (xs.length + 1) c') (xs.length + 1) _ rfl ho2 (.slice a 0 0) (0) _ rfl hrd2 (by simp) (by unfold maxLen; omega) (by omega) hsz2 ?_; intro a3 c3 w3 ho3 hg3))
        go_ret
        refine ⟨_, rfl, .inr ?_, hb2.grown hg3 hsz2 (fun q hq => (owns_lt ho2 (by simpa [Value.ownBlock] using hq)).1)⟩
        rw [HI.out]
        simpa [ints] using ho3
      · have hrd := hr.drop (Nat.le_refl _) hck
        rw [Nat.sub_self, List.drop_of_length_le (by omega)] at hrd
        clear hl0
        go_wp2_with fail
        refine (copy_any _ xs w hr (by omega)).mono ?_
        rintro e w1 ⟨v1, rfl, ho1, hb1⟩
        have hsz := hb1.size
        go_wp2_with (first
          | (at_builtin; refine wpList_push _ rfl _ _ 30 rfl w.heap.size 2 _ _ 8 Tryd.underlying30 infoI rfl _ _ _ rfl ho1 _ rfl rfl (by unfold maxLen; omega) (by omega) hsz ?_; intro g' c' w2 ho2 hg2; have hb2 := hb1.grown hg2 hsz (fun q hq => (owns_lt ho1 hq).1); have hrd2 := hrd.below hb2; have hsz2 := hb2.size)
          | (at_builtin; refine wpList_extend _ rfl _ _ 30 rfl w.heap.size 2 _ 8 Tryd.underlying30 infoI rfl (.slice (some ⟨g', 0, none⟩) (xs.length + 1) c') (xs.length + 1) _ rfl ho2 (.slice (Option.map (fun x => x.add xs.length) a) 0 (cap - xs.length)) (0) _ rfl hrd2 (by simp) (by unfold maxLen; omega) (by omega) hsz2 ?_; intro a3 c3 w3 ho3 hg3))
        go_ret
        refine ⟨_, rfl, .inr ?_, hb2.grown hg3 hsz2 (fun q hq => (owns_lt ho2 (by simpa [Value.ownBlock] using hq)).1)⟩
        rw [HI.out]
        simpa [ints] using ho3
/-- Both are neighbours: what 'l1Link' does to the rows. -/
def link (xss : List (List Int)) (u v : Nat) : List (List Int) :=
  let yss := xss.set u (into (xss.getD u []) v)
  yss.set v (into (yss.getD v []) u)
@[simp] theorem link_length (xss : List (List Int)) (u v : Nat) : (link xss u v).length = xss.length := by simp [link]

set_option maxHeartbeats 1000000 in
theorem link_any (base : Nat) (v : Value) (vs0 : List Value) (xss0 : List (List Int)) (i j : Nat) (w : World) (hi : i < xss0.length) (hj : j < xss0.length) (hb : ∀ xs ∈ xss0, xs.length < 1000) (hm : xss0.length ≤ 1000000)
    (hbase : base ≤ w.heap.size) (h : OwnG w base 30 2 v vs0 (xss0.map ints)) :
    Calls Tryd.prog 172 #[.agg #[v], .int .i64 i, .int .i64 j] w fun e w' => ∃ vs', e = .returned (.agg #[v]) ∧
      OwnG w' base 30 2 v vs' ((link xss0 i j).map ints) ∧ Wrote w w' (fun b => v.ownBlock = some b) := by
  obtain ⟨n, hn⟩ : ∃ n, xss0.length = n := ⟨_, rfl⟩
  have hvl : vs0.length = n := by rw [h.len]; simpa using hn
  obtain ⟨g, cap, rfl⟩ := owns_head h.outer (by omega)
  rw [hvl] at h ⊢
  clear hvl
  rw [hn] at hi hj hm
  obtain ⟨B, hBe⟩ : ∃ B, w.heap.size = B := ⟨_, rfl⟩
  have hgB : g < w.heap.size := (owns_lt h.outer rfl).2
  have h0 : OwnG ((w.alloc (.cells #[.slice (some ⟨g, 0, none⟩) n cap] 56)).alloc (.cells #[.slice none 0 0] 56)) base 30 2 (.slice (some ⟨g, 0, none⟩) n cap) vs0 (xss0.map ints) :=
    h.below (((Below.refl _ _).alloc (Nat.le_refl _) _).alloc (by simp) _)
  have hB0 : ((w.alloc (.cells #[.slice (some ⟨g, 0, none⟩) n cap] 56)).alloc (.cells #[.slice none 0 0] 56)).heap[B]? = some (.cells #[.slice (some ⟨g, 0, none⟩) n cap] 56 (0, 0)) := by
    subst hBe; rw [Below.heap_alloc _ _ _ (by simp)]; exact heap_alloc_new w _
  have hR0 : ∃ q, ((w.alloc (.cells #[.slice (some ⟨g, 0, none⟩) n cap] 56)).alloc (.cells #[.slice none 0 0] 56)).heap[B + 1]? = some (.cells #[q] 56 (0, 0)) := by
    subst hBe; exact ⟨.slice none 0 0, by have := heap_alloc_new (w.alloc (.cells #[.slice (some ⟨g, 0, none⟩) n cap] 56)) (.cells #[.slice none 0 0] 56); simpa using this⟩
  have hW0 : Wrote w ((w.alloc (.cells #[.slice (some ⟨g, 0, none⟩) n cap] 56)).alloc (.cells #[.slice none 0 0] 56)) (fun b => some g = some b) :=
    (Wrote.of_below (((Below.refl w.heap.size w).alloc (Nat.le_refl _) (.cells #[.slice (some ⟨g, 0, none⟩) n cap] 56)).alloc (by simp) (.cells #[.slice none 0 0] 56))).mono (fun k hk hk' => (by omega : False).elim)
  have hbase0 : base ≤ ((w.alloc (.cells #[.slice (some ⟨g, 0, none⟩) n cap] 56)).alloc (.cells #[.slice none 0 0] 56)).heap.size := by simp; omega
  have hn0 := hn
  have hb0 : ∀ xs ∈ xss0, xs.length ≤ 1000 := fun xs hx => by have := hb xs hx; omega
  have HN := Lib.hid hn
  have HBE := Lib.hid hBe
  go_enter Tryd.func172, Tryd.ntmps172
  go_wp2_with fail
  generalize ((w.alloc (.cells #[.slice (some ⟨g, 0, none⟩) n cap] 56)).alloc (.cells #[.slice none 0 0] 56)) = W at *
  have hcB := cell_of_one hB0
  have hfB := free_of_one hB0
  obtain ⟨b0, o0, r0, xs0, e0, hc0, hr0, HU0, HX0⟩ := h0.rd.intsAt (k := i) (by omega)
  obtain ⟨rfl, rfl⟩ : g = b0 ∧ 0 = o0 := by simpa using e0
  clear e0
  rw [Nat.zero_add] at hc0
  have hxl0 : xs0.length ≤ 1000 := hb0 xs0 (List.mem_of_getElem? HX0.out)
  refine wp_region_ord [0, 2, 3, 5, 8] [1, 4, 6, 7] [9] [10, 11] (by kernel_rfl) (by kernel_rfl) (fun _ _ d _ _ h => by cases d <;> exact h) ?_
  simp only [pickOps, List.filterMap_cons, List.filterMap_nil, List.getElem?_cons_succ, List.getElem?_cons_zero]
  repeat quiet_step (fail)
  simp only [wpQuiet_nil_eq, wpSegs_cons_eq]
  go_wp2_with fail
  refine (into_any r0 xs0 j W.drew hr0 (by omega)).mono ?_
  rintro e w1 ⟨v1, rfl, hv1, hb1⟩
  have hbel := below_drew hb1
  have hvn : vs0.length = n := by rw [h0.len]; simpa using hn0
  have hcell := (h0.below hbel).outer
  rw [hvn] at hcell
  have hf : w1.frozen? ⟨g, i, none⟩ = false := hcell.frozenAt i
  have hc1 : w1.cell? ⟨g, i, none⟩ = some r0 := (hbel.cell (p := ⟨g, i, none⟩) (block_lt hc0)).trans hc0
  have hst := hcell.stored i v1
  have hB1 : w1.heap[B]? = some (.cells #[.slice (some ⟨g, 0, none⟩) n cap] 56 (0, 0)) := (hbel.block _ (lt_of_block hB0)).trans hB0
  obtain ⟨q, hR0⟩ := hR0
  have hR1 : w1.heap[B + 1]? = some (.cells #[q] 56 (0, 0)) := (hbel.block _ (lt_of_block hR0)).trans hR0
  have hv1s : ∃ a c, v1 = .slice a (into xs0 j).length c := by
    rcases hv1 with ⟨rfl, hI⟩ | ho
    · rw [hI]; obtain ⟨a, c, rfl, -⟩ := hr0; exact ⟨a, c, rfl⟩
    · exact owns_shape ho
  obtain ⟨a1, c1, rfl⟩ := hv1s
  have hG : OwnG (w1.setCell ⟨g, i, none⟩ (.slice a1 (into xs0 j).length c1)) base 30 2 (.slice (some ⟨g, 0, none⟩) n cap) (vs0.set i (.slice a1 (into xs0 j).length c1)) ((xss0.set i (into xs0 j)).map ints) := by
    have := OwnG.set (w2 := w1.setCell ⟨g, i, none⟩ (.slice a1 (into xs0 j).length c1)) (u := .slice a1 (into xs0 j).length c1) (cs := ints (into xs0 j)) i h0 hbel ?_ ?_ (by rw [hvn]; exact hst.1) (by simpa [Value.ownBlock] using hst.2)
    · rw [show (xss0.set i (into xs0 j)).map ints = (xss0.map ints).set i (ints (into xs0 j)) by simp [List.map_set]]
      exact this
    · rcases hv1 with ⟨he, hI⟩ | ho
      · rw [he, hI]
        have := owns_below (h0.rows i r0 (ints xs0) HU0.out (by have := HX0.out; simp [this])) hbel
        exact this
      · refine owns_base (by simpa using ho) ?_
        exact hbase0
    · rcases hv1 with ⟨he, hI⟩ | ho
      · left; rw [he]; exact HU0.out
      · right; intro k hk; exact (owns_lt ho hk).1
  have hW : Wrote W (w1.setCell ⟨g, i, none⟩ (.slice a1 (into xs0 j).length c1)) (fun b => some g = some b) :=
    (Wrote.of_below hbel |>.mono (fun k hk hk' => (by omega : False).elim)).trans (Wrote.of_grown hst.2) (fun _ _ h => h)
  have hB2 : (w1.setCell ⟨g, i, none⟩ (.slice a1 (into xs0 j).length c1)).heap[B]? = some (.cells #[.slice (some ⟨g, 0, none⟩) n cap] 56 (0, 0)) := by rw [Below.heap_setCell _ _ _ _ (by simp; omega)]; exact hB1
  have hR2 : (w1.setCell ⟨g, i, none⟩ (.slice a1 (into xs0 j).length c1)).heap[B + 1]? = some (.cells #[q] 56 (0, 0)) := by rw [Below.heap_setCell _ _ _ _ (by simp; omega)]; exact hR1
  have hn1 : (xss0.set i (into xs0 j)).length = n := by simpa using hn0
  have hb1' : ∀ xs ∈ xss0.set i (into xs0 j), xs.length ≤ 1000 := by
    intro xs hx
    rcases List.mem_or_eq_of_mem_set hx with hx | rfl
    · have := hb xs hx; omega
    · have := into_length xs0 j; have := hb xs0 (List.mem_of_getElem? HX0.out); omega
  have hD0 : xss0.getD i [] = xs0 := by have := HX0.out; simp [List.getD, this]
  have hbase1 : base ≤ (w1.setCell ⟨g, i, none⟩ (.slice a1 (into xs0 j).length c1)).heap.size := by have := hbel.size; simp; omega
  have HD0 := Lib.hid hD0
  clear hb0 hD0 hb1 hcell hvn hst hR1 hR0 hv1 hc0 hr0 h0 hB0 hbase0
  have HBEL := Lib.hid hbel
  have hcB1 := cell_of_one hB1
  clear hbel
  go_wp2_with fail
  refine ⟨HBEL.out, ?_⟩
  simp only [wpSegs_nil_eq]
  go_wp2_with fail
  have h1 := hG
  have hR1 : ∃ q, (w1.setCell ⟨g, i, none⟩ (.slice a1 (into xs0 j).length c1)).heap[B + 1]? = some (.cells #[q] 56 (0, 0)) := ⟨q, hR2⟩
  have hW1 := hW0.trans hW (fun _ _ h => h)
  have hb1 := hb1'
  clear hG hb1' hcB hfB hW hW0 hf hc1 hcB1 hB1 hR2 HBEL
  generalize World.setCell w1 ⟨g, i, none⟩ (.slice a1 (into xs0 j).length c1) = W1 at *
  have hB1 := hB2
  clear hB2
  have hcB := cell_of_one hB1
  have hfB := free_of_one hB1
  obtain ⟨vs1, hvs1⟩ : ∃ vs1, vs0.set i (.slice a1 (into xs0 j).length c1) = vs1 := ⟨_, rfl⟩
  rw [hvs1] at h1
  clear hvs1
  obtain ⟨xss1, hx1⟩ : ∃ xss1, xss0.set i (into xs0 j) = xss1 := ⟨_, rfl⟩
  rw [hx1] at h1 hn1 hb1
  have HXS := Lib.hid hx1
  clear hx1
  obtain ⟨b1, o1, r1, xs1, e1, hc1, hr1, HU1, HX1⟩ := h1.rd.intsAt (k := j) (by omega)
  obtain ⟨rfl, rfl⟩ : g = b1 ∧ 0 = o1 := by simpa using e1
  clear e1
  rw [Nat.zero_add] at hc1
  have hxl1 : xs1.length ≤ 1000 := hb1 xs1 (List.mem_of_getElem? HX1.out)
  refine wp_region_ord [0, 2, 3, 5, 8] [1, 4, 6, 7] [9] [10, 11] (by kernel_rfl) (by kernel_rfl) (fun _ _ d _ _ h => by cases d <;> exact h) ?_
  simp only [pickOps, List.filterMap_cons, List.filterMap_nil, List.getElem?_cons_succ, List.getElem?_cons_zero]
  repeat quiet_step (fail)
  simp only [wpQuiet_nil_eq, wpSegs_cons_eq]
  go_wp2_with fail
  refine (into_any r1 xs1 i W1.drew hr1 (by omega)).mono ?_
  rintro e w1 ⟨v1, rfl, hv1, hb1⟩
  have hbel := below_drew hb1
  have hvn : vs1.length = n := by rw [h1.len]; simpa using hn1
  have hcell := (h1.below hbel).outer
  rw [hvn] at hcell
  have hf : w1.frozen? ⟨g, j, none⟩ = false := hcell.frozenAt j
  have hc1 : w1.cell? ⟨g, j, none⟩ = some r1 := (hbel.cell (p := ⟨g, j, none⟩) (block_lt hc1)).trans hc1
  have hst := hcell.stored j v1
  have hB1 : w1.heap[B]? = some (.cells #[.slice (some ⟨g, 0, none⟩) n cap] 56 (0, 0)) := (hbel.block _ (lt_of_block hB1)).trans hB1
  obtain ⟨q, hR0⟩ := hR1
  have hR1 : w1.heap[B + 1]? = some (.cells #[q] 56 (0, 0)) := (hbel.block _ (lt_of_block hR0)).trans hR0
  have hv1s : ∃ a c, v1 = .slice a (into xs1 i).length c := by
    rcases hv1 with ⟨rfl, hI⟩ | ho
    · rw [hI]; obtain ⟨a, c, rfl, -⟩ := hr1; exact ⟨a, c, rfl⟩
    · exact owns_shape ho
  obtain ⟨a1, c1, rfl⟩ := hv1s
  have hG : OwnG (w1.setCell ⟨g, j, none⟩ (.slice a1 (into xs1 i).length c1)) base 30 2 (.slice (some ⟨g, 0, none⟩) n cap) (vs1.set j (.slice a1 (into xs1 i).length c1)) ((xss1.set j (into xs1 i)).map ints) := by
    have := OwnG.set (w2 := w1.setCell ⟨g, j, none⟩ (.slice a1 (into xs1 i).length c1)) (u := .slice a1 (into xs1 i).length c1) (cs := ints (into xs1 i)) j h1 hbel ?_ ?_ (by rw [hvn]; exact hst.1) (by simpa [Value.ownBlock] using hst.2)
    · rw [show (xss1.set j (into xs1 i)).map ints = (xss1.map ints).set j (ints (into xs1 i)) by simp [List.map_set]]
      exact this
    · rcases hv1 with ⟨he, hI⟩ | ho
      · rw [he, hI]
        have := owns_below (h1.rows j r1 (ints xs1) HU1.out (by have := HX1.out; simp [this])) hbel
        exact this
      · refine owns_base (by simpa using ho) ?_
        exact hbase1
    · rcases hv1 with ⟨he, hI⟩ | ho
      · left; rw [he]; exact HU1.out
      · right; intro k hk; exact (owns_lt ho hk).1
  have hW : Wrote W1 (w1.setCell ⟨g, j, none⟩ (.slice a1 (into xs1 i).length c1)) (fun b => some g = some b) :=
    (Wrote.of_below hbel |>.mono (fun k hk hk' => (by omega : False).elim)).trans (Wrote.of_grown hst.2) (fun _ _ h => h)
  have hB2 : (w1.setCell ⟨g, j, none⟩ (.slice a1 (into xs1 i).length c1)).heap[B]? = some (.cells #[.slice (some ⟨g, 0, none⟩) n cap] 56 (0, 0)) := by rw [Below.heap_setCell _ _ _ _ (by simp; omega)]; exact hB1
  have hR2 : (w1.setCell ⟨g, j, none⟩ (.slice a1 (into xs1 i).length c1)).heap[B + 1]? = some (.cells #[q] 56 (0, 0)) := by rw [Below.heap_setCell _ _ _ _ (by simp; omega)]; exact hR1
  have hD1 : xss1.getD j [] = xs1 := by have := HX1.out; simp [List.getD, this]
  have HD1 := Lib.hid hD1
  clear hD1 hb1 hcell hvn hst hR1 hR0 hc1 hr1 h1 hbase1
  have hW2 := hW1.trans hW (fun _ _ h => h)
  have hcell2 : w1.cell? ⟨g, j, none⟩ = some r1 := (hbel.cell (p := ⟨g, j, none⟩) (block_lt ‹_›)).trans ‹_›
  have HBEL := Lib.hid hbel
  have hcB1 := cell_of_one hB1
  have hcB2 := cell_of_one hB2
  have hcR2 := cell_of_one hR2
  have hfR2 := free_of_one hR2
  clear hbel
  go_wp2_with fail
  refine ⟨HBEL.out, ?_⟩
  simp only [wpSegs_nil_eq]
  go_wp2_with fail
  have hce := cell_of_one (one_setCell (u := .slice (some ⟨g, 0, none⟩) n cap) hR2)
  refine bodyPost_ret (v := .agg #[.slice (some ⟨g, 0, none⟩) n cap]) (by simp [results, Tryd.results172, go_sem, hce]) rfl ?_
  refine ⟨vs1.set j (.slice a1 (into xs1 i).length c1), rfl, ?_, ?_⟩
  · have e : link xss0 i j = xss1.set j (into xs1 i) := by
      unfold link
      simp only [HD0.out, HXS.out, HD1.out]
    rw [e]
    exact hG.unlike_setCell hR2 (by decide) (by decide) _
  · exact (hW2.setCell (.inl (by simp; omega)) _).mono fun k _ hk => by simpa [Value.ownBlock] using hk

/-- A value that is one slice in a struct: what a call that makes a graph leaves. -/
def GRes (w : World) (rows : List (List Int)) (ok : Bool) (e : Ending) (w' : World) : Prop :=
  ∃ u vs, e = .returned (.tuple #[.agg #[u], .bool ok]) ∧ OwnG w' w.heap.size 30 2 u vs (rows.map ints) ∧ Below w.heap.size w w'

set_option maxHeartbeats 400000 in
theorem empty_any (n : Nat) (hn : n ≤ 1000) (w : World) :
    Calls Tryd.prog 171 #[.int .i64 n] w fun e w' => ∃ u vs, e = .returned (.agg #[u]) ∧
      OwnG w' w.heap.size 30 2 u vs ((List.replicate n ([] : List Int)).map ints) ∧ Below w.heap.size w w' := by
  go_enter Tryd.func171, Tryd.ntmps171
  go_wp2_with fail
  go_loopw [4] (fun i wr => ∃ (k : Nat) (u : Value) (vs : List Value), k ≤ n ∧ i = .int .i64 k ∧ wr.heap[w.heap.size + 1]? = some (.cells #[u] 56 (0, 0)) ∧ (∃ r, wr.heap[w.heap.size]? = some (.cells #[r] 56 (0, 0))) ∧
      OwnG wr (w.heap.size + 2) 30 2 u vs ((List.replicate k ([] : List Int)).map ints) ∧ Below w.heap.size w wr) (fun i _ => n - (intOf i).toNat)
  case atStart =>
    refine ⟨0, .slice none 0 0, [], Nat.zero_le _, rfl, ?_, ⟨.slice none 0 0, ?_⟩, OwnG.nil _ _ (by decide) (World.ownsRow_nil _ _ _ _), ((Below.refl _ _).alloc (Nat.le_refl _) _).alloc (by simp) _⟩
    · have := heap_alloc_new (w.alloc (.cells #[Value.slice none 0 0] 56)) (.cells #[Value.slice none 0 0] 56)
      simpa using this
    · rw [Below.heap_alloc _ _ _ (by simp)]
      exact heap_alloc_new w _
  case round =>
    obtain ⟨k, u, vs, hk, rfl, hcu, ⟨r, hcr⟩, hG, hbel⟩ := hrel
    have hcuc := cell_of_one hcu
    have hcuf := free_of_one hcu
    have hcrc := cell_of_one hcr
    have hcrf := free_of_one hcr
    have hsz := hbel.size
    have hlen := hG.len
    have hlk : vs.length = k := by rw [hlen]; simp
    have hB1 : w.heap.size + 1 < wr.heap.size := lt_of_block hcu
    clear hlen
    have hout := hG.outer
    rw [hlk] at hout
    have HLK := Lib.hid hlk
    clear hlk
    by_cases hlt : k < n
    · have hbs := run_buildOne (P := Tryd.prog) (wr.alloc (.cells #[] 2)) 51 30 _ (.slice (some ⟨wr.heap.size, 0, none⟩) 0 0) _ Tryd.underlying51 infoR rfl rfl
      go_wp2_with (at_builtin; refine wpList_push_at _ rfl _ _ 51 rfl (w.heap.size + 2) 30 _ _ 24 Tryd.underlying51 infoR rfl _ _ _ rfl (hout.alloc _) (wr.heap.size + 1) (by simp) _ rfl rfl (by unfold maxLen; omega) (by omega) (by simp; omega) ?_; intro g2 c2 w2 ho2 hg2; clear hbs; have hlt2 : ∀ b, u.ownBlock = some b → w.heap.size + 2 ≤ b := fun b hb => (owns_lt hout hb).1; have hcu2 : w2.heap[w.heap.size + 1]? = some (.cells #[u] 56 (0, 0)) := (hg2.block _ (by simp; omega) (fun e => by have := hlt2 _ e.symm; omega)).trans ((Below.heap_alloc _ _ _ (by omega)).trans hcu); have hcr2 : w2.heap[w.heap.size]? = some (.cells #[r] 56 (0, 0)) := (hg2.block _ (by simp; omega) (fun e => by have := hlt2 _ e.symm; omega)).trans ((Below.heap_alloc _ _ _ (by omega)).trans hcr); have hcuc2 := cell_of_one hcu2; have hcuf2 := free_of_one hcu2)
      have hba : Below wr.heap.size wr (wr.alloc (.cells #[] 2)) := (Below.refl _ _).alloc (Nat.le_refl _) _
      have hou : (wr.alloc (.cells #[] 2)).ownsRow wr.heap.size 2 1 (.slice (some ⟨wr.heap.size, 0, none⟩) 0 0) 0 [] := World.ownsRow_lit wr #[] 0 (Nat.le_refl _) (by simp [maxLen]) rfl
      have hG2 := hG.push (cs := []) hba hou (Nat.le_refl _) (by omega) (by rw [HLK.out]; exact ho2) hg2
      have hb2 : Below w.heap.size w w2 := (hbel.trans (hba.mono hsz)).grown hg2 (by simp; omega) (fun b hb => by have := hlt2 b hb; omega)
      go_roundw
      case rel =>
        refine ⟨k + 1, .slice (some ⟨g2, 0, none⟩) (k + 1) c2, vs ++ [.slice (some ⟨wr.heap.size, 0, none⟩) 0 0], by omega, by go_num, one_setCell hcu2, ⟨r, by rw [Below.heap_setCell _ _ _ _ (by simp)]; exact hcr2⟩, ?_, hb2.setCell (by simp) _⟩
        have hG3 : OwnG (w2.setCell ⟨w.heap.size + 1, 0, none⟩ (.slice (some ⟨g2, 0, none⟩) (k + 1) c2)) (w.heap.size + 2) 30 2 (.slice (some ⟨g2, 0, none⟩) (k + 1) c2) _ _ := hG2.other (by simp) _
        rw [List.replicate_succ', List.map_append]
        exact hG3
      case measure => simp [intOf]; omega
    · obtain ⟨ua, uc, rfl⟩ := owns_shape hout
      go_wp2_with fail
      have hce := cell_of_one (one_setCell (u := .slice ua k uc) hcr)
      refine bodyPost_ret (v := .agg #[.slice ua k uc]) (by simp [results, Tryd.results171, go_sem, hce]) rfl ?_
      have e : k = n := by omega
      subst e
      exact ⟨_, vs, rfl, (hG.other (by simp) _).rebase (by omega), hbel.setCell (by simp) _⟩

end Go.Proofs.YtbhobmngnjfgfaaDoor
