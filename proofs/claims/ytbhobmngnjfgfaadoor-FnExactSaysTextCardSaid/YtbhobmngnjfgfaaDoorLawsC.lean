/-
  The law's helpers over arguments: szInt64S, szInt64SS (how much), toInt64S, toInt64SS (copies).
-/
import Derived.Test.YtbhobmngnjfgfaaDoorLawsB
namespace Go.Proofs.YtbhobmngnjfgfaaDoor
open Go.RowKit

theorem szS_any (v : Value) (xs : List Int) (L : Int) (hL : L ≤ 1048576) (hL0 : 0 ≤ L) (w : World) (hr : Row w 1 v xs.length (ints xs)) :
    Calls Tryd.prog 148 #[v, .int .i64 L] w fun e w' => ∃ r, e = .returned (.int .i64 r) ∧ ((r = -1 ∧ L < xs.length) ∨ (r = L - xs.length ∧ 0 ≤ r)) ∧ w = w' := by
  have hl := hr.len
  unfold maxLen at hl
  obtain ⟨a, c, rfl, -, -, -⟩ := id hr
  by_cases h : L - xs.length < 0
  · go_enter Tryd.func148, Tryd.ntmps148
    go_wp2_with fail
    go_ret
    exact ⟨-1, rfl, .inl ⟨rfl, by omega⟩, rfl⟩
  · go_enter Tryd.func148, Tryd.ntmps148
    go_wp2_with fail
    go_ret
    exact ⟨_, rfl, .inr ⟨rfl, by omega⟩, rfl⟩

theorem set_fill (xs : List Int) (k : Nat) (x : Int) (hx : xs[k]? = some x) :
    (ints (xs.take k) ++ List.replicate (xs.length - k) (Value.int .i64 0)).set k (.int .i64 x) = ints (xs.take (k + 1)) ++ List.replicate (xs.length - (k + 1)) (Value.int .i64 0) := by
  obtain ⟨hk, rfl⟩ := List.getElem?_eq_some_iff.1 hx
  have hl : (ints (xs.take k)).length = k := by simp; omega
  rw [List.set_append_right _ _ (by omega), hl, Nat.sub_self, show xs.length - k = (xs.length - (k + 1)) + 1 by omega, List.replicate_succ, List.set_cons_zero, take_snoc hx, ints_snoc]
  simp

set_option maxHeartbeats 1000000 in
theorem toS_any (v : Value) (xs : List Int) (hn : xs.length ≤ 1048576) (w : World) (hr : Row w 1 v xs.length (ints xs)) :
    Calls Tryd.prog 151 #[v] w fun e w' => ∃ c, e = .returned (.slice (some ⟨w.heap.size, 0, none⟩) xs.length c) ∧ w'.ownsRow w.heap.size 2 1 (.slice (some ⟨w.heap.size, 0, none⟩) xs.length c) xs.length (ints xs) ∧ Below w.heap.size w w' := by
  obtain ⟨a, c, rfl, -, -, -⟩ := id hr
  obtain ⟨B, hB⟩ : ∃ B, w.heap.size = B := ⟨_, rfl⟩
  go_enter Tryd.func151, Tryd.ntmps151
  go_wp2_with (at_make; refine wpList_make _ rfl _ _ 30 rfl w.heap.size 2 (.int .i64 0) 8 Tryd.underlying30 infoI rfl .i64 .i64 _ _ xs.length rfl rfl (by omega) (by omega) (by omega) (by unfold maxLen; omega) (by simp) ?_; intro w1 ho1 hb1)
  go_loopw [4] (fun i wr => ∃ k : Nat, k ≤ xs.length ∧ i = .int .i64 k ∧ wr.ownsRow B 2 1 (.slice (some ⟨B, 0, none⟩) xs.length xs.length) xs.length (ints (xs.take k) ++ List.replicate (xs.length - k) (.int .i64 0)) ∧ Below B w wr) (fun i _ => xs.length - (intOf i).toNat)
  case atStart => exact ⟨0, Nat.zero_le _, rfl, by subst hB; simpa [ints] using ho1, by subst hB; exact hb1⟩
  case round =>
    obtain ⟨k, hk, rfl, ho, hb⟩ := hrel
    by_cases hlt : k < xs.length
    · obtain ⟨b, o, x, rfl, hc, HX⟩ := (hr.below (hB.symm ▸ hb)).intAt hlt
      have hf := ho.frozenAt k
      have hx : wr.cell? ⟨B, k, none⟩ = some (.int .i64 0) := by
        rw [ho.cellAt k (by omega), List.getElem?_append_right (by simp; omega)]
        rw [show k - (ints (xs.take k)).length = 0 by simp; omega, show xs.length - k = (xs.length - k - 1) + 1 by omega, List.replicate_succ]
        rfl
      have hst := ho.stored k (.int .i64 x)
      rw [set_fill xs k x HX.out] at hst
      obtain ⟨ho2, hg2⟩ := hst
      have hb2 := hb.trans (below_of_grown hg2 (by have := hb.size; omega) (fun b hb' => by simp at hb'; omega))
      clear hb ho
      go_wp2_with fail
      go_roundw
      case rel => exact ⟨k + 1, by omega, by go_num, ho2, hb2⟩
      case measure => simp [intOf]; omega
    · obtain rfl : k = xs.length := by omega
      go_wp2_with fail
      go_ret
      subst hB
      exact ⟨xs.length, rfl, by simpa using ho, hb⟩

theorem total_snoc (xss : List (List Int)) (xs : List Int) : total (xss ++ [xs]) = total xss + xs.length := by
  simp only [total, List.map_append, List.sum_append, List.map_cons, List.map_nil, List.sum_cons, List.sum_nil]
  omega

/-- How much: what is left, or less than nothing. -/
theorem szSS_any (v : Value) (vs : List Value) (xss : List (List Int)) (L : Int) (hL : L ≤ 1048576) (hL0 : 0 ≤ L) (w : World) (hr : RdG w v vs (xss.map ints)) :
    Calls Tryd.prog 89 #[v, .int .i64 L] w fun e w' => ∃ r, e = .returned (.int .i64 r) ∧ (r = -1 ∨ (0 ≤ r ∧ r = L - xss.length - total xss)) ∧ w = w' := by
  have hl := hr.outer.len
  unfold maxLen at hl
  have e1 : vs.length = xss.length := by simpa using hr.len
  obtain ⟨a, c, rfl, -, -, -⟩ := id hr.outer
  rw [e1] at hr hl ⊢
  clear e1
  by_cases h0 : L - xss.length < 0
  · go_enter Tryd.func89, Tryd.ntmps89
    go_wp2_with fail
    go_ret
    exact ⟨-1, rfl, .inl rfl, rfl⟩
  · go_enter Tryd.func89, Tryd.ntmps89
    go_wp2_with fail
    go_loopw [5, 1] (fun i l wr => ∃ (k : Nat) (q : Int), k ≤ xss.length ∧ i = .int .i64 k ∧ l = .int .i64 q ∧ 0 ≤ q ∧ q = L - xss.length - total (xss.take k) ∧ w = wr) (fun i _ _ => xss.length - (intOf i).toNat)
    case atStart => exact ⟨0, _, Nat.zero_le _, rfl, rfl, by omega, by simp [total], rfl⟩
    case round =>
      obtain ⟨k, q, hk, rfl, rfl, hq0, hq, rfl⟩ := hrel
      by_cases hlt : k < xss.length
      · obtain ⟨b, o, u, xs, rfl, hc, hu, -, HX⟩ := hr.intsAt hlt
        have hql : q ≤ 1048576 := by omega
        have HQ := Lib.hid hq
        clear hq
        have htk : total (xss.take (k + 1)) = total (xss.take k) + xs.length := by rw [take_snoc HX.out]; exact total_snoc _ _
        go_wp2_with fail
        refine (szS_any u xs q hql hq0 _ hu).mono ?_
        rintro e w' ⟨r, rfl, hcase, rfl⟩
        rcases hcase with ⟨rfl, -⟩ | ⟨hr1, hr0⟩
        · go_wp2_with fail
          go_ret
          exact ⟨-1, rfl, .inl rfl, rfl⟩
        · have hrl : r ≤ 1048576 := by omega
          have HR := Lib.hid hr1
          have HT := Lib.hid htk
          clear hr1 htk
          go_wp2_with fail
          go_roundw
          case rel => exact ⟨k + 1, r, by omega, by go_num, rfl, hr0, by have h1 := HQ.out; have h2 := HR.out; have h3 := HT.out; omega, by trivial⟩
          case measure => simp [intOf]; omega
      · obtain rfl : k = xss.length := by omega
        rw [List.take_length] at hq
        have HQ := Lib.hid hq
        clear hq
        go_wp2_with fail
        go_ret
        exact ⟨q, rfl, .inr ⟨hq0, HQ.out⟩, rfl⟩

/-- 'make([][]T, n)': n rows of nothing. -/
theorem OwnG.zeros {w : World} {base : Nat} {e1 e2 : TypeId} (he : e1 ≠ e2) {v : Value} {n : Nat} (h : w.ownsRow base e1 1 v n (List.replicate n (.slice none 0 0))) :
    OwnG w base e1 e2 v (List.replicate n (.slice none 0 0)) (List.replicate n []) := by
  refine ⟨by simp, by simpa using h, fun i u cs h1 h2 => ?_, ?_, he⟩
  · have hu := List.eq_of_mem_replicate (List.mem_of_getElem? h1)
    have hc := List.eq_of_mem_replicate (List.mem_of_getElem? h2)
    subst hu; subst hc
    exact World.ownsRow_nil _ _ _ _
  · rw [List.pairwise_replicate]
    right
    intro k hk
    simp [Value.ownBlock] at hk

/-- Rows, the first k of them written. -/
def rowsUp (xss : List (List Int)) (k : Nat) : List (List Int) := xss.take k ++ List.replicate (xss.length - k) []
@[simp] theorem rowsUp_length (xss : List (List Int)) (k : Nat) (hk : k ≤ xss.length) : (rowsUp xss k).length = xss.length := by simp [rowsUp]; omega
theorem rowsUp_set (xss : List (List Int)) (k : Nat) (xs : List Int) (hx : xss[k]? = some xs) : (rowsUp xss k).set k xs = rowsUp xss (k + 1) := by
  obtain ⟨hk, rfl⟩ := List.getElem?_eq_some_iff.1 hx
  have hl : (xss.take k).length = k := by simp; omega
  unfold rowsUp
  rw [List.set_append_right _ _ (by omega), hl, Nat.sub_self, show xss.length - k = (xss.length - (k + 1)) + 1 by omega, List.replicate_succ, List.set_cons_zero, take_snoc hx, List.append_assoc]
  rfl

set_option maxHeartbeats 1000000 in
theorem toSS_any (v : Value) (vs : List Value) (xss : List (List Int)) (hn : xss.length ≤ 1048576) (hs : ∀ xs ∈ xss, xs.length ≤ 1048576) (w : World) (hr : RdG w v vs (xss.map ints)) :
    Calls Tryd.prog 93 #[v] w fun e w' => ∃ u us, e = .returned u ∧ OwnG w' w.heap.size 30 2 u us (xss.map ints) ∧ Below w.heap.size w w' := by
  have e1 : vs.length = xss.length := by simpa using hr.len
  obtain ⟨a, c, rfl, -, -, -⟩ := id hr.outer
  rw [e1] at hr ⊢
  clear e1
  obtain ⟨B, hB⟩ : ∃ B, w.heap.size = B := ⟨_, rfl⟩
  have HS := Lib.hid hs
  clear hs
  go_enter Tryd.func93, Tryd.ntmps93
  go_wp2_with (at_make; refine wpList_make _ rfl _ _ 51 rfl w.heap.size 30 (.slice none 0 0) 24 Tryd.underlying51 infoR rfl .i64 .i64 _ _ xss.length rfl rfl (by omega) (by omega) (by omega) (by unfold maxLen; omega) (by simp) ?_; intro w1 ho1 hb1)
  have hG1 : OwnG w1 B 30 2 (.slice (some ⟨B, 0, none⟩) xss.length xss.length) (List.replicate xss.length (.slice none 0 0)) ((rowsUp xss 0).map ints) := by
    subst hB
    have := OwnG.zeros (e2 := 2) (by decide) ho1
    simpa [rowsUp, ints] using this
  rw [hB] at hb1
  clear ho1
  go_wp2_with fail
  go_loopw [4] (fun i wr => ∃ (k : Nat) (us : List Value), k ≤ xss.length ∧ i = .int .i64 k ∧ OwnG wr B 30 2 (.slice (some ⟨B, 0, none⟩) xss.length xss.length) us ((rowsUp xss k).map ints) ∧ Below B w wr) (fun i _ => xss.length - (intOf i).toNat)
  case atStart => exact ⟨0, _, Nat.zero_le _, rfl, hG1, hb1⟩
  case round =>
    clear hG1 hb1
    obtain ⟨k, us, hk, rfl, hG, hb⟩ := hrel
    have hsz := hb.size
    have hul : us.length = xss.length := by rw [hG.len, List.length_map, rowsUp_length _ _ hk]
    by_cases hlt : k < xss.length
    · obtain ⟨b, o, u, xs, rfl, hc, hu, -, HX⟩ := (hr.below (hB.symm ▸ hb)).intsAt hlt
      have hxl : xs.length ≤ 1048576 := HS.out xs (List.mem_of_getElem? HX.out)
      have HUL := Lib.hid hul
      clear hul
      go_wp2_with fail
      refine (toS_any u xs hxl _ hu).mono ?_
      rintro e w2 ⟨uc, rfl, ho2, hb2⟩
      have hout := owns_below hG.outer hb2
      rw [HUL.out] at hout
      have hf := hout.frozenAt k
      have hx : ∃ y, w2.cell? ⟨B, k, none⟩ = some y := by
        rw [hout.cellAt k (by omega)]
        exact ⟨us[k]'(by rw [HUL.out]; exact hlt), List.getElem?_eq_getElem _⟩
      obtain ⟨y, hx⟩ := hx
      have hst := hout.stored k (.slice (some ⟨wr.heap.size, 0, none⟩) xs.length uc)
      have hG2 := hG.set (cs := ints xs) k hb2 (by simpa using owns_base ho2 (by omega)) (.inr fun j hj => by simp [Value.ownBlock] at hj; omega) (by rw [HUL.out]; exact hst.1) hst.2
      have hb3 := hb.trans ((hb2.mono (by omega)).trans (below_of_grown hst.2 (by have := hb2.size; omega) (fun b hb' => by simp at hb'; omega)))
      rw [← List.map_set, rowsUp_set xss k xs HX.out] at hG2
      clear hst hout hG hb hb2 ho2
      go_wp2_with fail
      go_roundw
      case rel => exact ⟨k + 1, _, by omega, by go_num, hG2, hb3⟩
      case measure => simp [intOf]; omega
    · obtain rfl : k = xss.length := by omega
      go_wp2_with fail
      go_ret
      subst hB
      exact ⟨_, us, rfl, by simpa [rowsUp] using hG, hb⟩
end Go.Proofs.YtbhobmngnjfgfaaDoor
