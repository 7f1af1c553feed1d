import Derived.Test.YtpfhflkpnjkgkaaDoorGq02
/-
  The laws' helpers for slices of slices of numbers and for graphs: 'eqInt64SS', 'markInt64SS', 'heldInt64SS', 'eqGraph', 'markGraph', 'heldGraph'.
-/

namespace Go.Proofs.YtpfhflkpnjkgkaaDoor
open Go.RowKit

set_option maxHeartbeats 400000 in
theorem eqSS_any (v1 v2 : Value) (vs1 vs2 : List Value) (xss yss : List (List Int)) (w : World) (h1 : RdG w v1 vs1 (xss.map ints)) (h2 : RdG w v2 vs2 (yss.map ints)) :
    Calls Tryd.prog 41 #[v1, v2] w fun e w' => e = .returned (.bool (decide (xss = yss))) ∧ Below w.heap.size w w' := by
  have hl := h1.outer.len
  have hl2 := h2.outer.len
  unfold maxLen at hl hl2
  have e1 : vs1.length = xss.length := by simpa using h1.len
  have e2 : vs2.length = yss.length := by simpa using h2.len
  obtain ⟨a1, c1, rfl, -, -, -⟩ := id h1.outer
  obtain ⟨a2, c2, rfl, -, -, -⟩ := id h2.outer
  rw [e1] at h1 hl ⊢
  rw [e2] at h2 hl2 ⊢
  clear e1 e2
  by_cases hlen : xss.length = yss.length
  · have hb : ((xss.length : Int) != yss.length) = false := by simp [hlen]
    have HL := Lib.hid hlen
    clear hlen
    go_enter Tryd.func41, Tryd.ntmps41
    go_wp2_with fail
    go_loopw [5] (fun i wr => ∃ k : Nat, k ≤ xss.length ∧ i = .int .i64 k ∧ xss.take k = yss.take k ∧ Below w.heap.size w wr) (fun i _ => xss.length - (intOf i).toNat)
    case atStart => exact ⟨0, Nat.zero_le _, rfl, rfl, Below.refl _ _⟩
    case round =>
      obtain ⟨k, hk, rfl, heq, hbel⟩ := hrel
      have HE := Lib.hid heq
      clear heq
      by_cases hlt : k < xss.length
      · have hlt2 : k < yss.length := by have := HL.out; omega
        obtain ⟨b, o, u, xs, rfl, hc, hu, -, HX⟩ := (h1.below hbel).intsAt hlt
        obtain ⟨b', o', u', ys, rfl, hc', hu', -, HY⟩ := (h2.below hbel).intsAt hlt2
        by_cases hxy : xs = ys
        · have hd : decide (xs = ys) = true := by simp [hxy]
          have HXY := Lib.hid hxy
          clear hxy
          go_wp2_with fail
          refine wp_region_ord [0, 1, 2, 4, 5, 6] [3, 7] [] [8, 9] (by kernel_rfl) (by kernel_rfl) (fun _ _ d _ _ h => by cases d <;> exact h) ?_
          simp only [pickOps, List.filterMap_cons, List.filterMap_nil, List.getElem?_cons_succ, List.getElem?_cons_zero]
          repeat quiet_step (fail)
          simp only [wpQuiet_nil_eq, wpSegs_nil_eq]
          go_wp2_with fail
          refine (eqS_any u u' xs ys wr.drew hu hu').mono ?_
          rintro e w1 ⟨rfl, hb1⟩
          rw [hd]
          go_wp2_with fail
          go_roundw
          case rel => exact ⟨k + 1, by omega, by go_num, by rw [take_snoc HX.out, take_snoc HY.out, HE.out, HXY.out], hbel.trans ((below_drew hb1).mono hbel.size)⟩
          case measure => simp [intOf]; omega
        · have hd : decide (xs = ys) = false := by simp [hxy]
          go_wp2_with fail
          refine wp_region_ord [0, 1, 2, 4, 5, 6] [3, 7] [] [8, 9] (by kernel_rfl) (by kernel_rfl) (fun _ _ d _ _ h => by cases d <;> exact h) ?_
          simp only [pickOps, List.filterMap_cons, List.filterMap_nil, List.getElem?_cons_succ, List.getElem?_cons_zero]
          repeat quiet_step (fail)
          simp only [wpQuiet_nil_eq, wpSegs_nil_eq]
          go_wp2_with fail
          refine (eqS_any u u' xs ys wr.drew hu hu').mono ?_
          rintro e w1 ⟨rfl, hb1⟩
          rw [hd]
          go_wp2_with fail
          go_ret
          refine ⟨ret_bool (by rw [Bool.eq_iff_iff]; simp; intro e; subst e; have h1 := HX.out; rw [HY.out] at h1; exact hxy (Option.some.inj h1).symm), hbel.trans ((below_drew hb1).mono hbel.size)⟩
      · go_wp2_with fail
        go_ret
        refine ⟨ret_bool (by rw [Bool.eq_iff_iff]; simp; have := HE.out; rwa [List.take_of_length_le (by omega), List.take_of_length_le (by have := HL.out; omega)] at this), hbel⟩
  · have hb : ((xss.length : Int) != yss.length) = true := by simp; omega
    go_enter Tryd.func41, Tryd.ntmps41
    go_wp2_with fail
    go_ret
    exact ⟨ret_bool (by rw [Bool.eq_iff_iff]; simp; intro e; subst e; exact hlen rfl), Below.refl _ _⟩

/-- Rows of these lengths, numbered on from k. -/
def number (k : Nat) : List Nat → List (List Int)
  | [] => []
  | n :: ns => from_ k n :: number (k + n) ns
theorem number_snoc (k : Nat) (ns : List Nat) (n : Nat) : number k (ns ++ [n]) = number k ns ++ [from_ (k + ns.sum) n] := by
  induction ns generalizing k with
  | nil => simp [number]
  | cons m ms ih => simp [number, ih, Nat.add_assoc]
@[simp] theorem number_length (k : Nat) (ns : List Nat) : (number k ns).length = ns.length := by
  induction ns generalizing k with
  | nil => rfl
  | cons m ms ih => simp [number, ih]
theorem number_at (k : Nat) (ns : List Nat) (j : Nat) (h : j < ns.length) : (number k ns)[j]? = some (from_ (k + (ns.take j).sum) (ns[j])) := by
  induction ns generalizing k j with
  | nil => simp at h
  | cons m ms ih =>
    cases j with
    | zero => simp [number]
    | succ j => simp [number, ih (k + m) j (by simpa using h), Nat.add_assoc]
theorem sum_take_succ (ns : List Nat) (j : Nat) (h : j < ns.length) : (ns.take (j + 1)).sum = (ns.take j).sum + ns[j] := by
  rw [List.take_succ_eq_append_getElem h, List.sum_append]; simp
theorem sum_take_le (ns : List Nat) (j : Nat) : (ns.take j).sum ≤ ns.sum := by
  have := List.sum_append (l₁ := ns.take j) (l₂ := ns.drop j)
  rw [List.take_append_drop] at this
  omega

set_option maxHeartbeats 400000 in
theorem markSS_any (v : Value) (vs : List Value) (css : List (List Value)) (base : Nat) (k : Nat) (w : World) (hk : k + (css.map List.length).sum ≤ 1000000000) (hn : css.length ≤ 1000000000) (h : OwnG w base 24 2 v vs css) :
    Calls Tryd.prog 42 #[v, .int .i64 k] w fun e w' => e = .returned (.int .i64 ((k + (css.map List.length).sum : Nat) : Int)) ∧
      OwnG w' base 24 2 v vs ((number k (css.map List.length)).map ints) ∧ Wrote w w' (fun b => ∃ u ∈ vs, u.ownBlock = some b) := by
  have hl := h.len
  obtain ⟨a, cap, rfl⟩ := owns_shape h.outer
  obtain ⟨ns, hns⟩ : ∃ ns, css.map List.length = ns := ⟨_, rfl⟩
  have hnl : ns.length = css.length := by rw [← hns]; simp
  rw [hns] at hk ⊢
  have HNS := Lib.hid hns
  clear hns
  rw [← hnl] at hn hl
  rw [hl] at h ⊢
  have HNL := Lib.hid hnl
  clear hnl
  have HVL := Lib.hid hl
  clear hl
  go_enter Tryd.func42, Tryd.ntmps42
  go_wp2_with fail
  go_loopw [1, 5] (fun q i wr => ∃ j : Nat, j ≤ ns.length ∧ i = .int .i64 j ∧ q = .int .i64 ((k + (ns.take j).sum : Nat) : Int) ∧
      OwnG wr base 24 2 (.slice a ns.length cap) vs ((number k (ns.take j)).map ints ++ css.drop j) ∧ Wrote w wr (fun b => ∃ u ∈ vs, u.ownBlock = some b)) (fun _ i _ => ns.length - (intOf i).toNat)
  case atStart => exact ⟨0, Nat.zero_le _, rfl, rfl, by simpa [number] using h, Wrote.refl _ _⟩
  case round =>
    obtain ⟨j, hj, rfl, rfl, hown, hw⟩ := hrel
    have hsl := sum_take_le ns j
    by_cases hlt : j < ns.length
    · obtain ⟨b, o, u, cs, rfl, hc, -, HU, HC⟩ := hown.rd.rowAt (k := j) (by have := HNL.out; simp; omega)
      have hcs : css[j]? = some cs := by
        have := HC.out
        have hlj : ((number k (ns.take j)).map ints).length = j := by simp; omega
        rw [List.getElem?_append_right (by omega), hlj] at this
        simpa using this
      have hnj : cs.length = ns[j] := by
        have h1 := HNS.out
        have : (css.map List.length)[j]? = some cs.length := by simp [hcs]
        rw [h1] at this
        simpa [hlt] using this.symm
      have hss := sum_take_succ ns j hlt
      have hsl2 := sum_take_le ns (j + 1)
      have hb2 : (k + (ns.take j).sum) + cs.length ≤ 1000000000 := by omega
      have HSS : Hid ((ns.take (j + 1)).sum = (ns.take j).sum + cs.length) := by rw [hnj]; exact hss
      have HNJ := Lib.hid hnj
      have HCS := Lib.hid hcs
      clear hss hsl2 hnj hcs hsl
      have hou := hown.rows j u cs HU.out HC.out
      go_wp2_with fail
      refine (markS_any u cs.length cs base (k + (ns.take j).sum) hb2 wr hou).mono ?_
      rintro e w1 ⟨rfl, ho1, hg1⟩
      go_wp2_with fail
      go_roundw
      case rel =>
        refine ⟨j + 1, by omega, by go_num, by rw [HSS.out]; go_num, ?_, hw.trans (Wrote.of_grown hg1) (fun b _ hb => ⟨u, List.mem_of_getElem? HU.out, hb⟩)⟩
        have := hown.write HU.out (cs := ints (from_ (k + (ns.take j).sum) cs.length)) (by simpa using ho1) hg1
        have e : (((number k (ns.take j)).map ints ++ css.drop j).set j (ints (from_ (k + (ns.take j).sum) cs.length))) = (number k (ns.take (j + 1))).map ints ++ css.drop (j + 1) := by
          have hlj : ((number k (ns.take j)).map ints).length = j := by simp; omega
          have hjc : j < css.length := by have := HNL.out; omega
          rw [List.set_append, if_neg (by omega), hlj, Nat.sub_self, List.drop_eq_getElem_cons hjc, List.set_cons_zero, List.take_succ_eq_append_getElem hlt, number_snoc, HNJ.out]
          simp
        rw [e] at this
        exact this
      case measure => simp [intOf]; omega
    · go_wp2_with fail
      go_ret
      have hje : j = ns.length := by omega
      subst hje
      rw [List.take_length] at hown ⊢
      rw [List.drop_of_length_le (by have := HNL.out; omega), List.append_nil] at hown
      exact ⟨rfl, hown, hw⟩

set_option maxHeartbeats 400000 in
theorem eqGraph_any (v1 v2 : Value) (vs1 vs2 : List Value) (xss yss : List (List Int)) (w : World) (h1 : RdG w v1 vs1 (xss.map ints)) (h2 : RdG w v2 vs2 (yss.map ints)) :
    Calls Tryd.prog 18 #[.agg #[v1], .agg #[v2]] w fun e w' => e = .returned (.bool (decide (xss = yss))) ∧ Below w.heap.size w w' := by
  obtain ⟨a1, c1, rfl, -, -, -⟩ := id h1.outer
  obtain ⟨a2, c2, rfl, -, -, -⟩ := id h2.outer
  have hbel : ∀ o1 o2, Below w.heap.size w ((w.alloc o1).alloc o2) := fun o1 o2 => ((Below.refl _ _).alloc (Nat.le_refl _) _).alloc (by simp) _
  go_enter Tryd.func18, Tryd.ntmps18
  go_wp2_with fail
  refine (eqSS_any _ _ vs1 vs2 xss yss _ (h1.below (hbel _ _)) (h2.below (hbel _ _))).mono ?_
  rintro e w1 ⟨rfl, hb1⟩
  have hb2 := (hbel _ _).trans (hb1.mono (hbel _ _).size)
  clear hb1
  by_cases hd : xss = yss
  · have hd' : decide (xss = yss) = true := by simp [hd]
    rw [hd']
    have HD := Lib.hid hd'
    clear hd hd'
    go_wp2_with fail
    go_ret
    exact ⟨by rw [HD.out]; rfl, hb2⟩
  · have hd' : decide (xss = yss) = false := by simp [hd]
    rw [hd']
    have HD := Lib.hid hd'
    clear hd hd'
    go_wp2_with fail
    go_ret
    exact ⟨by rw [HD.out]; rfl, hb2⟩

theorem markGraph_any (v : Value) (vs : List Value) (css : List (List Value)) (base : Nat) (k : Nat) (w : World) (hk : k + (css.map List.length).sum ≤ 1000000000) (hn : css.length ≤ 1000000000) (h : OwnG w base 24 2 v vs css) :
    Calls Tryd.prog 19 #[.agg #[v], .int .i64 k] w fun e w' => e = .returned (.int .i64 ((k + (css.map List.length).sum : Nat) : Int)) ∧
      OwnG w' base 24 2 v vs ((number k (css.map List.length)).map ints) ∧ Wrote w w' (fun b => ∃ u ∈ vs, u.ownBlock = some b) := by
  obtain ⟨a, cap, rfl⟩ := owns_shape h.outer
  go_enter Tryd.func19, Tryd.ntmps19
  go_wp2_with fail
  refine (markSS_any _ vs css base k _ hk hn (h.below ((Below.refl _ _).alloc (Nat.le_refl _) _))).mono ?_
  rintro e w1 ⟨rfl, h1, h2⟩
  go_wp2_with fail
  go_ret
  exact ⟨rfl, h1, ((Wrote.of_below ((Below.refl w.heap.size w).alloc (Nat.le_refl _) _)).mono (fun k hk hk' => (by omega : False).elim)).trans h2 (fun _ _ h => h)⟩

/-- How many numbers there are in rows. -/
def total (rows : List (List Int)) : Nat := (rows.map List.length).sum
theorem total_ints (rows : List (List Int)) : ((rows.map ints).map List.length).sum = total rows := by
  unfold total; rw [List.map_map]; congr 2; funext x; simp

/-- What 'mark' leaves in rows, from 1 on. -/
def marked (rows : List (List Int)) : List (List Int) := number 1 ((rows.map ints).map List.length)

theorem markGraph_1 (v : Value) (vs : List Value) (rows : List (List Int)) (base : Nat) (w : World) (hk : 1 + total rows ≤ 1000000000) (hn : rows.length ≤ 1000000000) (h : OwnG w base 24 2 v vs (rows.map ints)) :
    Calls Tryd.prog 19 #[.agg #[v], .int .i64 1] w fun e w' => e = .returned (.int .i64 (1 + (total rows : Int))) ∧
      OwnG w' base 24 2 v vs ((marked rows).map ints) ∧ Wrote w w' (fun b => ∃ u ∈ vs, u.ownBlock = some b) := by
  refine (markGraph_any v vs (rows.map ints) base 1 w (by rw [total_ints]; exact hk) (by simpa using hn) h).mono ?_
  rintro e w' ⟨rfl, h1, h2⟩
  exact ⟨by rw [total_ints]; exact ret_int (by simp), h1, h2⟩

theorem eqGraph_same (v1 v2 : Value) (vs1 vs2 : List Value) (rows : List (List Int)) (w : World) (h1 : RdG w v1 vs1 (rows.map ints)) (h2 : RdG w v2 vs2 (rows.map ints)) :
    Calls Tryd.prog 18 #[.agg #[v1], .agg #[v2]] w fun e w' => e = .returned (.bool true) ∧ Below w.heap.size w w' :=
  (eqGraph_any v1 v2 vs1 vs2 rows rows w h1 h2).mono fun _ _ ⟨he, hb⟩ => ⟨by rw [he]; exact ret_bool (by simp), hb⟩
end Go.Proofs.YtpfhflkpnjkgkaaDoor
/-
  The law's helpers over arguments: szInt64S, szInt64SS (how much), toInt64S, toInt64SS (copies).
-/

namespace Go.Proofs.YtpfhflkpnjkgkaaDoor
open Go.RowKit

theorem szS_any (v : Value) (xs : List Int) (L : Int) (hL : L ≤ 1048576) (hL0 : 0 ≤ L) (w : World) (hr : Row w 1 v xs.length (ints xs)) :
    Calls Tryd.prog 43 #[v, .int .i64 L] w fun e w' => ∃ r, e = .returned (.int .i64 r) ∧ ((r = -1 ∧ L < xs.length) ∨ (r = L - xs.length ∧ 0 ≤ r)) ∧ w = w' := by
  have hl := hr.len
  unfold maxLen at hl
  obtain ⟨a, c, rfl, -, -, -⟩ := id hr
  by_cases h : L - xs.length < 0
  · go_enter Tryd.func43, Tryd.ntmps43
    go_wp2_with fail
    go_ret
    exact ⟨-1, rfl, .inl ⟨rfl, by omega⟩, rfl⟩
  · go_enter Tryd.func43, Tryd.ntmps43
    go_wp2_with fail
    go_ret
    exact ⟨_, rfl, .inr ⟨rfl, by omega⟩, rfl⟩

theorem set_fill (xs : List Int) (k : Nat) (x : Int) (hx : xs[k]? = some x) :
    (ints (xs.take k) ++ List.replicate (xs.length - k) (Value.int .i64 0)).set k (.int .i64 x) = ints (xs.take (k + 1)) ++ List.replicate (xs.length - (k + 1)) (Value.int .i64 0) := by
  obtain ⟨hk, rfl⟩ := List.getElem?_eq_some_iff.1 hx
  have hl : (ints (xs.take k)).length = k := by simp; omega
  rw [List.set_append_right _ _ (by omega), hl, Nat.sub_self, show xs.length - k = (xs.length - (k + 1)) + 1 by omega, List.replicate_succ, List.set_cons_zero, take_snoc hx, ints_snoc]
  simp

set_option maxHeartbeats 1000000 in
theorem toS_any (v : Value) (xs : List Int) (hn : xs.length ≤ 1048576) (w : World) (hr : Row w 1 v xs.length (ints xs)) :
    Calls Tryd.prog 46 #[v] w fun e w' => ∃ c, e = .returned (.slice (some ⟨w.heap.size, 0, none⟩) xs.length c) ∧ w'.ownsRow w.heap.size 2 1 (.slice (some ⟨w.heap.size, 0, none⟩) xs.length c) xs.length (ints xs) ∧ Below w.heap.size w w' := by
  obtain ⟨a, c, rfl, -, -, -⟩ := id hr
  obtain ⟨B, hB⟩ : ∃ B, w.heap.size = B := ⟨_, rfl⟩
  go_enter Tryd.func46, Tryd.ntmps46
  go_wp2_with (at_make; refine wpList_make _ rfl _ _ 24 rfl w.heap.size 2 (.int .i64 0) 8 Tryd.underlying24 infoI rfl .i64 .i64 _ _ xs.length rfl rfl (by omega) (by omega) (by omega) (by unfold maxLen; omega) (by simp) ?_; intro w1 ho1 hb1)
  go_loopw [4] (fun i wr => ∃ k : Nat, k ≤ xs.length ∧ i = .int .i64 k ∧ wr.ownsRow B 2 1 (.slice (some ⟨B, 0, none⟩) xs.length xs.length) xs.length (ints (xs.take k) ++ List.replicate (xs.length - k) (.int .i64 0)) ∧ Below B w wr) (fun i _ => xs.length - (intOf i).toNat)
  case atStart => exact ⟨0, Nat.zero_le _, rfl, by subst hB; simpa [ints] using ho1, by subst hB; exact hb1⟩
  case round =>
    obtain ⟨k, hk, rfl, ho, hb⟩ := hrel
    by_cases hlt : k < xs.length
    · obtain ⟨b, o, x, rfl, hc, HX⟩ := (hr.below (hB.symm ▸ hb)).intAt hlt
      have hf := ho.frozenAt k
      have hx : wr.cell? ⟨B, k, none⟩ = some (.int .i64 0) := by
        rw [ho.cellAt k (by omega), List.getElem?_append_right (by simp; omega)]
        rw [show k - (ints (xs.take k)).length = 0 by simp; omega, show xs.length - k = (xs.length - k - 1) + 1 by omega, List.replicate_succ]
        rfl
      have hst := ho.stored k (.int .i64 x)
      rw [set_fill xs k x HX.out] at hst
      obtain ⟨ho2, hg2⟩ := hst
      have hb2 := hb.trans (below_of_grown hg2 (by have := hb.size; omega) (fun b hb' => by simp at hb'; omega))
      clear hb ho
      go_wp2_with fail
      go_roundw
      case rel => exact ⟨k + 1, by omega, by go_num, ho2, hb2⟩
      case measure => simp [intOf]; omega
    · obtain rfl : k = xs.length := by omega
      go_wp2_with fail
      go_ret
      subst hB
      exact ⟨xs.length, rfl, by simpa using ho, hb⟩

theorem total_snoc (xss : List (List Int)) (xs : List Int) : total (xss ++ [xs]) = total xss + xs.length := by
  simp only [total, List.map_append, List.sum_append, List.map_cons, List.map_nil, List.sum_cons, List.sum_nil]
  omega

/-- How much: what is left, or less than nothing. -/
theorem szSS_any (v : Value) (vs : List Value) (xss : List (List Int)) (L : Int) (hL : L ≤ 1048576) (hL0 : 0 ≤ L) (w : World) (hr : RdG w v vs (xss.map ints)) :
    Calls Tryd.prog 29 #[v, .int .i64 L] w fun e w' => ∃ r, e = .returned (.int .i64 r) ∧ (r = -1 ∨ (0 ≤ r ∧ r = L - xss.length - total xss)) ∧ w = w' := by
  have hl := hr.outer.len
  unfold maxLen at hl
  have e1 : vs.length = xss.length := by simpa using hr.len
  obtain ⟨a, c, rfl, -, -, -⟩ := id hr.outer
  rw [e1] at hr hl ⊢
  clear e1
  by_cases h0 : L - xss.length < 0
  · go_enter Tryd.func29, Tryd.ntmps29
    go_wp2_with fail
    go_ret
    exact ⟨-1, rfl, .inl rfl, rfl⟩
  · go_enter Tryd.func29, Tryd.ntmps29
    go_wp2_with fail
    go_loopw [5, 1] (fun i l wr => ∃ (k : Nat) (q : Int), k ≤ xss.length ∧ i = .int .i64 k ∧ l = .int .i64 q ∧ 0 ≤ q ∧ q = L - xss.length - total (xss.take k) ∧ w = wr) (fun i _ _ => xss.length - (intOf i).toNat)
    case atStart => exact ⟨0, _, Nat.zero_le _, rfl, rfl, by omega, by simp [total], rfl⟩
    case round =>
      obtain ⟨k, q, hk, rfl, rfl, hq0, hq, rfl⟩ := hrel
      by_cases hlt : k < xss.length
      · obtain ⟨b, o, u, xs, rfl, hc, hu, -, HX⟩ := hr.intsAt hlt
        have hql : q ≤ 1048576 := by omega
        have HQ := Lib.hid hq
        clear hq
        have htk : total (xss.take (k + 1)) = total (xss.take k) + xs.length := by rw [take_snoc HX.out]; exact total_snoc _ _
        go_wp2_with fail
        refine (szS_any u xs q hql hq0 _ hu).mono ?_
        rintro e w' ⟨r, rfl, hcase, rfl⟩
        rcases hcase with ⟨rfl, -⟩ | ⟨hr1, hr0⟩
        · go_wp2_with fail
          go_ret
          exact ⟨-1, rfl, .inl rfl, rfl⟩
        · have hrl : r ≤ 1048576 := by omega
          have HR := Lib.hid hr1
          have HT := Lib.hid htk
          clear hr1 htk
          go_wp2_with fail
          go_roundw
          case rel => exact ⟨k + 1, r, by omega, by go_num, rfl, hr0, by have h1 := HQ.out; have h2 := HR.out; have h3 := HT.out; omega, by trivial⟩
          case measure => simp [intOf]; omega
      · obtain rfl : k = xss.length := by omega
        rw [List.take_length] at hq
        have HQ := Lib.hid hq
        clear hq
        go_wp2_with fail
        go_ret
        exact ⟨q, rfl, .inr ⟨hq0, HQ.out⟩, rfl⟩

/-- 'make([][]T, n)': n rows of nothing. -/
theorem OwnG.zeros {w : World} {base : Nat} {e1 e2 : TypeId} (he : e1 ≠ e2) {v : Value} {n : Nat} (h : w.ownsRow base e1 1 v n (List.replicate n (.slice none 0 0))) :
    OwnG w base e1 e2 v (List.replicate n (.slice none 0 0)) (List.replicate n []) := by
  refine ⟨by simp, by simpa using h, fun i u cs h1 h2 => ?_, ?_, he⟩
  · have hu := List.eq_of_mem_replicate (List.mem_of_getElem? h1)
    have hc := List.eq_of_mem_replicate (List.mem_of_getElem? h2)
    subst hu; subst hc
    exact World.ownsRow_nil _ _ _ _
  · rw [List.pairwise_replicate]
    right
    intro k hk
    simp [Value.ownBlock] at hk

/-- Rows, the first k of them written. -/
def rowsUp (xss : List (List Int)) (k : Nat) : List (List Int) := xss.take k ++ List.replicate (xss.length - k) []
@[simp] theorem rowsUp_length (xss : List (List Int)) (k : Nat) (hk : k ≤ xss.length) : (rowsUp xss k).length = xss.length := by simp [rowsUp]; omega
theorem rowsUp_set (xss : List (List Int)) (k : Nat) (xs : List Int) (hx : xss[k]? = some xs) : (rowsUp xss k).set k xs = rowsUp xss (k + 1) := by
  obtain ⟨hk, rfl⟩ := List.getElem?_eq_some_iff.1 hx
  have hl : (xss.take k).length = k := by simp; omega
  unfold rowsUp
  rw [List.set_append_right _ _ (by omega), hl, Nat.sub_self, show xss.length - k = (xss.length - (k + 1)) + 1 by omega, List.replicate_succ, List.set_cons_zero, take_snoc hx, List.append_assoc]
  rfl

set_option maxHeartbeats 1000000 in
theorem toSS_any (v : Value) (vs : List Value) (xss : List (List Int)) (hn : xss.length ≤ 1048576) (hs : ∀ xs ∈ xss, xs.length ≤ 1048576) (w : World) (hr : RdG w v vs (xss.map ints)) :
    Calls Tryd.prog 34 #[v] w fun e w' => ∃ u us, e = .returned u ∧ OwnG w' w.heap.size 24 2 u us (xss.map ints) ∧ Below w.heap.size w w' := by
  have e1 : vs.length = xss.length := by simpa using hr.len
  obtain ⟨a, c, rfl, -, -, -⟩ := id hr.outer
  rw [e1] at hr ⊢
  clear e1
  obtain ⟨B, hB⟩ : ∃ B, w.heap.size = B := ⟨_, rfl⟩
  have HS := Lib.hid hs
  clear hs
  go_enter Tryd.func34, Tryd.ntmps34
  go_wp2_with (at_make; refine wpList_make _ rfl _ _ 33 rfl w.heap.size 24 (.slice none 0 0) 24 Tryd.underlying33 infoR rfl .i64 .i64 _ _ xss.length rfl rfl (by omega) (by omega) (by omega) (by unfold maxLen; omega) (by simp) ?_; intro w1 ho1 hb1)
  have hG1 : OwnG w1 B 24 2 (.slice (some ⟨B, 0, none⟩) xss.length xss.length) (List.replicate xss.length (.slice none 0 0)) ((rowsUp xss 0).map ints) := by
    subst hB
    have := OwnG.zeros (e2 := 2) (by decide) ho1
    simpa [rowsUp, ints] using this
  rw [hB] at hb1
  clear ho1
  go_wp2_with fail
  go_loopw [4] (fun i wr => ∃ (k : Nat) (us : List Value), k ≤ xss.length ∧ i = .int .i64 k ∧ OwnG wr B 24 2 (.slice (some ⟨B, 0, none⟩) xss.length xss.length) us ((rowsUp xss k).map ints) ∧ Below B w wr) (fun i _ => xss.length - (intOf i).toNat)
  case atStart => exact ⟨0, _, Nat.zero_le _, rfl, hG1, hb1⟩
  case round =>
    clear hG1 hb1
    obtain ⟨k, us, hk, rfl, hG, hb⟩ := hrel
    have hsz := hb.size
    have hul : us.length = xss.length := by rw [hG.len, List.length_map, rowsUp_length _ _ hk]
    by_cases hlt : k < xss.length
    · obtain ⟨b, o, u, xs, rfl, hc, hu, -, HX⟩ := (hr.below (hB.symm ▸ hb)).intsAt hlt
      have hxl : xs.length ≤ 1048576 := HS.out xs (List.mem_of_getElem? HX.out)
      have HUL := Lib.hid hul
      clear hul
      go_wp2_with fail
      refine (toS_any u xs hxl _ hu).mono ?_
      rintro e w2 ⟨uc, rfl, ho2, hb2⟩
      have hout := owns_below hG.outer hb2
      rw [HUL.out] at hout
      have hf := hout.frozenAt k
      have hx : ∃ y, w2.cell? ⟨B, k, none⟩ = some y := by
        rw [hout.cellAt k (by omega)]
        exact ⟨us[k]'(by rw [HUL.out]; exact hlt), List.getElem?_eq_getElem _⟩
      obtain ⟨y, hx⟩ := hx
      have hst := hout.stored k (.slice (some ⟨wr.heap.size, 0, none⟩) xs.length uc)
      have hG2 := hG.set (cs := ints xs) k hb2 (by simpa using owns_base ho2 (by omega)) (.inr fun j hj => by simp [Value.ownBlock] at hj; omega) (by rw [HUL.out]; exact hst.1) hst.2
      have hb3 := hb.trans ((hb2.mono (by omega)).trans (below_of_grown hst.2 (by have := hb2.size; omega) (fun b hb' => by simp at hb'; omega)))
      rw [← List.map_set, rowsUp_set xss k xs HX.out] at hG2
      clear hst hout hG hb hb2 ho2
      go_wp2_with fail
      go_roundw
      case rel => exact ⟨k + 1, _, by omega, by go_num, hG2, hb3⟩
      case measure => simp [intOf]; omega
    · obtain rfl : k = xss.length := by omega
      go_wp2_with fail
      go_ret
      subst hB
      exact ⟨_, us, rfl, by simpa [rowsUp] using hG, hb⟩
end Go.Proofs.YtpfhflkpnjkgkaaDoor
/-
  The reference's base: 'l1In', 'l1Copy', 'l1Into', 'l1Empty', 'l1Link'.
-/

namespace Go.Proofs.YtpfhflkpnjkgkaaDoor
open Go.RowKit

theorem l1In_any (n lo hi : Int) (w : World) :
    Calls Tryd.prog 22 #[.int .i64 n, .int .i64 lo, .int .i64 hi] w fun e w' => e = .returned (.bool (decide (lo ≤ n ∧ n ≤ hi))) ∧ w = w' := by
  go_enter Tryd.func22, Tryd.ntmps22
  go_wp2
  all_goals go_ret
  all_goals exact ⟨ret_bool (by rw [Bool.eq_iff_iff]; simp; try omega), rfl⟩

theorem ints_one (xs : List Int) : ∀ u ∈ ints xs, u.oneCell' = true := ints_oneCell _ _

set_option maxHeartbeats 400000 in
theorem copy_any (v : Value) (xs : List Int) (w : World) (hr : Row w 1 v xs.length (ints xs)) (hn : xs.length ≤ 1000000000) :
    Calls Tryd.prog 60 #[v] w fun e w' => ∃ v', e = .returned v' ∧ w'.ownsRow w.heap.size 2 1 v' xs.length (ints xs) ∧ Below w.heap.size w w' := by
  obtain ⟨a, cap, rfl, -, -, -⟩ := id hr
  have h0 := World.ownsRow_lit (base := w.heap.size) (e := 2) (size := 1) w #[] 0 (Nat.le_refl _) (by simp [maxLen]) rfl
  go_enter Tryd.func60, Tryd.ntmps60
  go_wp2_with (at_builtin; refine wpList_extend _ rfl _ _ 24 rfl w.heap.size 2 _ 8 Tryd.underlying24 infoI rfl (.slice (some ⟨w.heap.size, 0, none⟩) 0 0) 0 [] rfl h0 (.slice a xs.length cap) xs.length (ints xs) rfl (hr.alloc _) (ints_one _) (by unfold maxLen; omega) (by omega) (by simp) ?_; intro a' c' w1 ho hg)
  go_ret
  refine ⟨_, rfl, by simpa using ho, ((Below.refl _ _).alloc (Nat.le_refl _) _).grown hg (by simp) (by simp [Value.ownBlock])⟩

/-- With one more, rising: what 'l1Into' returns. -/
def into : List Int → Int → List Int
  | [], n => [n]
  | x :: r, n => if x < n then x :: into r n else if x = n then x :: r else n :: x :: r
theorem into_take {xs : List Int} {n : Int} {k : Nat} (hk : k ≤ xs.length) (h : ∀ j x, j < k → xs[j]? = some x → x < n) : into xs n = xs.take k ++ into (xs.drop k) n := by
  induction k generalizing xs with
  | zero => simp
  | succ k ih =>
    cases xs with
    | nil => simp at hk
    | cons x r =>
      have h0 := h 0 x (by omega) (by simp)
      rw [into, if_pos h0, ih (xs := r) (by simpa using hk) (fun j y hj hy => h (j + 1) y (by omega) (by simpa using hy))]
      simp
theorem into_length (xs : List Int) (n : Int) : (into xs n).length ≤ xs.length + 1 := by
  induction xs with
  | nil => simp [into]
  | cons x r ih =>
    unfold into
    split
    · simp; omega
    · split <;> simp

set_option maxHeartbeats 1000000 in
theorem into_any (v : Value) (xs : List Int) (n : Int) (w : World) (hr : Row w 1 v xs.length (ints xs)) (hn : xs.length ≤ 1000000) :
    Calls Tryd.prog 45 #[v, .int .i64 n] w fun e w' => ∃ v', e = .returned v' ∧
      ((v' = v ∧ into xs n = xs) ∨ w'.ownsRow w.heap.size 2 1 v' (into xs n).length (ints (into xs n))) ∧ Below w.heap.size w w' := by
  obtain ⟨a, cap, rfl, hcap, hmax, -⟩ := id hr
  unfold maxLen at hmax
  go_enter Tryd.func45, Tryd.ntmps45
  go_wp2_with fail
  go_loop [5] (fun i => ∃ k : Nat, k ≤ xs.length ∧ i = .int .i64 k ∧ ∀ j x, j < k → xs[j]? = some x → x < n) (fun i => xs.length - (intOf i).toNat)
  case atStart => exact ⟨0, Nat.zero_le _, rfl, fun j x hj => (by omega)⟩
  case round =>
    obtain ⟨k, hk, rfl, hlow⟩ := hrel
    have HL := Lib.hid hlow
    clear hlow
    by_cases hlt : k < xs.length
    · obtain ⟨b, o, x, rfl, hc, HX⟩ := hr.intAt hlt
      have hd : xs.drop k = x :: xs.drop (k + 1) := by
        have h1 := HX.out
        obtain ⟨h2, rfl⟩ := List.getElem?_eq_some_iff.1 h1
        exact List.drop_eq_getElem_cons h2
      have HD := Lib.hid hd
      clear hd
      by_cases hxn : x < n
      · go_wp2_with fail
        go_round
        case rel =>
          refine ⟨k + 1, by omega, by go_num, fun j y hj hy => ?_⟩
          by_cases e : j = k
          · subst e; have := HX.out; rw [hy] at this; have := Option.some.inj this; omega
          · exact HL.out j y (by omega) hy
        case measure => simp [intOf]; omega
      · have hI := into_take (n := n) hk HL.out
        by_cases hxe : x = n
        · have he : (x == n) = true := by simp [hxe]
          have hI2 : into xs n = xs := by rw [hI, HD.out, into, if_neg hxn, if_pos hxe, ← HD.out, List.take_append_drop]
          have HI := Lib.hid hI2
          clear hI hI2 hxe
          go_wp2_with fail
          go_ret
          exact ⟨_, rfl, .inl ⟨rfl, HI.out⟩, Below.refl _ _⟩
        · have he : (x == n) = false := by simpa using hxe
          have hI2 : into xs n = xs.take k ++ [n] ++ xs.drop k := by rw [hI, HD.out, into, if_neg hxn, if_neg hxe]; simp
          have HI := Lib.hid hI2
          clear hI hI2 hxe
          have hrt : Row w 1 (.slice (some ⟨b, o, none⟩) k cap) (xs.take k).length (ints (xs.take k)) := by
            have := hr.take hk
            rw [show (ints xs).take k = ints (xs.take k) by simp [ints]] at this
            rw [show (xs.take k).length = k by simp; omega]
            exact this
          by_cases hck : cap = k
          · omega
          · have hrd := hr.drop hk hck
            rw [show (ints xs).drop k = ints (xs.drop k) by simp [ints], Option.map_some, Addr.add_lit] at hrd
            go_wp2_with fail
            refine (copy_any _ (xs.take k) w hrt (by simp; omega)).mono ?_
            rintro e w1 ⟨v1, rfl, ho1, hb1⟩
            have hlk : (xs.take k).length = k := by simp; omega
            rw [hlk] at ho1
            clear hlk
            have hsz := hb1.size
            go_wp2_with (first
              | (at_builtin; refine wpList_push _ rfl _ _ 24 rfl w.heap.size 2 _ _ 8 Tryd.underlying24 infoI rfl _ _ _ rfl ho1 _ rfl rfl (by unfold maxLen; omega) (by omega) hsz ?_; intro g' c' w2 ho2 hg2; have hb2 := hb1.grown hg2 hsz (fun q hq => (owns_lt ho1 hq).1); have hrd2 := hrd.below hb2; have hsz2 := hb2.size)
              | (at_builtin; refine wpList_extend _ rfl _ _ 24 rfl w.heap.size 2 _ 8 Tryd.underlying24 infoI rfl (.slice (some ⟨g', 0, none⟩) (k + 1) c') (k + 1) _ rfl ho2 (.slice (some ⟨b, o + k, none⟩) (xs.length - k) (cap - k)) (xs.length - k) _ rfl hrd2 (ints_one _) (by unfold maxLen; omega) (by omega) hsz2 ?_; intro a3 c3 w3 ho3 hg3))
            go_ret
            refine ⟨_, rfl, .inr ?_, hb2.grown hg3 hsz2 (fun q hq => (owns_lt ho2 (by simpa [Value.ownBlock] using hq)).1)⟩
            rw [HI.out]
            have e1 : (xs.take k ++ [n] ++ xs.drop k).length = k + 1 + (xs.length - k) := by simp; omega
            rw [e1]
            simpa [ints] using ho3
    · have hke : k = xs.length := by omega
      subst hke
      have hI : into xs n = xs ++ [n] := by
        have := into_take (n := n) (Nat.le_refl xs.length) HL.out
        simpa [into] using this
      have HI := Lib.hid hI
      clear hI
      have hl0 : (ints xs).length = xs.length := ints_length xs
      by_cases hck : cap = xs.length
      · subst hck
        have hrd := hr.drop_all (Nat.le_refl _) rfl
        rw [Nat.sub_self, List.drop_of_length_le (by omega)] at hrd
        clear hl0
        go_wp2_with fail
        refine (copy_any _ xs w hr (by omega)).mono ?_
        rintro e w1 ⟨v1, rfl, ho1, hb1⟩
        have hsz := hb1.size
        go_wp2_with (first
          | (at_builtin; refine wpList_push _ rfl _ _ 24 rfl w.heap.size 2 _ _ 8 Tryd.underlying24 infoI rfl _ _ _ rfl ho1 _ rfl rfl (by unfold maxLen; omega) (by omega) hsz ?_; intro g' c' w2 ho2 hg2; have hb2 := hb1.grown hg2 hsz (fun q hq => (owns_lt ho1 hq).1); have hrd2 := hrd.below hb2; have hsz2 := hb2.size)
          | (at_builtin; refine wpList_extend _ rfl _ _ 24 rfl w.heap.size 2 _ 8 Tryd.underlying24 infoI rfl (.slice (some ⟨g', 0, none⟩) (xs.length + 1) c') (xs.length + 1) _ rfl ho2 (.slice a 0 0) (0) _ rfl hrd2 (by simp) (by unfold maxLen; omega) (by omega) hsz2 ?_; intro a3 c3 w3 ho3 hg3))
        go_ret
        refine ⟨_, rfl, .inr ?_, hb2.grown hg3 hsz2 (fun q hq => (owns_lt ho2 (by simpa [Value.ownBlock] using hq)).1)⟩
        rw [HI.out]
        simpa [ints] using ho3
      · have hrd := hr.drop (Nat.le_refl _) hck
        rw [Nat.sub_self, List.drop_of_length_le (by omega)] at hrd
        clear hl0
        go_wp2_with fail
        refine (copy_any _ xs w hr (by omega)).mono ?_
        rintro e w1 ⟨v1, rfl, ho1, hb1⟩
        have hsz := hb1.size
        go_wp2_with (first
          | (at_builtin; refine wpList_push _ rfl _ _ 24 rfl w.heap.size 2 _ _ 8 Tryd.underlying24 infoI rfl _ _ _ rfl ho1 _ rfl rfl (by unfold maxLen; omega) (by omega) hsz ?_; intro g' c' w2 ho2 hg2; have hb2 := hb1.grown hg2 hsz (fun q hq => (owns_lt ho1 hq).1); have hrd2 := hrd.below hb2; have hsz2 := hb2.size)
          | (at_builtin; refine wpList_extend _ rfl _ _ 24 rfl w.heap.size 2 _ 8 Tryd.underlying24 infoI rfl (.slice (some ⟨g', 0, none⟩) (xs.length + 1) c') (xs.length + 1) _ rfl ho2 (.slice (Option.map (fun x => x.add xs.length) a) 0 (cap - xs.length)) (0) _ rfl hrd2 (by simp) (by unfold maxLen; omega) (by omega) hsz2 ?_; intro a3 c3 w3 ho3 hg3))
        go_ret
        refine ⟨_, rfl, .inr ?_, hb2.grown hg3 hsz2 (fun q hq => (owns_lt ho2 (by simpa [Value.ownBlock] using hq)).1)⟩
        rw [HI.out]
        simpa [ints] using ho3
/-- Both are neighbours: what 'l1Link' does to the rows. -/
def link (xss : List (List Int)) (u v : Nat) : List (List Int) :=
  let yss := xss.set u (into (xss.getD u []) v)
  yss.set v (into (yss.getD v []) u)
@[simp] theorem link_length (xss : List (List Int)) (u v : Nat) : (link xss u v).length = xss.length := by simp [link]

/-- A value that is one slice in a struct: what a call that makes a graph leaves. -/
def GRes (w : World) (rows : List (List Int)) (ok : Bool) (e : Ending) (w' : World) : Prop :=
  ∃ u vs, e = .returned (.tuple #[.agg #[u], .bool ok]) ∧ OwnG w' w.heap.size 24 2 u vs (rows.map ints) ∧ Below w.heap.size w w'

end Go.Proofs.YtpfhflkpnjkgkaaDoor
