/-
  The laws' helpers for slices of slices of numbers and for graphs: 'eqInt64SS', 'markInt64SS', 'heldInt64SS', 'eqGraph', 'markGraph', 'heldGraph'.
-/
import Derived.Test.YtbhobmngnjfgfaaDoorLawsA
namespace Go.Proofs.YtbhobmngnjfgfaaDoor
open Go.RowKit

set_option maxHeartbeats 400000 in
theorem eqSS_any (v1 v2 : Value) (vs1 vs2 : List Value) (xss yss : List (List Int)) (w : World) (h1 : RdG w v1 vs1 (xss.map ints)) (h2 : RdG w v2 vs2 (yss.map ints)) :
    Calls Tryd.prog 96 #[v1, v2] w fun e w' => e = .returned (.bool (decide (xss = yss))) ∧ Below w.heap.size w w' := by
  have hl := h1.outer.len
  have hl2 := h2.outer.len
  unfold maxLen at hl hl2
  have e1 : vs1.length = xss.length := by simpa using h1.len
  have e2 : vs2.length = yss.length := by simpa using h2.len
  obtain ⟨a1, c1, rfl, -, -, -⟩ := id h1.outer
  obtain ⟨a2, c2, rfl, -, -, -⟩ := id h2.outer
  rw [e1] at h1 hl ⊢
  rw [e2] at h2 hl2 ⊢
  clear e1 e2
  by_cases hlen : xss.length = yss.length
  · have hb : ((xss.length : Int) != yss.length) = false := by simp [hlen]
    have HL := Lib.hid hlen
    clear hlen
    go_enter Tryd.func96, Tryd.ntmps96
    go_wp2_with fail
    go_loopw [5] (fun i wr => ∃ k : Nat, k ≤ xss.length ∧ i = .int .i64 k ∧ xss.take k = yss.take k ∧ Below w.heap.size w wr) (fun i _ => xss.length - (intOf i).toNat)
    case atStart => exact ⟨0, Nat.zero_le _, rfl, rfl, Below.refl _ _⟩
    case round =>
      obtain ⟨k, hk, rfl, heq, hbel⟩ := hrel
      have HE := Lib.hid heq
      clear heq
      by_cases hlt : k < xss.length
      · have hlt2 : k < yss.length := by have := HL.out; omega
        obtain ⟨b, o, u, xs, rfl, hc, hu, -, HX⟩ := (h1.below hbel).intsAt hlt
        obtain ⟨b', o', u', ys, rfl, hc', hu', -, HY⟩ := (h2.below hbel).intsAt hlt2
        by_cases hxy : xs = ys
        · have hd : decide (xs = ys) = true := by simp [hxy]
          have HXY := Lib.hid hxy
          clear hxy
          go_wp2_with fail
          refine wp_region_ord [0, 1, 2, 4, 5, 6] [3, 7] [] [8, 9] (by kernel_rfl) (by kernel_rfl) (fun _ _ d _ _ h => by cases d <;> exact h) ?_
          simp only [pickOps, List.filterMap_cons, List.filterMap_nil, List.getElem?_cons_succ, List.getElem?_cons_zero]
          repeat quiet_step (fail)
          simp only [wpQuiet_nil_eq, wpSegs_nil_eq]
          go_wp2_with fail
          refine (eqS_any u u' xs ys wr.drew hu hu').mono ?_
          rintro e w1 ⟨rfl, hb1⟩
          rw [hd]
          go_wp2_with fail
          go_roundw
          case rel => exact ⟨k + 1, by omega, by go_num, by rw [take_snoc HX.out, take_snoc HY.out, HE.out, HXY.out], hbel.trans ((below_drew hb1).mono hbel.size)⟩
          case measure => simp [intOf]; omega
        · have hd : decide (xs = ys) = false := by simp [hxy]
          go_wp2_with fail
          refine wp_region_ord [0, 1, 2, 4, 5, 6] [3, 7] [] [8, 9] (by kernel_rfl) (by kernel_rfl) (fun _ _ d _ _ h => by cases d <;> exact h) ?_
          simp only [pickOps, List.filterMap_cons, List.filterMap_nil, List.getElem?_cons_succ, List.getElem?_cons_zero]
          repeat quiet_step (fail)
          simp only [wpQuiet_nil_eq, wpSegs_nil_eq]
          go_wp2_with fail
          refine (eqS_any u u' xs ys wr.drew hu hu').mono ?_
          rintro e w1 ⟨rfl, hb1⟩
          rw [hd]
          go_wp2_with fail
          go_ret
          refine ⟨ret_bool (by rw [Bool.eq_iff_iff]; simp; intro e; subst e; have h1 := HX.out; rw [HY.out] at h1; exact hxy (Option.some.inj h1).symm), hbel.trans ((below_drew hb1).mono hbel.size)⟩
      · go_wp2_with fail
        go_ret
        refine ⟨ret_bool (by rw [Bool.eq_iff_iff]; simp; have := HE.out; rwa [List.take_of_length_le (by omega), List.take_of_length_le (by have := HL.out; omega)] at this), hbel⟩
  · have hb : ((xss.length : Int) != yss.length) = true := by simp; omega
    go_enter Tryd.func96, Tryd.ntmps96
    go_wp2_with fail
    go_ret
    exact ⟨ret_bool (by rw [Bool.eq_iff_iff]; simp; intro e; subst e; exact hlen rfl), Below.refl _ _⟩

/-- Rows of these lengths, numbered on from k. -/
def number (k : Nat) : List Nat → List (List Int)
  | [] => []
  | n :: ns => from_ k n :: number (k + n) ns
theorem number_snoc (k : Nat) (ns : List Nat) (n : Nat) : number k (ns ++ [n]) = number k ns ++ [from_ (k + ns.sum) n] := by
  induction ns generalizing k with
  | nil => simp [number]
  | cons m ms ih => simp [number, ih, Nat.add_assoc]
@[simp] theorem number_length (k : Nat) (ns : List Nat) : (number k ns).length = ns.length := by
  induction ns generalizing k with
  | nil => rfl
  | cons m ms ih => simp [number, ih]
theorem number_at (k : Nat) (ns : List Nat) (j : Nat) (h : j < ns.length) : (number k ns)[j]? = some (from_ (k + (ns.take j).sum) (ns[j])) := by
  induction ns generalizing k j with
  | nil => simp at h
  | cons m ms ih =>
    cases j with
    | zero => simp [number]
    | succ j => simp [number, ih (k + m) j (by simpa using h), Nat.add_assoc]
theorem sum_take_succ (ns : List Nat) (j : Nat) (h : j < ns.length) : (ns.take (j + 1)).sum = (ns.take j).sum + ns[j] := by
  rw [List.take_succ_eq_append_getElem h, List.sum_append]; simp
theorem sum_take_le (ns : List Nat) (j : Nat) : (ns.take j).sum ≤ ns.sum := by
  have := List.sum_append (l₁ := ns.take j) (l₂ := ns.drop j)
  rw [List.take_append_drop] at this
  omega

set_option maxHeartbeats 400000 in
theorem markSS_any (v : Value) (vs : List Value) (css : List (List Value)) (base : Nat) (k : Nat) (w : World) (hk : k + (css.map List.length).sum ≤ 1000000000) (hn : css.length ≤ 1000000000) (h : OwnG w base 30 2 v vs css) :
    Calls Tryd.prog 107 #[v, .int .i64 k] w fun e w' => e = .returned (.int .i64 ((k + (css.map List.length).sum : Nat) : Int)) ∧
      OwnG w' base 30 2 v vs ((number k (css.map List.length)).map ints) ∧ Wrote w w' (fun b => ∃ u ∈ vs, u.ownBlock = some b) := by
  have hl := h.len
  obtain ⟨a, cap, rfl⟩ := owns_shape h.outer
  obtain ⟨ns, hns⟩ : ∃ ns, css.map List.length = ns := ⟨_, rfl⟩
  have hnl : ns.length = css.length := by rw [← hns]; simp
  rw [hns] at hk ⊢
  have HNS := Lib.hid hns
  clear hns
  rw [← hnl] at hn hl
  rw [hl] at h ⊢
  have HNL := Lib.hid hnl
  clear hnl
  have HVL := Lib.hid hl
  clear hl
  go_enter Tryd.func107, Tryd.ntmps107
  go_wp2_with fail
  go_loopw [1, 5] (fun q i wr => ∃ j : Nat, j ≤ ns.length ∧ i = .int .i64 j ∧ q = .int .i64 ((k + (ns.take j).sum : Nat) : Int) ∧
      OwnG wr base 30 2 (.slice a ns.length cap) vs ((number k (ns.take j)).map ints ++ css.drop j) ∧ Wrote w wr (fun b => ∃ u ∈ vs, u.ownBlock = some b)) (fun _ i _ => ns.length - (intOf i).toNat)
  case atStart => exact ⟨0, Nat.zero_le _, rfl, rfl, by simpa [number] using h, Wrote.refl _ _⟩
  case round =>
    obtain ⟨j, hj, rfl, rfl, hown, hw⟩ := hrel
    have hsl := sum_take_le ns j
    by_cases hlt : j < ns.length
    · obtain ⟨b, o, u, cs, rfl, hc, -, HU, HC⟩ := hown.rd.rowAt (k := j) (by have := HNL.out; simp; omega)
      have hcs : css[j]? = some cs := by
        have := HC.out
        have hlj : ((number k (ns.take j)).map ints).length = j := by simp; omega
        rw [List.getElem?_append_right (by omega), hlj] at this
        simpa using this
      have hnj : cs.length = ns[j] := by
        have h1 := HNS.out
        have : (css.map List.length)[j]? = some cs.length := by simp [hcs]
        rw [h1] at this
        simpa [hlt] using this.symm
      have hss := sum_take_succ ns j hlt
      have hsl2 := sum_take_le ns (j + 1)
      have hb2 : (k + (ns.take j).sum) + cs.length ≤ 1000000000 := by omega
      have HSS : Hid ((ns.take (j + 1)).sum = (ns.take j).sum + cs.length) := by rw [hnj]; exact hss
      have HNJ := Lib.hid hnj
      have HCS := Lib.hid hcs
      clear hss hsl2 hnj hcs hsl
      have hou := hown.rows j u cs HU.out HC.out
      go_wp2_with fail
      refine (markS_any u cs.length cs base (k + (ns.take j).sum) hb2 wr hou).mono ?_
      rintro e w1 ⟨rfl, ho1, hg1⟩
      go_wp2_with fail
      go_roundw
      case rel =>
        refine ⟨j + 1, by omega, by go_num, by rw [HSS.out]; go_num, ?_, hw.trans (Wrote.of_grown hg1) (fun b _ hb => ⟨u, List.mem_of_getElem? HU.out, hb⟩)⟩
        have := hown.write HU.out (cs := ints (from_ (k + (ns.take j).sum) cs.length)) (by simpa using ho1) hg1
        have e : (((number k (ns.take j)).map ints ++ css.drop j).set j (ints (from_ (k + (ns.take j).sum) cs.length))) = (number k (ns.take (j + 1))).map ints ++ css.drop (j + 1) := by
          have hlj : ((number k (ns.take j)).map ints).length = j := by simp; omega
          have hjc : j < css.length := by have := HNL.out; omega
          rw [List.set_append, if_neg (by omega), hlj, Nat.sub_self, List.drop_eq_getElem_cons hjc, List.set_cons_zero, List.take_succ_eq_append_getElem hlt, number_snoc, HNJ.out]
          simp
        rw [e] at this
        exact this
      case measure => simp [intOf]; omega
    · go_wp2_with fail
      go_ret
      have hje : j = ns.length := by omega
      subst hje
      rw [List.take_length] at hown ⊢
      rw [List.drop_of_length_le (by have := HNL.out; omega), List.append_nil] at hown
      exact ⟨rfl, hown, hw⟩

set_option maxHeartbeats 400000 in
theorem eqGraph_any (v1 v2 : Value) (vs1 vs2 : List Value) (xss yss : List (List Int)) (w : World) (h1 : RdG w v1 vs1 (xss.map ints)) (h2 : RdG w v2 vs2 (yss.map ints)) :
    Calls Tryd.prog 34 #[.agg #[v1], .agg #[v2]] w fun e w' => e = .returned (.bool (decide (xss = yss))) ∧ Below w.heap.size w w' := by
  obtain ⟨a1, c1, rfl, -, -, -⟩ := id h1.outer
  obtain ⟨a2, c2, rfl, -, -, -⟩ := id h2.outer
  have hbel : ∀ o1 o2, Below w.heap.size w ((w.alloc o1).alloc o2) := fun o1 o2 => ((Below.refl _ _).alloc (Nat.le_refl _) _).alloc (by simp) _
  go_enter Tryd.func34, Tryd.ntmps34
  go_wp2_with fail
  refine (eqSS_any _ _ vs1 vs2 xss yss _ (h1.below (hbel _ _)) (h2.below (hbel _ _))).mono ?_
  rintro e w1 ⟨rfl, hb1⟩
  have hb2 := (hbel _ _).trans (hb1.mono (hbel _ _).size)
  clear hb1
  by_cases hd : xss = yss
  · have hd' : decide (xss = yss) = true := by simp [hd]
    rw [hd']
    have HD := Lib.hid hd'
    clear hd hd'
    go_wp2_with fail
    go_ret
    exact ⟨by rw [HD.out]; rfl, hb2⟩
  · have hd' : decide (xss = yss) = false := by simp [hd]
    rw [hd']
    have HD := Lib.hid hd'
    clear hd hd'
    go_wp2_with fail
    go_ret
    exact ⟨by rw [HD.out]; rfl, hb2⟩

theorem markGraph_any (v : Value) (vs : List Value) (css : List (List Value)) (base : Nat) (k : Nat) (w : World) (hk : k + (css.map List.length).sum ≤ 1000000000) (hn : css.length ≤ 1000000000) (h : OwnG w base 30 2 v vs css) :
    Calls Tryd.prog 37 #[.agg #[v], .int .i64 k] w fun e w' => e = .returned (.int .i64 ((k + (css.map List.length).sum : Nat) : Int)) ∧
      OwnG w' base 30 2 v vs ((number k (css.map List.length)).map ints) ∧ Wrote w w' (fun b => ∃ u ∈ vs, u.ownBlock = some b) := by
  obtain ⟨a, cap, rfl⟩ := owns_shape h.outer
  go_enter Tryd.func37, Tryd.ntmps37
  go_wp2_with fail
  refine (markSS_any _ vs css base k _ hk hn (h.below ((Below.refl _ _).alloc (Nat.le_refl _) _))).mono ?_
  rintro e w1 ⟨rfl, h1, h2⟩
  go_wp2_with fail
  go_ret
  exact ⟨rfl, h1, ((Wrote.of_below ((Below.refl w.heap.size w).alloc (Nat.le_refl _) _)).mono (fun k hk hk' => (by omega : False).elim)).trans h2 (fun _ _ h => h)⟩

/-- How many numbers there are in rows. -/
def total (rows : List (List Int)) : Nat := (rows.map List.length).sum
theorem total_ints (rows : List (List Int)) : ((rows.map ints).map List.length).sum = total rows := by
  unfold total; rw [List.map_map]; congr 2; funext x; simp

/-- What 'mark' leaves in rows, from 1 on. -/
def marked (rows : List (List Int)) : List (List Int) := number 1 ((rows.map ints).map List.length)

theorem markGraph_1 (v : Value) (vs : List Value) (rows : List (List Int)) (base : Nat) (w : World) (hk : 1 + total rows ≤ 1000000000) (hn : rows.length ≤ 1000000000) (h : OwnG w base 30 2 v vs (rows.map ints)) :
    Calls Tryd.prog 37 #[.agg #[v], .int .i64 1] w fun e w' => e = .returned (.int .i64 (1 + (total rows : Int))) ∧
      OwnG w' base 30 2 v vs ((marked rows).map ints) ∧ Wrote w w' (fun b => ∃ u ∈ vs, u.ownBlock = some b) := by
  refine (markGraph_any v vs (rows.map ints) base 1 w (by rw [total_ints]; exact hk) (by simpa using hn) h).mono ?_
  rintro e w' ⟨rfl, h1, h2⟩
  exact ⟨by rw [total_ints]; exact ret_int (by simp), h1, h2⟩

theorem eqGraph_same (v1 v2 : Value) (vs1 vs2 : List Value) (rows : List (List Int)) (w : World) (h1 : RdG w v1 vs1 (rows.map ints)) (h2 : RdG w v2 vs2 (rows.map ints)) :
    Calls Tryd.prog 34 #[.agg #[v1], .agg #[v2]] w fun e w' => e = .returned (.bool true) ∧ Below w.heap.size w w' :=
  (eqGraph_any v1 v2 vs1 vs2 rows rows w h1 h2).mono fun _ _ ⟨he, hb⟩ => ⟨by rw [he]; exact ret_bool (by simp), hb⟩
end Go.Proofs.YtbhobmngnjfgfaaDoor
