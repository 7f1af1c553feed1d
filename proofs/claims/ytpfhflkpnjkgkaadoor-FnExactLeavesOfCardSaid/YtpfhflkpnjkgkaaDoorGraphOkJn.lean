import Derived.Test.YtpfhflkpnjkgkaaDoorOkayJn
/-
  'GraphOk' of the reference and of the program: each returns okB of the rows.
-/

namespace Go.Proofs.YtpfhflkpnjkgkaaDoor
open Go.RowKit

theorem not_ok_size {xss : List (List Int)} (h : ¬ (1 ≤ xss.length ∧ xss.length ≤ 16)) : okB xss = false := by
  unfold okB; rw [decide_eq_false_iff_not]; exact fun h' => h h'.1
theorem not_ok_row {xss : List (List Int)} {k : Nat} {xs : List Int} (hx : xss[k]? = some xs) (h : ¬ SetP xss.length xs ∨ (k : Int) ∈ xs) : okB xss = false := by
  unfold okB; rw [decide_eq_false_iff_not]
  intro h'
  have hk := (List.getElem?_eq_some_iff.1 hx).1
  have e : xss.getD k [] = xs := by simp [List.getD, hx]
  have := h'.2.1 k hk
  rw [e] at this
  rcases h with h | h
  · exact h this.1
  · exact this.2 h
theorem not_ok_back {xss : List (List Int)} {k m j : Nat} {xs ys : List Int} (hx : xss[k]? = some xs) (hj : xs[j]? = some (m : Int)) (hy : xss[m]? = some ys) (h : ¬ (k : Int) ∈ ys) : okB xss = false := by
  unfold okB; rw [decide_eq_false_iff_not]
  intro h'
  have hk := (List.getElem?_eq_some_iff.1 hx).1
  have e : xss.getD k [] = xs := by simp [List.getD, hx]
  have e2 : xss.getD m [] = ys := by simp [List.getD, hy]
  have := h'.2.2 k hk (m : Int) (by rw [e]; exact List.mem_of_getElem? hj)
  rw [Int.toNat_natCast, e2] at this
  exact h this

/-- The first k rows are sets without their own number. -/
def Rows1 (xss : List (List Int)) (k : Nat) : Prop := ∀ v, v < k → SetP xss.length (xss.getD v []) ∧ ¬ (v : Int) ∈ xss.getD v []
def Rows2 (xss : List (List Int)) (k : Nat) : Prop := ∀ v, v < k → ∀ u ∈ xss.getD v [], (v : Int) ∈ xss.getD u.toNat []
theorem Rows1.succ {xss : List (List Int)} {k : Nat} {xs : List Int} (h : Rows1 xss k) (hx : xss[k]? = some xs) (h1 : SetP xss.length xs) (h2 : ¬ (k : Int) ∈ xs) : Rows1 xss (k + 1) := by
  intro v hv
  by_cases e : v = k
  · subst e
    have e : xss.getD v [] = xs := by simp [List.getD, hx]
    rw [e]; exact ⟨h1, h2⟩
  · exact h v (by omega)
theorem Rows2.succ {xss : List (List Int)} {k : Nat} {xs : List Int} (h : Rows2 xss k) (hx : xss[k]? = some xs) (h1 : ∀ u ∈ xs, (k : Int) ∈ xss.getD u.toNat []) : Rows2 xss (k + 1) := by
  intro v hv
  by_cases e : v = k
  · subst e
    have e : xss.getD v [] = xs := by simp [List.getD, hx]
    rw [e]; exact h1
  · exact h v (by omega)
theorem Rows1.at {xss : List (List Int)} {k j : Nat} {xs : List Int} {x : Int} (h : Rows1 xss xss.length) (hx : xss[k]? = some xs) (hj : xs[j]? = some x) : ∃ m : Nat, x = m ∧ m < xss.length := by
  have hk := (List.getElem?_eq_some_iff.1 hx).1
  have e : xss.getD k [] = xs := by simp [List.getD, hx]
  have h1 := (h k hk).1
  rw [e] at h1
  have := h1.1 x (List.mem_of_getElem? hj)
  exact ⟨x.toNat, by omega, by omega⟩
theorem back_succ {xss : List (List Int)} {k m j : Nat} {xs ys : List Int} (hj : xs[j]? = some (m : Int)) (hy : xss[m]? = some ys) (h : ∀ u ∈ xs.take j, (k : Int) ∈ xss.getD u.toNat []) (h1 : (k : Int) ∈ ys) :
    ∀ u ∈ xs.take (j + 1), (k : Int) ∈ xss.getD u.toNat [] := by
  rw [take_snoc hj]
  intro u hu
  rcases List.mem_append.1 hu with hu | hu
  · exact h u hu
  · rw [List.mem_singleton.1 hu, Int.toNat_natCast]
    have e2 : xss.getD m [] = ys := by simp [List.getD, hy]
    rw [e2]; exact h1
theorem ok_of_rows {xss : List (List Int)} (h0 : 1 ≤ xss.length ∧ xss.length ≤ 16) (h1 : Rows1 xss xss.length) (h2 : Rows2 xss xss.length) : okB xss = true := by
  unfold okB; rw [decide_eq_true_eq]; exact ⟨h0, h1, h2⟩

set_option maxHeartbeats 2000000 in
theorem specOk (v : Value) (xss : List (List Int)) (w : World) (hr : RdSS v xss w) :
    Calls Tryd.prog 52 #[.agg #[v]] w fun e w' => e = .returned (.bool (okB xss)) ∧ Below w.heap.size w w' := by
  obtain ⟨vs, hG⟩ := hr.ex
  have hl := hG.outer.len
  unfold maxLen at hl
  have e1 : vs.length = xss.length := by simpa using hG.len
  obtain ⟨a, c, rfl, -, -, -⟩ := id hG.outer
  rw [e1] at hG hl ⊢
  clear e1 hr
  obtain ⟨B, hB⟩ : ∃ B, w.heap.size = B := ⟨_, rfl⟩
  have hb0 : Below B w (w.alloc (.cells #[.slice a xss.length c] 38)) := by subst hB; exact below_alloc' _ _
  have hV0 : VC 38 B #[.slice a xss.length c] (w.alloc (.cells #[.slice a xss.length c] 38)) := VC.new hB
  have hsz : (w.alloc (.cells #[.slice a xss.length c] 38)).heap.size = B + 1 := by simp [hB]
  have hc0 := hV0.cell
  go_enter Tryd.func52, Tryd.ntmps52
  go_wp2_with fail
  generalize w.alloc (.cells #[.slice a xss.length c] 38) = W at *
  refine (size_any a xss.length c W).mono ?_
  rintro e w1 ⟨rfl, hb1⟩
  have hV1 := hV0.upd (Upd.of_below hb1) (by omega)
  have hb01 := hb0.trans (hb1.mono (by omega))
  clear hc0 hV0 hb0 hb1
  have hc1 := hV1.cell
  by_cases hin : 1 ≤ xss.length ∧ xss.length ≤ 16
  case neg =>
    have hd := Lib.hid (l1In_is xss.length 1 16 false (by simp; omega) w1)
    have HF := Lib.hid (not_ok_size hin)
    clear hin
    go_wp2_with fail
    refine hd.out.mono ?_
    rintro e w' ⟨rfl, rfl⟩
    go_wp2_with fail
    go_ret
    exact ⟨ret_bool HF.out.symm, by rw [hB]; exact hb01⟩
  have hd := Lib.hid (l1In_is xss.length 1 16 true (by simp; omega) w1)
  go_wp2_with fail
  refine hd.out.mono ?_
  rintro e w' ⟨rfl, rfl⟩
  clear hd
  go_wp2_with fail
  go_loopw [4] (fun i wr => ∃ k : Nat, k ≤ xss.length ∧ i = .int .i64 k ∧ Hid (Rows1 xss k) ∧ VC 38 B #[.slice a xss.length c] wr ∧ Below B w wr) (fun i _ => xss.length - (intOf i).toNat)
  case atStart => exact ⟨0, Nat.zero_le _, rfl, Lib.hid (fun v hv => absurd hv (by omega)), hV1, hb01⟩
  case round =>
    clear hc1 hV1 hb01
    obtain ⟨k, hk, rfl, HR, hV, hb⟩ := hrel
    have hcV := hV.cell
    by_cases hlt : k < xss.length
    · have hGr := hG.below (hB.symm ▸ hb)
      obtain ⟨b, o, u, xs, rfl, hc, hu, -, HX⟩ := hGr.intsAt hlt
      by_cases hset : SetP xss.length xs
      case neg =>
        have hd : decide (SetP xss.length xs) = false := by simpa using hset
        have HF := Lib.hid (not_ok_row HX.out (.inl hset))
        have hsa := set_any u xs xss.length (by omega) wr hu
        rw [hd] at hsa
        have HSA := Lib.hid hsa
        clear hset hd hsa
        go_wp2_with fail
        refine HSA.out.mono ?_
        rintro e w2 ⟨rfl, hb2⟩
        go_wp2_with fail
        go_ret
        exact ⟨ret_bool HF.out.symm, by rw [hB]; exact hb.trans (hb2.mono (by have := hV.lt; omega))⟩
      have hd : decide (SetP xss.length xs) = true := by simpa using hset
      have hsa := set_any u xs xss.length (by omega) wr hu
      rw [hd] at hsa
      have HSA := Lib.hid hsa
      have HSET := Lib.hid hset
      clear hset hd hsa
      go_wp2_with fail
      refine HSA.out.mono ?_
      rintro e w2 ⟨rfl, hb2⟩
      have hV2 := hV.upd (Upd.of_below hb2) (by omega)
      have hc2 : w2.cell? ⟨b, o + k, none⟩ = some u := (hb2.cell (p := ⟨b, o + k, none⟩) (block_lt hc)).trans hc
      have hu2 := Row.below hu hb2
      have hbw2 := hb.trans (hb2.mono (by have := hV.lt; omega))
      clear hcV hc hu hb2 hV hb HSA
      have hcV := hV2.cell
      by_cases hin2 : (k : Int) ∈ xs
      · have hd : xs.contains (k : Int) = true := by simpa using hin2
        have HF := Lib.hid (not_ok_row HX.out (.inr hin2))
        have hha := has_any u xs k w2 hu2
        rw [hd] at hha
        have HHA := Lib.hid hha
        clear hin2 hd hha
        go_wp2_with fail
        refine HHA.out.mono ?_
        rintro e w3 ⟨rfl, rfl⟩
        go_wp2_with fail
        go_ret
        exact ⟨ret_bool HF.out.symm, by rw [hB]; exact hbw2⟩
      · have hd : xs.contains (k : Int) = false := by simpa using hin2
        have HR1 := Lib.hid (HR.out.succ HX.out HSET.out hin2)
        have hha := has_any u xs k w2 hu2
        rw [hd] at hha
        have HHA := Lib.hid hha
        clear hin2 hd hha
        go_wp2_with fail
        refine HHA.out.mono ?_
        rintro e w3 ⟨rfl, rfl⟩
        go_wp2_with fail
        go_roundw
        case rel => exact ⟨k + 1, by omega, by go_num, HR1, hV2, hbw2⟩
        case measure => simp [intOf]; omega
    · obtain rfl : k = xss.length := by omega
      have HR1 := HR
      go_wp2_with fail
      go_loopw [5] (fun i wr => ∃ k : Nat, k ≤ xss.length ∧ i = .int .i64 k ∧ Hid (Rows2 xss k) ∧ VC 38 B #[.slice a xss.length c] wr ∧ Below B w wr) (fun i _ => xss.length - (intOf i).toNat)
      case atStart => exact ⟨0, Nat.zero_le _, rfl, Lib.hid (fun v hv => absurd hv (by omega)), hV, hb⟩
      case round =>
        clear hcV hV hb
        obtain ⟨k, hk, rfl, HR2, hV, hb⟩ := hrel
        have hcV := hV.cell
        by_cases hlt : k < xss.length
        · have hGr := hG.below (hB.symm ▸ hb)
          obtain ⟨b, o, u, xs, rfl, hc, hu, -, HX⟩ := hGr.intsAt hlt
          have hxl := hu.len
          unfold maxLen at hxl
          obtain ⟨ua, uc, rfl, -, -, -⟩ := id hu
          clear hGr
          go_wp2_with fail
          go_loopw [6] (fun i wr => ∃ j : Nat, j ≤ xs.length ∧ i = .int .i64 j ∧ Hid (∀ u ∈ xs.take j, (k : Int) ∈ xss.getD u.toNat []) ∧ VC 38 B #[.slice (some ⟨b, o, none⟩) xss.length c] wr ∧ Below B w wr) (fun i _ => xs.length - (intOf i).toNat)
          case atStart => exact ⟨0, Nat.zero_le _, rfl, Lib.hid (by simp), hV, hb⟩
          case round =>
            clear hcV hV hb hc hu
            obtain ⟨j, hj, rfl, HJ, hV, hb⟩ := hrel
            have hcV := hV.cell
            have hGr := hG.below (hB.symm ▸ hb)
            obtain ⟨b1, o1, u1, xs1, e1, hc, hu, -, HX1⟩ := hGr.intsAt hlt
            obtain ⟨rfl, rfl⟩ : b = b1 ∧ o = o1 := by simpa using e1
            obtain rfl : xs = xs1 := by have h1 := HX.out; rw [HX1.out] at h1; exact (Option.some.inj h1).symm
            obtain ⟨ua, uc, rfl, -, -, -⟩ := id hu
            by_cases hjt : j < xs.length
            · obtain ⟨ub, uo, x, rfl, hcx, HJX⟩ := hu.intAt hjt
              obtain ⟨m, rfl, hm⟩ := Rows1.at HR1.out HX.out HJX.out
              obtain ⟨b2, o2, u2, ys, e2, hcy, hy, -, HY⟩ := hGr.intsAt hm
              obtain ⟨rfl, rfl⟩ : b = b2 ∧ o = o2 := by simpa using e2
              have hhd := has_any u2 ys (k : Int) wr.drew hy
              by_cases hin2 : (k : Int) ∈ ys
              · have hd : ys.contains (k : Int) = true := by simpa using hin2
                have HJ1 := Lib.hid (back_succ HJX.out HY.out HJ.out hin2)
                rw [hd] at hhd
                have HHA := Lib.hid hhd
                clear hin2 hd hhd e1 e2
                go_wp2_with fail
                refine wp_region_ord [0, 2, 4, 7, 12] [1, 3, 5, 6, 8, 9, 10, 11] [] [13, 14] (by kernel_rfl) (by kernel_rfl) (fun _ _ d _ _ h => by cases d <;> exact h) ?_
                simp only [pickOps, List.filterMap_cons, List.filterMap_nil, List.getElem?_cons_succ, List.getElem?_cons_zero]
                repeat quiet_step (fail)
                simp only [wpQuiet_nil_eq, wpSegs_nil_eq]
                go_wp2_with fail
                refine HHA.out.mono ?_
                rintro e w3 ⟨rfl, rfl⟩
                go_wp2_with fail
                go_roundw
                case rel => exact ⟨j + 1, by omega, by go_num, HJ1, hV, hb.drew⟩
                case measure => simp [intOf]; omega
              · have hd : ys.contains (k : Int) = false := by simpa using hin2
                have HF := Lib.hid (not_ok_back HX.out HJX.out HY.out hin2)
                rw [hd] at hhd
                have HHA := Lib.hid hhd
                clear hin2 hd hhd e1 e2
                go_wp2_with fail
                refine wp_region_ord [0, 2, 4, 7, 12] [1, 3, 5, 6, 8, 9, 10, 11] [] [13, 14] (by kernel_rfl) (by kernel_rfl) (fun _ _ d _ _ h => by cases d <;> exact h) ?_
                simp only [pickOps, List.filterMap_cons, List.filterMap_nil, List.getElem?_cons_succ, List.getElem?_cons_zero]
                repeat quiet_step (fail)
                simp only [wpQuiet_nil_eq, wpSegs_nil_eq]
                go_wp2_with fail
                refine HHA.out.mono ?_
                rintro e w3 ⟨rfl, rfl⟩
                go_wp2_with fail
                go_ret
                exact ⟨ret_bool HF.out.symm, by rw [hB]; exact hb.drew⟩
            · obtain rfl : j = xs.length := by omega
              have HR3 := Lib.hid (HR2.out.succ HX.out (by have := HJ.out; rwa [List.take_length] at this))
              go_wp2_with fail
              go_roundw
              case rel => exact ⟨k + 1, by omega, by go_num, HR3, hV, hb⟩
              case measure => simp [intOf]; omega
        · obtain rfl : k = xss.length := by omega
          have HT := Lib.hid (ok_of_rows hin HR1.out HR2.out)
          go_wp2_with fail
          go_ret
          exact ⟨ret_bool HT.out.symm, by rw [hB]; exact hb⟩

theorem contI_is (v : Value) (xs : List Int) (x : Int) (b : Bool) (h : xs.contains x = b) (w : World) (hr : Row w 1 v xs.length (ints xs)) :
    Calls Tryd.prog 67 #[v, .int .i64 x] w fun e w' => e = .returned (.bool b) ∧ w = w' := by
  subst h; exact contI_any v xs x w hr
theorem incr_is (v : Value) (xs : List Int) (n : Nat) (hn : n ≤ 1000000) (b : Bool) (h : decide (SetP n xs) = b) (w : World) (hr : Row w 1 v xs.length (ints xs)) :
    Calls Tryd.prog 66 #[v, .int .i64 n] w fun e w' => e = .returned (.bool b) ∧ w = w' := by
  subst h; exact incr_any v xs n hn w hr

set_option maxHeartbeats 2000000 in
theorem implOk (v : Value) (xss : List (List Int)) (w : World) (hr : RdSS v xss w) :
    Calls Tryd.prog 56 #[.agg #[v]] w fun e w' => e = .returned (.bool (okB xss)) ∧ Below w.heap.size w w' := by
  obtain ⟨vs, hG⟩ := hr.ex
  have hl := hG.outer.len
  unfold maxLen at hl
  have e1 : vs.length = xss.length := by simpa using hG.len
  obtain ⟨a, c, rfl, -, -, -⟩ := id hG.outer
  rw [e1] at hG hl ⊢
  clear e1 hr
  obtain ⟨B, hB⟩ : ∃ B, w.heap.size = B := ⟨_, rfl⟩
  have hb0 : Below B w (w.alloc (.cells #[.slice a xss.length c] 38)) := by subst hB; exact below_alloc' _ _
  have hV0 : VC 38 B #[.slice a xss.length c] (w.alloc (.cells #[.slice a xss.length c] 38)) := VC.new hB
  have hGr := hG.below (hB.symm ▸ hb0)
  have hc0 := hV0.cell
  by_cases hin : 1 ≤ xss.length ∧ xss.length ≤ 16
  case neg =>
    have HF := Lib.hid (not_ok_size hin)
    have HB := Lib.hid hb0
    by_cases h1 : xss.length < 1
    all_goals
      go_enter Tryd.func56, Tryd.ntmps56
      go_wp2_with fail
      go_ret
      exact ⟨ret_bool HF.out.symm, by have h := HB.out; first | exact h | (rw [hB]; exact h)⟩
  go_enter Tryd.func56, Tryd.ntmps56
  go_wp2_with fail
  generalize w.alloc (.cells #[.slice a xss.length c] 38) = W at *
  go_loopw [22] (fun i wr => ∃ k : Nat, k ≤ xss.length ∧ i = .int .i64 k ∧ Hid (Rows1 xss k) ∧ W = wr) (fun i _ => xss.length - (intOf i).toNat)
  case atStart => exact ⟨0, Nat.zero_le _, rfl, Lib.hid (fun v hv => absurd hv (by omega)), rfl⟩
  case round =>
    obtain ⟨k, hk, rfl, HR, rfl⟩ := hrel
    by_cases hlt : k < xss.length
    · obtain ⟨b, o, u, xs, rfl, hc, hu, -, HX⟩ := hGr.intsAt hlt
      by_cases hset : SetP xss.length xs
      case neg =>
        have HF := Lib.hid (not_ok_row HX.out (.inl hset))
        have HSA := Lib.hid (incr_is u xs xss.length (by omega) false (by simpa using hset) W hu)
        clear hset
        go_wp2_with fail
        refine HSA.out.mono ?_
        rintro e w2 ⟨rfl, rfl⟩
        go_wp2_with fail
        go_ret
        exact ⟨ret_bool HF.out.symm, by rw [hB]; exact hb0⟩
      have HSA := Lib.hid (incr_is u xs xss.length (by omega) true (by simpa using hset) W hu)
      have HSET := Lib.hid hset
      clear hset
      go_wp2_with fail
      refine HSA.out.mono ?_
      rintro e w2 ⟨rfl, rfl⟩
      by_cases hin2 : (k : Int) ∈ xs
      · have HF := Lib.hid (not_ok_row HX.out (.inr hin2))
        have HHA := Lib.hid (contI_is u xs k true (by simpa using hin2) W hu)
        clear hin2
        go_wp2_with fail
        refine HHA.out.mono ?_
        rintro e w3 ⟨rfl, rfl⟩
        go_wp2_with fail
        go_ret
        exact ⟨ret_bool HF.out.symm, by rw [hB]; exact hb0⟩
      · have HR1 := Lib.hid (HR.out.succ HX.out HSET.out hin2)
        have HHA := Lib.hid (contI_is u xs k false (by simpa using hin2) W hu)
        clear hin2
        go_wp2_with fail
        refine HHA.out.mono ?_
        rintro e w3 ⟨rfl, rfl⟩
        go_wp2_with fail
        go_roundw
        case rel => exact ⟨k + 1, by omega, by go_num, HR1, by trivial⟩
        case measure => simp [intOf]; omega
    · obtain rfl : k = xss.length := by omega
      have HR1 := HR
      go_wp2_with fail
      go_loopw [40] (fun i wr => ∃ k : Nat, k ≤ xss.length ∧ i = .int .i64 k ∧ Hid (Rows2 xss k) ∧ W = wr) (fun i _ => xss.length - (intOf i).toNat)
      case atStart => exact ⟨0, Nat.zero_le _, rfl, Lib.hid (fun v hv => absurd hv (by omega)), rfl⟩
      case round =>
        obtain ⟨k, hk, rfl, HR2, rfl⟩ := hrel
        by_cases hlt : k < xss.length
        · obtain ⟨b, o, u, xs, rfl, hc, hu, -, HX⟩ := hGr.intsAt hlt
          have hxl := hu.len
          unfold maxLen at hxl
          obtain ⟨ua, uc, rfl, -, -, -⟩ := id hu
          go_wp2_with fail
          go_loopw [47] (fun i wr => ∃ j : Nat, j ≤ xs.length ∧ i = .int .i64 j ∧ Hid (∀ u ∈ xs.take j, (k : Int) ∈ xss.getD u.toNat []) ∧ W = wr) (fun i _ => xs.length - (intOf i).toNat)
          case atStart => exact ⟨0, Nat.zero_le _, rfl, Lib.hid (by simp), rfl⟩
          case round =>
            obtain ⟨j, hj, rfl, HJ, rfl⟩ := hrel
            by_cases hjt : j < xs.length
            · obtain ⟨ub, uo, x, rfl, hcx, HJX⟩ := hu.intAt hjt
              obtain ⟨m, rfl, hm⟩ := Rows1.at HR1.out HX.out HJX.out
              obtain ⟨b2, o2, u2, ys, e2, hcy, hy, -, HY⟩ := hGr.intsAt hm
              obtain ⟨rfl, rfl⟩ : b = b2 ∧ o = o2 := by simpa using e2
              by_cases hin2 : (k : Int) ∈ ys
              · have HJ1 := Lib.hid (back_succ HJX.out HY.out HJ.out hin2)
                have HHA := Lib.hid (contI_is u2 ys k true (by simpa using hin2) W hy)
                clear hin2 e2
                go_wp2_with fail
                refine HHA.out.mono ?_
                rintro e w3 ⟨rfl, rfl⟩
                go_wp2_with fail
                go_roundw
                case rel => exact ⟨j + 1, by omega, by go_num, HJ1, by trivial⟩
                case measure => simp [intOf]; omega
              · have HF := Lib.hid (not_ok_back HX.out HJX.out HY.out hin2)
                have HHA := Lib.hid (contI_is u2 ys k false (by simpa using hin2) W hy)
                clear hin2 e2
                go_wp2_with fail
                refine HHA.out.mono ?_
                rintro e w3 ⟨rfl, rfl⟩
                go_wp2_with fail
                go_ret
                exact ⟨ret_bool HF.out.symm, by rw [hB]; exact hb0⟩
            · obtain rfl : j = xs.length := by omega
              have HR3 := Lib.hid (HR2.out.succ HX.out (by have := HJ.out; rwa [List.take_length] at this))
              go_wp2_with fail
              go_roundw
              case rel => exact ⟨k + 1, by omega, by go_num, HR3, by trivial⟩
              case measure => simp [intOf]; omega
        · obtain rfl : k = xss.length := by omega
          have HT := Lib.hid (ok_of_rows hin HR1.out HR2.out)
          go_wp2_with fail
          go_ret
          exact ⟨ret_bool HT.out.symm, by rw [hB]; exact hb0⟩
end Go.Proofs.YtpfhflkpnjkgkaaDoor
