import Derived.Deep.QuietTactic
import Derived.BigQuiet
import Derived.IntWalk
import Derived.Test.YtpfhflkpnjkgkaaDoorGq03
import Derived.Test.YtpfhflkpnjkgkaaDoorGq04
import Derived.Test.YtpfhflkpnjkgkaaDoorGq05
/-
  'l1Set', 'GraphOk' of the reference; 'increasing', slices.Contains over int64, 'GraphOk' of the program: each says whether a graph is valid.
-/






namespace Go.Proofs.YtpfhflkpnjkgkaaDoor
open Go.RowKit

theorem quiet_eq {P : Program} {f : FuncId} {args : Array Value} {w : World} {n : Nat} {v : Value}
    (h : Calls P f args (w.drewN n) fun e w' => e = .returned v ∧ w.drewN n = w') : Calls P f args (w.drewN n) fun e w'' => e = .returned v ∧ ∃ m, w'' = w.drewN m :=
  h.mono fun _ _ ⟨he, hm⟩ => ⟨he, n, hm.symm⟩
theorem l1In_is (n lo hi : Int) (b : Bool) (h : decide (lo ≤ n ∧ n ≤ hi) = b) (w : World) :
    Calls Tryd.prog 22 #[.int .i64 n, .int .i64 lo, .int .i64 hi] w fun e w' => e = .returned (.bool b) ∧ w = w' := by
  subst h; exact l1In_any n lo hi w
theorem inRange_is (n lo hi : Int) (b : Bool) (h : decide (lo ≤ n ∧ n ≤ hi) = b) (w : World) :
    Calls Tryd.prog 26 #[.int .i64 n, .int .i64 lo, .int .i64 hi] w fun e w' => e = .returned (.bool b) ∧ w = w' := by
  subst h; exact inRange_any n lo hi w

theorem below_drewN' (w : World) (q : Nat) : Below w.heap.size w (w.drewN q) := ⟨rfl, rfl, rfl, Nat.le_refl _, fun _ _ => rfl⟩

theorem not_set_at {n : Nat} {xs : List Int} {k : Nat} {x : Int} (hx : xs[k]? = some x) (h : ¬ (0 ≤ x ∧ x < (n : Int)) ∨ ∃ y, 0 < k ∧ xs[k - 1]? = some y ∧ ¬ y < x) : ¬ SetP n xs := by
  rintro ⟨h1, h2⟩
  rcases h with h | ⟨y, hk, hy, hn⟩
  · exact h (h1 x (List.mem_of_getElem? hx))
  · obtain ⟨hk1, rfl⟩ := List.getElem?_eq_some_iff.1 hx
    obtain ⟨hk2, rfl⟩ := List.getElem?_eq_some_iff.1 hy
    exact hn (List.pairwise_iff_getElem.1 h2 (k - 1) k hk2 hk1 (by omega))

set_option maxHeartbeats 1000000 in
theorem set_any (v : Value) (xs : List Int) (n : Nat) (hn : n ≤ 1000000) (w : World) (hr : Row w 1 v xs.length (ints xs)) :
    Calls Tryd.prog 63 #[v, .int .i64 n] w fun e w' => e = .returned (.bool (decide (SetP n xs))) ∧ Below w.heap.size w w' := by
  have hl := hr.len
  unfold maxLen at hl
  obtain ⟨a, c, rfl, -, -, -⟩ := id hr
  by_cases hlen : n < xs.length
  · have hd : decide (SetP n xs) = false := by simp; intro h; have := h.length; omega
    rw [hd]
    clear hd
    go_enter Tryd.func63, Tryd.ntmps63
    go_wp2_with fail
    go_ret
    exact ⟨rfl, Below.refl _ _⟩
  · go_enter Tryd.func63, Tryd.ntmps63
    go_wp2_with fail
    go_loopw [5] (fun i wr => ∃ k : Nat, k ≤ xs.length ∧ i = .int .i64 k ∧ Hid (SetP n (xs.take k)) ∧ Below w.heap.size w wr) (fun i _ => xs.length - (intOf i).toNat)
    case atStart => exact ⟨0, Nat.zero_le _, rfl, Lib.hid (setP_nil n), Below.refl _ _⟩
    case round =>
      obtain ⟨k, hk, rfl, HS, hb⟩ := hrel
      by_cases hlt : k < xs.length
      · obtain ⟨b, o, x, rfl, hc, HX⟩ := (hr.below hb).intAt hlt
        have hs1 : IntKind.i64.wrap ((n : Int) - 1) = (n : Int) - 1 := IntWalk.i64_in _ (by omega)
        by_cases hin : 0 ≤ x ∧ x < (n : Int)
        · have hin1 := hin
          have hin2 := Lib.hid (l1In_is x 0 ((n : Int) - 1) true (by simp; omega))
          clear hin
          by_cases hk0 : k = 0
          · subst hk0
            simp only [Nat.add_zero] at hc
            have HS1 : Hid (SetP n (xs.take 1)) := Lib.hid ((setP_snoc HX.out HS.out).2 ⟨hin1, fun y h => absurd h (by omega)⟩)
            go_wp2_with fail
            refine wp_region_quiet_lit (by kernel_rfl) (by kernel_rfl) ?_
            repeat (first | go_big_quiet_step ((go_at_call 22; with_reducible exact quiet_eq (hin2.out _))) | quiet_step ((go_at_call 22; with_reducible exact quiet_eq (hin2.out _))))
            refine wpQuiet_nil ?_
            intro _ hw'
            obtain ⟨nq, hw''⟩ := hw'
            subst hw''
            go_wp2_with fail
            go_roundw
            case rel => exact ⟨1, by omega, by go_num, HS1, hb.trans ((below_drewN' _ _).mono hb.size)⟩
            case measure => simp [intOf]; omega
          · obtain ⟨b', o', y, e', hc', HY⟩ := (hr.below hb).intAt (j := k - 1) (by omega)
            obtain ⟨rfl, rfl⟩ : b = b' ∧ o = o' := by simpa using e'
            have hk1 : IntKind.i64.wrap ((k : Int) - 1) = (k : Int) - 1 := IntWalk.i64_in _ (by omega)
            have hk2 : ((k : Int) - 1).toNat = k - 1 := by omega
            have hk3 : 0 < k := by omega
            have hk4 : (0 : Int) ≤ (k : Int) - 1 := by omega
            by_cases hxy : y < x
            · have HS1 : Hid (SetP n (xs.take (k + 1))) := Lib.hid ((setP_snoc HX.out HS.out).2 ⟨hin1, fun z h hz => by rw [HY.out] at hz; have := Option.some.inj hz; omega⟩)
              have hd : decide (x ≤ y) = false := by simp; omega
              go_wp2_with fail
              refine wp_region_quiet_lit (by kernel_rfl) (by kernel_rfl) ?_
              repeat (first | go_big_quiet_step ((go_at_call 22; with_reducible exact quiet_eq (hin2.out _))) | quiet_step ((go_at_call 22; with_reducible exact quiet_eq (hin2.out _))))
              refine wpQuiet_nil ?_
              intro _ hw'
              obtain ⟨nq, hw''⟩ := hw'
              subst hw''
              go_wp2_with fail
              clear hk1 hk2 hs1
              go_roundw
              case rel => exact ⟨k + 1, by omega, by go_num, HS1, hb.trans ((below_drewN' _ _).mono hb.size)⟩
              case measure => simp [intOf]; omega
            · have hd : decide (x ≤ y) = true := by simp; omega
              have HF : Hid (decide (SetP n xs) = false) := Lib.hid (by simp only [decide_eq_false_iff_not]; exact not_set_at HX.out (.inr ⟨y, hk3, HY.out, hxy⟩))
              go_wp2_with fail
              refine wp_region_quiet_lit (by kernel_rfl) (by kernel_rfl) ?_
              repeat (first | go_big_quiet_step ((go_at_call 22; with_reducible exact quiet_eq (hin2.out _))) | quiet_step ((go_at_call 22; with_reducible exact quiet_eq (hin2.out _))))
              refine wpQuiet_nil ?_
              intro _ hw'
              obtain ⟨nq, hw''⟩ := hw'
              subst hw''
              go_wp2_with fail
              go_ret
              exact ⟨ret_bool HF.out.symm, hb.trans ((below_drewN' _ _).mono hb.size)⟩
        · have hin2 := Lib.hid (l1In_is x 0 ((n : Int) - 1) false (by simp; omega))
          have HF : Hid (decide (SetP n xs) = false) := Lib.hid (by simp only [decide_eq_false_iff_not]; exact not_set_at HX.out (.inl hin))
          clear hin
          go_wp2_with fail
          refine wp_region_quiet_lit (by kernel_rfl) (by kernel_rfl) ?_
          repeat (first | go_big_quiet_step ((go_at_call 22; with_reducible exact quiet_eq (hin2.out _))) | quiet_step ((go_at_call 22; with_reducible exact quiet_eq (hin2.out _))))
          refine wpQuiet_nil ?_
          intro _ hw'
          obtain ⟨nq, hw''⟩ := hw'
          subst hw''
          go_wp2_with fail
          go_ret
          exact ⟨ret_bool HF.out.symm, hb.trans ((below_drewN' _ _).mono hb.size)⟩
      · obtain rfl : k = xs.length := by omega
        have HT : Hid (decide (SetP n xs) = true) := Lib.hid (by have := HS.out; rw [List.take_length] at this; simpa using this)
        go_wp2_with fail
        go_ret
        exact ⟨ret_bool HT.out.symm, hb⟩

set_option maxHeartbeats 1000000 in
theorem incr_any (v : Value) (xs : List Int) (n : Nat) (hn : n ≤ 1000000) (w : World) (hr : Row w 1 v xs.length (ints xs)) :
    Calls Tryd.prog 66 #[v, .int .i64 n] w fun e w' => e = .returned (.bool (decide (SetP n xs))) ∧ w = w' := by
  have hl := hr.len
  unfold maxLen at hl
  obtain ⟨a, c, rfl, -, -, -⟩ := id hr
  go_enter Tryd.func66, Tryd.ntmps66
  go_wp2_with fail
  go_loopw [9] (fun i wr => ∃ k : Nat, k ≤ xs.length ∧ i = .int .i64 k ∧ Hid (SetP n (xs.take k)) ∧ w = wr) (fun i _ => xs.length - (intOf i).toNat)
  case atStart => exact ⟨0, Nat.zero_le _, rfl, Lib.hid (setP_nil n), rfl⟩
  case round =>
    obtain ⟨k, hk, rfl, HS, rfl⟩ := hrel
    by_cases hlt : k < xs.length
    · obtain ⟨b, o, x, rfl, hc, HX⟩ := hr.intAt hlt
      by_cases hin : 0 ≤ x ∧ x < (n : Int)
      · have hin1 := hin
        have hin2 := Lib.hid (inRange_is x 0 ((n : Int) - 1) true (by simp; omega))
        clear hin
        by_cases hk0 : k = 0
        · subst hk0
          simp only [Nat.add_zero] at hc
          have HS1 : Hid (SetP n (xs.take 1)) := Lib.hid ((setP_snoc HX.out HS.out).2 ⟨hin1, fun y h => absurd h (by omega)⟩)
          go_wp2_with fail
          refine (hin2.out _).mono ?_
          rintro e w' ⟨rfl, rfl⟩
          go_wp2_with fail
          go_roundw
          case rel => exact ⟨1, by omega, by go_num, HS1, by trivial⟩
          case measure => simp [intOf]; omega
        · obtain ⟨b', o', y, e', hc', HY⟩ := hr.intAt (j := k - 1) (by omega)
          obtain ⟨rfl, rfl⟩ : b = b' ∧ o = o' := by simpa using e'
          have hk3 : 0 < k := by omega
          by_cases hxy : y < x
          · have HS1 : Hid (SetP n (xs.take (k + 1))) := Lib.hid ((setP_snoc HX.out HS.out).2 ⟨hin1, fun z h hz => by rw [HY.out] at hz; have := Option.some.inj hz; omega⟩)
            go_wp2_with fail
            refine (hin2.out _).mono ?_
            rintro e w' ⟨rfl, rfl⟩
            have hk2 : ((k : Int) - 1).toNat = k - 1 := by omega
            go_wp2_with fail
            clear hk2
            go_roundw
            case rel => exact ⟨k + 1, by omega, by go_num, HS1, by trivial⟩
            case measure => simp [intOf]; omega
          · have HF : Hid (decide (SetP n xs) = false) := Lib.hid (by simp only [decide_eq_false_iff_not]; exact not_set_at HX.out (.inr ⟨y, hk3, HY.out, hxy⟩))
            go_wp2_with fail
            refine (hin2.out _).mono ?_
            rintro e w' ⟨rfl, rfl⟩
            have hk2 : ((k : Int) - 1).toNat = k - 1 := by omega
            go_wp2_with fail
            go_ret
            exact ⟨ret_bool HF.out.symm, rfl⟩
      · have hin2 := Lib.hid (inRange_is x 0 ((n : Int) - 1) false (by simp; omega))
        have HF : Hid (decide (SetP n xs) = false) := Lib.hid (by simp only [decide_eq_false_iff_not]; exact not_set_at HX.out (.inl hin))
        clear hin
        go_wp2_with fail
        refine (hin2.out _).mono ?_
        rintro e w' ⟨rfl, rfl⟩
        go_wp2_with fail
        go_ret
        exact ⟨ret_bool HF.out.symm, rfl⟩
    · obtain rfl : k = xs.length := by omega
      have HT : Hid (decide (SetP n xs) = true) := Lib.hid (by have := HS.out; rw [List.take_length] at this; simpa using this)
      go_wp2_with fail
      go_ret
      exact ⟨ret_bool HT.out.symm, rfl⟩

/-- slices.Contains over int64. -/
theorem idxI_any (v : Value) (xs : List Int) (x : Int) (w : World) (hr : Row w 1 v xs.length (ints xs)) :
    Calls Tryd.prog 70 #[v, .int .i64 x] w fun e w' => ∃ r, e = .returned (.int .i64 r) ∧ decide (0 ≤ r) = xs.contains x ∧ r ≤ 9223372036854775807 ∧ w = w' := by
  have hl := hr.len
  unfold maxLen at hl
  obtain ⟨a, c, rfl, -, -, -⟩ := id hr
  go_enter Tryd.func70, Tryd.ntmps70
  go_wp2_with fail
  go_loopw [8] (fun i wr => ∃ k : Nat, k ≤ xs.length ∧ i = .int .i64 k ∧ Hid ((xs.take k).contains x = false) ∧ w = wr) (fun i _ => xs.length - (intOf i).toNat)
  case atStart => exact ⟨0, Nat.zero_le _, rfl, Lib.hid (by simp), rfl⟩
  case round =>
    obtain ⟨k, hk, rfl, HN, rfl⟩ := hrel
    by_cases hlt : k < xs.length
    · obtain ⟨b, o, y, rfl, hc, HY⟩ := hr.intAt hlt
      by_cases hxy : x = y
      · have hd : (x == y) = true := by simpa using hxy
        have HXY := Lib.hid hxy
        clear hxy
        go_wp2_with fail
        go_ret
        have hin : xs.contains x = true := by
          have h1 := List.mem_of_getElem? HY.out
          rw [← HXY.out] at h1
          simpa using h1
        exact ⟨_, rfl, by rw [hin]; simp, by omega, rfl⟩
      · have hd : (x == y) = false := by simpa using hxy
        have hd2 : (y == x) = false := by simp; exact fun e => hxy e.symm
        have HN1 : Hid ((xs.take (k + 1)).contains x = false) := Lib.hid (by rw [contains_snoc xs k x y HY.out HN.out, hd2])
        clear hd2
        go_wp2_with fail
        go_roundw
        case rel => exact ⟨k + 1, by omega, by go_num, HN1, by trivial⟩
        case measure => simp [intOf]; omega
    · go_wp2_with fail
      go_ret
      have hin : xs.contains x = false := by
        have h1 := HN.out
        rwa [show k = xs.length by omega, List.take_length] at h1
      exact ⟨_, rfl, by rw [hin]; simp, by omega, rfl⟩
theorem contI_any (v : Value) (xs : List Int) (x : Int) (w : World) (hr : Row w 1 v xs.length (ints xs)) :
    Calls Tryd.prog 67 #[v, .int .i64 x] w fun e w' => e = .returned (.bool (xs.contains x)) ∧ w = w' := by
  obtain ⟨a, c, rfl, -, -, -⟩ := id hr
  go_enter Tryd.func67, Tryd.ntmps67
  go_wp2_with fail
  refine (idxI_any _ xs x _ hr).mono ?_
  rintro e w' ⟨r, rfl, hd, -, rfl⟩
  have HD := Lib.hid hd
  clear hd
  go_wp2_with fail
  go_ret
  exact ⟨ret_bool HD.out, rfl⟩
end Go.Proofs.YtpfhflkpnjkgkaaDoor
/-
  'GraphOk' of the reference and of the program: each returns okB of the rows.
-/

namespace Go.Proofs.YtpfhflkpnjkgkaaDoor
open Go.RowKit

theorem not_ok_size {xss : List (List Int)} (h : ¬ (1 ≤ xss.length ∧ xss.length ≤ 16)) : okB xss = false := by
  unfold okB; rw [decide_eq_false_iff_not]; exact fun h' => h h'.1
theorem not_ok_row {xss : List (List Int)} {k : Nat} {xs : List Int} (hx : xss[k]? = some xs) (h : ¬ SetP xss.length xs ∨ (k : Int) ∈ xs) : okB xss = false := by
  unfold okB; rw [decide_eq_false_iff_not]
  intro h'
  have hk := (List.getElem?_eq_some_iff.1 hx).1
  have e : xss.getD k [] = xs := by simp [List.getD, hx]
  have := h'.2.1 k hk
  rw [e] at this
  rcases h with h | h
  · exact h this.1
  · exact this.2 h
theorem not_ok_back {xss : List (List Int)} {k m j : Nat} {xs ys : List Int} (hx : xss[k]? = some xs) (hj : xs[j]? = some (m : Int)) (hy : xss[m]? = some ys) (h : ¬ (k : Int) ∈ ys) : okB xss = false := by
  unfold okB; rw [decide_eq_false_iff_not]
  intro h'
  have hk := (List.getElem?_eq_some_iff.1 hx).1
  have e : xss.getD k [] = xs := by simp [List.getD, hx]
  have e2 : xss.getD m [] = ys := by simp [List.getD, hy]
  have := h'.2.2 k hk (m : Int) (by rw [e]; exact List.mem_of_getElem? hj)
  rw [Int.toNat_natCast, e2] at this
  exact h this

/-- The first k rows are sets without their own number. -/
def Rows1 (xss : List (List Int)) (k : Nat) : Prop := ∀ v, v < k → SetP xss.length (xss.getD v []) ∧ ¬ (v : Int) ∈ xss.getD v []
def Rows2 (xss : List (List Int)) (k : Nat) : Prop := ∀ v, v < k → ∀ u ∈ xss.getD v [], (v : Int) ∈ xss.getD u.toNat []
theorem Rows1.succ {xss : List (List Int)} {k : Nat} {xs : List Int} (h : Rows1 xss k) (hx : xss[k]? = some xs) (h1 : SetP xss.length xs) (h2 : ¬ (k : Int) ∈ xs) : Rows1 xss (k + 1) := by
  intro v hv
  by_cases e : v = k
  · subst e
    have e : xss.getD v [] = xs := by simp [List.getD, hx]
    rw [e]; exact ⟨h1, h2⟩
  · exact h v (by omega)
theorem Rows2.succ {xss : List (List Int)} {k : Nat} {xs : List Int} (h : Rows2 xss k) (hx : xss[k]? = some xs) (h1 : ∀ u ∈ xs, (k : Int) ∈ xss.getD u.toNat []) : Rows2 xss (k + 1) := by
  intro v hv
  by_cases e : v = k
  · subst e
    have e : xss.getD v [] = xs := by simp [List.getD, hx]
    rw [e]; exact h1
  · exact h v (by omega)
theorem Rows1.at {xss : List (List Int)} {k j : Nat} {xs : List Int} {x : Int} (h : Rows1 xss xss.length) (hx : xss[k]? = some xs) (hj : xs[j]? = some x) : ∃ m : Nat, x = m ∧ m < xss.length := by
  have hk := (List.getElem?_eq_some_iff.1 hx).1
  have e : xss.getD k [] = xs := by simp [List.getD, hx]
  have h1 := (h k hk).1
  rw [e] at h1
  have := h1.1 x (List.mem_of_getElem? hj)
  exact ⟨x.toNat, by omega, by omega⟩
theorem back_succ {xss : List (List Int)} {k m j : Nat} {xs ys : List Int} (hj : xs[j]? = some (m : Int)) (hy : xss[m]? = some ys) (h : ∀ u ∈ xs.take j, (k : Int) ∈ xss.getD u.toNat []) (h1 : (k : Int) ∈ ys) :
    ∀ u ∈ xs.take (j + 1), (k : Int) ∈ xss.getD u.toNat [] := by
  rw [take_snoc hj]
  intro u hu
  rcases List.mem_append.1 hu with hu | hu
  · exact h u hu
  · rw [List.mem_singleton.1 hu, Int.toNat_natCast]
    have e2 : xss.getD m [] = ys := by simp [List.getD, hy]
    rw [e2]; exact h1
theorem ok_of_rows {xss : List (List Int)} (h0 : 1 ≤ xss.length ∧ xss.length ≤ 16) (h1 : Rows1 xss xss.length) (h2 : Rows2 xss xss.length) : okB xss = true := by
  unfold okB; rw [decide_eq_true_eq]; exact ⟨h0, h1, h2⟩

set_option maxHeartbeats 2000000 in
theorem specOk (v : Value) (xss : List (List Int)) (w : World) (hr : RdSS v xss w) :
    Calls Tryd.prog 52 #[.agg #[v]] w fun e w' => e = .returned (.bool (okB xss)) ∧ Below w.heap.size w w' := by
  obtain ⟨vs, hG⟩ := hr.ex
  have hl := hG.outer.len
  unfold maxLen at hl
  have e1 : vs.length = xss.length := by simpa using hG.len
  obtain ⟨a, c, rfl, -, -, -⟩ := id hG.outer
  rw [e1] at hG hl ⊢
  clear e1 hr
  obtain ⟨B, hB⟩ : ∃ B, w.heap.size = B := ⟨_, rfl⟩
  have hb0 : Below B w (w.alloc (.cells #[.slice a xss.length c] 38)) := by subst hB; exact below_alloc' _ _
  have hV0 : VC 38 B #[.slice a xss.length c] (w.alloc (.cells #[.slice a xss.length c] 38)) := VC.new hB
  have hsz : (w.alloc (.cells #[.slice a xss.length c] 38)).heap.size = B + 1 := by simp [hB]
  have hc0 := hV0.cell
  go_enter Tryd.func52, Tryd.ntmps52
  go_wp2_with fail
  generalize w.alloc (.cells #[.slice a xss.length c] 38) = W at *
  refine (size_any a xss.length c W).mono ?_
  rintro e w1 ⟨rfl, hb1⟩
  have hV1 := hV0.upd (Upd.of_below hb1) (by omega)
  have hb01 := hb0.trans (hb1.mono (by omega))
  clear hc0 hV0 hb0 hb1
  have hc1 := hV1.cell
  by_cases hin : 1 ≤ xss.length ∧ xss.length ≤ 16
  case neg =>
    have hd := Lib.hid (l1In_is xss.length 1 16 false (by simp; omega) w1)
    have HF := Lib.hid (not_ok_size hin)
    clear hin
    go_wp2_with fail
    refine hd.out.mono ?_
    rintro e w' ⟨rfl, rfl⟩
    go_wp2_with fail
    go_ret
    exact ⟨ret_bool HF.out.symm, by rw [hB]; exact hb01⟩
  have hd := Lib.hid (l1In_is xss.length 1 16 true (by simp; omega) w1)
  go_wp2_with fail
  refine hd.out.mono ?_
  rintro e w' ⟨rfl, rfl⟩
  clear hd
  go_wp2_with fail
  go_loopw [4] (fun i wr => ∃ k : Nat, k ≤ xss.length ∧ i = .int .i64 k ∧ Hid (Rows1 xss k) ∧ VC 38 B #[.slice a xss.length c] wr ∧ Below B w wr) (fun i _ => xss.length - (intOf i).toNat)
  case atStart => exact ⟨0, Nat.zero_le _, rfl, Lib.hid (fun v hv => absurd hv (by omega)), hV1, hb01⟩
  case round =>
    clear hc1 hV1 hb01
    obtain ⟨k, hk, rfl, HR, hV, hb⟩ := hrel
    have hcV := hV.cell
    by_cases hlt : k < xss.length
    · have hGr := hG.below (hB.symm ▸ hb)
      obtain ⟨b, o, u, xs, rfl, hc, hu, -, HX⟩ := hGr.intsAt hlt
      by_cases hset : SetP xss.length xs
      case neg =>
        have hd : decide (SetP xss.length xs) = false := by simpa using hset
        have HF := Lib.hid (not_ok_row HX.out (.inl hset))
        have hsa := set_any u xs xss.length (by omega) wr hu
        rw [hd] at hsa
        have HSA := Lib.hid hsa
        clear hset hd hsa
        go_wp2_with fail
        refine HSA.out.mono ?_
        rintro e w2 ⟨rfl, hb2⟩
        go_wp2_with fail
        go_ret
        exact ⟨ret_bool HF.out.symm, by rw [hB]; exact hb.trans (hb2.mono (by have := hV.lt; omega))⟩
      have hd : decide (SetP xss.length xs) = true := by simpa using hset
      have hsa := set_any u xs xss.length (by omega) wr hu
      rw [hd] at hsa
      have HSA := Lib.hid hsa
      have HSET := Lib.hid hset
      clear hset hd hsa
      go_wp2_with fail
      refine HSA.out.mono ?_
      rintro e w2 ⟨rfl, hb2⟩
      have hV2 := hV.upd (Upd.of_below hb2) (by omega)
      have hc2 : w2.cell? ⟨b, o + k, none⟩ = some u := (hb2.cell (p := ⟨b, o + k, none⟩) (block_lt hc)).trans hc
      have hu2 := Row.below hu hb2
      have hbw2 := hb.trans (hb2.mono (by have := hV.lt; omega))
      clear hcV hc hu hb2 hV hb HSA
      have hcV := hV2.cell
      by_cases hin2 : (k : Int) ∈ xs
      · have hd : xs.contains (k : Int) = true := by simpa using hin2
        have HF := Lib.hid (not_ok_row HX.out (.inr hin2))
        have hha := has_any u xs k w2 hu2
        rw [hd] at hha
        have HHA := Lib.hid hha
        clear hin2 hd hha
        go_wp2_with fail
        refine HHA.out.mono ?_
        rintro e w3 ⟨rfl, rfl⟩
        go_wp2_with fail
        go_ret
        exact ⟨ret_bool HF.out.symm, by rw [hB]; exact hbw2⟩
      · have hd : xs.contains (k : Int) = false := by simpa using hin2
        have HR1 := Lib.hid (HR.out.succ HX.out HSET.out hin2)
        have hha := has_any u xs k w2 hu2
        rw [hd] at hha
        have HHA := Lib.hid hha
        clear hin2 hd hha
        go_wp2_with fail
        refine HHA.out.mono ?_
        rintro e w3 ⟨rfl, rfl⟩
        go_wp2_with fail
        go_roundw
        case rel => exact ⟨k + 1, by omega, by go_num, HR1, hV2, hbw2⟩
        case measure => simp [intOf]; omega
    · obtain rfl : k = xss.length := by omega
      have HR1 := HR
      go_wp2_with fail
      go_loopw [5] (fun i wr => ∃ k : Nat, k ≤ xss.length ∧ i = .int .i64 k ∧ Hid (Rows2 xss k) ∧ VC 38 B #[.slice a xss.length c] wr ∧ Below B w wr) (fun i _ => xss.length - (intOf i).toNat)
      case atStart => exact ⟨0, Nat.zero_le _, rfl, Lib.hid (fun v hv => absurd hv (by omega)), hV, hb⟩
      case round =>
        clear hcV hV hb
        obtain ⟨k, hk, rfl, HR2, hV, hb⟩ := hrel
        have hcV := hV.cell
        by_cases hlt : k < xss.length
        · have hGr := hG.below (hB.symm ▸ hb)
          obtain ⟨b, o, u, xs, rfl, hc, hu, -, HX⟩ := hGr.intsAt hlt
          have hxl := hu.len
          unfold maxLen at hxl
          obtain ⟨ua, uc, rfl, -, -, -⟩ := id hu
          clear hGr
          go_wp2_with fail
          go_loopw [6] (fun i wr => ∃ j : Nat, j ≤ xs.length ∧ i = .int .i64 j ∧ Hid (∀ u ∈ xs.take j, (k : Int) ∈ xss.getD u.toNat []) ∧ VC 38 B #[.slice (some ⟨b, o, none⟩) xss.length c] wr ∧ Below B w wr) (fun i _ => xs.length - (intOf i).toNat)
          case atStart => exact ⟨0, Nat.zero_le _, rfl, Lib.hid (by simp), hV, hb⟩
          case round =>
            clear hcV hV hb hc hu
            obtain ⟨j, hj, rfl, HJ, hV, hb⟩ := hrel
            have hcV := hV.cell
            have hGr := hG.below (hB.symm ▸ hb)
            obtain ⟨b1, o1, u1, xs1, e1, hc, hu, -, HX1⟩ := hGr.intsAt hlt
            obtain ⟨rfl, rfl⟩ : b = b1 ∧ o = o1 := by simpa using e1
            obtain rfl : xs = xs1 := by have h1 := HX.out; rw [HX1.out] at h1; exact (Option.some.inj h1).symm
            obtain ⟨ua, uc, rfl, -, -, -⟩ := id hu
            by_cases hjt : j < xs.length
            · obtain ⟨ub, uo, x, rfl, hcx, HJX⟩ := hu.intAt hjt
              obtain ⟨m, rfl, hm⟩ := Rows1.at HR1.out HX.out HJX.out
              obtain ⟨b2, o2, u2, ys, e2, hcy, hy, -, HY⟩ := hGr.intsAt hm
              obtain ⟨rfl, rfl⟩ : b = b2 ∧ o = o2 := by simpa using e2
              have hhd := has_any u2 ys (k : Int) wr.drew hy
              by_cases hin2 : (k : Int) ∈ ys
              · have hd : ys.contains (k : Int) = true := by simpa using hin2
                have HJ1 := Lib.hid (back_succ HJX.out HY.out HJ.out hin2)
                rw [hd] at hhd
                have HHA := Lib.hid hhd
                clear hin2 hd hhd e1 e2
                go_wp2_with fail
                refine wp_region_ord [0, 2, 4, 7, 12] [1, 3, 5, 6, 8, 9, 10, 11] [] [13, 14] (by kernel_rfl) (by kernel_rfl) (fun _ _ d _ _ h => by cases d <;> exact h) ?_
                simp only [pickOps, List.filterMap_cons, List.filterMap_nil, List.getElem?_cons_succ, List.getElem?_cons_zero]
                repeat quiet_step (fail)
                simp only [wpQuiet_nil_eq, wpSegs_nil_eq]
                go_wp2_with fail
                refine HHA.out.mono ?_
                rintro e w3 ⟨rfl, rfl⟩
                go_wp2_with fail
                go_roundw
                case rel => exact ⟨j + 1, by omega, by go_num, HJ1, hV, hb.drew⟩
                case measure => simp [intOf]; omega
              · have hd : ys.contains (k : Int) = false := by simpa using hin2
                have HF := Lib.hid (not_ok_back HX.out HJX.out HY.out hin2)
                rw [hd] at hhd
                have HHA := Lib.hid hhd
                clear hin2 hd hhd e1 e2
                go_wp2_with fail
                refine wp_region_ord [0, 2, 4, 7, 12] [1, 3, 5, 6, 8, 9, 10, 11] [] [13, 14] (by kernel_rfl) (by kernel_rfl) (fun _ _ d _ _ h => by cases d <;> exact h) ?_
                simp only [pickOps, List.filterMap_cons, List.filterMap_nil, List.getElem?_cons_succ, List.getElem?_cons_zero]
                repeat quiet_step (fail)
                simp only [wpQuiet_nil_eq, wpSegs_nil_eq]
                go_wp2_with fail
                refine HHA.out.mono ?_
                rintro e w3 ⟨rfl, rfl⟩
                go_wp2_with fail
                go_ret
                exact ⟨ret_bool HF.out.symm, by rw [hB]; exact hb.drew⟩
            · obtain rfl : j = xs.length := by omega
              have HR3 := Lib.hid (HR2.out.succ HX.out (by have := HJ.out; rwa [List.take_length] at this))
              go_wp2_with fail
              go_roundw
              case rel => exact ⟨k + 1, by omega, by go_num, HR3, hV, hb⟩
              case measure => simp [intOf]; omega
        · obtain rfl : k = xss.length := by omega
          have HT := Lib.hid (ok_of_rows hin HR1.out HR2.out)
          go_wp2_with fail
          go_ret
          exact ⟨ret_bool HT.out.symm, by rw [hB]; exact hb⟩

theorem contI_is (v : Value) (xs : List Int) (x : Int) (b : Bool) (h : xs.contains x = b) (w : World) (hr : Row w 1 v xs.length (ints xs)) :
    Calls Tryd.prog 67 #[v, .int .i64 x] w fun e w' => e = .returned (.bool b) ∧ w = w' := by
  subst h; exact contI_any v xs x w hr
theorem incr_is (v : Value) (xs : List Int) (n : Nat) (hn : n ≤ 1000000) (b : Bool) (h : decide (SetP n xs) = b) (w : World) (hr : Row w 1 v xs.length (ints xs)) :
    Calls Tryd.prog 66 #[v, .int .i64 n] w fun e w' => e = .returned (.bool b) ∧ w = w' := by
  subst h; exact incr_any v xs n hn w hr

set_option maxHeartbeats 2000000 in
theorem implOk (v : Value) (xss : List (List Int)) (w : World) (hr : RdSS v xss w) :
    Calls Tryd.prog 56 #[.agg #[v]] w fun e w' => e = .returned (.bool (okB xss)) ∧ Below w.heap.size w w' := by
  obtain ⟨vs, hG⟩ := hr.ex
  have hl := hG.outer.len
  unfold maxLen at hl
  have e1 : vs.length = xss.length := by simpa using hG.len
  obtain ⟨a, c, rfl, -, -, -⟩ := id hG.outer
  rw [e1] at hG hl ⊢
  clear e1 hr
  obtain ⟨B, hB⟩ : ∃ B, w.heap.size = B := ⟨_, rfl⟩
  have hb0 : Below B w (w.alloc (.cells #[.slice a xss.length c] 38)) := by subst hB; exact below_alloc' _ _
  have hV0 : VC 38 B #[.slice a xss.length c] (w.alloc (.cells #[.slice a xss.length c] 38)) := VC.new hB
  have hGr := hG.below (hB.symm ▸ hb0)
  have hc0 := hV0.cell
  by_cases hin : 1 ≤ xss.length ∧ xss.length ≤ 16
  case neg =>
    have HF := Lib.hid (not_ok_size hin)
    have HB := Lib.hid hb0
    by_cases h1 : xss.length < 1
    all_goals
      go_enter Tryd.func56, Tryd.ntmps56
      go_wp2_with fail
      go_ret
      exact ⟨ret_bool HF.out.symm, by have h := HB.out; first | exact h | (rw [hB]; exact h)⟩
  go_enter Tryd.func56, Tryd.ntmps56
  go_wp2_with fail
  generalize w.alloc (.cells #[.slice a xss.length c] 38) = W at *
  go_loopw [22] (fun i wr => ∃ k : Nat, k ≤ xss.length ∧ i = .int .i64 k ∧ Hid (Rows1 xss k) ∧ W = wr) (fun i _ => xss.length - (intOf i).toNat)
  case atStart => exact ⟨0, Nat.zero_le _, rfl, Lib.hid (fun v hv => absurd hv (by omega)), rfl⟩
  case round =>
    obtain ⟨k, hk, rfl, HR, rfl⟩ := hrel
    by_cases hlt : k < xss.length
    · obtain ⟨b, o, u, xs, rfl, hc, hu, -, HX⟩ := hGr.intsAt hlt
      by_cases hset : SetP xss.length xs
      case neg =>
        have HF := Lib.hid (not_ok_row HX.out (.inl hset))
        have HSA := Lib.hid (incr_is u xs xss.length (by omega) false (by simpa using hset) W hu)
        clear hset
        go_wp2_with fail
        refine HSA.out.mono ?_
        rintro e w2 ⟨rfl, rfl⟩
        go_wp2_with fail
        go_ret
        exact ⟨ret_bool HF.out.symm, by rw [hB]; exact hb0⟩
      have HSA := Lib.hid (incr_is u xs xss.length (by omega) true (by simpa using hset) W hu)
      have HSET := Lib.hid hset
      clear hset
      go_wp2_with fail
      refine HSA.out.mono ?_
      rintro e w2 ⟨rfl, rfl⟩
      by_cases hin2 : (k : Int) ∈ xs
      · have HF := Lib.hid (not_ok_row HX.out (.inr hin2))
        have HHA := Lib.hid (contI_is u xs k true (by simpa using hin2) W hu)
        clear hin2
        go_wp2_with fail
        refine HHA.out.mono ?_
        rintro e w3 ⟨rfl, rfl⟩
        go_wp2_with fail
        go_ret
        exact ⟨ret_bool HF.out.symm, by rw [hB]; exact hb0⟩
      · have HR1 := Lib.hid (HR.out.succ HX.out HSET.out hin2)
        have HHA := Lib.hid (contI_is u xs k false (by simpa using hin2) W hu)
        clear hin2
        go_wp2_with fail
        refine HHA.out.mono ?_
        rintro e w3 ⟨rfl, rfl⟩
        go_wp2_with fail
        go_roundw
        case rel => exact ⟨k + 1, by omega, by go_num, HR1, by trivial⟩
        case measure => simp [intOf]; omega
    · obtain rfl : k = xss.length := by omega
      have HR1 := HR
      go_wp2_with fail
      go_loopw [40] (fun i wr => ∃ k : Nat, k ≤ xss.length ∧ i = .int .i64 k ∧ Hid (Rows2 xss k) ∧ W = wr) (fun i _ => xss.length - (intOf i).toNat)
      case atStart => exact ⟨0, Nat.zero_le _, rfl, Lib.hid (fun v hv => absurd hv (by omega)), rfl⟩
      case round =>
        obtain ⟨k, hk, rfl, HR2, rfl⟩ := hrel
        by_cases hlt : k < xss.length
        · obtain ⟨b, o, u, xs, rfl, hc, hu, -, HX⟩ := hGr.intsAt hlt
          have hxl := hu.len
          unfold maxLen at hxl
          obtain ⟨ua, uc, rfl, -, -, -⟩ := id hu
          go_wp2_with fail
          go_loopw [47] (fun i wr => ∃ j : Nat, j ≤ xs.length ∧ i = .int .i64 j ∧ Hid (∀ u ∈ xs.take j, (k : Int) ∈ xss.getD u.toNat []) ∧ W = wr) (fun i _ => xs.length - (intOf i).toNat)
          case atStart => exact ⟨0, Nat.zero_le _, rfl, Lib.hid (by simp), rfl⟩
          case round =>
            obtain ⟨j, hj, rfl, HJ, rfl⟩ := hrel
            by_cases hjt : j < xs.length
            · obtain ⟨ub, uo, x, rfl, hcx, HJX⟩ := hu.intAt hjt
              obtain ⟨m, rfl, hm⟩ := Rows1.at HR1.out HX.out HJX.out
              obtain ⟨b2, o2, u2, ys, e2, hcy, hy, -, HY⟩ := hGr.intsAt hm
              obtain ⟨rfl, rfl⟩ : b = b2 ∧ o = o2 := by simpa using e2
              by_cases hin2 : (k : Int) ∈ ys
              · have HJ1 := Lib.hid (back_succ HJX.out HY.out HJ.out hin2)
                have HHA := Lib.hid (contI_is u2 ys k true (by simpa using hin2) W hy)
                clear hin2 e2
                go_wp2_with fail
                refine HHA.out.mono ?_
                rintro e w3 ⟨rfl, rfl⟩
                go_wp2_with fail
                go_roundw
                case rel => exact ⟨j + 1, by omega, by go_num, HJ1, by trivial⟩
                case measure => simp [intOf]; omega
              · have HF := Lib.hid (not_ok_back HX.out HJX.out HY.out hin2)
                have HHA := Lib.hid (contI_is u2 ys k false (by simpa using hin2) W hy)
                clear hin2 e2
                go_wp2_with fail
                refine HHA.out.mono ?_
                rintro e w3 ⟨rfl, rfl⟩
                go_wp2_with fail
                go_ret
                exact ⟨ret_bool HF.out.symm, by rw [hB]; exact hb0⟩
            · obtain rfl : j = xs.length := by omega
              have HR3 := Lib.hid (HR2.out.succ HX.out (by have := HJ.out; rwa [List.take_length] at this))
              go_wp2_with fail
              go_roundw
              case rel => exact ⟨k + 1, by omega, by go_num, HR3, by trivial⟩
              case measure => simp [intOf]; omega
        · obtain rfl : k = xss.length := by omega
          have HT := Lib.hid (ok_of_rows hin HR1.out HR2.out)
          go_wp2_with fail
          go_ret
          exact ⟨ret_bool HT.out.symm, by rw [hB]; exact hb0⟩
end Go.Proofs.YtpfhflkpnjkgkaaDoor
/-
  Bundles for functions that build a graph: the reference's graph in a variable, the program's nets.
-/

namespace Go.Proofs.YtpfhflkpnjkgkaaDoor
open Go.RowKit

/-- Block b is a variable of type Graph that holds the slice v. -/
def GC (w : World) (b : Nat) (v : Value) : Prop := w.heap[b]? = some (.cells #[v] 38 (0, 0))
section
variable {w w' : World} {b : Nat} {v : Value}
theorem GC.lt (h : GC w b v) : b < w.heap.size := lt_of_block h
theorem GC.cell (h : GC w b v) : w.cell? ⟨b, 0, none⟩ = some v := cell_of_one h
theorem GC.free (h : GC w b v) : w.frozen? ⟨b, 0, none⟩ = false := free_of_one h
theorem GC.below (h : GC w b v) (hb : Below w.heap.size w w') : GC w' b v := (hb.block b h.lt).trans h
theorem GC.belowAt (h : GC w b v) {B : Nat} (hb : Below B w w') (hB : b < B) : GC w' b v := (hb.block b hB).trans h
theorem GC.set (h : GC w b v) (u : Value) : GC (w.setCell ⟨b, 0, none⟩ u) b u := one_setCell h
theorem GC.other (h : GC w b v) {p : Addr} (hp : b ≠ p.block) (u : Value) : GC (w.setCell p u) b v := (Below.heap_setCell _ _ _ _ hp).trans h
theorem GC.new (w : World) (v : Value) : GC (w.alloc (.cells #[v] 38)) w.heap.size v := heap_alloc_new w _
theorem GC.alloc (h : GC w b v) (o : Obj) : GC (w.alloc o) b v := (Below.heap_alloc _ _ _ h.lt).trans h
theorem GC.drew (h : GC w b v) : GC w.drew b v := h
theorem GC.wrote {S : Nat → Prop} (h : GC w b v) (hw : Wrote w w' S) (hS : ¬ S b) : GC w' b v := (hw.block b h.lt hS).trans h
/-- What is owned lies in no such variable. -/
theorem GC.unlike {base : Nat} {e : TypeId} {u : Value} {n : Nat} {cs : List Value} (h : GC w b v) (ho : w.ownsRow base e 1 u n cs) (he : 38 ≠ e) : u.ownBlock ≠ some b := fun e' => by
  obtain ⟨cur, hcur⟩ := owns_block ho e'
  unfold GC at h
  rw [h] at hcur
  simp at hcur
  exact he hcur.2
theorem GC.own {base : Nat} {u x : Value} {vs : List Value} {css : List (List Value)} (h : GC w b v) (hG : OwnG w base 24 2 u vs css) : OwnG (w.setCell ⟨b, 0, none⟩ x) base 24 2 u vs css :=
  hG.unlike_setCell (p := ⟨b, 0, none⟩) (c := #[v]) (t := 38) (fr := (0, 0)) h (by decide) (by decide) x
end

theorem below_alloc (w : World) (o : Obj) : Below w.heap.size w (w.alloc o) := (Below.refl _ _).alloc (Nat.le_refl _) _

/-- The reference builds a graph: B holds the result (nothing yet), C the graph, whose rows are the sets ms. -/
structure SG (w0 : World) (B C : Nat) (a : Option Addr) (n c : Nat) (vs : List Value) (ms : List Nat) (wr : World) : Prop where
  res : GC wr B (.slice none 0 0)
  var : GC wr C (.slice a n c)
  own : OwnG wr (B + 1) 24 2 (.slice a n c) vs ((rowsOf ms).map ints)
  bel : Below B w0 wr
  ord : B < C
  len : ms.length = n

theorem SG.start {w0 w1 : World} {B : Nat} {a : Option Addr} {n c : Nat} {vs : List Value} {ms : List Nat} (hR : GC w1 B (.slice none 0 0)) (hG : OwnG w1 (B + 1) 24 2 (.slice a n c) vs ((rowsOf ms).map ints)) (hb : Below B w0 w1) (hl : ms.length = n) :
    SG w0 B w1.heap.size a n c vs ms (w1.alloc (.cells #[.slice a n c] 38)) :=
  ⟨hR.alloc _, GC.new _ _, hG.below (below_alloc _ _), hb.alloc (by have := hR.lt; omega) _, hR.lt, hl⟩

theorem SG.store {w0 : World} {B C : Nat} {a : Option Addr} {n c : Nat} {vs : List Value} {ms : List Nat} {wr : World} (h : SG w0 B C a n c vs ms wr) : SG w0 B C a n c vs ms (wr.setCell ⟨C, 0, none⟩ (.slice a n c)) :=
  ⟨h.res.other (by have := h.ord; simp; omega) _, h.var.set _, h.var.own h.own, h.bel.setCell (by have := h.ord; simp; omega) _, h.ord, h.len⟩

theorem SG.below {w0 : World} {B C : Nat} {a : Option Addr} {n c : Nat} {vs : List Value} {ms : List Nat} {wr w' : World} (h : SG w0 B C a n c vs ms wr) (hb : Below wr.heap.size wr w') : SG w0 B C a n c vs ms w' :=
  ⟨h.res.below hb, h.var.below hb, h.own.below hb, h.bel.trans (hb.mono (by have := h.res.lt; omega)), h.ord, h.len⟩

theorem SG.done {w0 : World} {B C : Nat} {a : Option Addr} {n c : Nat} {vs : List Value} {ms : List Nat} {wr : World} (h : SG w0 B C a n c vs ms wr) (hB : w0.heap.size = B) (ok : Bool) :
    GRes w0 (rowsOf ms) ok (.returned (.tuple #[.agg #[.slice a n c], .bool ok])) (wr.setCell ⟨B, 0, none⟩ (.slice a n c)) :=
  ⟨_, vs, rfl, by rw [hB]; exact (h.res.own h.own).rebase (by omega), by rw [hB]; exact h.bel.setCell (by simp) _⟩

/-- No graph. -/
theorem GRes.nothing (w w' : World) (hb : Below w.heap.size w w') : GRes w [] false (.returned (.tuple #[.agg #[.slice none 0 0], .bool false])) w' :=
  ⟨_, [], rfl, OwnG.nil _ _ (by decide) (World.ownsRow_nil _ _ _ 1), hb⟩

/-- The program builds nets: v owns the sets ms. -/
structure NS (B : Nat) (w0 : World) (v : Value) (ms : List Nat) (wr : World) : Prop where
  own : wr.ownsRow B 54 1 v ms.length (sets ms)
  small : Small ms
  bel : Below B w0 wr

/-- The program's result: what 'graph' made, stored in the variable of the result. -/
theorem GRes.stored {w0 wr w' : World} {B : Nat} {r u : Value} {vs : List Value} {ms : List Nat} (hB : w0.heap.size = B) (hr : GC wr B r) (hb : Below B w0 wr) (hG : OwnG w' wr.heap.size 24 2 u vs ((rowsOf ms).map ints)) (hb' : Below wr.heap.size wr w') (ok : Bool) :
    GRes w0 (rowsOf ms) ok (.returned (.tuple #[.agg #[u], .bool ok])) (w'.setCell ⟨B, 0, none⟩ u) := by
  have h1 := hr.lt
  exact ⟨u, vs, rfl, by rw [hB]; exact ((hr.below hb').own hG).rebase (Nat.le_of_lt h1), by rw [hB]; exact (hb.trans (hb'.mono (Nat.le_of_lt h1))).setCell (Nat.le_refl _) _⟩
end Go.Proofs.YtpfhflkpnjkgkaaDoor
/-
  The program's sets of neighbours: 'maskOf', 'netsOf', 'all', 'complement', 'SetOk'; the reference's 'l1Edge', 'SetOk', 'l1CopyGraph', 'l2Other', 'l1All'.
-/


namespace Go.Proofs.YtpfhflkpnjkgkaaDoor
open Go.RowKit

theorem size_rd (v : Value) (xss : List (List Int)) (w : World) (hr : RdSS v xss w) :
    Calls Tryd.prog 32 #[.agg #[v]] w fun e w' => e = .returned (.int .i64 xss.length) ∧ Below w.heap.size w w' := by
  obtain ⟨a, c, rfl⟩ := hr.shape
  exact size_any a xss.length c w

/-- Nothing in what is owned but the outer row. -/
theorem rowB_all (n : Nat) : rowB n (fun _ => true) = (List.range n).map fun (i : Nat) => (i : Int) := by
  unfold rowB
  rw [List.filter_eq_self.2 (by simp)]

end Go.Proofs.YtpfhflkpnjkgkaaDoor
/-
  'l6Of', 'PathGraph', 'LoopGraph' of the reference; 'pathNets', 'PathGraph', 'LoopGraph' of the program.
-/

namespace Go.Proofs.YtpfhflkpnjkgkaaDoor
open Go.RowKit

/-- The nets of a path on n vertices, k of its edges laid. -/
def pathM (n k : Nat) : List Nat := (List.range k).foldl (fun ms v => joinS ms v (v + 1)) (List.replicate n 0)
theorem pathM_succ (n k : Nat) : pathM n (k + 1) = joinS (pathM n k) k (k + 1) := by simp [pathM, List.range_succ]
@[simp] theorem pathM_length (n k : Nat) : (pathM n k).length = n := by
  induction k with
  | zero => simp [pathM]
  | succ k ih => rw [pathM_succ, joinS_length, ih]

/-- A graph that a call made goes into a variable. -/
theorem SG.ofRes {w0 w1 : World} {B : Nat} {a : Option Addr} {n c : Nat} {vs : List Value} {ms : List Nat} {o : Obj} (hB : w0.heap.size = B) (hR : GC (w0.alloc o) B (.slice none 0 0))
    (hG : OwnG w1 (w0.alloc o).heap.size 24 2 (.slice a n c) vs ((rowsOf ms).map ints)) (hb : Below (w0.alloc o).heap.size (w0.alloc o) w1) (hl : ms.length = n) :
    SG w0 B w1.heap.size a n c vs ms (w1.alloc (.cells #[.slice a n c] 38)) :=
  SG.start (hR.below hb) (by simpa [hB] using hG) (by subst hB; exact (below_alloc _ _).trans (hb.mono (by simp))) hl

/-- 'make(nets, n)'. -/
theorem NS.made {w0 wa w1 : World} {B n : Nat} {v : Value} (h : w1.ownsRow B 54 1 v n (List.replicate n (.int .u32 0))) (hb : Below wa.heap.size wa w1) (hB : B ≤ wa.heap.size) (h0 : Below B w0 wa) : NS B w0 v (List.replicate n 0) w1 :=
  ⟨by rw [← sets_zeros]; simpa using h, small_zeros _, h0.trans (hb.mono hB)⟩

/-! ### LoopGraph -/
def loopM (n : Nat) : List Nat := joinS (pathM n (n - 1)) 0 (n - 1)
@[simp] theorem loopM_length (n : Nat) : (loopM n).length = n := by simp [loopM]

end Go.Proofs.YtpfhflkpnjkgkaaDoor
