import Derived.Deep.QuietTactic
import Derived.BigQuiet
import Derived.IntWalk
import Derived.Test.YtpfhflkpnjkgkaaDoorGq04
import Derived.Test.YtpfhflkpnjkgkaaDoorGq06
import Derived.Test.YtpfhflkpnjkgkaaDoorSpecBJn
/-
  'l1Set', 'GraphOk' of the reference; 'increasing', slices.Contains over int64, 'GraphOk' of the program: each says whether a graph is valid.
-/






namespace Go.Proofs.YtpfhflkpnjkgkaaDoor
open Go.RowKit

theorem quiet_eq {P : Program} {f : FuncId} {args : Array Value} {w : World} {n : Nat} {v : Value}
    (h : Calls P f args (w.drewN n) fun e w' => e = .returned v ∧ w.drewN n = w') : Calls P f args (w.drewN n) fun e w'' => e = .returned v ∧ ∃ m, w'' = w.drewN m :=
  h.mono fun _ _ ⟨he, hm⟩ => ⟨he, n, hm.symm⟩
theorem l1In_is (n lo hi : Int) (b : Bool) (h : decide (lo ≤ n ∧ n ≤ hi) = b) (w : World) :
    Calls Tryd.prog 22 #[.int .i64 n, .int .i64 lo, .int .i64 hi] w fun e w' => e = .returned (.bool b) ∧ w = w' := by
  subst h; exact l1In_any n lo hi w
theorem inRange_is (n lo hi : Int) (b : Bool) (h : decide (lo ≤ n ∧ n ≤ hi) = b) (w : World) :
    Calls Tryd.prog 26 #[.int .i64 n, .int .i64 lo, .int .i64 hi] w fun e w' => e = .returned (.bool b) ∧ w = w' := by
  subst h; exact inRange_any n lo hi w

theorem below_drewN' (w : World) (q : Nat) : Below w.heap.size w (w.drewN q) := ⟨rfl, rfl, rfl, Nat.le_refl _, fun _ _ => rfl⟩

theorem not_set_at {n : Nat} {xs : List Int} {k : Nat} {x : Int} (hx : xs[k]? = some x) (h : ¬ (0 ≤ x ∧ x < (n : Int)) ∨ ∃ y, 0 < k ∧ xs[k - 1]? = some y ∧ ¬ y < x) : ¬ SetP n xs := by
  rintro ⟨h1, h2⟩
  rcases h with h | ⟨y, hk, hy, hn⟩
  · exact h (h1 x (List.mem_of_getElem? hx))
  · obtain ⟨hk1, rfl⟩ := List.getElem?_eq_some_iff.1 hx
    obtain ⟨hk2, rfl⟩ := List.getElem?_eq_some_iff.1 hy
    exact hn (List.pairwise_iff_getElem.1 h2 (k - 1) k hk2 hk1 (by omega))

set_option maxHeartbeats 1000000 in
theorem set_any (v : Value) (xs : List Int) (n : Nat) (hn : n ≤ 1000000) (w : World) (hr : Row w 1 v xs.length (ints xs)) :
    Calls Tryd.prog 63 #[v, .int .i64 n] w fun e w' => e = .returned (.bool (decide (SetP n xs))) ∧ Below w.heap.size w w' := by
  have hl := hr.len
  unfold maxLen at hl
  obtain ⟨a, c, rfl, -, -, -⟩ := id hr
  by_cases hlen : n < xs.length
  · have hd : decide (SetP n xs) = false := by simp; intro h; have := h.length; omega
    rw [hd]
    clear hd
    go_enter Tryd.func63, Tryd.ntmps63
    go_wp2_with fail
    go_ret
    exact ⟨rfl, Below.refl _ _⟩
  · go_enter Tryd.func63, Tryd.ntmps63
    go_wp2_with fail
    go_loopw [5] (fun i wr => ∃ k : Nat, k ≤ xs.length ∧ i = .int .i64 k ∧ Hid (SetP n (xs.take k)) ∧ Below w.heap.size w wr) (fun i _ => xs.length - (intOf i).toNat)
    case atStart => exact ⟨0, Nat.zero_le _, rfl, Lib.hid (setP_nil n), Below.refl _ _⟩
    case round =>
      obtain ⟨k, hk, rfl, HS, hb⟩ := hrel
      by_cases hlt : k < xs.length
      · obtain ⟨b, o, x, rfl, hc, HX⟩ := (hr.below hb).intAt hlt
        have hs1 : IntKind.i64.wrap ((n : Int) - 1) = (n : Int) - 1 := IntWalk.i64_in _ (by omega)
        by_cases hin : 0 ≤ x ∧ x < (n : Int)
        · have hin1 := hin
          have hin2 := Lib.hid (l1In_is x 0 ((n : Int) - 1) true (by simp; omega))
          clear hin
          by_cases hk0 : k = 0
          · subst hk0
            simp only [Nat.add_zero] at hc
            have HS1 : Hid (SetP n (xs.take 1)) := Lib.hid ((setP_snoc HX.out HS.out).2 ⟨hin1, fun y h => absurd h (by omega)⟩)
            go_wp2_with fail
            refine wp_region_quiet_lit (by kernel_rfl) (by kernel_rfl) ?_
            repeat (first | go_big_quiet_step ((go_at_call 22; with_reducible exact quiet_eq (hin2.out _))) | quiet_step ((go_at_call 22; with_reducible exact quiet_eq (hin2.out _))))
            refine wpQuiet_nil ?_
            intro _ hw'
            obtain ⟨nq, hw''⟩ := hw'
            subst hw''
            go_wp2_with fail
            go_roundw
            case rel => exact ⟨1, by omega, by go_num, HS1, hb.trans ((below_drewN' _ _).mono hb.size)⟩
            case measure => simp [intOf]; omega
          · obtain ⟨b', o', y, e', hc', HY⟩ := (hr.below hb).intAt (j := k - 1) (by omega)
            obtain ⟨rfl, rfl⟩ : b = b' ∧ o = o' := by simpa using e'
            have hk1 : IntKind.i64.wrap ((k : Int) - 1) = (k : Int) - 1 := IntWalk.i64_in _ (by omega)
            have hk2 : ((k : Int) - 1).toNat = k - 1 := by omega
            have hk3 : 0 < k := by omega
            have hk4 : (0 : Int) ≤ (k : Int) - 1 := by omega
            by_cases hxy : y < x
            · have HS1 : Hid (SetP n (xs.take (k + 1))) := Lib.hid ((setP_snoc HX.out HS.out).2 ⟨hin1, fun z h hz => by rw [HY.out] at hz; have := Option.some.inj hz; omega⟩)
              have hd : decide (x ≤ y) = false := by simp; omega
              go_wp2_with fail
              refine wp_region_quiet_lit (by kernel_rfl) (by kernel_rfl) ?_
              repeat (first | go_big_quiet_step ((go_at_call 22; with_reducible exact quiet_eq (hin2.out _))) | quiet_step ((go_at_call 22; with_reducible exact quiet_eq (hin2.out _))))
              refine wpQuiet_nil ?_
              intro _ hw'
              obtain ⟨nq, hw''⟩ := hw'
              subst hw''
              go_wp2_with fail
              clear hk1 hk2 hs1
              go_roundw
              case rel => exact ⟨k + 1, by omega, by go_num, HS1, hb.trans ((below_drewN' _ _).mono hb.size)⟩
              case measure => simp [intOf]; omega
            · have hd : decide (x ≤ y) = true := by simp; omega
              have HF : Hid (decide (SetP n xs) = false) := Lib.hid (by simp only [decide_eq_false_iff_not]; exact not_set_at HX.out (.inr ⟨y, hk3, HY.out, hxy⟩))
              go_wp2_with fail
              refine wp_region_quiet_lit (by kernel_rfl) (by kernel_rfl) ?_
              repeat (first | go_big_quiet_step ((go_at_call 22; with_reducible exact quiet_eq (hin2.out _))) | quiet_step ((go_at_call 22; with_reducible exact quiet_eq (hin2.out _))))
              refine wpQuiet_nil ?_
              intro _ hw'
              obtain ⟨nq, hw''⟩ := hw'
              subst hw''
              go_wp2_with fail
              go_ret
              exact ⟨ret_bool HF.out.symm, hb.trans ((below_drewN' _ _).mono hb.size)⟩
        · have hin2 := Lib.hid (l1In_is x 0 ((n : Int) - 1) false (by simp; omega))
          have HF : Hid (decide (SetP n xs) = false) := Lib.hid (by simp only [decide_eq_false_iff_not]; exact not_set_at HX.out (.inl hin))
          clear hin
          go_wp2_with fail
          refine wp_region_quiet_lit (by kernel_rfl) (by kernel_rfl) ?_
          repeat (first | go_big_quiet_step ((go_at_call 22; with_reducible exact quiet_eq (hin2.out _))) | quiet_step ((go_at_call 22; with_reducible exact quiet_eq (hin2.out _))))
          refine wpQuiet_nil ?_
          intro _ hw'
          obtain ⟨nq, hw''⟩ := hw'
          subst hw''
          go_wp2_with fail
          go_ret
          exact ⟨ret_bool HF.out.symm, hb.trans ((below_drewN' _ _).mono hb.size)⟩
      · obtain rfl : k = xs.length := by omega
        have HT : Hid (decide (SetP n xs) = true) := Lib.hid (by have := HS.out; rw [List.take_length] at this; simpa using this)
        go_wp2_with fail
        go_ret
        exact ⟨ret_bool HT.out.symm, hb⟩

set_option maxHeartbeats 1000000 in
theorem incr_any (v : Value) (xs : List Int) (n : Nat) (hn : n ≤ 1000000) (w : World) (hr : Row w 1 v xs.length (ints xs)) :
    Calls Tryd.prog 66 #[v, .int .i64 n] w fun e w' => e = .returned (.bool (decide (SetP n xs))) ∧ w = w' := by
  have hl := hr.len
  unfold maxLen at hl
  obtain ⟨a, c, rfl, -, -, -⟩ := id hr
  go_enter Tryd.func66, Tryd.ntmps66
  go_wp2_with fail
  go_loopw [9] (fun i wr => ∃ k : Nat, k ≤ xs.length ∧ i = .int .i64 k ∧ Hid (SetP n (xs.take k)) ∧ w = wr) (fun i _ => xs.length - (intOf i).toNat)
  case atStart => exact ⟨0, Nat.zero_le _, rfl, Lib.hid (setP_nil n), rfl⟩
  case round =>
    obtain ⟨k, hk, rfl, HS, rfl⟩ := hrel
    by_cases hlt : k < xs.length
    · obtain ⟨b, o, x, rfl, hc, HX⟩ := hr.intAt hlt
      by_cases hin : 0 ≤ x ∧ x < (n : Int)
      · have hin1 := hin
        have hin2 := Lib.hid (inRange_is x 0 ((n : Int) - 1) true (by simp; omega))
        clear hin
        by_cases hk0 : k = 0
        · subst hk0
          simp only [Nat.add_zero] at hc
          have HS1 : Hid (SetP n (xs.take 1)) := Lib.hid ((setP_snoc HX.out HS.out).2 ⟨hin1, fun y h => absurd h (by omega)⟩)
          go_wp2_with fail
          refine (hin2.out _).mono ?_
          rintro e w' ⟨rfl, rfl⟩
          go_wp2_with fail
          go_roundw
          case rel => exact ⟨1, by omega, by go_num, HS1, by trivial⟩
          case measure => simp [intOf]; omega
        · obtain ⟨b', o', y, e', hc', HY⟩ := hr.intAt (j := k - 1) (by omega)
          obtain ⟨rfl, rfl⟩ : b = b' ∧ o = o' := by simpa using e'
          have hk3 : 0 < k := by omega
          by_cases hxy : y < x
          · have HS1 : Hid (SetP n (xs.take (k + 1))) := Lib.hid ((setP_snoc HX.out HS.out).2 ⟨hin1, fun z h hz => by rw [HY.out] at hz; have := Option.some.inj hz; omega⟩)
            go_wp2_with fail
            refine (hin2.out _).mono ?_
            rintro e w' ⟨rfl, rfl⟩
            have hk2 : ((k : Int) - 1).toNat = k - 1 := by omega
            go_wp2_with fail
            clear hk2
            go_roundw
            case rel => exact ⟨k + 1, by omega, by go_num, HS1, by trivial⟩
            case measure => simp [intOf]; omega
          · have HF : Hid (decide (SetP n xs) = false) := Lib.hid (by simp only [decide_eq_false_iff_not]; exact not_set_at HX.out (.inr ⟨y, hk3, HY.out, hxy⟩))
            go_wp2_with fail
            refine (hin2.out _).mono ?_
            rintro e w' ⟨rfl, rfl⟩
            have hk2 : ((k : Int) - 1).toNat = k - 1 := by omega
            go_wp2_with fail
            go_ret
            exact ⟨ret_bool HF.out.symm, rfl⟩
      · have hin2 := Lib.hid (inRange_is x 0 ((n : Int) - 1) false (by simp; omega))
        have HF : Hid (decide (SetP n xs) = false) := Lib.hid (by simp only [decide_eq_false_iff_not]; exact not_set_at HX.out (.inl hin))
        clear hin
        go_wp2_with fail
        refine (hin2.out _).mono ?_
        rintro e w' ⟨rfl, rfl⟩
        go_wp2_with fail
        go_ret
        exact ⟨ret_bool HF.out.symm, rfl⟩
    · obtain rfl : k = xs.length := by omega
      have HT : Hid (decide (SetP n xs) = true) := Lib.hid (by have := HS.out; rw [List.take_length] at this; simpa using this)
      go_wp2_with fail
      go_ret
      exact ⟨ret_bool HT.out.symm, rfl⟩

/-- slices.Contains over int64. -/
theorem idxI_any (v : Value) (xs : List Int) (x : Int) (w : World) (hr : Row w 1 v xs.length (ints xs)) :
    Calls Tryd.prog 70 #[v, .int .i64 x] w fun e w' => ∃ r, e = .returned (.int .i64 r) ∧ decide (0 ≤ r) = xs.contains x ∧ r ≤ 9223372036854775807 ∧ w = w' := by
  have hl := hr.len
  unfold maxLen at hl
  obtain ⟨a, c, rfl, -, -, -⟩ := id hr
  go_enter Tryd.func70, Tryd.ntmps70
  go_wp2_with fail
  go_loopw [8] (fun i wr => ∃ k : Nat, k ≤ xs.length ∧ i = .int .i64 k ∧ Hid ((xs.take k).contains x = false) ∧ w = wr) (fun i _ => xs.length - (intOf i).toNat)
  case atStart => exact ⟨0, Nat.zero_le _, rfl, Lib.hid (by simp), rfl⟩
  case round =>
    obtain ⟨k, hk, rfl, HN, rfl⟩ := hrel
    by_cases hlt : k < xs.length
    · obtain ⟨b, o, y, rfl, hc, HY⟩ := hr.intAt hlt
      by_cases hxy : x = y
      · have hd : (x == y) = true := by simpa using hxy
        have HXY := Lib.hid hxy
        clear hxy
        go_wp2_with fail
        go_ret
        have hin : xs.contains x = true := by
          have h1 := List.mem_of_getElem? HY.out
          rw [← HXY.out] at h1
          simpa using h1
        exact ⟨_, rfl, by rw [hin]; simp, by omega, rfl⟩
      · have hd : (x == y) = false := by simpa using hxy
        have hd2 : (y == x) = false := by simp; exact fun e => hxy e.symm
        have HN1 : Hid ((xs.take (k + 1)).contains x = false) := Lib.hid (by rw [contains_snoc xs k x y HY.out HN.out, hd2])
        clear hd2
        go_wp2_with fail
        go_roundw
        case rel => exact ⟨k + 1, by omega, by go_num, HN1, by trivial⟩
        case measure => simp [intOf]; omega
    · go_wp2_with fail
      go_ret
      have hin : xs.contains x = false := by
        have h1 := HN.out
        rwa [show k = xs.length by omega, List.take_length] at h1
      exact ⟨_, rfl, by rw [hin]; simp, by omega, rfl⟩
theorem contI_any (v : Value) (xs : List Int) (x : Int) (w : World) (hr : Row w 1 v xs.length (ints xs)) :
    Calls Tryd.prog 67 #[v, .int .i64 x] w fun e w' => e = .returned (.bool (xs.contains x)) ∧ w = w' := by
  obtain ⟨a, c, rfl, -, -, -⟩ := id hr
  go_enter Tryd.func67, Tryd.ntmps67
  go_wp2_with fail
  refine (idxI_any _ xs x _ hr).mono ?_
  rintro e w' ⟨r, rfl, hd, -, rfl⟩
  have HD := Lib.hid hd
  clear hd
  go_wp2_with fail
  go_ret
  exact ⟨ret_bool HD.out, rfl⟩
end Go.Proofs.YtpfhflkpnjkgkaaDoor
