import Derived.Test.YtpfhflkpnjkgkaaDoorGq06
import Derived.Test.YtpfhflkpnjkgkaaDoorNetsOfJn
import Derived.Test.YtpfhflkpnjkgkaaDoorPathJn
/-
  The complement: 'l2Other' of the reference; 'maskOf', 'netsOf', 'firstOf', 'all', 'complement' of the program.
-/



namespace Go.Proofs.YtpfhflkpnjkgkaaDoor
open Go.RowKit

/-! ### The program -/
theorem one_at (v : Int) (n : Nat) (h : v = n) (h1 : n < 32) (z : Int) (hz : z = ((2 ^ n : Nat) : Int)) (w : World) :
    Calls Tryd.prog 40 #[.int .i64 v] w fun e w' => e = .returned (.int .u32 z) ∧ w = w' := by
  subst hz; exact one_any v n h h1 w

set_option maxHeartbeats 1000000 in
theorem maskOf_any (v : Value) (xs : List Int) (n : Nat) (hn : n ≤ 16) (hset : SetP n xs) (w : World) (hr : RdS v xs w) :
    Calls Tryd.prog 57 #[v] w fun e w' => e = .returned (.int .u32 (maskB n (inL xs) : Nat)) ∧ w = w' := by
  have hl := hr.len
  unfold maxLen at hl
  obtain ⟨a, c, rfl, -, -, -⟩ := id hr
  have HS := Lib.hid hset
  clear hset
  have hz : Hid (((maskB n (inL (xs.take 0)) : Nat) : Int) = 0) := Lib.hid (by rw [show inL (xs.take 0) = fun _ => false by funext i; simp [inL], maskB_zero]; rfl)
  go_enter Tryd.func57, Tryd.ntmps57
  go_wp2_with fail
  go_loopw [3, 8] (fun m i wr => ∃ (k : Nat) (y : Int), k ≤ xs.length ∧ i = .int .i64 k ∧ m = .int .u32 y ∧ Hid (y = (maskB n (inL (xs.take k)) : Nat)) ∧ w = wr) (fun _ i _ => xs.length - (intOf i).toNat)
  case atStart => exact ⟨0, 0, Nat.zero_le _, rfl, rfl, Lib.hid hz.out.symm, rfl⟩
  case round =>
    clear hz
    obtain ⟨k, y, hk, rfl, rfl, HY, rfl⟩ := hrel
    by_cases hlt : k < xs.length
    · obtain ⟨b, o, x, rfl, hc, HX⟩ := hr.intAt hlt
      obtain ⟨m, rfl⟩ := Int.eq_ofNat_of_zero_le (HS.out.1 x (List.mem_of_getElem? HX.out)).1
      have hm : m < n := by have := (HS.out.1 m (List.mem_of_getElem? HX.out)).2; omega
      obtain ⟨z, HZ⟩ : ∃ z : Int, Hid (z = ((2 ^ m : Nat) : Int)) := ⟨_, Lib.hid rfl⟩
      obtain ⟨y2, HY2⟩ : ∃ y2 : Int, Hid (y2 = (maskB n (inL (xs.take (k + 1))) : Nat)) := ⟨_, Lib.hid rfl⟩
      have hor : bits BinOp.or IntKind.u32 y z = y2 := by
        rw [HY.out, HZ.out, HY2.out, pow_maskB hm, maskB_or (by omega), inL_take_succ HX.out]
      go_wp2_with (go_at_call 40; refine (one_at _ m rfl (by omega) z HZ.out _).mono ?_; rintro e w' ⟨rfl, rfl⟩)
      go_roundw
      case rel => exact ⟨k + 1, y2, by omega, by go_num, rfl, HY2, by trivial⟩
      case measure => simp [intOf]; omega
    · obtain rfl : k = xs.length := by omega
      go_wp2_with fail
      go_ret
      exact ⟨ret_int (by have := HY.out; rwa [List.take_length] at this), rfl⟩

theorem mask_row (n : Nat) (p : Nat → Bool) : maskB n (inL (rowB n p)) = maskB n p := by
  refine maskB_ext fun i hi => ?_
  unfold inL
  rw [Bool.eq_iff_iff, decide_eq_true_eq, nat_mem_rowB]
  simp [hi]

theorem rowsB_take_succ (n : Nat) (f : Nat → Nat → Bool) (k : Nat) (hk : k < n) : sets ((NB n f).take (k + 1)) = sets ((NB n f).take k) ++ [.int .u32 (maskB n (f k) : Nat)] := by
  rw [take_snoc (NB_at f hk)]
  simp [sets]

set_option maxHeartbeats 1000000 in
theorem netsOf_any (v : Value) (n : Nat) (e : Nat → Nat → Bool) (hn : n ≤ 16) (w : World) (hr : RdSS v (rowsB n e) w) :
    Calls Tryd.prog 37 #[.agg #[v]] w fun r w' => ∃ u, r = .returned u ∧ w'.ownsRow w.heap.size 54 1 u n (sets (NB n e)) ∧ Below w.heap.size w w' := by
  obtain ⟨vs, hG⟩ := hr.ex
  have e1 : vs.length = n := by simpa using hG.len
  obtain ⟨a, c, rfl, -, -, -⟩ := id hG.outer
  rw [e1] at hG ⊢
  clear e1 hr
  obtain ⟨B, hB⟩ : ∃ B, w.heap.size = B := ⟨_, rfl⟩
  have u1 : Below B w (w.alloc (.cells #[.slice a n c] 38)) := by subst hB; exact below_alloc' _ _
  have VG0 : VC 38 B #[.slice a n c] (w.alloc (.cells #[.slice a n c] 38)) := VC.new hB
  have hz0 : (w.alloc (.cells #[.slice a n c] 38)).heap.size = B + 1 := by simp [hB]
  have ho0 := World.ownsRow_lit (base := B) (e := 54) (size := 1) (w.alloc (.cells #[.slice a n c] 38)) #[] 0 (by omega) (by simp [maxLen]) rfl
  have u2 : Below B w ((w.alloc (.cells #[.slice a n c] 38)).alloc (.cells #[] 54)) := u1.alloc (by omega) _
  have VG1 := (VG0.upd (Upd.alloc _ (.cells #[] 54)) (by omega)).cell
  rw [hz0] at ho0
  go_enter Tryd.func37, Tryd.ntmps37
  go_wp2_with fail
  go_loopw [3, 10] (fun u i wr => ∃ k : Nat, k ≤ n ∧ i = .int .i64 k ∧ wr.ownsRow B 54 1 u k (sets ((NB n e).take k)) ∧ Below B w wr) (fun _ i _ => n - (intOf i).toNat)
  case atStart => exact ⟨0, Nat.zero_le _, rfl, by simpa [sets] using ho0, u2⟩
  case round =>
    clear ho0 u1 u2 VG0 VG1 hz0
    obtain ⟨k, hk, rfl, ho, hb⟩ := hrel
    have hsz := hb.size
    by_cases hlt : k < n
    · have hGr := hG.below (hB.symm ▸ hb)
      obtain ⟨rb, ro, r, xs, rfl, hc, hx, -, HX⟩ := hGr.intsAt (by simpa using hlt)
      obtain rfl : rowB n (e k) = xs := by have h := HX.out; rw [rowsB_at e hlt] at h; exact Option.some.inj h
      have hm := maskOf_any r (rowB n (e k)) n hn (setP_rowB _ _) wr hx
      rw [mask_row] at hm
      obtain ⟨y, HY⟩ : ∃ y : Nat, Hid (maskB n (e k) = y) := ⟨_, Lib.hid rfl⟩
      rw [HY.out] at hm
      have HM := Lib.hid hm
      clear hm hGr hx
      go_wp2_with fail
      refine HM.out.mono ?_
      rintro e1 w2 ⟨rfl, rfl⟩
      go_wp2_with (at_builtin; refine wpList_push _ rfl _ _ 65 rfl B 54 _ _ 4 Tryd.underlying65 infoV rfl _ _ _ rfl ho _ rfl rfl (by unfold maxLen; omega) (by omega) (by omega) ?_; intro g' c' w2 ho2 hg)
      go_roundw
      case rel => exact ⟨k + 1, by omega, by go_num, by rw [rowsB_take_succ n e k hlt, HY.out]; exact ho2, hb.grown hg (by omega) fun b hb' => (owns_lt ho hb').1⟩
      case measure => simp [intOf]; omega
    · obtain rfl : k = n := by omega
      rw [List.take_of_length_le (by simp)] at ho
      go_wp2_with fail
      go_ret
      exact ⟨_, rfl, by rw [hB]; exact ho, by rw [hB]; exact hb⟩

theorem firstOf_any (n : Nat) (hn : n ≤ 16) (w : World) :
    Calls Tryd.prog 48 #[.int .i64 n] w fun e w' => e = .returned (.int .u32 (maskB n (fun _ => true) : Nat)) ∧ w = w' := by
  have e1 : (2 : Int) ^ n % 4294967296 = ((2 ^ n : Nat) : Int) := by
    have : 2 ^ n ≤ 2 ^ 16 := Nat.pow_le_pow_right (by decide) hn
    have e2 : ((2 ^ n : Nat) : Int) = 2 ^ n := by simp
    rw [← e2]
    generalize 2 ^ n = q at *
    clear e2
    omega
  have h1 : 0 < 2 ^ n := Nat.two_pow_pos n
  have h2 : 2 ^ n ≤ 65536 := Nat.pow_le_pow_right (n := 2) (by decide) hn
  have HE : Hid (((2 ^ n : Nat) : Int) - 1 = (maskB n (fun _ => true) : Nat)) := Lib.hid (by rw [← full_maskB]; omega)
  have HE1 := Lib.hid e1
  have hm : (2 : Int) ^ min n 32 % 4294967296 = ((2 ^ n : Nat) : Int) := by rw [Nat.min_eq_left (by omega)]; exact e1
  obtain ⟨q, hq⟩ : ∃ q : Nat, 2 ^ n = q := ⟨_, rfl⟩
  rw [hq] at hm h1 h2 HE HE1
  clear e1 hq
  go_enter Tryd.func48, Tryd.ntmps48
  go_wp2_with fail
  go_ret
  refine ⟨ret_int ?_, rfl⟩
  rw [← HE.out]
  rw [HE1.out]
  omega
theorem all_nets (a : Option Addr) (n c : Nat) (hn : n ≤ 16) (w : World) :
    Calls Tryd.prog 59 #[.slice a n c] w fun e w' => e = .returned (.int .u32 (maskB n (fun _ => true) : Nat)) ∧ w = w' := by
  go_enter Tryd.func59, Tryd.ntmps59
  go_wp2_with fail
  refine (firstOf_any n hn w).mono ?_
  rintro e w' ⟨rfl, rfl⟩
  go_wp2_with fail
  go_ret
  exact ⟨rfl, rfl⟩
theorem all_netsAt (v : Value) (n : Nat) (hn : n ≤ 16) (z : Int) (hz : z = (maskB n (fun _ => true) : Nat)) (hv : ∃ a c, v = .slice a n c) (w : World) :
    Calls Tryd.prog 59 #[v] w fun e w' => e = .returned (.int .u32 z) ∧ w = w' := by
  obtain ⟨a, c, rfl⟩ := hv
  subst hz
  exact all_nets a n c hn w

end Go.Proofs.YtpfhflkpnjkgkaaDoor
