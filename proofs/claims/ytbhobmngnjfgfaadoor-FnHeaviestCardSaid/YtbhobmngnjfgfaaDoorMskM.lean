import Derived.BigQuiet
import Derived.Test.YtbhobmngnjfgfaaDoorGq08
import Derived.Test.YtbhobmngnjfgfaaDoorGq14
import Derived.Test.YtbhobmngnjfgfaaDoorGq16
import Derived.Test.YtbhobmngnjfgfaaDoorSpecCoverM
/-
  'l25Mask', 'StableIn' of the reference; 'w6Has', 'w6Rest', 'likeInts' of the laws.
-/





namespace Go.Proofs.YtbhobmngnjfgfaaDoor
open Go.RowKit

set_option maxHeartbeats 4000000 in
theorem mask25_any (v : Value) (xs : List Int) (n : Nat) (hn : n ≤ 16) (hset : SetP n xs) (w : World) (hr : RdS v xs w) :
    Calls Tryd.prog 117 #[v] w fun e w' => e = .returned (.int .i64 (maskB n (inL xs) : Nat)) ∧ w = w' := by
  have hl := hr.len
  unfold maxLen at hl
  obtain ⟨a, c, rfl, -, -, -⟩ := id hr
  have HS := Lib.hid hset
  clear hset
  have hz : Hid (0 = maskB n (inL (xs.take 0))) := Lib.hid (by rw [show inL (xs.take 0) = fun _ => false by funext i; simp [inL], maskB_zero])
  go_enter Tryd.func117, Tryd.ntmps117
  go_wp2_with fail
  go_loopw [3, 4] (fun s t wr' => ∃ (k m : Nat), k ≤ xs.length ∧ t = .int .i64 k ∧ s = .int .i64 m ∧ Hid (m = maskB n (inL (xs.take k))) ∧ w = wr') (fun _ t _ => xs.length - (intOf t).toNat)
  case atStart => exact ⟨0, 0, Nat.zero_le _, rfl, rfl, hz, rfl⟩
  case round =>
    clear hz
    obtain ⟨k, m, hk, rfl, rfl, HM, rfl⟩ := hrel
    by_cases hlk : k < xs.length
    · obtain ⟨xb, xo, x, rfl, hcx, HX⟩ := hr.intAt hlk
      obtain ⟨q, rfl⟩ := Int.eq_ofNat_of_zero_le (HS.out.1 x (List.mem_of_getElem? HX.out)).1
      have hq : q < n := by have := (HS.out.1 q (List.mem_of_getElem? HX.out)).2; omega
      have HT := Lib.hid (inL_take_succ HX.out)
      obtain ⟨z1, HZ1⟩ : ∃ z : Int, Hid ((m : Int) = z) := ⟨_, Lib.hid rfl⟩
      obtain ⟨m2, HM2⟩ : ∃ k2 : Nat, Hid (k2 = maskB n (inL (xs.take (k + 1)))) := ⟨_, Lib.hid rfl⟩
      obtain ⟨pq, hpq⟩ : ∃ q2 : Nat, 2 ^ q = q2 := ⟨_, rfl⟩
      have hpi : (2 : Int) ^ q = (pq : Int) := by rw [← hpq]; simp
      have hps : pq ≤ 65536 := by rw [← hpq]; exact Nat.pow_le_pow_right (n := 2) (j := 16) (by decide) (by omega)
      have hbo : bits BinOp.or IntKind.i64 z1 (pq : Int) = (m2 : Int) := by
        rw [← HZ1.out, ← hpq, i64_or_nat _ _ (by rw [HM.out]; exact maskB_small (by omega) _) (pow_small (by omega)), HM.out, HM2.out, pow_maskB hq, HT.out]
        congr 1
        apply Nat.eq_of_testBit_eq
        intro i
        rw [Nat.testBit_or, testBit_maskB, testBit_maskB, testBit_maskB]
        cases decide (i < n) <;> simp
      have HPQ := Lib.hid hpq
      rw [HZ1.out]
      clear hpq
      go_wp2_with fail
      go_roundw
      case rel => exact ⟨k + 1, m2, by omega, by go_num, rfl, HM2, by first | rfl | trivial⟩
      case measure => simp [intOf]; omega
    · obtain rfl : k = xs.length := by omega
      go_wp2_with fail
      go_ret
      exact ⟨ret_int (by have := HM.out; rw [List.take_length] at this; rw [this]), rfl⟩

theorem take_mem {xs : List Int} {j : Nat} {y : Int} (x : Int) (h : xs[j]? = some y) : (x ∈ xs.take (j + 1)) ↔ (x ∈ xs.take j ∨ x = y) := by
  rw [take_snoc h]
  simp
set_option maxHeartbeats 2000000 in
theorem w6Has_any (v : Value) (xs : List Int) (x : Int) (w : World) (hr : RdS v xs w) :
    Calls Tryd.prog 120 #[v, .int .i64 x] w fun e w' => e = .returned (.bool (decide (x ∈ xs))) ∧ w = w' := by
  have hl := hr.len
  unfold maxLen at hl
  obtain ⟨a, c, rfl, -, -, -⟩ := id hr
  go_enter Tryd.func120, Tryd.ntmps120
  go_wp2_with fail
  go_loopw [5] (fun t wr => ∃ (k : Nat), k ≤ xs.length ∧ t = .int .i64 k ∧ Hid (x ∉ xs.take k) ∧ w = wr) (fun t _ => xs.length - (intOf t).toNat)
  case atStart => exact ⟨0, Nat.zero_le _, rfl, Lib.hid (by simp), rfl⟩
  case round =>
    obtain ⟨k, hk, rfl, HM, rfl⟩ := hrel
    by_cases hlk : k < xs.length
    · obtain ⟨xb, xo, y, rfl, hcx, HX⟩ := hr.intAt hlk
      by_cases hxy : y = x
      · have hd : (y == x) = true := by simp [hxy]
        have HXY := Lib.hid hxy
        clear hxy
        go_wp2_with fail
        go_ret
        exact ⟨ret_bool (by rw [eq_comm, decide_eq_true_eq, ← HXY.out]; exact List.mem_of_getElem? HX.out), rfl⟩
      · have hd : (y == x) = false := by simpa using hxy
        have HXY := Lib.hid hxy
        clear hxy
        go_wp2_with fail
        go_roundw
        case rel => exact ⟨k + 1, by omega, by go_num, Lib.hid (by rw [take_mem x HX.out]; rintro (h | h); exact HM.out h; exact HXY.out h.symm), by first | rfl | trivial⟩
        case measure => simp [intOf]; omega
    · obtain rfl : k = xs.length := by omega
      go_wp2_with fail
      go_ret
      exact ⟨ret_bool (by rw [eq_comm, decide_eq_false_iff_not]; have := HM.out; rwa [List.take_length] at this), rfl⟩

def restB (xs : List Int) (b : Nat) : Bool := !decide ((b : Int) ∈ xs)
set_option maxHeartbeats 4000000 in
theorem w6Rest_any (g : Value) (rows : List (List Int)) (n : Nat) (hrn : rows.length = n) (hn : n ≤ 100) (v : Value) (xs : List Int) (w : World) (hg : RdSS g rows w) (hr : RdS v xs w) :
    Calls Tryd.prog 47 #[.agg #[g], v] w (SRes w (rowB n (restB xs))) := by
  obtain ⟨a, c, rfl⟩ := hg.shape
  rw [hrn]
  obtain ⟨a2, c2, rfl, -, -, -⟩ := id hr
  obtain ⟨A, hA⟩ : ∃ A, w.heap.size = A := ⟨_, rfl⟩
  obtain ⟨WA, hWA⟩ : ∃ W, W = w.alloc (.cells #[.slice a n c] 56) := ⟨_, rfl⟩
  have bA : Below A w WA := by rw [hWA, ← hA]; exact below_alloc' _ _
  have VA : VC 56 A #[.slice a n c] WA := by rw [hWA]; exact VC.new hA
  have hzA : WA.heap.size = A + 1 := by rw [hWA]; simp [hA]
  obtain ⟨B, hBA⟩ : ∃ B, A + 1 = B := ⟨_, rfl⟩
  have hB : WA.heap.size = B := by omega
  obtain ⟨W0, hW0⟩ : ∃ W0, W0 = WA.alloc (.cells #[] 2) := ⟨_, rfl⟩
  have b0 : Below B WA W0 := by rw [hW0, ← hB]; exact below_alloc' _ _
  have ho0 : W0.ownsRow B 2 1 (.slice (some ⟨B, 0, none⟩) 0 0) 0 [] := by rw [hW0, ← hB]; exact World.ownsRow_lit WA #[] 0 (Nat.le_refl _) (by simp [maxLen]) rfl
  replace b0 : Below A w W0 := bA.trans (b0.mono (by omega))
  replace VA : VC 56 A #[.slice a n c] W0 := by rw [hW0]; exact VA.belowAt (below_alloc' WA _) (by omega)
  have hz0 : B ≤ W0.heap.size := by rw [hW0]; simp; omega
  have HHAS : Hid (∀ (x : Int) (W : World), Below A w W → Calls Tryd.prog 120 #[.slice a2 xs.length c2, .int .i64 x] W fun e w' => e = .returned (.bool (decide (x ∈ xs))) ∧ W = w') := Lib.hid fun x W h => w6Has_any _ xs x W (hr.below h hA)
  clear hr
  go_enter Tryd.func47, Tryd.ntmps47
  go_wp2_with fail
  try rw [← hWA]
  try rw [← hW0]
  try rw [hB]
  try rw [hA]
  try rw [hBA]
  clear hW0 hWA
  have hbW : Below (A + 1) W0 W0 := Below.refl _ _
  go_loopw [5, 6] (fun o i wr => ∃ (k m : Nat), k ≤ n ∧ m ≤ k ∧ i = .int .i64 k ∧ Hid ((rowB k (restB xs)).length = m) ∧ wr.ownsRow B 2 1 o m (ints (rowB k (restB xs))) ∧ Below (A + 1) W0 wr) (fun _ i _ => n - (intOf i).toNat)
  case atStart => exact ⟨0, 0, Nat.zero_le _, Nat.le_refl _, rfl, Lib.hid rfl, by simpa [ints, rowB] using ho0, hbW⟩
  case round =>
    clear ho0 hbW
    obtain ⟨k, m, hk, hm, rfl, HL, ho, hb⟩ := hrel
    have hsz := hb.size
    have hcg := (VA.belowAt hb (by omega)).cell
    by_cases hlt : k < n
    · obtain ⟨q, hq⟩ : ∃ q, decide ((k : Int) ∈ xs) = q := ⟨_, rfl⟩
      have HS := Lib.hid (show rowB (k + 1) (restB xs) = rowB k (restB xs) ++ if (!q) = true then [(k : Int)] else [] by rw [rowB_succ, ← hq]; rfl)
      have HC : Hid (Calls Tryd.prog 120 #[.slice a2 xs.length c2, .int .i64 (k : Int)] wr fun e w' => e = .returned (.bool q) ∧ wr = w') := Lib.hid (by rw [← hq]; exact HHAS.out k wr (b0.trans (hb.mono (by omega))))
      clear hq
      go_wp2_with fail
      refine HC.out.mono ?_
      rintro e1 w1 ⟨rfl, rfl⟩
      clear HC
      cases q with
      | false =>
        go_wp2_with (at_builtin; refine wpList_push _ rfl _ _ 30 rfl B 2 _ _ 8 Tryd.underlying30 infoI rfl _ _ _ rfl ho _ rfl rfl (by unfold maxLen; omega) (by omega) (by omega) ?_; intro g' c' w2 ho2 hg2)
        have hbn : Below (A + 1) W0 w2 := hb.grown hg2 (by omega) fun b hb' => by have := (owns_lt ho hb').1; omega
        go_roundw
        case rel => exact ⟨k + 1, m + 1, by omega, by omega, by go_num, Lib.hid (by rw [HS.out]; simp [HL.out]), by rw [HS.out]; simpa [ints] using ho2, hbn⟩
        case measure => simp [intOf]; omega
      | true =>
        go_wp2_with fail
        go_roundw
        case rel => exact ⟨k + 1, m, by omega, by omega, by go_num, Lib.hid (by rw [HS.out]; simp [HL.out]), by rw [HS.out]; simpa using ho, hb⟩
        case measure => simp [intOf]; omega
    · have hkn : k = n := by omega
      clear hlt
      subst hkn
      have HE := Lib.hid ho
      have HBB := Lib.hid (b0.trans (hb.mono (by omega)))
      go_wp2_with fail
      go_ret
      exact ⟨_, rfl, by rw [hA, HL.out]; exact owns_base HE.out (by omega), by rw [hA]; exact HBB.out⟩

theorem same_take {xs ys : List Int} {j : Nat} {x y : Int} (hx : xs[j]? = some x) (hy : ys[j]? = some y) (h : xs.take j = ys.take j) (e : x = y) : xs.take (j + 1) = ys.take (j + 1) := by
  rw [take_snoc hx, take_snoc hy, h, e]
set_option maxHeartbeats 2000000 in
theorem likeInts_any (v u : Value) (xs ys : List Int) (w : World) (hx : RdS v xs w) (hy : RdS u ys w) :
    Calls Tryd.prog 51 #[v, u] w fun e w' => e = .returned (.bool (decide (xs = ys))) ∧ Below w.heap.size w w' := by
  have hl := hx.len
  have hl2 := hy.len
  unfold maxLen at hl hl2
  obtain ⟨B, hB⟩ : ∃ B, w.heap.size = B := ⟨_, rfl⟩
  have hbw : Below B w w := Below.refl _ _
  obtain ⟨a, c, rfl, -, -, -⟩ := id hx
  obtain ⟨a2, c2, rfl, -, -, -⟩ := id hy
  go_enter Tryd.func51, Tryd.ntmps51
  by_cases hlen : xs.length = ys.length
  · have hd : ((xs.length : Int) != (ys.length : Int)) = false := by simp [hlen]
    have HLEN := Lib.hid hlen
    have hle1 : xs.length ≤ ys.length := by omega
    have hle2 : ys.length ≤ xs.length := by omega
    clear hlen
    go_wp2_with fail
    go_loopw [5] (fun t wr => ∃ (k : Nat), k ≤ xs.length ∧ t = .int .i64 k ∧ Hid (xs.take k = ys.take k) ∧ Below B w wr) (fun t _ => xs.length - (intOf t).toNat)
    case atStart => exact ⟨0, Nat.zero_le _, rfl, Lib.hid (by simp), hbw⟩
    case round =>
      clear hbw
      obtain ⟨k, hk, rfl, HM, hb⟩ := hrel
      by_cases hlk : k < xs.length
      · obtain ⟨xb, xo, x, rfl, hcx, HX⟩ := (hx.below hb hB).intAt hlk
        obtain ⟨yb, yo, y, rfl, hcy, HY⟩ := (hy.below hb hB).intAt (show k < ys.length by omega)
        have hli : (k : Int) < (xs.length : Int) := by omega
        have hli2 : (k : Int) < (ys.length : Int) := by omega
        have HD : Hid (∀ W, Below wr.heap.size wr W → Below B w W) := Lib.hid fun W h => hb.trans (h.mono (by have := hb.size; omega))
        have hcx2 : ∀ W, Below wr.heap.size wr W → W.cell? ⟨xb, xo + k, none⟩ = some (.int .i64 x) := fun W h => (h.cell (p := ⟨xb, xo + k, none⟩) (by have := World.block_lt_of_cell? _ _ hcx; exact this)).trans hcx
        by_cases hxy : x = y
        · have hd2 : (x != y) = false := by simp [hxy]
          have HXY := Lib.hid hxy
          clear hxy hb
          go_wp2_with fail
          refine wp_region_calm (by kernel_rfl) (by kernel_rfl) ?_
          repeat quiet_step (fail)
          refine wpQuiet_nil ?_
          intro W' hbW'
          have hb5 := HD.out W' hbW'
          clear hbW' hcx hcy hcx2
          go_wp2_with fail
          go_roundw
          case rel => exact ⟨k + 1, by omega, by go_num, Lib.hid (same_take HX.out HY.out HM.out HXY.out), hb5⟩
          case measure => simp [intOf]; omega
        · have hd2 : (x != y) = true := by simpa using hxy
          have HXY := Lib.hid hxy
          clear hxy hb
          go_wp2_with fail
          refine wp_region_calm (by kernel_rfl) (by kernel_rfl) ?_
          repeat quiet_step (fail)
          refine wpQuiet_nil ?_
          intro W' hbW'
          have hb5 := HD.out W' hbW'
          clear hbW' hcx hcy hcx2
          go_wp2_with fail
          go_ret
          exact ⟨ret_bool (by rw [eq_comm, decide_eq_false_iff_not]; intro h; rw [h] at HX; exact HXY.out (by have h1 := HX.out; rw [HY.out] at h1; exact (Option.some.inj h1).symm)), by rw [hB]; exact hb5⟩
      · obtain rfl : k = xs.length := by omega
        go_wp2_with fail
        go_ret
        exact ⟨ret_bool (by rw [eq_comm, decide_eq_true_eq]; have := HM.out; rwa [List.take_length, HLEN.out, List.take_length] at this), by rw [hB]; exact hb⟩
  · have hd : ((xs.length : Int) != (ys.length : Int)) = true := by simpa using (show ¬ (xs.length : Int) = ys.length by omega)
    have HLEN := Lib.hid hlen
    clear hlen
    go_wp2_with fail
    go_ret
    exact ⟨ret_bool (by rw [eq_comm, decide_eq_false_iff_not]; intro h; exact HLEN.out (by rw [h])), by rw [hB]; exact hbw⟩
end Go.Proofs.YtbhobmngnjfgfaaDoor
