import Derived.BigQuiet
import Derived.Test.YtpfhflkpnjkgkaaGq05
import Derived.Test.YtpfhflkpnjkgkaaGq10
import Derived.Test.YtpfhflkpnjkgkaaGq11
/-
  'LeastRule', 'LeastCover', 'BestStable', 'BestClique' of the program.
-/



namespace Go.Proofs.Ytpfhflkpnjkgkaa
open Go.RowKit

/-- What a search gives: the least set by a key that fits. -/
def SearchP (key : Nat → Nat) (fit : Nat → (Nat → Nat → Bool) → Nat → Bool) (xss : List (List Int)) (rs : List Int) : Prop :=
  (okB xss = false ∧ rs = []) ∨ ∃ e r, Adj xss.length e ∧ xss = rowsB xss.length e ∧ IsBest key (fun s => fit xss.length e s = true) (2 ^ xss.length) r ∧ rs = rowB xss.length r.testBit
def ruleF (n : Nat) (e : Nat → Nat → Bool) (m : Nat) : Bool := ruleB n e m.testBit
def covF (n : Nat) (e : Nat → Nat → Bool) (m : Nat) : Bool := covB n e m.testBit
def stF (n : Nat) (e : Nat → Nat → Bool) (m : Nat) : Bool := stB n e m.testBit

def clF (n : Nat) (e : Nat → Nat → Bool) (m : Nat) : Bool := stB n (coE e) m.testBit
theorem pow_le_32 {n : Nat} (hn : n ≤ 16) : 2 ^ n ≤ 4294967296 := by have := Nat.pow_le_pow_right (n := 2) (j := 16) (by decide) hn; omega

end Go.Proofs.Ytpfhflkpnjkgkaa
/-
  The reference's searches over all sets: 'LeastRule', 'LeastCover', 'BestStable', 'BestClique'; both.
-/


namespace Go.Proofs.Ytpfhflkpnjkgkaa
open Go.RowKit

theorem ahead_size {k r : Nat} (hk : k < 4294967296) (hr : r < 4294967296) : Ahead size k r ↔ size k < size r ∨ (size k = size r ∧ lexB k r = true) := by
  unfold Ahead
  rw [lexB_iff hk hr]
theorem ahead_keyM {k r : Nat} (hk : k < 4294967296) (hr : r < 4294967296) : Ahead keyM k r ↔ size r < size k ∨ (size k = size r ∧ lexB k r = true) := by
  unfold Ahead keyM
  rw [lexB_iff hk hr]
  have := size_le k
  have := size_le r
  constructor
  · rintro (h | ⟨h, h2⟩)
    · exact .inl (by omega)
    · exact .inr ⟨by omega, h2⟩
  · rintro (h | ⟨h, h2⟩)
    · exact .inl (by omega)
    · exact .inr ⟨by omega, h2⟩
theorem exists_best (key : Nat → Nat) (fit : Nat → Bool) {n i0 : Nat} (h0 : i0 < 2 ^ n) (hf : fit i0 = true) : ∃ r, IsBest key (fun s => fit s = true) (2 ^ n) r := by
  obtain ⟨r, hr⟩ := exists_run key (fun s => fit s = true) i0 (2 ^ n)
  exact ⟨r, hr.best h0 hf⟩
theorem bits_all {n b : Nat} (hb : b < n) : (2 ^ n - 1).testBit b = true := by rw [Nat.testBit_two_pow_sub_one]; simpa using hb
theorem rule_all (n : Nat) (e : Nat → Nat → Bool) : ruleF n e (2 ^ n - 1) = true := by
  unfold ruleF ruleB
  rw [decide_eq_true_eq]
  refine maskB_ext fun b hb => ?_
  unfold domB allB
  rw [bits_all hb]
  simp [hb]
theorem cov_all (n : Nat) (e : Nat → Nat → Bool) : covF n e (2 ^ n - 1) = true := by
  unfold covF covB
  refine stB_iff.2 fun v hv h => ?_
  rw [bits_all hv] at h
  simp at h
theorem st_none (n : Nat) (e : Nat → Nat → Bool) : stF n e 0 = true := stB_iff.2 fun v _ h => by simp at h
theorem cl_none (n : Nat) (e : Nat → Nat → Bool) : clF n e 0 = true := stB_iff.2 fun v _ h => by simp at h
theorem searchP_has (key : Nat → Nat) (fit : Nat → (Nat → Nat → Bool) → Nat → Bool) (i0 : Nat → Nat) (h0 : ∀ n, i0 n < 2 ^ n) (hf : ∀ n e, fit n e (i0 n) = true) (xss : List (List Int)) : ∃ rs : List Int, 1 + rs.length ≤ 1000000000 ∧ SearchP key fit xss rs := by
  cases hok : okB xss with
  | false => exact ⟨[], by simp, .inl ⟨hok, rfl⟩⟩
  | true =>
    obtain ⟨e, hA, hx⟩ := (okB_iff xss).1 hok
    obtain ⟨r, hr⟩ := exists_best key (fit xss.length e) (h0 xss.length) (hf xss.length e)
    have hn := hA.le
    have hl := rowB_length xss.length r.testBit
    exact ⟨_, by omega, .inr ⟨e, r, hA, hx, hr, rfl⟩⟩

end Go.Proofs.Ytpfhflkpnjkgkaa
/-
  'l25Mask', 'StableIn' of the reference; 'w6Has', 'w6Rest', 'likeInts' of the laws.
-/





namespace Go.Proofs.Ytpfhflkpnjkgkaa
open Go.RowKit

theorem take_mem {xs : List Int} {j : Nat} {y : Int} (x : Int) (h : xs[j]? = some y) : (x ∈ xs.take (j + 1)) ↔ (x ∈ xs.take j ∨ x = y) := by
  rw [take_snoc h]
  simp
def restB (xs : List Int) (b : Nat) : Bool := !decide ((b : Int) ∈ xs)
theorem same_take {xs ys : List Int} {j : Nat} {x y : Int} (hx : xs[j]? = some x) (hy : ys[j]? = some y) (h : xs.take j = ys.take j) (e : x = y) : xs.take (j + 1) = ys.take (j + 1) := by
  rw [take_snoc hx, take_snoc hy, h, e]
set_option maxHeartbeats 2000000 in
theorem likeInts_any (v u : Value) (xs ys : List Int) (w : World) (hx : RdS v xs w) (hy : RdS u ys w) :
    Calls Try.prog 7 #[v, u] w fun e w' => e = .returned (.bool (decide (xs = ys))) ∧ Below w.heap.size w w' := by
  have hl := hx.len
  have hl2 := hy.len
  unfold maxLen at hl hl2
  obtain ⟨B, hB⟩ : ∃ B, w.heap.size = B := ⟨_, rfl⟩
  have hbw : Below B w w := Below.refl _ _
  obtain ⟨a, c, rfl, -, -, -⟩ := id hx
  obtain ⟨a2, c2, rfl, -, -, -⟩ := id hy
  go_enter Try.func7, Try.ntmps7
  by_cases hlen : xs.length = ys.length
  · have hd : ((xs.length : Int) != (ys.length : Int)) = false := by simp [hlen]
    have HLEN := Lib.hid hlen
    have hle1 : xs.length ≤ ys.length := by omega
    have hle2 : ys.length ≤ xs.length := by omega
    clear hlen
    go_wp2_with fail
    go_loopw [5] (fun t wr => ∃ (k : Nat), k ≤ xs.length ∧ t = .int .i64 k ∧ Hid (xs.take k = ys.take k) ∧ Below B w wr) (fun t _ => xs.length - (intOf t).toNat)
    case atStart => exact ⟨0, Nat.zero_le _, rfl, Lib.hid (by simp), hbw⟩
    case round =>
      clear hbw
      obtain ⟨k, hk, rfl, HM, hb⟩ := hrel
      by_cases hlk : k < xs.length
      · obtain ⟨xb, xo, x, rfl, hcx, HX⟩ := (hx.below hb hB).intAt hlk
        obtain ⟨yb, yo, y, rfl, hcy, HY⟩ := (hy.below hb hB).intAt (show k < ys.length by omega)
        have hli : (k : Int) < (xs.length : Int) := by omega
        have hli2 : (k : Int) < (ys.length : Int) := by omega
        have HD : Hid (∀ W, Below wr.heap.size wr W → Below B w W) := Lib.hid fun W h => hb.trans (h.mono (by have := hb.size; omega))
        have hcx2 : ∀ W, Below wr.heap.size wr W → W.cell? ⟨xb, xo + k, none⟩ = some (.int .i64 x) := fun W h => (h.cell (p := ⟨xb, xo + k, none⟩) (by have := World.block_lt_of_cell? _ _ hcx; exact this)).trans hcx
        by_cases hxy : x = y
        · have hd2 : (x != y) = false := by simp [hxy]
          have HXY := Lib.hid hxy
          clear hxy hb
          go_wp2_with fail
          refine wp_region_calm (by kernel_rfl) (by kernel_rfl) ?_
          repeat quiet_step (fail)
          refine wpQuiet_nil ?_
          intro W' hbW'
          have hb5 := HD.out W' hbW'
          clear hbW' hcx hcy hcx2
          go_wp2_with fail
          go_roundw
          case rel => exact ⟨k + 1, by omega, by go_num, Lib.hid (same_take HX.out HY.out HM.out HXY.out), hb5⟩
          case measure => simp [intOf]; omega
        · have hd2 : (x != y) = true := by simpa using hxy
          have HXY := Lib.hid hxy
          clear hxy hb
          go_wp2_with fail
          refine wp_region_calm (by kernel_rfl) (by kernel_rfl) ?_
          repeat quiet_step (fail)
          refine wpQuiet_nil ?_
          intro W' hbW'
          have hb5 := HD.out W' hbW'
          clear hbW' hcx hcy hcx2
          go_wp2_with fail
          go_ret
          exact ⟨ret_bool (by rw [eq_comm, decide_eq_false_iff_not]; intro h; rw [h] at HX; exact HXY.out (by have h1 := HX.out; rw [HY.out] at h1; exact (Option.some.inj h1).symm)), by rw [hB]; exact hb5⟩
      · obtain rfl : k = xs.length := by omega
        go_wp2_with fail
        go_ret
        exact ⟨ret_bool (by rw [eq_comm, decide_eq_true_eq]; have := HM.out; rwa [List.take_length, HLEN.out, List.take_length] at this), by rw [hB]; exact hb⟩
  · have hd : ((xs.length : Int) != (ys.length : Int)) = true := by simpa using (show ¬ (xs.length : Int) = ys.length by omega)
    have HLEN := Lib.hid hlen
    clear hlen
    go_wp2_with fail
    go_ret
    exact ⟨ret_bool (by rw [eq_comm, decide_eq_false_iff_not]; intro h; exact HLEN.out (by rw [h])), by rw [hB]; exact hbw⟩
end Go.Proofs.Ytpfhflkpnjkgkaa
