/-
  The program's sets of vertices: what 'inRange', 'one', 'least', 'list', 'wide', 'numbers' return.
-/
import Derived.Test.YtbhobmngnjfgfaaDoorProg
import Derived.Test.YtbhobmngnjfgfaaDoorMem
import Derived.Test.YtbhobmngnjfgfaaDoorBits
import Derived.WalkKit
import Derived.WalkSpells
import Derived.WalkLawsBesides
import Derived.Lib.Hide
namespace Go.Proofs.YtbhobmngnjfgfaaDoor
open Go.RowKit

theorem ret_bool {a b : Bool} (h : a = b) : Ending.returned (.bool a) = .returned (.bool b) := by rw [h]
theorem ret_int {k : IntKind} {a b : Int} (h : a = b) : Ending.returned (.int k a) = .returned (.int k b) := by rw [h]

theorem infoI : (Tryd.prog.info? 2).map (fun i => (i.zero, i.size, i.bytes)) = some (some (.int .i64 0), 1, 8) := by kernel_rfl
theorem infoN : (Tryd.prog.info? 3).map (fun i => (i.zero, i.size, i.bytes)) = some (some (.int .i64 0), 1, 8) := by kernel_rfl

/-- The table of math/bits lies where it lay. -/
def Tab (w : World) : Prop := ∀ i, i < 32 → w.cell? ⟨2, i, none⟩ = some (.int .u8 (tab32.getD i 0))
theorem Tab.lt {w : World} (h : Tab w) : 2 < w.heap.size := block_lt (h 0 (by decide))
theorem Tab.keep {w w' : World} (h : Tab w) {B : Nat} (hb : Below B w w') (hB : 2 < B) : Tab w' :=
  fun i hi => (hb.cell (p := ⟨_, i, none⟩) hB).trans (h i hi)
theorem Tab.below {w w' : World} (h : Tab w) (hb : Below w.heap.size w w') : Tab w' := h.keep hb h.lt
theorem Tab.alloc {w : World} (h : Tab w) (o : Obj) : Tab (w.alloc o) := h.below ((Below.refl _ _).alloc (Nat.le_refl _) _)

theorem inRange_any (n lo hi : Int) (w : World) :
    Calls Tryd.prog 71 #[.int .i64 n, .int .i64 lo, .int .i64 hi] w fun e w' => e = .returned (.bool (decide (lo ≤ n ∧ n ≤ hi))) ∧ w = w' := by
  go_enter Tryd.func71, Tryd.ntmps71
  go_wp2
  all_goals go_ret
  all_goals exact ⟨ret_bool (by rw [Bool.eq_iff_iff]; simp; try omega), rfl⟩

theorem one_any (v : Int) (n : Nat) (h : v = n) (h1 : n < 32) (w : World) :
    Calls Tryd.prog 106 #[.int .i64 v] w fun e w' => e = .returned (.int .u32 ((2 ^ n : Nat) : Int)) ∧ w = w' := by
  subst h
  have e : (2 : Int) ^ n % 4294967296 = ((2 ^ n : Nat) : Int) := by
    have : 2 ^ n < 2 ^ 32 := Nat.pow_lt_pow_right (by decide) h1
    rw [two32] at this
    have e2 : ((2 ^ n : Nat) : Int) = 2 ^ n := by simp
    rw [← e2]
    generalize 2 ^ n = q at *
    clear e2
    omega
  have H := Lib.hid e
  clear e
  go_enter Tryd.func106, Tryd.ntmps106
  go_wp2
  go_ret
  exact ⟨ret_int H.out, rfl⟩

theorem tz_core (m p q k : Nat) (w : World) (hz : ((m : Int) == 0) = false) (hb : bits BinOp.and IntKind.u32 (m : Int) (-(m : Int) % 4294967296) = (p : Int))
    (hn : (p : Int) * 125613361 % 4294967296 / 134217728 = (q : Int)) (t2 : q < 32) (hc : w.cell? ⟨2, q, none⟩ = some (.int .u8 (k : Int))) (hk : k < 32) :
    Calls Tryd.prog 205 #[.int .u32 m] w fun e w' => e = .returned (.int .i64 (k : Int)) ∧ w = w' := by
  go_enter Tryd.func205, Tryd.ntmps205
  go_wp2
  go_ret
  exact ⟨rfl, rfl⟩

theorem tz_any (m : Nat) (h0 : m ≠ 0) (h : m < 4294967296) (w : World) (ht : Tab w) :
    Calls Tryd.prog 205 #[.int .u32 m] w fun e w' => e = .returned (.int .i64 (low m : Int)) ∧ w = w' := by
  have hz : ((m : Int) == 0) = false := by simp; omega
  have hb := bits_neg_low h0 h
  obtain ⟨hk, _, _⟩ := low_spec h0 (by rw [two32]; exact h)
  obtain ⟨t1, t2⟩ := tab32_low (low m) hk
  have hc := ht _ t2
  rw [t1] at hc
  exact tz_core m (2 ^ low m) _ (low m) w hz hb (by simp) t2 hc hk

theorem least_any (m : Nat) (h0 : m ≠ 0) (h : m < 4294967296) (w : World) (ht : Tab w) :
    Calls Tryd.prog 179 #[.int .u32 m] w fun e w' => e = .returned (.int .i64 (low m : Int)) ∧ w = w' := by
  go_enter Tryd.func179, Tryd.ntmps179
  go_wp2_with (go_at_call 205; refine (tz_any m h0 h _ ht).mono ?_; rintro e w' ⟨rfl, rfl⟩)
  go_ret
  exact ⟨rfl, rfl⟩

theorem bits_clear {m : Nat} (h0 : m ≠ 0) (h : m < 4294967296) : bits BinOp.and IntKind.u32 (m : Int) ((m : Int) - 1) = ((m &&& (m - 1) : Nat) : Int) := by
  have e : ((m : Int) - 1) = ((m - 1 : Nat) : Int) := by omega
  rw [e, u32_and_nat _ _ h (by omega)]

set_option maxHeartbeats 400000 in
theorem list_any (m : Nat) (h : m < 4294967296) (w : World) (ht : Tab w) :
    Calls Tryd.prog 123 #[.int .u32 m] w fun e w' => ∃ v, e = .returned v ∧
      w'.ownsRow w.heap.size 3 1 v (bitsOf m).length ((bitsOf m).map fun (i : Nat) => Value.int .i64 i) ∧ Below w.heap.size w w' := by
  have hlen := length_bitsOf m
  go_enter Tryd.func123, Tryd.ntmps123
  go_wp2_with fail
  go_loopw [0, 3] (fun s v wr => ∃ (k : Nat) (ds : List Nat), k < 4294967296 ∧ s = .int .u32 k ∧ ds ++ bitsOf k = bitsOf m ∧ wr.ownsRow w.heap.size 3 1 v ds.length (ds.map fun (i : Nat) => Value.int .i64 i) ∧ Below w.heap.size w wr)
    (fun s _ _ => (intOf s).toNat)
  case atStart => exact ⟨m, [], h, rfl, rfl, World.ownsRow_lit w #[] 0 (Nat.le_refl _) (by simp [maxLen]) rfl, (Below.refl _ _).alloc (Nat.le_refl _) _⟩
  case round =>
    obtain ⟨k, ds, hk, rfl, hds, hown, hbel⟩ := hrel
    have hD := Lib.hid hds
    clear hds
    by_cases h0 : k = 0
    · have hz : ((k : Int) != 0) = false := by simp [h0]
      go_wp2_with fail
      go_ret
      subst h0
      have e : ds = bitsOf m := by simpa [bitsOf_zero] using hD.out
      subst e
      exact ⟨_, rfl, hown, hbel⟩
    · have hz : ((k : Int) != 0) = true := by simpa using h0
      have hb := bits_clear h0 hk
      have htr : Tab wr := ht.below hbel
      have hst := bitsOf_step h0 (by rw [two32]; exact hk)
      have hl : ds.length + (1 + (bitsOf (k &&& (k - 1))).length) ≤ 32 := by
        have := congrArg List.length hD.out
        rw [hst] at this
        simp at this
        omega
      have hlow := (low_spec h0 (by rw [two32]; exact hk)).1
      have HS := Lib.hid hst
      clear hst
      have hkk := low_clear_lt h0
      go_wp2_with (first
        | (go_at_call 179; refine (least_any k h0 hk _ htr).mono ?_; rintro e w' ⟨rfl, rfl⟩)
        | (at_builtin; refine wpList_push _ rfl _ _ 141 rfl w.heap.size 3 _ _ 8 Tryd.underlying141 infoN rfl _ _ _ rfl hown _ rfl rfl (by unfold maxLen; omega) (by omega) hbel.size ?_; intro g' c' w1 hown' hgrow))
      go_roundw
      case rel =>
        refine ⟨k &&& (k - 1), ds ++ [low k], by omega, by first | rfl | trivial, ?_, by simpa using hown', hbel.grown hgrow hbel.size fun b hb' => (owns_lt hown hb').1⟩
        rw [← hD.out, HS.out]
        simp
      case measure => simp [intOf]; omega

/-- int64 or int: a list of numbers as values. -/
def ints (xs : List Int) : List Value := xs.map (Value.int .i64)
@[simp] theorem ints_length (xs : List Int) : (ints xs).length = xs.length := by simp [ints]
theorem ints_snoc (xs : List Int) (x : Int) : ints (xs ++ [x]) = ints xs ++ [.int .i64 x] := by simp [ints]
theorem take_snoc {α : Type} {xs : List α} {k : Nat} {x : α} (h : xs[k]? = some x) : xs.take (k + 1) = xs.take k ++ [x] := by
  obtain ⟨hk, rfl⟩ := List.getElem?_eq_some_iff.1 h
  exact List.take_succ_eq_append_getElem hk
/-- The number at place j of a slice of numbers that is read. -/
theorem Row.intAt {w : World} {a : Option Addr} {len cap n : Nat} {xs : List Int} {k : IntKind} (h : Row w 1 (.slice a len cap) n (xs.map (Value.int k))) {j : Nat} (hj : j < xs.length) :
    ∃ b o x, a = some ⟨b, o, none⟩ ∧ w.cell? ⟨b, o + j, none⟩ = some (.int k x) ∧ Hid (xs[j]? = some x) := by
  obtain ⟨a', cap', e, h1, h2, h3, h4, h5⟩ := h
  obtain ⟨rfl, rfl, rfl⟩ : a' = a ∧ n = len ∧ cap' = cap := by simpa [eq_comm] using e
  obtain ⟨b, o, rfl, hc⟩ := h5 j (.int k xs[j]) (by simp [hj])
  exact ⟨b, o, xs[j], rfl, hc, Lib.hid (by simp [hj])⟩

set_option maxHeartbeats 400000 in
theorem wide_any (v : Value) (xs : List Int) (w : World) (hr : Row w 1 v xs.length (ints xs)) (hs : xs.length ≤ 1000000000) :
    Calls Tryd.prog 155 #[v] w fun e w' => ∃ v', e = .returned v' ∧
      w'.ownsRow w.heap.size 2 1 v' xs.length (ints xs) ∧ Below w.heap.size w w' := by
  obtain ⟨a, cap, rfl, h1, h2, h3, h4, h5⟩ := id hr
  clear h3 h4 h5
  obtain ⟨i0, hi, hz0, hz1, hz2⟩ := info_parts infoI
  have hzz := Lib.hid hz2
  go_enter Tryd.func155, Tryd.ntmps155
  go_wp2_with (at_make; refine wpList_make_own _ rfl _ _ 30 rfl w.heap.size 2 i0 (.int .i64 0) 1 Tryd.underlying30 hi hz0 hz1 .i64 .i64 _ xs.length rfl rfl rfl (by rw [hzz.out]; omega) (by unfold maxLen; omega) (Nat.le_refl _) ?_; intro w1 hown1 hgrow1)
  clear hi hz0 hz1 hz2
  have hb1 := below_of_grown (B := w.heap.size) hgrow1 (Nat.le_refl _) (by simp)
  clear hgrow1
  go_loopw [3, 11] (fun v i wr => ∃ k : Nat, k ≤ xs.length ∧ i = .int .i64 k ∧ wr.ownsRow w.heap.size 2 1 v k (ints (xs.take k)) ∧ Below w.heap.size w wr) (fun _ i _ => xs.length - (intOf i).toNat)
  case atStart => exact ⟨0, Nat.zero_le _, rfl, by simpa [ints] using hown1, hb1⟩
  case round =>
    obtain ⟨k, hk, rfl, hown, hbel⟩ := hrel
    by_cases hlt : k < xs.length
    · obtain ⟨b, o, x, rfl, hc, HX⟩ := (hr.below hbel).intAt hlt
      have hsz := hbel.size
      go_wp2_with (at_builtin; refine wpList_push _ rfl _ _ 30 rfl w.heap.size 2 _ _ 8 Tryd.underlying30 infoI rfl _ _ _ rfl hown _ rfl rfl (by unfold maxLen; omega) (by omega) hsz ?_; intro g' c' w2 hown' hgrow)
      go_roundw
      case rel =>
        exact ⟨k + 1, by omega, by go_num, by rw [take_snoc HX.out, ints_snoc]; exact hown', hbel.grown hgrow hsz fun b hb' => (owns_lt hown hb').1⟩
      case measure => simp [intOf]; omega
    · go_wp2_with fail
      go_ret
      have e : xs.take k = xs := List.take_of_length_le (by omega)
      have e2 : k = xs.length := by omega
      rw [e, e2] at hown
      exact ⟨_, rfl, hown, hbel⟩

/-- The elements of a set, as numbers. -/
def nums (m : Nat) : List Int := (bitsOf m).map fun (i : Nat) => (i : Int)
theorem nums_length (m : Nat) : (nums m).length ≤ 32 := by simpa [nums] using length_bitsOf m
theorem ints_nums (m : Nat) : ints (nums m) = (bitsOf m).map fun (i : Nat) => Value.int .i64 i := by simp [ints, nums]

theorem numbers_any (m : Nat) (h : m < 4294967296) (w : World) (ht : Tab w) :
    Calls Tryd.prog 78 #[.int .u32 m] w fun e w' => ∃ v', e = .returned v' ∧
      w'.ownsRow w.heap.size 2 1 v' (nums m).length (ints (nums m)) ∧ Below w.heap.size w w' := by
  have hl := nums_length m
  go_enter Tryd.func78, Tryd.ntmps78
  go_wp2_with fail
  refine (list_any m h w ht).mono ?_
  rintro e w1 ⟨v, rfl, ho, hb⟩
  rw [← ints_nums, show (bitsOf m).length = (nums m).length by simp [nums]] at ho
  go_wp2_with fail
  refine (wide_any v (nums m) w1 (Row.of_owns ho) (by omega)).mono ?_
  rintro e w2 ⟨v2, rfl, ho2, hb2⟩
  go_wp2_with fail
  go_ret
  exact ⟨_, rfl, owns_base ho2 hb.size, hb.trans (hb2.mono hb.size)⟩

end Go.Proofs.YtbhobmngnjfgfaaDoor
