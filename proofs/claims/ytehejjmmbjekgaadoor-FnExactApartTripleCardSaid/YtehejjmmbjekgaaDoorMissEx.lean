/-
  'missing' of the program, exactly; the sets of three that are a claw.
-/
import Derived.Test.YtehejjmmbjekgaaDoorClawP
import Derived.Test.YtehejjmmbjekgaaDoorOkay
namespace Go.Proofs.YtehejjmmbjekgaaDoor
open Go.RowKit

def lackM (n : Nat) (e : Nat → Nat → Bool) (p : Nat → Bool) (y : Nat) : Nat := maskB n fun b => p b && !e y b && !decide (b = y)
def lackSum (n : Nat) (e : Nat → Nat → Bool) (p : Nat → Bool) (ys : List Int) : Nat := (ys.map fun y => size (lackM n e p y.toNat)).sum
theorem lackSum_snoc {n : Nat} {e : Nat → Nat → Bool} {p : Nat → Bool} {ys : List Int} {j y : Nat} (h : ys[j]? = some (y : Int)) : lackSum n e p (ys.take (j + 1)) = lackSum n e p (ys.take j) + size (lackM n e p y) := by
  unfold lackSum
  rw [take_snoc h]
  simp
theorem size_row' {n s : Nat} (hn : n ≤ 32) (hs : s < 2 ^ n) : (rowB n s.testBit).length = size s := by
  rw [size_cnt hn (bits_above hs)]
  unfold rowB cnt
  rw [List.length_map, List.range_eq_range']
theorem size_two {n y z : Nat} (hyz : y < z) (hz : z < n) (hn : n ≤ 16) (c d : Bool) : size (maskB n fun b => (decide (b = y) && c) || (decide (b = z) && d)) = c.toNat + d.toNat := by
  have hlt : (maskB n fun b => (decide (b = y) && c) || (decide (b = z) && d)) < 2 ^ n := lt_of_bits fun i hi => by rw [testBit_maskB]; simp; omega
  rw [← size_row' (by omega) hlt]
  have hr : rowB n (maskB n fun b => (decide (b = y) && c) || (decide (b = z) && d)).testBit = (if c then [(y : Int)] else []) ++ (if d then [(z : Int)] else []) := by
    refine rising_ext (rowB_rising _ _) (by cases c <;> cases d <;> simp <;> omega) fun a => ?_
    rw [mem_rowB]
    constructor
    · rintro ⟨b, hb, hpb, rfl⟩
      rw [testBit_maskB] at hpb
      cases c <;> cases d <;> simp at hpb ⊢ <;> omega
    · intro ha
      have : (a = y ∧ c = true) ∨ (a = z ∧ d = true) := by cases c <;> cases d <;> simp at ha ⊢ <;> omega
      rcases this with ⟨rfl, rfl⟩ | ⟨rfl, rfl⟩
      · exact ⟨y, by omega, by rw [testBit_maskB]; simp; omega, rfl⟩
      · exact ⟨z, by omega, by rw [testBit_maskB]; simp; omega, rfl⟩
  rw [hr]
  cases c <;> cases d <;> rfl
def fitI (n : Nat) (e : Nat → Nat → Bool) (v s : Nat) : Bool := decide (maskB n (fun b => s.testBit b && !e v b) = 0) && decide (lackSum n e s.testBit (rowB n s.testBit) / 2 = 3)
theorem three_of {n s : Nat} (hn : n ≤ 16) (hs : s < 2 ^ n) (h : size s = 3) : ∃ x y z : Nat, x < y ∧ y < z ∧ z < n ∧ rowB n s.testBit = [(x : Int), (y : Int), (z : Int)] ∧ ∀ b, s.testBit b = (decide (b = x) || decide (b = y) || decide (b = z)) := by
  have hl := size_row' (n := n) (s := s) (by omega) hs
  rw [h] at hl
  obtain ⟨x, y, z, hr⟩ : ∃ x y z, rowB n s.testBit = [x, y, z] := by
    rcases hrr : rowB n s.testBit with _ | ⟨x, _ | ⟨y, _ | ⟨z, _ | ⟨q, r⟩⟩⟩⟩ <;> rw [hrr] at hl <;> simp at hl
    exact ⟨x, y, z, rfl⟩
  have hx := row_at (n := n) (p := s.testBit) (j := 0) (x := x) (by rw [hr]; rfl)
  have hy := row_at (n := n) (p := s.testBit) (j := 1) (x := y) (by rw [hr]; rfl)
  have hz := row_at (n := n) (p := s.testBit) (j := 2) (x := z) (by rw [hr]; rfl)
  obtain ⟨x', hxn, hsx, rfl⟩ := hx
  obtain ⟨y', hyn, hsy, rfl⟩ := hy
  obtain ⟨z', hzn, hsz, rfl⟩ := hz
  have hrise := rowB_rising n s.testBit
  rw [hr] at hrise
  simp at hrise
  refine ⟨x', y', z', by omega, by omega, hzn, hr, fun b => ?_⟩
  rw [Bool.eq_iff_iff]
  simp only [Bool.or_eq_true, decide_eq_true_eq]
  constructor
  · intro hb
    have hbn : b < n := by
      apply Classical.byContradiction
      intro hn
      rw [bits_above hs b (by omega)] at hb
      cases hb
    have := nat_mem_rowB.2 ⟨hbn, hb⟩
    rw [hr] at this
    simp at this
    omega
  · rintro ((rfl | rfl) | rfl) <;> assumption
theorem fitI_claw {n : Nat} {e : Nat → Nat → Bool} {v s : Nat} (hA : Adj n e) (hs : s < 2 ^ n) (h : size s = 3) : fitI n e v s = true ↔ Claw n e v s := by
  have hn := hA.le
  obtain ⟨x, y, z, hxy, hyz, hzn, hr, hb⟩ := three_of hn hs h
  have sx : lackM n e s.testBit x = maskB n fun b => (decide (b = y) && !e x y) || (decide (b = z) && !e x z) := maskB_ext fun b hbn => by
    rw [hb]
    by_cases h1 : b = x
    · subst h1
      have h2 : ¬ b = y := by omega
      have h3 : ¬ b = z := by omega
      simp [h2, h3]
    · by_cases h2 : b = y
      · subst h2
        have h3 : ¬ b = z := by omega
        simp [h1, h3]
      · by_cases h3 : b = z
        · subst h3; simp [h1, h2]
        · simp [h1, h2, h3]
  have sy : lackM n e s.testBit y = maskB n fun b => (decide (b = x) && !e x y) || (decide (b = z) && !e y z) := maskB_ext fun b hbn => by
    rw [hb]
    by_cases h1 : b = x
    · subst h1
      have h2 : ¬ b = y := by omega
      have h3 : ¬ b = z := by omega
      rw [hA.sym y b (by omega) (by omega)]
      simp [h2, h3]
    · by_cases h2 : b = y
      · subst h2
        have h3 : ¬ b = z := by omega
        simp [h1, h3]
      · by_cases h3 : b = z
        · subst h3; simp [h1, h2]
        · simp [h1, h2, h3]
  have sz : lackM n e s.testBit z = maskB n fun b => (decide (b = x) && !e x z) || (decide (b = y) && !e y z) := maskB_ext fun b hbn => by
    rw [hb]
    by_cases h1 : b = x
    · subst h1
      have h2 : ¬ b = y := by omega
      have h3 : ¬ b = z := by omega
      rw [hA.sym z b (by omega) (by omega)]
      simp [h2, h3]
    · by_cases h2 : b = y
      · subst h2
        have h3 : ¬ b = z := by omega
        rw [hA.sym z b (by omega) (by omega)]
        simp [h1, h3]
      · by_cases h3 : b = z
        · subst h3; simp [h1, h2]
        · simp [h1, h2, h3]
  have hsum : lackSum n e s.testBit (rowB n s.testBit) / 2 = (!e x y).toNat + (!e x z).toNat + (!e y z).toNat := by
    unfold lackSum
    rw [hr]
    simp only [List.map_cons, List.map_nil, List.sum_cons, List.sum_nil, Int.toNat_natCast]
    rw [sx, sy, sz, size_two hyz hzn hn, size_two (by omega) hzn hn, size_two hxy (by omega) hn]
    cases e x y <;> cases e x z <;> cases e y z <;> rfl
  unfold fitI
  rw [hsum, Bool.and_eq_true, decide_eq_true_eq, decide_eq_true_eq, maskB_eq_zero]
  constructor
  · rintro ⟨h1, h2⟩
    have g : ∀ b, b < n → s.testBit b = true → e v b = true := fun b hbn hsb => by have := h1 b hbn; rw [hsb] at this; simpa using this
    refine ⟨x, y, z, hxy, hyz, hzn, g x (by omega) (by rw [hb]; simp), g y (by omega) (by rw [hb]; simp), g z hzn (by rw [hb]; simp), ?_, hb⟩
    revert h2
    unfold St
    cases e x y <;> cases e x z <;> cases e y z <;> simp
  · rintro ⟨x', y', z', g1, g2, g3, hx', hy', hz', hs', hb'⟩
    have e3 : x' = x ∧ y' = y ∧ z' = z := by
      have a1 := hb x'; have a2 := hb y'; have a3 := hb z'
      rw [hb'] at a1 a2 a3
      simp at a1 a2 a3
      omega
    obtain ⟨rfl, rfl, rfl⟩ := e3
    refine ⟨fun b hbn => ?_, ?_⟩
    · rw [hb]
      by_cases h1 : b = x'
      · subst h1; simp [hx']
      · by_cases h2 : b = y'
        · subst h2; simp [hy']
        · by_cases h3 : b = z'
          · subst h3; simp [hz']
          · simp [h1, h2, h3]
    · obtain ⟨q1, q2, q3⟩ := hs'
      rw [q1, q2, q3]
      rfl

set_option maxHeartbeats 2000000 in
theorem missing_exact (v : Value) (n : Nat) (e : Nat → Nat → Bool) (hn : n ≤ 16) (p : Nat → Bool) (z : Nat) (hz : z = maskB n p) (w : World) (ht : Tab w) (hr : Row w 1 v n (sets (NB n e))) :
    Calls Tryd.prog 106 #[v, .int .u32 z] w fun r w' => r = .returned (.int .i64 ((lackSum n e p (rowB n p) / 2 : Nat) : Int)) ∧ Below w.heap.size w w' := by
  obtain ⟨a, c, rfl, -, -, -⟩ := id hr
  obtain ⟨B, hB⟩ : ∃ B, w.heap.size = B := ⟨_, rfl⟩
  have HLI := Lib.hid (list_any z (by rw [hz]; exact maskB_small (by omega) _) w ht)
  have hll : (bitsOf z).length = (rowB n p).length := by
    have : (nums z).length = (bitsOf z).length := by simp [nums]
    rw [← this, hz, nums_maskB (by omega)]
  have hle : (bitsOf z).map (fun (i : Nat) => Value.int .i64 i) = ints (rowB n p) := by
    rw [← ints_nums, hz, nums_maskB (by omega)]
  rw [hll, hle, hB] at HLI
  have HZ := Lib.hid hz
  have hyl := rowB_length n p
  obtain ⟨zi, hzi⟩ : ∃ zi : Int, (z : Int) = zi := ⟨_, rfl⟩
  rw [hzi] at HLI ⊢
  have HZI := Lib.hid hzi
  clear hll hle hz hzi
  go_enter Tryd.func106, Tryd.ntmps106
  go_wp2_with fail
  refine HLI.out.mono ?_
  rintro e1 w1 ⟨u1, rfl, hL1, hb1⟩
  obtain ⟨la, lc, rfl⟩ := owns_shape hL1
  have hRL := Row.of_owns hL1
  obtain ⟨C, hC⟩ : ∃ C, w1.heap.size = C := ⟨_, rfl⟩
  have hBC : B ≤ C := by have := hb1.size; omega
  have hcl : Below C w1 w1 := Below.refl _ _
  clear hL1 HLI
  go_wp2_with fail
  go_loopw [5, 11] (fun t i wr => ∃ j s : Nat, j ≤ (rowB n p).length ∧ i = .int .i64 j ∧ t = .int .i64 s ∧ s ≤ 32 * j ∧ Hid (lackSum n e p ((rowB n p).take j) = s) ∧ Below C w1 wr) (fun _ i _ => (rowB n p).length - (intOf i).toNat)
  case atStart => exact ⟨0, 0, Nat.zero_le _, rfl, rfl, Nat.zero_le _, Lib.hid rfl, hcl⟩
  case round =>
    clear hcl
    obtain ⟨j, s, hj, rfl, rfl, hs, HS, hb⟩ := hrel
    by_cases hlt : j < (rowB n p).length
    · obtain ⟨yb, yo, y, rfl, hcy, HY⟩ := Row.intAt (Row.below hRL (hC.symm ▸ hb)) hlt
      obtain ⟨q, hq, -, rfl⟩ := mem_rowB.1 (List.mem_of_getElem? HY.out)
      obtain ⟨gb, go, x, rfl, hcx, HX⟩ := (hr.below (hB.symm ▸ (hb1.trans (hb.mono hBC)))).setAt (j := q) (by simpa using hq)
      obtain rfl : maskB n (e q) = x := by have h := HX.out; rw [NB_at e hq] at h; exact Option.some.inj h
      obtain ⟨xi, HXI⟩ : ∃ z : Int, Hid (((maskB n (e q) : Nat) : Int) = z) := ⟨_, Lib.hid rfl⟩
      obtain ⟨z2, HZ2⟩ : ∃ z : Int, Hid (z = (maskB n (fun i => p i && !(maskB n (e q)).testBit i) : Nat)) := ⟨_, Lib.hid rfl⟩
      obtain ⟨z3, HZ3⟩ : ∃ z : Int, Hid (z = ((2 ^ q : Nat) : Int)) := ⟨_, Lib.hid rfl⟩
      obtain ⟨z4, HZ4⟩ : ∃ z : Nat, Hid (lackM n e p q = z) := ⟨_, Lib.hid rfl⟩
      have hb1' : bits BinOp.andNot IntKind.u32 zi xi = z2 := by rw [← HZI.out, HZ.out, ← HXI.out, HZ2.out, maskB_andNot (by omega) _ (maskB_small (by omega) _)]
      have hb2' : bits BinOp.andNot IntKind.u32 z2 z3 = (z4 : Int) := by
        rw [HZ2.out, HZ3.out, ← HZ4.out, maskB_andNot (by omega) _ (pow_small (by omega))]
        unfold lackM
        congr 1
        refine maskB_ext fun i hi => ?_
        rw [testBit_maskB, Nat.testBit_two_pow]
        simp [hi, eq_comm]
      have hz4 : z4 < 4294967296 := by rw [← HZ4.out]; exact maskB_small (by omega) _
      rw [HXI.out] at hcx
      clear HX
      go_wp2_with fail
      refine wp_region_ord [0, 1, 2, 3, 4, 7] [5, 6] [8] [9, 10, 11, 12] (by kernel_rfl) (by kernel_rfl) (fun _ _ d _ _ h => by cases d <;> exact h) ?_
      simp only [pickOps, List.filterMap_cons, List.filterMap_nil, List.getElem?_cons_succ, List.getElem?_cons_zero]
      repeat quiet_step (fail)
      refine wpSegs_cons ?_
      go_wp2_with fail
      refine (one_at _ q rfl (by omega) z3 HZ3.out _).mono ?_
      rintro e1 w' ⟨rfl, rfl⟩
      go_wp2_with fail
      refine ⟨below_drewN' wr 1, ?_⟩
      simp only [wpSegs_nil_eq]
      go_wp2_with fail
      have hz32 : size z4 ≤ 32 := length_bitsOf z4
      refine (size_exact z4 hz4 _).mono ?_
      rintro e1 w3 ⟨rfl, hb3⟩
      have HD := Lib.hid (lackSum_snoc (n := n) (e := e) (p := p) HY.out)
      rw [HZ4.out] at HD
      generalize size z4 = d at *
      have hb4 := hb.trans ((below_drew hb3).mono (by have := hb.size; omega))
      clear hb3 hb hcx hcy
      go_wp2_with fail
      go_roundw
      case rel => exact ⟨j + 1, s + d, by omega, by go_num, by go_num, by omega, Lib.hid (by rw [HD.out, HS.out]), hb4⟩
      case measure => simp [intOf]; omega
    · obtain rfl : j = (rowB n p).length := by omega
      rw [List.take_length] at HS
      have hsl : s ≤ 512 := by omega
      go_wp2_with fail
      go_ret
      exact ⟨ret_int (by rw [HS.out]; go_num), by rw [hB]; exact hb1.trans (hb.mono hBC)⟩
end Go.Proofs.YtehejjmmbjekgaaDoor
