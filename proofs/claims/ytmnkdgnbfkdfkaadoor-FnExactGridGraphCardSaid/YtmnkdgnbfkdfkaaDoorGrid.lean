/-
  'GridGraph' of the reference and of the program.
-/
import Derived.Test.YtmnkdgnbfkdfkaaDoorPath
namespace Go.Proofs.YtmnkdgnbfkdfkaaDoor
open Go.RowKit

/-- The links of vertex v of a grid of rows of b. -/
def gridS1 (b : Nat) (ms : List Nat) (v : Nat) : List Nat := if 0 < v % b then joinS ms (v - 1) v else ms
def gridS2 (b : Nat) (ms : List Nat) (v : Nat) : List Nat := if b ≤ v then joinS ms (v - b) v else ms
def gridM (n b k : Nat) : List Nat := (List.range k).foldl (fun ms v => gridS2 b (gridS1 b ms v) v) (List.replicate n 0)
theorem gridM_succ (n b k : Nat) : gridM n b (k + 1) = gridS2 b (gridS1 b (gridM n b k) k) k := by simp [gridM, List.range_succ]
@[simp] theorem gridS1_length (b : Nat) (ms : List Nat) (v : Nat) : (gridS1 b ms v).length = ms.length := by unfold gridS1; split <;> simp
@[simp] theorem gridS2_length (b : Nat) (ms : List Nat) (v : Nat) : (gridS2 b ms v).length = ms.length := by unfold gridS2; split <;> simp
@[simp] theorem gridM_length (n b k : Nat) : (gridM n b k).length = n := by
  induction k with
  | zero => simp [gridM]
  | succ k ih => rw [gridM_succ]; simp [ih]

set_option maxHeartbeats 1000000 in
theorem specGrid_yes (a b n : Nat) (ha : 1 ≤ a) (ha2 : a ≤ 16) (hb : 1 ≤ b) (hb2 : b ≤ 16) (hp : (a : Int) * (b : Int) = (n : Int)) (hn : n ≤ 16) (w : World) :
    Calls Tryd.prog 22 #[.int .i64 a, .int .i64 b] w (GRes w (rowsOf (gridM n b n)) true) := by
  have hin : decide ((1 : Int) ≤ a ∧ (a : Int) ≤ 16) = true := by simp; omega
  have hin2 : decide ((1 : Int) ≤ b ∧ (b : Int) ≤ 16) = true := by simp; omega
  obtain ⟨B, hBe⟩ : ∃ B, w.heap.size = B := ⟨_, rfl⟩
  have hR0 : GC (w.alloc (.cells #[.slice none 0 0] 28)) B (.slice none 0 0) := by subst hBe; exact GC.new _ _
  go_enter Tryd.func22, Tryd.ntmps22
  go_wp2_with fail
  refine (l1In_any _ _ _ _).mono ?_
  rintro e w' ⟨rfl, rfl⟩
  rw [hin]
  go_wp2_with fail
  refine (l1In_any _ _ _ _).mono ?_
  rintro e w' ⟨rfl, rfl⟩
  rw [hin2]
  go_wp2_with fail
  refine (empty_any n (by omega) _).mono ?_
  rintro e w1 ⟨u, vs, rfl, hG, hb1⟩
  obtain ⟨ga, gc, rfl⟩ := owns_shape hG.outer
  have hvl : vs.length = n := by rw [hG.len]; simp
  rw [hvl] at hG ⊢
  rw [← rowsOf_zeros] at hG
  have hS := SG.ofRes (ms := gridM n b 0) hBe hR0 hG hb1 (by simp)
  obtain ⟨C, hCe⟩ : ∃ C, w1.heap.size = C := ⟨_, rfl⟩
  rw [hCe] at hS
  clear hG hb1 hvl hR0 hin hin2
  go_wp2_with fail
  go_loopw [7] (fun i wr => ∃ (k : Nat) (vs : List Value), k ≤ n ∧ i = .int .i64 ((k : Nat) : Int) ∧ SG w B C ga n gc vs (gridM n b k) wr) (fun i _ => n - (intOf i).toNat)
  case atStart => exact ⟨0, vs, by omega, rfl, hS⟩
  case round =>
    obtain ⟨k, vs', hk, rfl, hS⟩ := hrel
    have hcC := hS.var.cell
    by_cases hlt : k < n
    · have hmod : Int.tmod (k : Int) (b : Int) = ((k % b : Nat) : Int) := rfl
      have hG1 : ∀ (ms : List Nat), (0 < k % b → gridS1 b ms k = joinS ms (k - 1) k) ∧ (¬ 0 < k % b → gridS1 b ms k = ms) := fun ms => ⟨fun h => by simp [gridS1, h], fun h => by simp only [gridS1]; rw [if_neg h]⟩
      have hG2 : ∀ (ms : List Nat), (b ≤ k → gridS2 b ms k = joinS ms (k - b) k) ∧ (¬ b ≤ k → gridS2 b ms k = ms) := fun ms => ⟨fun h => by simp [gridS2, h], fun h => by simp [gridS2, h]⟩
      have hk0 : 0 < k % b → 1 ≤ k := fun h => by
        rcases Nat.eq_zero_or_pos k with h0 | h0
        · subst h0; simp at h
        · exact h0
      have hmb : k % b < b := Nat.mod_lt _ (by omega)
      by_cases h1 : 0 < k % b
      · by_cases h2 : b ≤ k
        · have hk1 := hk0 h1
          go_wp2_with fail
          refine (hS.link (k - 1) k _ _ (by omega) (by omega) (by omega) (by omega) (by omega)).mono ?_
          rintro e w2 ⟨rfl, vs2, hS2⟩
          have hcC2 := hS2.var.cell
          have hfC2 := hS2.var.free
          have hSt := hS2.store
          have hcCt := hSt.var.cell
          generalize HW : w2.setCell ⟨C, 0, none⟩ (.slice ga n gc) = w3 at *
          have HWH := Lib.hid HW
          clear HW
          go_wp2_with fail
          rw [HWH.out]
          go_wp2_with fail
          refine (hSt.link (k - b) k _ _ (by omega) (by omega) (by omega) (by omega) (by omega)).mono ?_
          rintro e w4 ⟨rfl, vs4, hS4⟩
          have hcC4 := hS4.var.cell
          have hfC4 := hS4.var.free
          go_wp2_with fail
          go_roundw
          case rel => exact ⟨k + 1, vs4, by omega, by go_num, by rw [gridM_succ, (hG1 _).1 h1, (hG2 _).1 h2]; exact hS4.store⟩
          case measure => simp [intOf]; omega
        · have hk1 := hk0 h1
          go_wp2_with fail
          refine (hS.link (k - 1) k _ _ (by omega) (by omega) (by omega) (by omega) (by omega)).mono ?_
          rintro e w2 ⟨rfl, vs2, hS2⟩
          have hcC2 := hS2.var.cell
          have hfC2 := hS2.var.free
          have hSt := hS2.store
          have hcCt := hSt.var.cell
          generalize HW : w2.setCell ⟨C, 0, none⟩ (.slice ga n gc) = w3 at *
          have HWH := Lib.hid HW
          clear HW
          go_wp2_with fail
          rw [HWH.out]
          go_wp2_with fail
          go_roundw
          case rel => exact ⟨k + 1, vs2, by omega, by go_num, by rw [gridM_succ, (hG1 _).1 h1, (hG2 _).2 h2]; exact hSt⟩
          case measure => simp [intOf]; omega
      · by_cases h2 : b ≤ k
        · go_wp2_with fail
          refine (hS.link (k - b) k _ _ (by omega) (by omega) (by omega) (by omega) (by omega)).mono ?_
          rintro e w4 ⟨rfl, vs4, hS4⟩
          have hcC4 := hS4.var.cell
          have hfC4 := hS4.var.free
          go_wp2_with fail
          go_roundw
          case rel => exact ⟨k + 1, vs4, by omega, by go_num, by rw [gridM_succ, (hG1 _).2 h1, (hG2 _).1 h2]; exact hS4.store⟩
          case measure => simp [intOf]; omega
        · go_wp2_with fail
          go_roundw
          case rel => exact ⟨k + 1, vs', by omega, by go_num, by rw [gridM_succ, (hG1 _).2 h1, (hG2 _).2 h2]; exact hS⟩
          case measure => simp [intOf]; omega
    · have hcR := hS.res.cell
      have hfR := hS.res.free
      have hfin := hS.done hBe true
      have hce := (hS.res.set (.slice ga n gc)).cell
      obtain rfl : k = n := by omega
      have HF := Lib.hid hfin
      have HCE := Lib.hid hce
      clear hfin hce
      go_wp2_with fail
      refine bodyPost_ret (v := .tuple #[.agg #[.slice ga k gc], .bool true]) (by simp [results, Tryd.results22, go_sem, HCE.out]) rfl ?_
      exact HF.out

theorem specGrid_no (a b : Int) (h : ¬ ((1 ≤ a ∧ a ≤ 16) ∧ (1 ≤ b ∧ b ≤ 16) ∧ a * b ≤ 16)) (w : World) :
    Calls Tryd.prog 22 #[.int .i64 a, .int .i64 b] w (GRes w [] false) := by
  by_cases ha : 1 ≤ a ∧ a ≤ 16
  · have hin : decide (1 ≤ a ∧ a ≤ 16) = true := by simpa using ha
    by_cases hb : 1 ≤ b ∧ b ≤ 16
    · have hin2 : decide (1 ≤ b ∧ b ≤ 16) = true := by simpa using hb
      obtain ⟨n, hp⟩ : ∃ n, a * b = n := ⟨_, rfl⟩
      have hn : ¬ n ≤ 16 := fun h' => h ⟨ha, hb, by omega⟩
      have hn2 : n ≤ 16 * 16 := by rw [← hp]; exact Int.mul_le_mul ha.2 hb.2 (by omega) (by omega)
      clear h
      go_enter Tryd.func22, Tryd.ntmps22
      go_wp2_with fail
      refine (l1In_any _ _ _ _).mono ?_
      rintro e w' ⟨rfl, rfl⟩
      rw [hin]
      go_wp2_with fail
      refine (l1In_any _ _ _ _).mono ?_
      rintro e w' ⟨rfl, rfl⟩
      rw [hin2]
      go_wp2_with fail
      refine bodyPost_ret (v := .tuple #[.agg #[.slice none 0 0], .bool false]) (by simp [results, Tryd.results22, go_sem]) rfl ?_
      exact GRes.nothing _ _ (below_alloc _ _)
    · have hin2 : decide (1 ≤ b ∧ b ≤ 16) = false := by simpa using hb
      clear h
      go_enter Tryd.func22, Tryd.ntmps22
      go_wp2_with fail
      refine (l1In_any _ _ _ _).mono ?_
      rintro e w' ⟨rfl, rfl⟩
      rw [hin]
      go_wp2_with fail
      refine (l1In_any _ _ _ _).mono ?_
      rintro e w' ⟨rfl, rfl⟩
      rw [hin2]
      go_wp2_with fail
      refine bodyPost_ret (v := .tuple #[.agg #[.slice none 0 0], .bool false]) (by simp [results, Tryd.results22, go_sem]) rfl ?_
      exact GRes.nothing _ _ (below_alloc _ _)
  · have hin : decide (1 ≤ a ∧ a ≤ 16) = false := by simpa using ha
    clear h
    go_enter Tryd.func22, Tryd.ntmps22
    go_wp2_with fail
    refine (l1In_any _ _ _ _).mono ?_
    rintro e w' ⟨rfl, rfl⟩
    rw [hin]
    go_wp2_with fail
    refine bodyPost_ret (v := .tuple #[.agg #[.slice none 0 0], .bool false]) (by simp [results, Tryd.results22, go_sem]) rfl ?_
    exact GRes.nothing _ _ (below_alloc _ _)

theorem implGrid_no (a b : Int) (h : ¬ ((1 ≤ a ∧ a ≤ 16) ∧ (1 ≤ b ∧ b ≤ 16) ∧ a * b ≤ 16)) (w : World) :
    Calls Tryd.prog 23 #[.int .i64 a, .int .i64 b] w (GRes w [] false) := by
  by_cases ha : 1 ≤ a ∧ a ≤ 16
  · have hin : decide (1 ≤ a ∧ a ≤ 16) = true := by simpa using ha
    by_cases hb : 1 ≤ b ∧ b ≤ 16
    · have hin2 : decide (1 ≤ b ∧ b ≤ 16) = true := by simpa using hb
      obtain ⟨n, hp⟩ : ∃ n, a * b = n := ⟨_, rfl⟩
      have hn : ¬ n ≤ 16 := fun h' => h ⟨ha, hb, by omega⟩
      have hn2 : n ≤ 16 * 16 := by rw [← hp]; exact Int.mul_le_mul ha.2 hb.2 (by omega) (by omega)
      clear h
      go_enter Tryd.func23, Tryd.ntmps23
      go_wp2_with fail
      refine (inRange_any _ _ _ _).mono ?_
      rintro e w' ⟨rfl, rfl⟩
      rw [hin]
      go_wp2_with fail
      refine (inRange_any _ _ _ _).mono ?_
      rintro e w' ⟨rfl, rfl⟩
      rw [hin2]
      go_wp2_with fail
      refine bodyPost_ret (v := .tuple #[.agg #[.slice none 0 0], .bool false]) (by simp [results, Tryd.results23, go_sem]) rfl ?_
      exact GRes.nothing _ _ (below_alloc _ _)
    · have hin2 : decide (1 ≤ b ∧ b ≤ 16) = false := by simpa using hb
      clear h
      go_enter Tryd.func23, Tryd.ntmps23
      go_wp2_with fail
      refine (inRange_any _ _ _ _).mono ?_
      rintro e w' ⟨rfl, rfl⟩
      rw [hin]
      go_wp2_with fail
      refine (inRange_any _ _ _ _).mono ?_
      rintro e w' ⟨rfl, rfl⟩
      rw [hin2]
      go_wp2_with fail
      refine bodyPost_ret (v := .tuple #[.agg #[.slice none 0 0], .bool false]) (by simp [results, Tryd.results23, go_sem]) rfl ?_
      exact GRes.nothing _ _ (below_alloc _ _)
  · have hin : decide (1 ≤ a ∧ a ≤ 16) = false := by simpa using ha
    clear h
    go_enter Tryd.func23, Tryd.ntmps23
    go_wp2_with fail
    refine (inRange_any _ _ _ _).mono ?_
    rintro e w' ⟨rfl, rfl⟩
    rw [hin]
    go_wp2_with fail
    refine bodyPost_ret (v := .tuple #[.agg #[.slice none 0 0], .bool false]) (by simp [results, Tryd.results23, go_sem]) rfl ?_
    exact GRes.nothing _ _ (below_alloc _ _)

set_option maxHeartbeats 1000000 in
theorem implGrid_yes (a b n : Nat) (ha : 1 ≤ a) (ha2 : a ≤ 16) (hb : 1 ≤ b) (hb2 : b ≤ 16) (hp : (a : Int) * (b : Int) = (n : Int)) (hn : n ≤ 16) (w : World) (ht : Tab w) :
    Calls Tryd.prog 23 #[.int .i64 a, .int .i64 b] w (GRes w (rowsOf (gridM n b n)) true) := by
  have hin : decide ((1 : Int) ≤ a ∧ (a : Int) ≤ 16) = true := by simp; omega
  have hin2 : decide ((1 : Int) ≤ b ∧ (b : Int) ≤ 16) = true := by simp; omega
  obtain ⟨B, hBe⟩ : ∃ B, w.heap.size = B := ⟨_, rfl⟩
  have hR0 : GC (w.alloc (.cells #[.slice none 0 0] 28)) B (.slice none 0 0) := by subst hBe; exact GC.new _ _
  have hba : Below B w (w.alloc (.cells #[.slice none 0 0] 28)) := by subst hBe; exact below_alloc _ _
  have ht1 := ht.alloc (.cells #[.slice none 0 0] 28)
  go_enter Tryd.func23, Tryd.ntmps23
  go_wp2_with fail
  refine (inRange_any _ _ _ _).mono ?_
  rintro e w' ⟨rfl, rfl⟩
  rw [hin]
  go_wp2_with fail
  refine (inRange_any _ _ _ _).mono ?_
  rintro e w' ⟨rfl, rfl⟩
  rw [hin2]
  obtain ⟨W1, hW1⟩ : ∃ W, w.alloc (.cells #[.slice none 0 0] 28) = W := ⟨_, rfl⟩
  obtain ⟨B1, hB1⟩ : ∃ B, W1.heap.size = B := ⟨_, rfl⟩
  rw [hW1] at hR0 hba ht1 ⊢
  go_wp2_with (at_make; refine wpList_make _ rfl _ _ 43 rfl W1.heap.size 53 (.int .u32 0) 4 Tryd.underlying43 infoV rfl .i64 .i64 _ _ n rfl rfl (by omega) (by omega) (by omega) (by unfold maxLen; omega) (by simp) ?_; intro w1 ho1 hb1)
  have hN := NS.made ho1 hb1 (Nat.le_refl _) (Below.refl _ _)
  have hNB : B1 ≤ w1.heap.size := by have := hb1.size; omega
  clear ho1 hb1
  simp only [hB1] at hN
  go_wp2_with fail
  go_loopw [30] (fun s wr => ∃ i m : Nat, i ≤ a ∧ (i : Int) * (b : Int) = m ∧ s = .int .i64 (i : Int) ∧ NS B1 W1 (.slice (some ⟨B1, 0, none⟩) n n) (gridM n b m) wr) (fun s _ => a - (intOf s).toNat)
  case atStart => exact ⟨0, 0, by omega, by simp, rfl, hN⟩
  case round =>
    obtain ⟨i, m, hi, hm, rfl, hN⟩ := hrel
    by_cases hlt : i < a
    · have hmn : m + b ≤ n := by
        have h1 : ((i + 1 : Nat) : Int) * (b : Int) ≤ (a : Int) * (b : Int) := Int.mul_le_mul_of_nonneg_right (by omega) (by omega)
        have h2 : ((i + 1 : Nat) : Int) * (b : Int) = (i : Int) * b + b := by rw [Int.natCast_add, Int.add_mul]; simp
        omega
      have hmm : i * b = m := by have : ((i * b : Nat) : Int) = m := by simpa using hm
                                 omega
      go_wp2_with fail
      go_loopw [34] (fun s wr => ∃ j : Nat, j ≤ b ∧ s = .int .i64 (j : Int) ∧ NS B1 W1 (.slice (some ⟨B1, 0, none⟩) n n) (gridM n b (m + j)) wr) (fun s _ => b - (intOf s).toNat)
      case atStart => exact ⟨0, by omega, rfl, hN⟩
      case round =>
        obtain ⟨j, hj, rfl, hN⟩ := hrel
        have hNB : B1 ≤ wr.heap.size := by have := hN.bel.size; omega
        by_cases hlj : j < b
        · obtain ⟨v, hv⟩ : ∃ v, m + j = v := ⟨_, rfl⟩
          rw [hv] at hN
          have hmod : v % b = j := by rw [← hv, ← hmm, Nat.mul_comm i b, Nat.mul_add_mod, Nat.mod_eq_of_lt hlj]
          have hib : 0 < i → b ≤ v := fun h => by have := Nat.le_mul_of_pos_left b h; omega
          have hi0 : ¬ 0 < i → ¬ b ≤ v := fun h => by obtain rfl : i = 0 := by omega
                                                      simp at hmm; omega
          have hG1 : ∀ (ms : List Nat), (0 < j → gridS1 b ms v = joinS ms (v - 1) v) ∧ (¬ 0 < j → gridS1 b ms v = ms) := fun ms => by simp only [gridS1, hmod]; exact ⟨fun h => if_pos h, fun h => if_neg h⟩
          have hG2 : ∀ (ms : List Nat), (0 < i → gridS2 b ms v = joinS ms (v - b) v) ∧ (¬ 0 < i → gridS2 b ms v = ms) := fun ms => by simp only [gridS2]; exact ⟨fun h => if_pos (hib h), fun h => if_neg (hi0 h)⟩
          clear hmod hmm hi0
          by_cases h1 : 0 < j
          · by_cases h2 : 0 < i
            · have hbv := hib h2
              go_wp2_with fail
              refine (hN.join hNB (v - 1) v _ _ (by omega) (by omega) (by simp; omega) (by simp; omega) (by simp; omega)).mono ?_
              rintro e w2 ⟨rfl, hN2, -⟩
              have hNB2 : B1 ≤ w2.heap.size := by have := hN2.bel.size; omega
              go_wp2_with fail
              refine (hN2.join hNB2 (v - b) v _ _ (by omega) (by omega) (by simp; omega) (by simp; omega) (by simp; omega)).mono ?_
              rintro e w3 ⟨rfl, hN3, -⟩
              go_wp2_with fail
              go_roundw
              case rel => exact ⟨j + 1, by omega, by go_num, by rw [show m + (j + 1) = v + 1 by omega, gridM_succ, (hG1 _).1 h1, (hG2 _).1 h2]; exact hN3⟩
              case measure => simp [intOf]; omega
            · go_wp2_with fail
              refine (hN.join hNB (v - 1) v _ _ (by omega) (by omega) (by simp; omega) (by simp; omega) (by simp; omega)).mono ?_
              rintro e w2 ⟨rfl, hN2, -⟩
              have hNB2 : B1 ≤ w2.heap.size := by have := hN2.bel.size; omega
              go_wp2_with fail
              go_roundw
              case rel => exact ⟨j + 1, by omega, by go_num, by rw [show m + (j + 1) = v + 1 by omega, gridM_succ, (hG1 _).1 h1, (hG2 _).2 h2]; exact hN2⟩
              case measure => simp [intOf]; omega
          · by_cases h2 : 0 < i
            · have hbv := hib h2
              go_wp2_with fail
              refine (hN.join hNB (v - b) v _ _ (by omega) (by omega) (by simp; omega) (by simp; omega) (by simp; omega)).mono ?_
              rintro e w2 ⟨rfl, hN2, -⟩
              have hNB2 : B1 ≤ w2.heap.size := by have := hN2.bel.size; omega
              go_wp2_with fail
              go_roundw
              case rel => exact ⟨j + 1, by omega, by go_num, by rw [show m + (j + 1) = v + 1 by omega, gridM_succ, (hG1 _).2 h1, (hG2 _).1 h2]; exact hN2⟩
              case measure => simp [intOf]; omega
            · go_wp2_with fail
              go_roundw
              case rel => exact ⟨j + 1, by omega, by go_num, by rw [show m + (j + 1) = v + 1 by omega, gridM_succ, (hG1 _).2 h1, (hG2 _).2 h2]; exact hN⟩
              case measure => simp [intOf]; omega
        · obtain rfl : j = b := by omega
          go_wp2_with fail
          go_roundw
          case rel => exact ⟨i + 1, m + j, by omega, by rw [Int.natCast_add, Int.add_mul]; simp; omega, by go_num, hN⟩
          case measure => simp [intOf]; omega
    · obtain rfl : i = a := by omega
      obtain rfl : m = n := by omega
      have hR1 := hR0.belowAt hN.bel (by subst hB1; exact hR0.lt)
      have hb1 : Below B w wr := hba.trans (hN.bel.mono (by have := hR0.lt; omega))
      go_wp2_with fail
      refine (hN.graph ht1 (by subst hB1; exact ht1.lt) (by simp; omega)).mono ?_
      rintro e w2 ⟨u, vs, rfl, hG, hb2⟩
      obtain ⟨ua, uc, rfl⟩ := owns_shape hG.outer
      have hR2 := hR1.below hb2
      have hcR := hR2.cell
      have hfR := hR2.free
      have HF := Lib.hid (GRes.stored hBe hR1 hb1 hG hb2 true)
      have HCE := Lib.hid (hR2.set (.slice ua vs.length uc)).cell
      clear hb2 hb1
      go_wp2_with fail
      refine bodyPost_ret (v := .tuple #[.agg #[.slice ua vs.length uc], .bool true]) (by simp [results, Tryd.results23, go_sem, HCE.out]) rfl ?_
      exact HF.out
end Go.Proofs.YtmnkdgnbfkdfkaaDoor
