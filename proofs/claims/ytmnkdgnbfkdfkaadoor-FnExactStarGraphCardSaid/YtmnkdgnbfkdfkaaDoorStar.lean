/-
  'StarGraph' of the reference and of the program.
-/
import Derived.Test.YtmnkdgnbfkdfkaaDoorLink
namespace Go.Proofs.YtmnkdgnbfkdfkaaDoor
open Go.RowKit

set_option maxHeartbeats 1000000 in
theorem specStar_yes (n : Nat) (hn : n ≤ 15) (w : World) :
    Calls Tryd.prog 15 #[.int .i64 n] w (GRes w (rowsOf (starM n n)) true) := by
  have hin : decide ((0 : Int) ≤ n ∧ (n : Int) ≤ 15) = true := by simp; omega
  obtain ⟨B, hBe⟩ : ∃ B, w.heap.size = B := ⟨_, rfl⟩
  go_enter Tryd.func15, Tryd.ntmps15
  go_wp2_with fail
  refine (l1In_any _ _ _ _).mono ?_
  rintro e w' ⟨rfl, rfl⟩
  rw [hin]
  go_wp2_with fail
  refine (empty_any (n + 1) (by omega) _).mono ?_
  rintro e w1 ⟨u, vs, rfl, hG, hb1⟩
  obtain ⟨a, c, rfl⟩ := owns_shape hG.outer
  have hvl : vs.length = n + 1 := by rw [hG.len]; simp
  rw [hvl] at hG ⊢
  have hR0 : (w.alloc (.cells #[.slice none 0 0] 28)).heap[B]? = some (.cells #[.slice none 0 0] 28 (0, 0)) := by subst hBe; exact heap_alloc_new w _
  have hR1 : w1.heap[B]? = some (.cells #[.slice none 0 0] 28 (0, 0)) := (hb1.block B (by simp; omega)).trans hR0
  have hbw : Below w.heap.size w w1 := ((Below.refl _ _).alloc (Nat.le_refl _) _).trans (hb1.mono (by simp))
  have hC0 : (w1.alloc (.cells #[.slice a (n + 1) c] 28)).heap[w1.heap.size]? = some (.cells #[.slice a (n + 1) c] 28 (0, 0)) := heap_alloc_new w1 _
  have hR2 : (w1.alloc (.cells #[.slice a (n + 1) c] 28)).heap[B]? = some (.cells #[.slice none 0 0] 28 (0, 0)) := (Below.heap_alloc _ _ _ (lt_of_block hR1)).trans hR1
  have hG0 : OwnG (w1.alloc (.cells #[.slice a (n + 1) c] 28)) (B + 1) 49 2 (.slice a (n + 1) c) vs ((rowsOf (starM n 0)).map ints) := by
    have := hG.below ((Below.refl _ _).alloc (Nat.le_refl _) (.cells #[.slice a (n + 1) c] 28))
    rw [show rowsOf (starM n 0) = List.replicate (n + 1) [] from rowsOf_zeros (n + 1)]
    simpa [hBe] using this
  have hb2 : Below w.heap.size w (w1.alloc (.cells #[.slice a (n + 1) c] 28)) := hbw.alloc hbw.size _
  have HVL := Lib.hid hvl
  have hBC : B < w1.heap.size := lt_of_block hR1
  clear hb1 hvl hG hR0 hR1 hbw
  obtain ⟨C, hCe⟩ : ∃ C, w1.heap.size = C := ⟨_, rfl⟩
  rw [hCe] at hC0 hBC
  rw [hBe] at hb2
  go_wp2_with fail
  go_loopw [5] (fun i wr => ∃ (k : Nat) (vs : List Value), k ≤ n ∧ i = .int .i64 ((k + 1 : Nat) : Int) ∧ wr.heap[C]? = some (.cells #[.slice a (n + 1) c] 28 (0, 0)) ∧ wr.heap[B]? = some (.cells #[.slice none 0 0] 28 (0, 0)) ∧
      OwnG wr (B + 1) 49 2 (.slice a (n + 1) c) vs ((rowsOf (starM n k)).map ints) ∧ Below B w wr) (fun i _ => n + 1 - (intOf i).toNat)
  case atStart => exact ⟨0, vs, Nat.zero_le _, rfl, hC0, hR2, hG0, hb2⟩
  case round =>
    obtain ⟨k, vs', hk, rfl, hC, hR, hG, hb⟩ := hrel
    have hcC := cell_of_one hC
    have hfC := free_of_one hC
    have hcR := cell_of_one hR
    have hfR := free_of_one hR
    by_cases hlt : k < n
    · go_wp2_with fail
      refine (link_sets (B + 1) (.slice a (n + 1) c) vs' (starM n k) 0 (k + 1) _ _ (by simp) (by simp) wr (by simp) (by simp; omega) (by omega) (by omega) (by simp; omega) (by have := lt_of_block hR; omega) hG).mono ?_
      rintro e w2 ⟨vs2, rfl, hG2, hw2⟩
      have hne : ∀ (b : Nat) x, wr.heap[b]? = some (.cells x 28 (0, 0)) → w2.heap[b]? = wr.heap[b]? := fun b x hx => hw2.block b (lt_of_block hx) fun e => by
        obtain ⟨cur, hcur⟩ := owns_block hG.outer e
        rw [hx] at hcur; simp at hcur
      have hC2 := (hne C _ hC).trans hC
      have hR3 := (hne B _ hR).trans hR
      have hcC2 := cell_of_one hC2
      have hfC2 := free_of_one hC2
      have hb3 : Below B w w2 := hb.trans (hw2.below (by have := lt_of_block hR; omega) fun k hk => by have := (owns_lt hG.outer hk).1; omega)
      go_wp2_with fail
      go_roundw
      case rel =>
        refine ⟨k + 1, vs2, by omega, by go_num, one_setCell hC2, ?_, by rw [starM_succ]; exact hG2.unlike_setCell hC2 (by decide) (by decide) _, hb3.setCell ?_ _⟩
        · rw [Below.heap_setCell _ _ _ _ (by simp; omega)]; exact hR3
        · simp; omega
      case measure => simp [intOf]; omega
    · go_wp2_with fail
      have hce := cell_of_one (one_setCell (u := .slice a (n + 1) c) hR)
      refine bodyPost_ret (v := .tuple #[.agg #[.slice a (n + 1) c], .bool true]) (by simp [results, Tryd.results15, go_sem, hce]) rfl ?_
      obtain rfl : k = n := by omega
      refine ⟨_, vs', rfl, ?_, ?_⟩
      · rw [hBe]; exact (hG.unlike_setCell hR (by decide) (by decide) _).rebase (by omega)
      · rw [hBe]; exact hb.setCell (by simp) _

theorem specStar_no (n : Int) (hn : ¬ (0 ≤ n ∧ n ≤ 15)) (w : World) :
    Calls Tryd.prog 15 #[.int .i64 n] w (GRes w [] false) := by
  have hin : decide ((0 : Int) ≤ n ∧ n ≤ 15) = false := by simpa using hn
  go_enter Tryd.func15, Tryd.ntmps15
  go_wp2_with fail
  refine (l1In_any _ _ _ _).mono ?_
  rintro e w' ⟨rfl, rfl⟩
  rw [hin]
  go_wp2_with fail
  refine bodyPost_ret (v := .tuple #[.agg #[.slice none 0 0], .bool false]) (by simp [results, Tryd.results15, go_sem]) rfl ?_
  exact ⟨_, [], rfl, OwnG.nil _ _ (by decide) (World.ownsRow_nil _ _ _ 1), (Below.refl _ _).alloc (Nat.le_refl _) _⟩

theorem implStar_no (n : Int) (hn : ¬ (0 ≤ n ∧ n ≤ 15)) (w : World) :
    Calls Tryd.prog 16 #[.int .i64 n] w (GRes w [] false) := by
  have hin : decide ((0 : Int) ≤ n ∧ n ≤ 15) = false := by simpa using hn
  go_enter Tryd.func16, Tryd.ntmps16
  go_wp2_with fail
  refine (inRange_any _ _ _ _).mono ?_
  rintro e w' ⟨rfl, rfl⟩
  rw [hin]
  go_wp2_with fail
  refine bodyPost_ret (v := .tuple #[.agg #[.slice none 0 0], .bool false]) (by simp [results, Tryd.results16, go_sem]) rfl ?_
  exact ⟨_, [], rfl, OwnG.nil _ _ (by decide) (World.ownsRow_nil _ _ _ 1), (Below.refl _ _).alloc (Nat.le_refl _) _⟩

set_option maxHeartbeats 1000000 in
theorem implStar_yes (n : Nat) (hn : n ≤ 15) (w : World) (ht : Tab w) :
    Calls Tryd.prog 16 #[.int .i64 n] w (GRes w (rowsOf (starM n n)) true) := by
  have hin : decide ((0 : Int) ≤ n ∧ (n : Int) ≤ 15) = true := by simp; omega
  obtain ⟨B, hBe⟩ : ∃ B, w.heap.size = B := ⟨_, rfl⟩
  have hR0 : (w.alloc (.cells #[.slice none 0 0] 28)).heap[B]? = some (.cells #[.slice none 0 0] 28 (0, 0)) := by subst hBe; exact heap_alloc_new w _
  have ht1 : Tab (w.alloc (.cells #[.slice none 0 0] 28)) := ht.alloc _
  go_enter Tryd.func16, Tryd.ntmps16
  go_wp2_with fail
  refine (inRange_any _ _ _ _).mono ?_
  rintro e w' ⟨rfl, rfl⟩
  rw [hin]
  go_wp2_with (at_make; refine wpList_make _ rfl _ _ 43 rfl (B + 1) 53 (.int .u32 0) 4 Tryd.underlying43 infoV rfl .i64 .i64 _ _ (n + 1) rfl rfl (by omega) (by omega) (by omega) (by unfold maxLen; omega) (by simp; omega) ?_; intro w1 ho1 hb1)
  have hR1 : w1.heap[B]? = some (.cells #[.slice none 0 0] 28 (0, 0)) := (hb1.block B (by simp; omega)).trans hR0
  have ht2 : Tab w1 := ht1.below hb1
  have hbw : Below B w w1 := ((Below.refl B w).alloc (by omega) _).trans (hb1.mono (by simp; omega))
  have ho2 : w1.ownsRow (B + 1) 53 1 (.slice (some ⟨B + 1, 0, none⟩) (n + 1) (n + 1)) (n + 1) (sets (starM n 0)) := by
    have : starM n 0 = List.replicate (n + 1) 0 := rfl
    rw [this, ← sets_zeros]
    simpa [hBe] using ho1
  have hTB : 1 < B := by have := ht.lt; omega
  clear hR0 ht1 hb1 ho1
  go_loopw [5] (fun i wr => ∃ (k : Nat), k ≤ n ∧ i = .int .i64 ((k + 1 : Nat) : Int) ∧ wr.heap[B]? = some (.cells #[.slice none 0 0] 28 (0, 0)) ∧
      wr.ownsRow (B + 1) 53 1 (.slice (some ⟨B + 1, 0, none⟩) (n + 1) (n + 1)) (n + 1) (sets (starM n k)) ∧ Below B w wr) (fun i _ => n + 1 - (intOf i).toNat)
  case atStart => exact ⟨0, Nat.zero_le _, rfl, hR1, ho2, hbw⟩
  case round =>
    obtain ⟨k, hk, rfl, hR, ho, hb⟩ := hrel
    have hBs := lt_of_block hR
    by_cases hlt : k < n
    · go_wp2_with fail
      have hl : (starM n k).length = n + 1 := starM_length n k
      refine (join_at (B + 1) (.slice (some ⟨B + 1, 0, none⟩) (n + 1) (n + 1)) (starM n k) 0 (k + 1) _ _ (by simp) (by simp) (starM_small n k (by omega)) (by omega) (by omega) (by omega) (by omega) wr (by rw [hl]; exact ho)).mono ?_
      rintro e w2 ⟨rfl, ho3, hg⟩
      rw [hl] at ho3
      clear hl
      have hR3 : w2.heap[B]? = some (.cells #[.slice none 0 0] 28 (0, 0)) := (hg.block B hBs (by simp [Value.ownBlock])).trans hR
      go_wp2_with fail
      go_roundw
      case rel => exact ⟨k + 1, by omega, by go_num, hR3, by rw [starM_succ]; exact ho3, hb.grown hg (by omega) (by simp [Value.ownBlock])⟩
      case measure => simp [intOf]; omega
    · obtain rfl : k = n := by omega
      go_wp2_with fail
      refine (graph_any (.slice (some ⟨B + 1, 0, none⟩) (k + 1) (k + 1)) (starM k k) (starM_small k k (by omega)) (by simp; omega) wr (ht.keep hb hTB) (by rw [starM_length]; exact Row.of_owns ho)).mono ?_
      rintro e w2 ⟨u, vs, rfl, hG, hb2⟩
      obtain ⟨ua, uc, rfl⟩ := owns_shape hG.outer
      have hR3 : w2.heap[B]? = some (.cells #[.slice none 0 0] 28 (0, 0)) := (hb2.block B hBs).trans hR
      have hcR := cell_of_one hR3
      have hfR := free_of_one hR3
      have hb3 : Below B w w2 := hb.trans (hb2.mono (by omega))
      clear hb2
      go_wp2_with fail
      have hce := cell_of_one (one_setCell (u := .slice ua vs.length uc) hR3)
      refine bodyPost_ret (v := .tuple #[.agg #[.slice ua vs.length uc], .bool true]) (by simp [results, Tryd.results16, go_sem, hce]) rfl ?_
      refine ⟨_, vs, rfl, ?_, ?_⟩
      · rw [hBe]; exact (hG.unlike_setCell hR3 (by decide) (by decide) _).rebase (by omega)
      · rw [hBe]; exact hb3.setCell (by simp) _
end Go.Proofs.YtmnkdgnbfkdfkaaDoor
