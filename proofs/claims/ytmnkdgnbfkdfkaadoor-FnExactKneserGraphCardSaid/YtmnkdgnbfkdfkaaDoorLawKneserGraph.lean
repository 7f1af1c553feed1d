/-
  The law of 'KneserGraph': it returns true.
-/
import Derived.Test.YtmnkdgnbfkdfkaaDoorLawsB
import Derived.Test.YtmnkdgnbfkdfkaaDoorKneser
namespace Go.Proofs.YtmnkdgnbfkdfkaaDoor
open Go.RowKit

set_option maxHeartbeats 1000000 in
theorem kneserGraph_core (n : Int) (rows : List (List Int)) (ok : Bool) (hk : 1 + total rows ≤ 1000000000) (hn : rows.length ≤ 1000000000)
    (hs : ∀ w, Tab w → Calls Tryd.prog 28 #[.int .i64 n] w (GRes w rows ok))
    (hi : ∀ w, Tab w → Calls Tryd.prog 29 #[.int .i64 n] w (GRes w rows ok)) (w : World) (ht : Tab w) :
    Calls Tryd.prog 10 #[.int .i64 n] w fun e w' => e = .returned (.bool true) ∧ Below w.heap.size w w' := by
  have hok : (ok != ok) = false := by simp
  have htot : (0 : Int) ≤ total rows := by omega
  have hne : ((1 + (total rows : Int)) != (1 + (total rows : Int))) = false := by simp
  have Hs := Lib.hid hs
  have Hi := Lib.hid hi
  clear hs hi
  go_enter Tryd.func10, Tryd.ntmps10
  go_wp2_with fail
  refine (Hs.out w ht).mono ?_
  rintro e w1 ⟨u0, vs0, rfl, hG0, hb1⟩
  obtain ⟨a0, c0, rfl⟩ := owns_shape hG0.outer
  have ht1 : Tab (w1.alloc (.cells #[.slice a0 vs0.length c0] 28)) := (ht.below hb1).alloc _
  go_wp2_with fail
  refine (Hi.out _ ht1).mono ?_
  rintro e w2 ⟨u1, vs1, rfl, hG1, hb2⟩
  obtain ⟨a1, c1, rfl⟩ := owns_shape hG1.outer
  have hC0 : (w1.alloc (.cells #[.slice a0 vs0.length c0] 28)).heap[w1.heap.size]? = some (.cells #[.slice a0 vs0.length c0] 28 (0, 0)) := heap_alloc_new w1 _
  have hba : Below w1.heap.size w1 (w1.alloc (.cells #[.slice a0 vs0.length c0] 28)) := (Below.refl _ _).alloc (Nat.le_refl _) _
  have hb12 : Below w1.heap.size w1 w2 := hba.trans (hb2.mono (by simp))
  have hC1 : w2.heap[w1.heap.size]? = some (.cells #[.slice a0 vs0.length c0] 28 (0, 0)) := (hb2.block _ (by simp)).trans hC0
  have hD1 : (w2.alloc (.cells #[.slice a1 vs1.length c1] 28)).heap[w2.heap.size]? = some (.cells #[.slice a1 vs1.length c1] 28 (0, 0)) := heap_alloc_new w2 _
  have hC2 : (w2.alloc (.cells #[.slice a1 vs1.length c1] 28)).heap[w1.heap.size]? = some (.cells #[.slice a0 vs0.length c0] 28 (0, 0)) := (Below.heap_alloc _ _ _ (lt_of_block hC1)).trans hC1
  have hbd : Below w2.heap.size w2 (w2.alloc (.cells #[.slice a1 vs1.length c1] 28)) := (Below.refl _ _).alloc (Nat.le_refl _) _
  have hR0 := hG0.rd.below (hb12.trans (hbd.mono hb12.size))
  have hG1' := hG1.below hbd
  have hbw : Below w.heap.size w (w2.alloc (.cells #[.slice a1 vs1.length c1] 28)) := (hb1.trans (hb12.mono hb1.size)).trans (hbd.mono (Nat.le_trans hb1.size hb12.size))
  have hsz1 := hb1.size
  have hsz2 := hb12.size
  have hlt0 : ∀ k, (∃ u ∈ vs1, u.ownBlock = some k) → w1.heap.size + 1 ≤ k ∧ k < w2.heap.size := fun k hk => by have := hG1.lt (.inr hk); simpa using this
  have hltr : ∀ k, (Value.slice a0 vs0.length c0).ownBlock = some k ∨ (∃ u ∈ vs0, u.ownBlock = some k) → k < w1.heap.size := fun k hk => (hG0.lt hk).2
  clear hb1 hb2 hC0 hba hb12 hC1 hG0 hG1 hbd ht1
  obtain ⟨B3, hB3⟩ : ∃ B3, w1.heap.size = B3 := ⟨_, rfl⟩
  obtain ⟨B5, hB5⟩ : ∃ B5, w2.heap.size = B5 := ⟨_, rfl⟩
  rw [hB3] at hC2 hlt0 hltr hsz1
  rw [hB5] at hD1 hlt0
  rw [hB3, hB5] at hsz2
  have hcC := cell_of_one hC2
  have hcD := cell_of_one hD1
  go_wp2_with fail
  generalize w2.alloc (.cells #[.slice a1 vs1.length c1] 28) = W at *
  refine (eqGraph_same _ _ vs1 vs0 rows W hG1'.rd hR0).mono ?_
  rintro e w3 ⟨rfl, hb3⟩
  have hC3 := (hb3.block _ (lt_of_block hC2)).trans hC2
  have hD3 := (hb3.block _ (lt_of_block hD1)).trans hD1
  have hR3 := hR0.below hb3
  have hG3 := hG1'.below hb3
  have hbw3 := hbw.trans (hb3.mono hbw.size)
  clear hb3 hC2 hD1 hR0 hG1' hbw hcC hcD
  have hcC := cell_of_one hC3
  have hcD := cell_of_one hD3
  go_wp2_with fail
  refine (markGraph_1 _ vs1 rows _ w3 hk hn hG3).mono ?_
  rintro e w4 ⟨rfl, hG4, hw4⟩
  have hC4 := (hw4.block _ (lt_of_block hC3) (fun h => by have := hlt0 _ h; omega)).trans hC3
  have hD4 := (hw4.block _ (lt_of_block hD3) (fun h => by have := hlt0 _ h; omega)).trans hD3
  have hR4 := hR3.wrote hw4 (fun k hk hk' => by have := hltr k hk; have := hlt0 k hk'; omega)
  have hbw4 := hbw3.trans (hw4.below hbw3.size (fun k hk => by have := hlt0 k hk; omega))
  clear hC3 hD3 hR3 hG3 hbw3 hw4 hcC hcD
  have hcC := cell_of_one hC4
  have hcD := cell_of_one hD4
  go_wp2_with fail
  refine (heldGraph_1 _ vs1 rows w4 hk hn hG4.rd).mono ?_
  rintro e w5 ⟨rfl, hb5⟩
  have hC5 := (hb5.block _ (lt_of_block hC4)).trans hC4
  have hD5 := (hb5.block _ (lt_of_block hD4)).trans hD4
  have hR5 := hR4.below hb5
  have hG5 := hG4.below hb5
  have hbw5 := hbw4.trans (hb5.mono hbw4.size)
  have ht5 : Tab w5 := ht.below hbw5
  clear hb5 hC4 hD4 hR4 hG4 hbw4 hcC hcD
  have hcC := cell_of_one hC5
  have hcD := cell_of_one hD5
  go_wp2_with fail
  refine (Hi.out _ ht5).mono ?_
  rintro e w6 ⟨u2, vs2, rfl, hG6, hb6⟩
  obtain ⟨a2, c2, rfl⟩ := owns_shape hG6.outer
  have hE7 : (w6.alloc (.cells #[.slice a2 vs2.length c2] 28)).heap[w6.heap.size]? = some (.cells #[.slice a2 vs2.length c2] 28 (0, 0)) := heap_alloc_new w6 _
  have hb57 : Below w5.heap.size w5 (w6.alloc (.cells #[.slice a2 vs2.length c2] 28)) := hb6.alloc hb6.size _
  have hC7 := (hb57.block _ (lt_of_block hC5)).trans hC5
  have hD7 := (hb57.block _ (lt_of_block hD5)).trans hD5
  have hR7 := hR5.below hb57
  have hG7 := hG5.rd.below hb57
  have hbw7 := hbw5.trans (hb57.mono hbw5.size)
  have hG67 := hG6.rd.below ((Below.refl _ _).alloc (Nat.le_refl _) (.cells #[.slice a2 vs2.length c2] 28))
  obtain ⟨B9, hB9⟩ : ∃ B9, w6.heap.size = B9 := ⟨_, rfl⟩
  rw [hB9] at hE7
  clear hb6 hb57 hC5 hD5 hR5 hG5 hbw5 hG6 ht5 hcC hcD
  have hcC := cell_of_one hC7
  have hcD := cell_of_one hD7
  have hcE := cell_of_one hE7
  go_wp2_with fail
  generalize w6.alloc (.cells #[.slice a2 vs2.length c2] 28) = w7 at *
  refine (eqGraph_same _ _ vs2 vs0 rows w7 hG67 hR7).mono ?_
  rintro e w8 ⟨rfl, hb8⟩
  have hD8 := (hb8.block _ (lt_of_block hD7)).trans hD7
  have hG8 := hG7.below hb8
  have hbw8 := hbw7.trans (hb8.mono hbw7.size)
  clear hb8 hC7 hD7 hE7 hR7 hG7 hG67 hbw7 hcC hcD hcE
  have hcD := cell_of_one hD8
  go_wp2_with fail
  refine (heldGraph_1 _ vs1 rows w8 hk hn hG8).mono ?_
  rintro e w9 ⟨rfl, hb9⟩
  have hbw9 := hbw8.trans (hb9.mono hbw8.size)
  clear hb9
  go_wp2_with fail
  go_ret
  exact ⟨rfl, hbw9⟩
end Go.Proofs.YtmnkdgnbfkdfkaaDoor
