/-
  'PatternOf' of the reference: sides, pairs.
-/
import Derived.Test.YtehejjmmbjekgaaDoorKinds
import Derived.Test.YtehejjmmbjekgaaDoorPath
import Derived.Test.YtehejjmmbjekgaaDoorAppend
namespace Go.Proofs.YtehejjmmbjekgaaDoor
open Go.RowKit

/-- How many stand on each side. -/
def sideA (k : Int) : Nat := if k = 1 then 5 else if k = 2 then 3 else if k = 3 then 4 else if k = 4 then 2 else 0
def sideB (k : Int) : Nat := if k = 2 then 3 else if k = 4 then 3 else 0
theorem side_le (k : Int) : sideA k ≤ 5 ∧ sideB k ≤ 3 := by
  unfold sideA sideB
  refine ⟨?_, ?_⟩ <;> (repeat' split) <;> decide

theorem sides_any (k : Int) (w : World) :
    Calls Tryd.prog 66 #[.int .i64 k] w fun e w' => e = .returned (.tuple #[.int .i64 (sideA k : Nat), .int .i64 (sideB k : Nat)]) ∧ w = w' := by
  by_cases h1 : k = 1
  · subst h1
    go_enter Tryd.func66, Tryd.ntmps66
    go_wp2_with fail
    refine bodyPost_ret (v := .tuple #[.int .i64 5, .int .i64 0]) (by simp [results, Tryd.results66, go_sem]) rfl ?_
    exact ⟨rfl, rfl⟩
  by_cases h2 : k = 2
  · subst h2
    go_enter Tryd.func66, Tryd.ntmps66
    go_wp2_with fail
    refine bodyPost_ret (v := .tuple #[.int .i64 3, .int .i64 3]) (by simp [results, Tryd.results66, go_sem]) rfl ?_
    exact ⟨rfl, rfl⟩
  by_cases h3 : k = 3
  · subst h3
    go_enter Tryd.func66, Tryd.ntmps66
    go_wp2_with fail
    refine bodyPost_ret (v := .tuple #[.int .i64 4, .int .i64 0]) (by simp [results, Tryd.results66, go_sem]) rfl ?_
    exact ⟨rfl, rfl⟩
  by_cases h4 : k = 4
  · subst h4
    go_enter Tryd.func66, Tryd.ntmps66
    go_wp2_with fail
    refine bodyPost_ret (v := .tuple #[.int .i64 2, .int .i64 3]) (by simp [results, Tryd.results66, go_sem]) rfl ?_
    exact ⟨rfl, rfl⟩
  have HF : Hid (sideA k = 0 ∧ sideB k = 0) := Lib.hid (by unfold sideA sideB; simp [h1, h2, h3, h4])
  have d1 : (k == 1) = false := by rw [beq_eq_false_iff_ne]; exact h1
  have d2 : (k == 2) = false := by rw [beq_eq_false_iff_ne]; exact h2
  have d3 : (k == 3) = false := by rw [beq_eq_false_iff_ne]; exact h3
  have d4 : (k == 4) = false := by rw [beq_eq_false_iff_ne]; exact h4
  go_enter Tryd.func66, Tryd.ntmps66
  go_wp2_with fail
  refine bodyPost_ret (v := .tuple #[.int .i64 0, .int .i64 0]) (by simp [results, Tryd.results66, go_sem]) rfl ?_
  exact ⟨by rw [HF.out.1, HF.out.2]; rfl, rfl⟩

/-! ### The pairs -/
/-- The pairs of i so far: k of the one kind, or of the other. -/
def rowA (i k : Nat) : List (Nat × Nat) := (List.range k).map fun d => (i, i + 1 + d)
def rowC (a i k : Nat) : List (Nat × Nat) := (List.range k).map fun d => (i, a + d)
theorem rowA_succ (i k : Nat) : rowA i (k + 1) = rowA i k ++ [(i, i + 1 + k)] := by simp [rowA, List.range_succ]
theorem rowC_succ (a i k : Nat) : rowC a i (k + 1) = rowC a i k ++ [(i, a + k)] := by simp [rowC, List.range_succ]
def rowP (a b i : Nat) : List (Nat × Nat) := (if b = 0 then rowA i (a - (i + 1)) else []) ++ rowC a i b
def pairsL (a b i : Nat) : List (Nat × Nat) := (List.range i).flatMap (rowP a b)
theorem pairsL_succ (a b i : Nat) : pairsL a b (i + 1) = pairsL a b i ++ rowP a b i := by simp [pairsL, List.range_succ]
theorem pairsL_lt {a b i : Nat} (hi : i ≤ a) : ∀ p ∈ pairsL a b i, p.1 < a + b ∧ p.2 < a + b := by
  intro p hp
  unfold pairsL at hp
  rw [List.mem_flatMap] at hp
  obtain ⟨x, hx, hp⟩ := hp
  rw [List.mem_range] at hx
  unfold rowP at hp
  rw [List.mem_append] at hp
  rcases hp with hp | hp
  · split at hp
    · unfold rowA at hp
      simp at hp
      obtain ⟨d, hd, rfl⟩ := hp
      exact ⟨by show x < a + b; omega, by show x + 1 + d < a + b; omega⟩
    · simp at hp
  · unfold rowC at hp
    simp at hp
    obtain ⟨d, hd, rfl⟩ := hp
    exact ⟨by show x < a + b; omega, by show a + d < a + b; omega⟩
def pairI (p : Nat × Nat) : List Int := [(p.1 : Int), (p.2 : Int)]
theorem infoRI : (Tryd.prog.info? 92).map (fun i => (i.zero, i.size, i.bytes)) = some (some (.slice none 0 0), 1, 24) := by kernel_rfl

/-- The pairs so far, in memory. -/
structure PP (w0 : World) (B : Nat) (u : Value) (vs : List Value) (ps : List (Nat × Nat)) (wr : World) : Prop where
  own : OwnG wr B 92 3 u vs ((ps.map pairI).map ints)
  bel : Below B w0 wr
theorem PP.start {w : World} {B : Nat} (hB : w.heap.size = B) : PP w B (.slice (some ⟨B, 0, none⟩) 0 0) [] [] (w.alloc (.cells #[] 92)) := by
  subst hB
  exact ⟨OwnG.nil _ _ (by decide) (World.ownsRow_lit w #[] 0 (Nat.le_refl _) (by simp [maxLen]) rfl (e := 92) (size := 1)), below_alloc _ _⟩
theorem PP.push {w wr w2 : World} {B g2 c2 : Nat} {u : Value} {vs : List Value} {ps : List (Nat × Nat)} (h : PP w B u vs ps wr) (p : Nat × Nat) (hlt : B ≤ wr.heap.size) {x y : Int} (hx : x = p.1) (hy : y = p.2)
    (ho : w2.ownsRow B 92 1 (.slice (some ⟨g2, 0, none⟩) (vs.length + 1) c2) (vs.length + 1) (vs ++ [.slice (some ⟨wr.heap.size, 0, none⟩) 2 2]))
    (hg : (wr.alloc (.cells #[.int .i64 x, .int .i64 y] 3)).grownBy w2 u.ownBlock) :
    PP w B (.slice (some ⟨g2, 0, none⟩) (vs.length + 1) c2) (vs ++ [.slice (some ⟨wr.heap.size, 0, none⟩) 2 2]) (ps ++ [p]) w2 := by
  subst hx
  subst hy
  have hba : Below wr.heap.size wr (wr.alloc (.cells #[.int .i64 p.1, .int .i64 p.2] 3)) := below_alloc _ _
  have hou : (wr.alloc (.cells #[.int .i64 p.1, .int .i64 p.2] 3)).ownsRow wr.heap.size 3 1 (.slice (some ⟨wr.heap.size, 0, none⟩) 2 2) 2 (ints (pairI p)) :=
    World.ownsRow_lit wr #[.int .i64 p.1, .int .i64 p.2] 2 (Nat.le_refl _) (by simp [maxLen]) rfl
  have hblk : ∀ k, u.ownBlock = some k → B ≤ k := fun k hk => (owns_lt h.own.outer hk).1
  refine ⟨?_, ?_⟩
  · have := h.own.push (cs := ints (pairI p)) hba hou (Nat.le_refl _) (by omega) ho hg
    simpa using this
  · exact (h.bel.trans (hba.mono hlt)).grown hg (by simp; omega) (fun b hb => by have := hblk b hb; omega)

set_option maxHeartbeats 4000000 in
theorem pairs23_any (kd : Int) (w : World) :
    Calls Tryd.prog 68 #[.int .i64 kd] w fun e w' => ∃ u vs, e = .returned u ∧ OwnG w' w.heap.size 92 3 u vs (((pairsL (sideA kd) (sideB kd) (sideA kd)).map pairI).map ints) ∧ Below w.heap.size w w' := by
  obtain ⟨B, hB⟩ : ∃ B, w.heap.size = B := ⟨_, rfl⟩
  have HS := Lib.hid (sides_any kd w)
  obtain ⟨ha5, hb3⟩ := side_le kd
  generalize sideA kd = a at *
  generalize sideB kd = b at *
  have hP0 := PP.start hB
  have HL0 : Hid (([] : List (Nat × Nat)) = pairsL a b 0) := Lib.hid rfl
  go_enter Tryd.func68, Tryd.ntmps68
  go_wp2_with fail
  refine HS.out.mono ?_
  rintro e1 w' ⟨rfl, rfl⟩
  clear HS
  go_wp2_with fail
  go_loopw [5, 6] (fun u i wr => ∃ (j : Nat) (vs : List Value) (L : List (Nat × Nat)), j ≤ a ∧ i = .int .i64 j ∧ L.length ≤ 8 * j ∧ Hid (L = pairsL a b j) ∧ PP w B u vs L wr) (fun _ i _ => a - (intOf i).toNat)
  case atStart => exact ⟨0, [], [], Nat.zero_le _, rfl, by simp, HL0, hP0⟩
  case round =>
    clear hP0
    obtain ⟨j, vs, L, hj, rfl, hL, HL, hP⟩ := hrel
    by_cases hlt : j < a
    · have HA0 : Hid (L = pairsL a b j ++ rowA j 0) := Lib.hid (by rw [HL.out]; simp [rowA])
      have hstep : ∀ (u : Value) (vs : List Value) (L : List (Nat × Nat)) (wr : World), True := fun _ _ _ _ => trivial
      clear hstep
      by_cases hb0 : b = 0
      · have hd : ((b : Int) == 0) = true := by rw [beq_iff_eq]; omega
        have hd2 : ¬ (0 : Int) < b := by omega
        have HB0 := Lib.hid hb0
        clear hb0
        go_wp2_with fail
        go_loopw [5, 7] (fun u i wr => ∃ (k : Nat) (vs : List Value) (L : List (Nat × Nat)), j + 1 + k ≤ a ∧ i = .int .i64 ((j + 1 + k : Nat) : Int) ∧ L.length ≤ 8 * j + k ∧ Hid (L = pairsL a b j ++ rowA j k) ∧ PP w B u vs L wr) (fun _ i _ => a - (intOf i).toNat)
        case atStart => exact ⟨0, vs, L, by omega, by go_num, by omega, HA0, hP⟩
        case round =>
          clear hP HA0 HL hL
          obtain ⟨k, vs, L, hk, rfl, hL, HL, hP⟩ := hrel
          by_cases hlk : j + 1 + k < a
          · have hout := hP.own.outer
            have hlen : vs.length = L.length := by rw [hP.own.len]; simp
            have hsz : B ≤ wr.heap.size := by rw [← hB]; exact hB ▸ hP.bel.size
            obtain ⟨ua, uc, rfl⟩ := owns_shape hout
            have HPP := Lib.hid hP
            have HLE := Lib.hid hlen
            have hvl : vs.length ≤ 64 := by omega
            have hbl := hP.bel
            clear hP hlen hbl
            go_wp2_with (at_builtin; refine wpList_push_at _ rfl _ _ 89 rfl B 92 _ _ 24 Tryd.underlying89 infoRI rfl _ _ _ rfl (hout.alloc _) (wr.heap.size + 1) (by simp) _ rfl rfl (by unfold maxLen; omega) (by omega) (by simp; omega) ?_; intro g2 c2 w2 ho2 hg2)
            have hP2 := HPP.out.push (j, j + 1 + k) hsz (by simp) (by simp) ho2 hg2
            go_roundw
            case rel => exact ⟨k + 1, _, _, by omega, by go_num, by simp; have := HLE.out; omega, Lib.hid (by rw [HL.out, rowA_succ, List.append_assoc]), hP2⟩
            case measure => simp [intOf]; omega
          · obtain rfl : a = j + 1 + k := by omega
            have HN : Hid (L = pairsL (j + 1 + k) b (j + 1)) := Lib.hid (by rw [HL.out, pairsL_succ]; simp [rowP, rowC, HB0.out])
            obtain ⟨ua, uc, rfl⟩ := owns_shape hP.own.outer
            go_wp2_with fail
            generalize hw9 : wr = w9 at *
            go_loopw [5, 8] (fun u i wr' => u = .slice ua vs.length uc ∧ i = .int .i64 0 ∧ wr' = w9) (fun _ _ _ => 0)
            case atStart => exact ⟨rfl, rfl, rfl⟩
            case round =>
              obtain ⟨rfl, rfl, rfl⟩ := hrel
              go_wp2_with fail
              go_roundw
              case rel => exact ⟨j + 1, vs, L, by omega, by go_num, by omega, HN, hP⟩
              case measure => simp [intOf]; omega
      · have hd : ((b : Int) == 0) = false := by rw [beq_eq_false_iff_ne]; omega
        have HC0 : Hid (L = pairsL a b j ++ rowC a j 0) := Lib.hid (by rw [HL.out]; simp [rowC])
        go_wp2_with fail
        go_loopw [5, 8] (fun u i wr => ∃ (k : Nat) (vs : List Value) (L : List (Nat × Nat)), k ≤ b ∧ i = .int .i64 (k : Nat) ∧ L.length ≤ 8 * j + k ∧ Hid (L = pairsL a b j ++ rowC a j k) ∧ PP w B u vs L wr) (fun _ i _ => b - (intOf i).toNat)
        case atStart => exact ⟨0, vs, L, by omega, by go_num, by omega, HC0, hP⟩
        case round =>
          clear hP HC0 HL hL
          obtain ⟨k, vs, L, hk, rfl, hL, HL, hP⟩ := hrel
          by_cases hlk : k < b
          · have hout := hP.own.outer
            have hlen : vs.length = L.length := by rw [hP.own.len]; simp
            have hsz : B ≤ wr.heap.size := by rw [← hB]; exact hB ▸ hP.bel.size
            obtain ⟨ua, uc, rfl⟩ := owns_shape hout
            have HPP := Lib.hid hP
            have HLE := Lib.hid hlen
            have hvl : vs.length ≤ 64 := by omega
            clear hP hlen
            go_wp2_with (at_builtin; refine wpList_push_at _ rfl _ _ 89 rfl B 92 _ _ 24 Tryd.underlying89 infoRI rfl _ _ _ rfl (hout.alloc _) (wr.heap.size + 1) (by simp) _ rfl rfl (by unfold maxLen; omega) (by omega) (by simp; omega) ?_; intro g2 c2 w2 ho2 hg2)
            have hP2 := HPP.out.push (j, a + k) hsz (by simp) (by simp) ho2 hg2
            go_roundw
            case rel => exact ⟨k + 1, _, _, by omega, by go_num, by simp; have := HLE.out; omega, Lib.hid (by rw [HL.out, rowC_succ, List.append_assoc]), hP2⟩
            case measure => simp [intOf]; omega
          · obtain rfl : k = b := by omega
            have HN : Hid (L = pairsL a k (j + 1)) := Lib.hid (by rw [HL.out, pairsL_succ]; simp [rowP, hb0])
            go_wp2_with fail
            go_roundw
            case rel => exact ⟨j + 1, vs, L, by omega, by go_num, by omega, HN, hP⟩
            case measure => simp [intOf]; omega
    · obtain rfl : j = a := by omega
      obtain ⟨ua, uc, rfl⟩ := owns_shape hP.own.outer
      go_wp2_with fail
      go_ret
      exact ⟨_, vs, rfl, by rw [hB, ← HL.out]; exact hP.own, by rw [hB]; exact hP.bel⟩
end Go.Proofs.YtehejjmmbjekgaaDoor
