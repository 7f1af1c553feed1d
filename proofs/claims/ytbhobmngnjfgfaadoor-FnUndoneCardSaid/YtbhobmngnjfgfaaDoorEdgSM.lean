import Derived.Test.YtbhobmngnjfgfaaDoorEdgPM
import Derived.Test.YtbhobmngnjfgfaaDoorQuoSM
import Derived.Test.YtbhobmngnjfgfaaDoorWordTM
/-
  'edgesOf' and 'EdgesIn' of the program; 'EdgesIn' of the reference.
-/



namespace Go.Proofs.YtbhobmngnjfgfaaDoor
open Go.RowKit

set_option maxHeartbeats 4000000 in
theorem edgesOfI_any (g : Value) (n : Nat) (e : Nat → Nat → Bool) (hn : n ≤ 16) (w : World) (hr : RdSS g (rowsB n e) w) :
    Calls Tryd.prog 185 #[.agg #[g]] w (SSRes w (edgesL n e)) := by
  obtain ⟨a, c, rfl⟩ := hr.shape
  rw [rowsB_length] at hr ⊢
  obtain ⟨B, hB⟩ : ∃ B, w.heap.size = B := ⟨_, rfl⟩
  obtain ⟨W0, hW0⟩ : ∃ W0, W0 = w.alloc (.cells #[.slice a n c] 56) := ⟨_, rfl⟩
  obtain ⟨W1, hW1⟩ : ∃ W1, W1 = W0.alloc (.cells #[] 30) := ⟨_, rfl⟩
  have hz0 : W0.heap.size = B + 1 := by simp [hW0, hB]
  have hz1 : W1.heap.size = B + 2 := by simp [hW1, hz0]
  have u0 : Below B w W0 := by rw [hW0, ← hB]; exact below_alloc' _ _
  have VG0 : VC 56 B #[.slice a n c] W0 := by rw [hW0]; exact VC.new hB
  have u1 : Below (B + 1) W0 W1 := by rw [hW1, ← hz0]; exact below_alloc' _ _
  have ho1 : W1.ownsRow (B + 1) 30 1 (.slice (some ⟨B + 1, 0, none⟩) 0 0) 0 [] := by
    rw [hW1, ← hz0]
    exact World.ownsRow_lit W0 #[] 0 (Nat.le_refl _) (by simp [maxLen]) rfl
  have hG1 : OwnG W1 (B + 1) 30 2 (.slice (some ⟨B + 1, 0, none⟩) 0 0) [] ((edgesTo n e 0 0).map ints) := by rw [edgesTo_zero]; exact OwnG.nil _ _ (by decide) ho1
  have HR : Hid (∀ W, Below (B + 1) W0 W → RdSS (.slice a n c) (rowsB n e) W) := Lib.hid fun W h => hr.below (u0.trans (h.mono (by omega))) hB
  have VG1 := (VG0.belowAt u1 (by omega)).cell
  clear ho1 hr
  go_enter Tryd.func185, Tryd.ntmps185
  go_wp2_with fail
  try rw [← hW0, ← hW1]
  clear hW0 hW1
  go_wp2_with fail
  go_loopw [3, 12] (fun o i wr => ∃ (k : Nat) (vs : List Value), k ≤ n ∧ i = .int .i64 k ∧ OwnG wr (B + 1) 30 2 o vs ((edgesTo n e k 0).map ints) ∧ Below (B + 1) W0 wr) (fun _ i _ => n - (intOf i).toNat)
  case atStart => exact ⟨0, [], Nat.zero_le _, rfl, hG1, u1⟩
  case round =>
    clear hG1 u1 hz1 VG1
    obtain ⟨k, vs, hk, rfl, hG, hb⟩ := hrel
    by_cases hlt : k < n
    · obtain ⟨sb, so, ra, rc, rfl, hc0, hr0⟩ := RdSS.rowAt (HR.out W0 (Below.refl _ _)) hlt
      have hc1 := (hb.cell (p := ⟨sb, so + k, none⟩) (by have := World.block_lt_of_cell? _ _ hc0; simp at this; show sb < B + 1; omega)).trans hc0
      have HRS : Hid (∀ W, Below (B + 1) W0 W → Row W 1 (.slice ra (rowB n (e k)).length rc) (rowB n (e k)).length (ints (rowB n (e k)))) := Lib.hid fun W h => Row.below hr0 (hz0.symm ▸ h)
      clear hc0 hr0
      go_wp2_with fail
      clear hc1
      go_loopw [3, 19] (fun o i wr => ∃ (j : Nat) (vs : List Value), j ≤ (rowB n (e k)).length ∧ i = .int .i64 j ∧ OwnG wr (B + 1) 30 2 o vs ((edgesTo n e k j).map ints) ∧ Below (B + 1) W0 wr) (fun _ i _ => (rowB n (e k)).length - (intOf i).toNat)
      case atStart => exact ⟨0, _, Nat.zero_le _, rfl, hG, hb⟩
      case round =>
        clear hG hb
        obtain ⟨j, vs, hj, rfl, hG, hb⟩ := hrel
        have hsz := hb.size
        have hpl := rowB_length n (e k)
        by_cases hlj : j < (rowB n (e k)).length
        · obtain ⟨yb, yo, y, rfl, hcy, HY⟩ := Row.intAt (HRS.out wr hb) hlj
          have hlen : vs.length ≤ 272 := by rw [hG.len, List.length_map]; exact edgesTo_len hn (by omega)
          by_cases hy : (k : Int) < y
          · have HP := Lib.hid (edgesTo_put HY.out hy)
            have hout := hG.outer
            have HG := Lib.hid hG
            clear hG
            obtain ⟨ua, uc, rfl⟩ := owns_shape hout
            go_wp2_with (at_builtin; refine wpList_push_at _ rfl _ _ 51 rfl (B + 1) 30 _ _ 24 Tryd.underlying51 infoR rfl _ _ _ rfl (hout.alloc _) (wr.heap.size + 1) (by simp) _ rfl rfl (by unfold maxLen; omega) (by omega) (by simp; omega) ?_; intro g2 c2 w2 ho2 hg2)
            have hlit := World.ownsRow_lit (base := wr.heap.size) (e := 2) (size := 1) wr #[.int .i64 (k : Int), .int .i64 y] 2 (Nat.le_refl _) (by simp [maxLen]) rfl
            have hGn := HG.out.push (B := wr.heap.size) (cs := ints [(k : Int), y]) (below_alloc' wr _) hlit (Nat.le_refl _) (by omega) ho2 hg2
            have hbn : Below (B + 1) W0 w2 := (hb.alloc (by omega) (.cells #[.int .i64 (k : Int), .int .i64 y] 2)).grown hg2 (by simp; omega) (fun q hq => (owns_lt hout hq).1)
            go_roundw
            case rel => exact ⟨j + 1, _, by omega, by go_num, by rw [HP.out, List.map_append]; exact hGn, hbn⟩
            case measure => simp [intOf]; omega
          · have HP := Lib.hid (edgesTo_skip HY.out hy)
            go_wp2_with fail
            go_roundw
            case rel => exact ⟨j + 1, _, by omega, by go_num, by rw [HP.out]; exact hG, hb⟩
            case measure => simp [intOf]; omega
        · obtain rfl : j = (rowB n (e k)).length := by omega
          have HP := Lib.hid (edgesTo_next n e k)
          go_wp2_with fail
          go_roundw
          case rel => exact ⟨k + 1, _, by omega, by go_num, by rw [← HP.out]; exact hG, hb⟩
          case measure => simp [intOf]; omega
    · obtain rfl : k = n := by omega
      rw [edgesTo_all] at hG
      have HG := Lib.hid hG
      have hbb := u0.trans (hb.mono (by omega))
      clear hG
      go_wp2_with fail
      go_ret
      exact ⟨_, vs, rfl, by rw [hB]; exact HG.out.rebase (by omega), by rw [hB]; exact hbb⟩

theorem VC.at3 {t : TypeId} {b : Nat} {c0 c1 c2 : Value} {w : World} (h : VC t b #[c0, c1, c2] w) :
    w.cell? ⟨b, 0, none⟩ = some c0 ∧ w.cell? ⟨b, 1, none⟩ = some c1 ∧ w.cell? ⟨b, 2, none⟩ = some c2 := by
  unfold VC at h
  refine ⟨?_, ?_, ?_⟩ <;> simp [World.cell?, h]
theorem SSRes.none {w w' : World} {u : Value} (hu : u = .slice none 0 0) (hb : Below w.heap.size w w') : SSRes w [] (.returned u) w' := by
  subst hu
  exact ⟨_, [], rfl, OwnG.nil _ _ (by decide) (World.ownsRow_nil _ _ _ 1), hb⟩

end Go.Proofs.YtbhobmngnjfgfaaDoor
