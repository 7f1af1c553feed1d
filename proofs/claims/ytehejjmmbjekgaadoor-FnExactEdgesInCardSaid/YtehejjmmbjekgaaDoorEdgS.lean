/-
  'edgesOf' and 'EdgesIn' of the program; 'EdgesIn' of the reference.
-/
import Derived.Test.YtehejjmmbjekgaaDoorEdgP
import Derived.Test.YtehejjmmbjekgaaDoorQuoS
import Derived.Test.YtehejjmmbjekgaaDoorWordT
namespace Go.Proofs.YtehejjmmbjekgaaDoor
open Go.RowKit

set_option maxHeartbeats 4000000 in
theorem edgesOfI_any (g : Value) (n : Nat) (e : Nat → Nat → Bool) (hn : n ≤ 16) (w : World) (hr : RdSS g (rowsB n e) w) :
    Calls Tryd.prog 100 #[.agg #[g]] w (SSRes w (edgesL n e)) := by
  obtain ⟨a, c, rfl⟩ := hr.shape
  rw [rowsB_length] at hr ⊢
  obtain ⟨B, hB⟩ : ∃ B, w.heap.size = B := ⟨_, rfl⟩
  obtain ⟨W0, hW0⟩ : ∃ W0, W0 = w.alloc (.cells #[.slice a n c] 24) := ⟨_, rfl⟩
  obtain ⟨W1, hW1⟩ : ∃ W1, W1 = W0.alloc (.cells #[] 38) := ⟨_, rfl⟩
  have hz0 : W0.heap.size = B + 1 := by simp [hW0, hB]
  have hz1 : W1.heap.size = B + 2 := by simp [hW1, hz0]
  have u0 : Below B w W0 := by rw [hW0, ← hB]; exact below_alloc' _ _
  have VG0 : VC 24 B #[.slice a n c] W0 := by rw [hW0]; exact VC.new hB
  have u1 : Below (B + 1) W0 W1 := by rw [hW1, ← hz0]; exact below_alloc' _ _
  have ho1 : W1.ownsRow (B + 1) 38 1 (.slice (some ⟨B + 1, 0, none⟩) 0 0) 0 [] := by
    rw [hW1, ← hz0]
    exact World.ownsRow_lit W0 #[] 0 (Nat.le_refl _) (by simp [maxLen]) rfl
  have hG1 : OwnG W1 (B + 1) 38 2 (.slice (some ⟨B + 1, 0, none⟩) 0 0) [] ((edgesTo n e 0 0).map ints) := by rw [edgesTo_zero]; exact OwnG.nil _ _ (by decide) ho1
  have HR : Hid (∀ W, Below (B + 1) W0 W → RdSS (.slice a n c) (rowsB n e) W) := Lib.hid fun W h => hr.below (u0.trans (h.mono (by omega))) hB
  have VG1 := (VG0.belowAt u1 (by omega)).cell
  clear ho1 hr
  go_enter Tryd.func100, Tryd.ntmps100
  go_wp2_with fail
  try rw [← hW0, ← hW1]
  clear hW0 hW1
  go_wp2_with fail
  go_loopw [3, 12] (fun o i wr => ∃ (k : Nat) (vs : List Value), k ≤ n ∧ i = .int .i64 k ∧ OwnG wr (B + 1) 38 2 o vs ((edgesTo n e k 0).map ints) ∧ Below (B + 1) W0 wr) (fun _ i _ => n - (intOf i).toNat)
  case atStart => exact ⟨0, [], Nat.zero_le _, rfl, hG1, u1⟩
  case round =>
    clear hG1 u1 hz1 VG1
    obtain ⟨k, vs, hk, rfl, hG, hb⟩ := hrel
    by_cases hlt : k < n
    · obtain ⟨sb, so, ra, rc, rfl, hc0, hr0⟩ := RdSS.rowAt (HR.out W0 (Below.refl _ _)) hlt
      have hc1 := (hb.cell (p := ⟨sb, so + k, none⟩) (by have := World.block_lt_of_cell? _ _ hc0; simp at this; show sb < B + 1; omega)).trans hc0
      have HRS : Hid (∀ W, Below (B + 1) W0 W → Row W 1 (.slice ra (rowB n (e k)).length rc) (rowB n (e k)).length (ints (rowB n (e k)))) := Lib.hid fun W h => Row.below hr0 (hz0.symm ▸ h)
      clear hc0 hr0
      go_wp2_with fail
      clear hc1
      go_loopw [3, 19] (fun o i wr => ∃ (j : Nat) (vs : List Value), j ≤ (rowB n (e k)).length ∧ i = .int .i64 j ∧ OwnG wr (B + 1) 38 2 o vs ((edgesTo n e k j).map ints) ∧ Below (B + 1) W0 wr) (fun _ i _ => (rowB n (e k)).length - (intOf i).toNat)
      case atStart => exact ⟨0, _, Nat.zero_le _, rfl, hG, hb⟩
      case round =>
        clear hG hb
        obtain ⟨j, vs, hj, rfl, hG, hb⟩ := hrel
        have hsz := hb.size
        have hpl := rowB_length n (e k)
        by_cases hlj : j < (rowB n (e k)).length
        · obtain ⟨yb, yo, y, rfl, hcy, HY⟩ := Row.intAt (HRS.out wr hb) hlj
          have hlen : vs.length ≤ 272 := by rw [hG.len, List.length_map]; exact edgesTo_len hn (by omega)
          by_cases hy : (k : Int) < y
          · have HP := Lib.hid (edgesTo_put HY.out hy)
            have hout := hG.outer
            have HG := Lib.hid hG
            clear hG
            obtain ⟨ua, uc, rfl⟩ := owns_shape hout
            go_wp2_with (at_builtin; refine wpList_push_at _ rfl _ _ 22 rfl (B + 1) 38 _ _ 24 Tryd.underlying22 infoR rfl _ _ _ rfl (hout.alloc _) (wr.heap.size + 1) (by simp) _ rfl rfl (by unfold maxLen; omega) (by omega) (by simp; omega) ?_; intro g2 c2 w2 ho2 hg2)
            have hlit := World.ownsRow_lit (base := wr.heap.size) (e := 2) (size := 1) wr #[.int .i64 (k : Int), .int .i64 y] 2 (Nat.le_refl _) (by simp [maxLen]) rfl
            have hGn := HG.out.push (B := wr.heap.size) (cs := ints [(k : Int), y]) (below_alloc' wr _) hlit (Nat.le_refl _) (by omega) ho2 hg2
            have hbn : Below (B + 1) W0 w2 := (hb.alloc (by omega) (.cells #[.int .i64 (k : Int), .int .i64 y] 2)).grown hg2 (by simp; omega) (fun q hq => (owns_lt hout hq).1)
            go_roundw
            case rel => exact ⟨j + 1, _, by omega, by go_num, by rw [HP.out, List.map_append]; exact hGn, hbn⟩
            case measure => simp [intOf]; omega
          · have HP := Lib.hid (edgesTo_skip HY.out hy)
            go_wp2_with fail
            go_roundw
            case rel => exact ⟨j + 1, _, by omega, by go_num, by rw [HP.out]; exact hG, hb⟩
            case measure => simp [intOf]; omega
        · obtain rfl : j = (rowB n (e k)).length := by omega
          have HP := Lib.hid (edgesTo_next n e k)
          go_wp2_with fail
          go_roundw
          case rel => exact ⟨k + 1, _, by omega, by go_num, by rw [← HP.out]; exact hG, hb⟩
          case measure => simp [intOf]; omega
    · obtain rfl : k = n := by omega
      rw [edgesTo_all] at hG
      have HG := Lib.hid hG
      have hbb := u0.trans (hb.mono (by omega))
      clear hG
      go_wp2_with fail
      go_ret
      exact ⟨_, vs, rfl, by rw [hB]; exact HG.out.rebase (by omega), by rw [hB]; exact hbb⟩

theorem VC.at3 {t : TypeId} {b : Nat} {c0 c1 c2 : Value} {w : World} (h : VC t b #[c0, c1, c2] w) :
    w.cell? ⟨b, 0, none⟩ = some c0 ∧ w.cell? ⟨b, 1, none⟩ = some c1 ∧ w.cell? ⟨b, 2, none⟩ = some c2 := by
  unfold VC at h
  refine ⟨?_, ?_, ?_⟩ <;> simp [World.cell?, h]
theorem SSRes.none {w w' : World} {u : Value} (hu : u = .slice none 0 0) (hb : Below w.heap.size w w') : SSRes w [] (.returned u) w' := by
  subst hu
  exact ⟨_, [], rfl, OwnG.nil _ _ (by decide) (World.ownsRow_nil _ _ _ 1), hb⟩

set_option maxHeartbeats 4000000 in
theorem implEdgesIn (k0 : Int) (vh vp : Value) (pss : List (List Int)) (w : World) (ht : Tab w) (hr : RdSS vp pss w) (rows : List (List Int)) (h : EdgP pss rows) :
    Calls Tryd.prog 40 #[.agg #[.int .i64 k0, vh, vp]] w (SSRes w rows) := by
  obtain ⟨a, c, rfl⟩ := hr.shape
  have hlm : pss.length ≤ maxLen := (let ⟨_, h⟩ := hr.ex; by have := h.outer.len; have := h.len; simp at *; omega)
  unfold maxLen at hlm
  obtain ⟨B, hB⟩ : ∃ B, w.heap.size = B := ⟨_, rfl⟩
  have hTB : 0 < B := by rw [← hB]; exact ht.lt
  have HTAB : Hid (∀ W, Below B w W → Tab W) := Lib.hid fun W h => ht.keep h hTB
  obtain ⟨W0, hW0⟩ : ∃ W0, W0 = w.alloc (.cells #[.int .i64 k0, vh, .slice a pss.length c] 61) := ⟨_, rfl⟩
  have hz0 : W0.heap.size = B + 1 := by simp [hW0, hB]
  have u0 : Below B w W0 := by rw [hW0, ← hB]; exact below_alloc' _ _
  have V0 : VC 61 B #[.int .i64 k0, vh, .slice a pss.length c] W0 := by rw [hW0]; exact VC.new hB
  obtain ⟨p0, p1, p2⟩ := V0.at3
  have HRD : Hid (∀ W, Below B w W → RdSS (.slice a pss.length c) pss W) := Lib.hid fun W h => hr.below h hB
  have H := Lib.hid h
  have HNO : Hid (¬ OkEd pss → rows = []) := Lib.hid fun hn => by
    rcases H.out with ⟨_, h⟩ | ⟨h, _⟩
    · exact h
    · exact (hn h).elim
  clear hr h
  by_cases hl10 : 10 < pss.length
  · obtain rfl := HNO.out fun h => by have := h.1; omega
    have hd : (10 : Int) < pss.length := by omega
    clear hl10
    go_enter Tryd.func40, Tryd.ntmps40
    go_wp2_with fail
    go_ret
    exact SSRes.none rfl (by rw [← hW0, hB]; exact u0)
  have hd : ¬ (10 : Int) < pss.length := by omega
  have HZ0 : Hid (List.replicate 16 (Value.int .u32 0) = sets (NB 16 (adjN pss 0 0))) := Lib.hid (by
    rw [sets_zeros, adjN_zero]
    have e : NB 16 (fun _ _ => false) = List.replicate 16 0 := by
      unfold NB
      rw [List.eq_replicate_iff]
      refine ⟨by simp, fun m hm => ?_⟩
      obtain ⟨i, _, rfl⟩ := List.mem_map.1 hm
      exact maskB_zero 16
    rw [e])
  go_enter Tryd.func40, Tryd.ntmps40
  go_wp2_with (at_make; refine wpList_make _ rfl _ _ 94 rfl (B + 1) 116 (.int .u32 0) 4 Tryd.underlying94 infoV rfl .i64 .i64 _ _ 16 rfl rfl (by omega) (by omega) (by omega) (by unfold maxLen; omega) (by simp; omega) ?_; intro w2 ho2 hb2; have V2 := (hW0 ▸ V0 : VC 61 B #[.int .i64 k0, vh, .slice a pss.length c] (w.alloc (.cells #[.int .i64 k0, vh, .slice a pss.length c] 61))).upd (Upd.of_below hb2) (by omega); obtain ⟨q0, q1, q2⟩ := V2.at3)
  rw [← hW0] at ho2 hb2
  try rw [← hW0]
  rw [hz0] at ho2 hb2
  try rw [hz0]
  rw [HZ0.out] at ho2
  clear hW0 HZ0 p0 p1 p2 q0 q1 q2
  go_loopw [16] (fun i wr => ∃ k : Nat, k ≤ pss.length ∧ i = .int .i64 k ∧ Hid (∀ p ∈ pss.take k, p.length ≤ 16 ∧ ∀ x ∈ p, inV x = true) ∧ wr.ownsRow (B + 1) 116 1 (.slice (some ⟨B + 1, 0, none⟩) 16 16) 16 (sets (NB 16 (adjN pss k 0))) ∧ Below (B + 1) W0 wr) (fun i _ => pss.length - (intOf i).toNat)
  case atStart => exact ⟨0, Nat.zero_le _, rfl, Lib.hid fun p hp => by simp at hp, ho2, hb2⟩
  case round =>
    clear ho2 hb2 V2
    obtain ⟨k, hk, rfl, HK, hO, hbr⟩ := hrel
    have hsz := hbr.size
    have hbw := u0.trans (hbr.mono (by omega))
    by_cases hlt : k < pss.length
    · obtain ⟨sb, so, ra, rc, p, rfl, hc0, hr0, HP⟩ := RdSS.rowAtL (HRD.out W0 u0) hlt
      have hc1 := (hbr.cell (p := ⟨sb, so + k, none⟩) (by have := World.block_lt_of_cell? _ _ hc0; simp at this; show sb < B + 1; omega)).trans hc0
      have hpl := hr0.len
      unfold maxLen at hpl
      have HRS : Hid (∀ W, Below (B + 1) W0 W → Row W 1 (.slice ra p.length rc) p.length (ints p)) := Lib.hid fun W h => Row.below hr0 (hz0.symm ▸ h)
      clear hc0 hr0
      by_cases hp16 : 16 < p.length
      · have hd16 : (16 : Int) < p.length := by omega
        obtain rfl := HNO.out fun h => by have := (h.2 p (List.mem_of_getElem? HP.out)).1; omega
        go_wp2_with fail
        go_ret
        exact SSRes.none rfl (by rw [hB]; exact hbw)
      · have hd16 : ¬ (16 : Int) < p.length := by omega
        have HX0 : Hid (∀ x ∈ p.take 0, inV x = true) := Lib.hid fun x hx => by simp at hx
        go_wp2_with fail
        clear hc1
        go_loopw [25] (fun i wr => ∃ j : Nat, j ≤ p.length ∧ i = .int .i64 j ∧ Hid (∀ x ∈ p.take j, inV x = true) ∧ wr.ownsRow (B + 1) 116 1 (.slice (some ⟨B + 1, 0, none⟩) 16 16) 16 (sets (NB 16 (adjN pss k j))) ∧ Below (B + 1) W0 wr) (fun i _ => p.length - (intOf i).toNat)
        case atStart => exact ⟨0, Nat.zero_le _, rfl, HX0, hO, hbr⟩
        case round =>
          clear hO hbr HX0 hbw hsz
          obtain ⟨j, hj, rfl, HX, hO, hbr⟩ := hrel
          have hsz := hbr.size
          have hbw := u0.trans (hbr.mono (by omega))
          by_cases hlj : j < p.length
          · obtain ⟨yb, yo, y, rfl, hcy, HY⟩ := Row.intAt (HRS.out wr hbr) hlj
            obtain ⟨q, hq⟩ : ∃ q, decide ((0 : Int) ≤ y ∧ y ≤ 15) = q := ⟨_, rfl⟩
            have HQ : Hid (inV y = q) := Lib.hid hq
            have HIN := Lib.hid (inRange_is y 0 15 q hq wr)
            clear hq
            cases q with
            | false =>
              obtain rfl := HNO.out fun h => by
                have := (h.2 p (List.mem_of_getElem? HP.out)).2 y (List.mem_of_getElem? HY.out)
                rw [HQ.out] at this; cases this
              go_wp2_with fail
              refine HIN.out.mono ?_
              rintro e1 w' ⟨rfl, rfl⟩
              go_wp2_with fail
              go_ret
              exact SSRes.none rfl (by rw [hB]; exact hbw)
            | true =>
              have hy := HQ.out
              unfold inV at hy
              rw [decide_eq_true_eq] at hy
              have HX2 : Hid (∀ x ∈ p.take (j + 1), inV x = true) := Lib.hid fun x hx => by
                rw [take_snoc HY.out, List.mem_append, List.mem_singleton] at hx
                rcases hx with hx | rfl
                · exact HX.out x hx
                · exact HQ.out
              obtain ⟨yn, rfl⟩ := Int.eq_ofNat_of_zero_le hy.1
              have hyn : yn < 16 := by omega
              clear hy
              by_cases hj0 : j = 0
              · subst hj0
                rw [Nat.add_zero] at hcy
                have HN := Lib.hid (adjN_first (pss := pss) (k := k))
                go_wp2_with fail
                refine HIN.out.mono ?_
                rintro e1 w' ⟨rfl, rfl⟩
                go_wp2_with fail
                go_roundw
                case rel => exact ⟨1, by omega, by go_num, HX2, by rw [HN.out]; exact hO, hbr⟩
                case measure => simp [intOf]; omega
              · obtain ⟨i, rfl⟩ : ∃ i, j = i + 1 := ⟨j - 1, by omega⟩
                obtain ⟨yb', yo', x, e8, hcx, HXX⟩ := Row.intAt (HRS.out wr hbr) (show i < p.length by omega)
                obtain ⟨rfl, rfl⟩ : yb = yb' ∧ yo = yo' := by simpa using e8
                have hx := HX.out x (List.mem_of_getElem? (i := i) (by rw [List.getElem?_take]; simp; exact HXX.out))
                unfold inV at hx
                rw [decide_eq_true_eq] at hx
                obtain ⟨xn, rfl⟩ := Int.eq_ofNat_of_zero_le hx.1
                have hxn : xn < 16 := by omega
                have hgt : (0 : Int) < ((i + 1 : Nat) : Int) := by omega
                have hw1 : wrap64 (((i + 1 : Nat) : Int) - 1) = (i : Int) := by unfold wrap64; omega
                clear e8 hx
                by_cases hxy : xn = yn
                · subst hxy
                  have hne : ((xn : Int) != (xn : Int)) = false := by simp
                  have HN := Lib.hid (adjN_same HP.out HXX.out HY.out)
                  go_wp2_with fail
                  refine HIN.out.mono ?_
                  rintro e1 w' ⟨rfl, rfl⟩
                  go_wp2_with fail
                  go_roundw
                  case rel => exact ⟨i + 2, by omega, by go_num, HX2, by rw [HN.out]; exact hO, hbr⟩
                  case measure => simp [intOf]; omega
                · have hne : ((xn : Int) != (yn : Int)) = true := by rw [bne_iff_ne]; omega
                  have HN := Lib.hid (adjN_step HP.out HXX.out HY.out hxy)
                  have hjo := join_any (B + 1) (B + 1) 16 16 (NB 16 (adjN pss k (i + 1))) (NB_length _ _) (NB_small (by omega) _) xn yn hxn hyn (by omega) (by omega) wr hO
                  rw [joinS_NB _ hxn hyn, ← HN.out] at hjo
                  have HJO := Lib.hid hjo
                  clear hjo hxy
                  go_wp2_with fail
                  refine HIN.out.mono ?_
                  rintro e1 w' ⟨rfl, rfl⟩
                  go_wp2_with fail
                  refine HJO.out.mono ?_
                  rintro e1 w4 ⟨rfl, hO4, hg4⟩
                  have hbr4 : Below (B + 1) W0 w4 := hbr.grown hg4 (by omega) (fun b hb' => by simp at hb'; omega)
                  clear hO hbr hg4 HJO hcx hcy
                  go_wp2_with fail
                  go_roundw
                  case rel => exact ⟨i + 2, by omega, by go_num, HX2, hO4, hbr4⟩
                  case measure => simp [intOf]; omega
          · obtain rfl : j = p.length := by omega
            have HN := Lib.hid (adjN_next HP.out)
            have HK2 : Hid (∀ p ∈ pss.take (k + 1), p.length ≤ 16 ∧ ∀ x ∈ p, inV x = true) := Lib.hid fun p' hp => by
              rw [take_snoc HP.out, List.mem_append, List.mem_singleton] at hp
              rcases hp with hp | rfl
              · exact HK.out p' hp
              · exact ⟨by omega, by have := HX.out; rwa [List.take_length] at this⟩
            go_wp2_with fail
            go_roundw
            case rel => exact ⟨k + 1, by omega, by go_num, HK2, by rw [← HN.out]; exact hO, hbr⟩
            case measure => simp [intOf]; omega
    · obtain rfl : k = pss.length := by omega
      have HROWS : Hid (rows = edgesL 16 (adjN pss pss.length 0)) := Lib.hid (by
        rcases H.out with ⟨hn, _⟩ | ⟨_, h⟩
        · refine (hn ⟨by omega, fun p hp => ?_⟩).elim
          exact HK.out p (by rw [List.take_length]; exact hp)
        · exact h)
      have hql : (NB 16 (adjN pss pss.length 0)).length = 16 := NB_length _ _
      have HGR := Lib.hid (graph_any (.slice (some ⟨B + 1, 0, none⟩) 16 16) (NB 16 (adjN pss pss.length 0)) (NB_small (by omega) _) (by rw [hql]; omega) wr (HTAB.out wr hbw) (by rw [hql]; exact Row.of_owns hO))
      clear hO hql
      go_wp2_with fail
      refine HGR.out.mono ?_
      rintro e1 w5 ⟨u5, vs, rfl, hG, hb5⟩
      have hb05 := hbw.trans (hb5.mono (by omega))
      have hR5 : RdSS u5 (rowsB 16 (adjN pss pss.length 0)) w5 := ⟨vs, by rw [← rowsOf_NB (by omega)]; exact hG.rd⟩
      have HE := Lib.hid (edgesOfI_any u5 16 (adjN pss pss.length 0) (by omega) w5 hR5)
      clear hG hb5 hR5 HGR
      go_wp2_with fail
      refine HE.out.mono ?_
      rintro e1 w6 ⟨u6, vs6, rfl, hG6, hb6⟩
      have hb06 := hb05.trans (hb6.mono (by have := hb05.size; omega))
      have hle : w.heap.size ≤ w5.heap.size := hb05.size
      have HG6 := Lib.hid hG6
      clear hb6 hG6 HE
      go_wp2_with fail
      go_ret
      exact ⟨_, vs6, rfl, by rw [HROWS.out]; exact HG6.out.rebase hle, by rw [hB]; exact hb06⟩
end Go.Proofs.YtehejjmmbjekgaaDoor
