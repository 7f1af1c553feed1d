/-
  'EdgesIn' of the reference; both.
-/
import Derived.Test.YtehejjmmbjekgaaDoorEdgS
import Derived.Test.YtehejjmmbjekgaaDoorOrder2
namespace Go.Proofs.YtehejjmmbjekgaaDoor
open Go.RowKit

def bools (bs : List Bool) : List Value := bs.map Value.bool
@[simp] theorem bools_length (bs : List Bool) : (bools bs).length = bs.length := by simp [bools]
theorem bools_at {bs : List Bool} {i : Nat} (h : i < bs.length) : (bools bs)[i]? = some (.bool (bs.getD i false)) := by
  unfold bools
  rw [List.getElem?_map, List.getElem?_eq_getElem h, List.getD_eq_getElem?_getD, List.getElem?_eq_getElem h]
  rfl
theorem bools_set (bs : List Bool) (i : Nat) (b : Bool) : bools (bs.set i b) = (bools bs).set i (.bool b) := by unfold bools; rw [List.map_set]
theorem infoBl : (Tryd.prog.info? 4).map (fun i => (i.zero, i.size, i.bytes)) = some (some (.bool false), 1, 1) := by kernel_rfl
theorem l1Min_w (u v z : Int) (h : (if u < v then u else v) = z) (w : World) : Calls Tryd.prog 99 #[.int .i64 u, .int .i64 v] w fun e w' => e = .returned (.int .i64 z) ∧ w = w' := by
  by_cases hlt : u < v
  · rw [if_pos hlt] at h
    subst h
    go_enter Tryd.func99, Tryd.ntmps99
    go_wp2_with fail
    all_goals go_ret
    all_goals exact ⟨ret_int (by omega), rfl⟩
  · rw [if_neg hlt] at h
    subst h
    go_enter Tryd.func99, Tryd.ntmps99
    go_wp2_with fail
    all_goals go_ret
    all_goals exact ⟨ret_int (by omega), rfl⟩
theorem min_if (x y : Nat) : (if (x : Int) < (y : Int) then (x : Int) else (y : Int)) = ((min x y : Nat) : Int) := by split <;> omega
theorem max_if (x y : Nat) : (if (y : Int) < (x : Int) then (x : Int) else (y : Int)) = ((max x y : Nat) : Int) := by split <;> omega
theorem wrap16 {m M ix : Nat} (hm : m < 16) (hM : M < 16) (h : ix = m * 16 + M) : wrap64 ((m : Int) * 16) = (m : Int) * 16 ∧ wrap64 ((m : Int) * 16 + (M : Int)) = (ix : Int) ∧ ix < 256 := by
  unfold wrap64
  omega
theorem wrap_nat {i : Nat} (h : i < 1000) : IntKind.i64.wrap (i : Int) = (i : Int) := by rw [IntKind.wrap_i64]; omega
/-- The table tells the steps. -/
def Tells (pss : List (List Int)) (k j : Nat) (bs : List Bool) : Prop := bs.length = 256 ∧ ∀ u v, u < v → v < 16 → bs.getD (u * 16 + v) false = nearA pss k j u v
theorem Tells.start (pss : List (List Int)) : Tells pss 0 0 (List.replicate 256 false) := by
  refine ⟨List.length_replicate, fun u v _ _ => ?_⟩
  rw [nearA_zero, List.getD_eq_getElem?_getD, List.getElem?_replicate]
  split <;> rfl
theorem Tells.first {pss : List (List Int)} {k : Nat} {bs : List Bool} (h : Tells pss k 0 bs) : Tells pss k 1 bs := ⟨h.1, fun u v h1 h2 => by rw [nearA_first]; exact h.2 u v h1 h2⟩
theorem Tells.next {pss : List (List Int)} {k : Nat} {p : List Int} {bs : List Bool} (hp : pss[k]? = some p) (h : Tells pss k p.length bs) : Tells pss (k + 1) 0 bs := ⟨h.1, fun u v h1 h2 => by rw [← nearA_next hp]; exact h.2 u v h1 h2⟩
theorem Tells.step {pss : List (List Int)} {k j : Nat} {p : List Int} {bs : List Bool} {x y m M : Nat} (hp : pss[k]? = some p) (hx : p[j]? = some (x : Int)) (hy : p[j + 1]? = some (y : Int)) (hx16 : x < 16) (hy16 : y < 16) (hm : m = min x y) (hM : M = max x y) (h : Tells pss k (j + 1) bs) :
    Tells pss k (j + 2) (bs.set (m * 16 + M) true) := by
  refine ⟨by simp [h.1], fun u v huv hv => ?_⟩
  rw [nearA_step hp hx hy]
  simp only
  rw [← h.2 u v huv hv, List.getD_eq_getElem?_getD, List.getD_eq_getElem?_getD, List.getElem?_set]
  have hl := h.1
  by_cases he : m * 16 + M = u * 16 + v
  · have hs : stepB x y u v = true := by
      unfold stepB
      rw [Bool.or_eq_true, Bool.and_eq_true, Bool.and_eq_true, decide_eq_true_eq, decide_eq_true_eq, decide_eq_true_eq, decide_eq_true_eq]
      omega
    rw [if_pos he, if_pos (by omega), hs]
    simp
  · have hs : stepB x y u v = false := by
      cases hb : stepB x y u v with
      | false => rfl
      | true =>
        unfold stepB at hb
        rw [Bool.or_eq_true, Bool.and_eq_true, Bool.and_eq_true, decide_eq_true_eq, decide_eq_true_eq, decide_eq_true_eq, decide_eq_true_eq] at hb
        omega
    rw [if_neg he, hs, Bool.or_false]

set_option maxHeartbeats 4000000 in
set_option maxRecDepth 100000 in
theorem specEdgesIn (k0 : Int) (vh vp : Value) (pss : List (List Int)) (w : World) (hr : RdSS vp pss w) (rows : List (List Int)) (h : EdgP pss rows) :
    Calls Tryd.prog 38 #[.agg #[.int .i64 k0, vh, vp]] w (SSRes w rows) := by
  obtain ⟨a, c, rfl⟩ := hr.shape
  have hlm : pss.length ≤ maxLen := (let ⟨_, h⟩ := hr.ex; by have := h.outer.len; have := h.len; simp at *; omega)
  unfold maxLen at hlm
  obtain ⟨B, hB⟩ : ∃ B, w.heap.size = B := ⟨_, rfl⟩
  obtain ⟨W0, hW0⟩ : ∃ W0, W0 = w.alloc (.cells #[.int .i64 k0, vh, .slice a pss.length c] 61) := ⟨_, rfl⟩
  obtain ⟨W1, hW1⟩ : ∃ W1, W1 = W0.alloc (.cells #[] 38) := ⟨_, rfl⟩
  have hz0 : W0.heap.size = B + 1 := by simp [hW0, hB]
  have hz1 : W1.heap.size = B + 2 := by simp [hW1, hz0]
  have u0 : Below B w W0 := by rw [hW0, ← hB]; exact below_alloc' _ _
  have u1 : Below (B + 1) W0 W1 := by rw [hW1, ← hz0]; exact below_alloc' _ _
  have u01 : Below B w W1 := u0.trans (u1.mono (by omega))
  have V0 : VC 61 B #[.int .i64 k0, vh, .slice a pss.length c] W0 := by rw [hW0]; exact VC.new hB
  have V1 := V0.belowAt u1 (by omega)
  have ho1 : W1.ownsRow (B + 1) 38 1 (.slice (some ⟨B + 1, 0, none⟩) 0 0) 0 [] := by
    rw [hW1, ← hz0]
    exact World.ownsRow_lit W0 #[] 0 (Nat.le_refl _) (by simp [maxLen]) rfl
  have hG1 : OwnG W1 (B + 1) 38 2 (.slice (some ⟨B + 1, 0, none⟩) 0 0) [] (([] : List (List Int)).map ints) := OwnG.nil _ _ (by decide) ho1
  obtain ⟨p0, p1, p2⟩ := V1.at3
  have HRD : Hid (∀ W, Below B w W → RdSS (.slice a pss.length c) pss W) := Lib.hid fun W h => hr.below h hB
  have H := Lib.hid h
  have HNO : Hid (¬ OkEd pss → rows = []) := Lib.hid fun hn => by
    rcases H.out with ⟨_, h⟩ | ⟨h, _⟩
    · exact h
    · exact (hn h).elim
  have HEND : Hid (∀ W, Below (B + 2) W1 W → SSRes w [] (.returned (.slice (some ⟨B + 1, 0, none⟩) 0 0)) W) := Lib.hid fun W hW => ⟨_, [], rfl, by rw [hB]; exact (hG1.below (hz1.symm ▸ hW)).rebase (by omega), by rw [hB]; exact u01.trans (hW.mono (by omega))⟩
  clear hr h ho1 V0 u0 u1
  by_cases hl10 : 10 < pss.length
  · obtain rfl := HNO.out fun h => by have := h.1; omega
    have hd : (10 : Int) < pss.length := by omega
    clear hl10
    go_enter Tryd.func38, Tryd.ntmps38
    go_wp2_with fail
    try rw [← hW0, ← hW1]
    clear hW0 hW1
    go_wp2_with fail
    go_ret
    exact HEND.out _ (Below.refl _ _)
  have hd : ¬ (10 : Int) < pss.length := by omega
  have HT0 := Lib.hid (Tells.start pss)
  go_enter Tryd.func38, Tryd.ntmps38
  go_wp2_with (at_make; rw [← hW0, ← hW1]; clear hW0 hW1; refine wpList_make _ rfl _ _ 127 rfl (B + 2) 4 (.bool false) 1 Tryd.underlying127 infoBl rfl .i64 .i64 _ _ 256 rfl rfl (by omega) (by omega) (by omega) (by unfold maxLen; omega) (by omega) ?_; intro w2 ho2 hb2; have HO2 := Lib.hid ho2; clear ho2)
  rw [hz1] at HO2 hb2
  try rw [hz1]
  obtain ⟨bs0, hbs0⟩ : ∃ bs0, bs0 = List.replicate 256 false := ⟨_, rfl⟩
  have ho2' : w2.ownsRow (B + 2) 4 1 (.slice (some ⟨B + 2, 0, none⟩) 256 256) 256 (bools bs0) := by rw [hbs0, show bools (List.replicate 256 false) = List.replicate 256 (.bool false) by unfold bools; rw [List.map_replicate]]; exact HO2.out
  rw [← hbs0] at HT0
  clear p0 p1 p2 HO2 hbs0
  go_loopw [5] (fun i wr => ∃ (k : Nat) (bs : List Bool), k ≤ pss.length ∧ i = .int .i64 k ∧ Hid (∀ p ∈ pss.take k, p.length ≤ 16 ∧ ∀ x ∈ p, inV x = true) ∧ Hid (Tells pss k 0 bs) ∧ wr.ownsRow (B + 2) 4 1 (.slice (some ⟨B + 2, 0, none⟩) 256 256) 256 (bools bs) ∧ Below (B + 2) W1 wr) (fun i _ => pss.length - (intOf i).toNat)
  case atStart => exact ⟨0, _, Nat.zero_le _, rfl, Lib.hid fun p hp => by simp at hp, HT0, ho2', hb2⟩
  case round =>
    clear ho2' hb2 HT0
    obtain ⟨k, bs, hk, rfl, HK, HT, hO, hbr⟩ := hrel
    have hsz := hbr.size
    have hbw := u01.trans (hbr.mono (by omega))
    obtain ⟨p0, p1, p2⟩ := (V1.belowAt hbr (by omega)).at3
    by_cases hlt : k < pss.length
    · obtain ⟨sb, so, ra, rc, p, rfl, hc0, hr0, HP⟩ := RdSS.rowAtL (HRD.out W1 u01) hlt
      have hc1 := (hbr.cell (p := ⟨sb, so + k, none⟩) (by have := World.block_lt_of_cell? _ _ hc0; simp at this; show sb < B + 2; omega)).trans hc0
      have hpl := hr0.len
      unfold maxLen at hpl
      have HRS : Hid (∀ W, Below (B + 2) W1 W → Row W 1 (.slice ra p.length rc) p.length (ints p)) := Lib.hid fun W h => Row.below hr0 (hz1.symm ▸ h)
      clear hc0 hr0
      by_cases hp16 : 16 < p.length
      · have hd16 : (16 : Int) < p.length := by omega
        obtain rfl := HNO.out fun h => by have := (h.2 p (List.mem_of_getElem? HP.out)).1; omega
        go_wp2_with fail
        go_ret
        exact HEND.out _ hbr
      · have hd16 : ¬ (16 : Int) < p.length := by omega
        have HX0 : Hid (∀ x ∈ p.take 0, inV x = true) := Lib.hid fun x hx => by simp at hx
        go_wp2_with fail
        clear hc1 p0 p1 p2
        go_loopw [7] (fun i wr => ∃ (j : Nat) (bs : List Bool), j ≤ p.length ∧ i = .int .i64 j ∧ Hid (∀ x ∈ p.take j, inV x = true) ∧ Hid (Tells pss k j bs) ∧ wr.ownsRow (B + 2) 4 1 (.slice (some ⟨B + 2, 0, none⟩) 256 256) 256 (bools bs) ∧ Below (B + 2) W1 wr) (fun i _ => p.length - (intOf i).toNat)
        case atStart => exact ⟨0, bs, Nat.zero_le _, rfl, HX0, HT, hO, hbr⟩
        case round =>
          clear hO hbr HX0 hbw hsz HT
          obtain ⟨j, bs, hj, rfl, HX, HT, hO, hbr⟩ := hrel
          have hsz := hbr.size
          have hbl : bs.length = 256 := HT.out.1
          by_cases hlj : j < p.length
          · obtain ⟨yb, yo, y, rfl, hcy, HY⟩ := Row.intAt (HRS.out wr hbr) hlj
            obtain ⟨q, hq⟩ : ∃ q, decide ((0 : Int) ≤ y ∧ y ≤ 15) = q := ⟨_, rfl⟩
            have HQ : Hid (inV y = q) := Lib.hid hq
            have HIN := Lib.hid (l1In_is y 0 15 q hq wr)
            clear hq
            cases q with
            | false =>
              obtain rfl := HNO.out fun h => by
                have := (h.2 p (List.mem_of_getElem? HP.out)).2 y (List.mem_of_getElem? HY.out)
                rw [HQ.out] at this; cases this
              go_wp2_with fail
              refine HIN.out.mono ?_
              rintro e1 w' ⟨rfl, rfl⟩
              go_wp2_with fail
              go_ret
              exact HEND.out _ hbr
            | true =>
              have hy := HQ.out
              unfold inV at hy
              rw [decide_eq_true_eq] at hy
              have HX2 : Hid (∀ x ∈ p.take (j + 1), inV x = true) := Lib.hid fun x hx => by
                rw [take_snoc HY.out, List.mem_append, List.mem_singleton] at hx
                rcases hx with hx | rfl
                · exact HX.out x hx
                · exact HQ.out
              obtain ⟨yn, rfl⟩ := Int.eq_ofNat_of_zero_le hy.1
              have hyn : yn < 16 := by omega
              clear hy
              by_cases hj0 : j = 0
              · subst hj0
                rw [Nat.add_zero] at hcy
                have HN := Lib.hid (Tells.first HT.out)
                go_wp2_with fail
                refine HIN.out.mono ?_
                rintro e1 w' ⟨rfl, rfl⟩
                go_wp2_with fail
                go_roundw
                case rel => exact ⟨1, bs, by omega, by go_num, HX2, HN, hO, hbr⟩
                case measure => simp [intOf]; omega
              · obtain ⟨i, rfl⟩ : ∃ i, j = i + 1 := ⟨j - 1, by omega⟩
                obtain ⟨yb', yo', x, e8, hcx, HXX⟩ := Row.intAt (HRS.out wr hbr) (show i < p.length by omega)
                obtain ⟨rfl, rfl⟩ : yb = yb' ∧ yo = yo' := by simpa using e8
                have hx := HX.out x (List.mem_of_getElem? (i := i) (by rw [List.getElem?_take]; simp; exact HXX.out))
                unfold inV at hx
                rw [decide_eq_true_eq] at hx
                obtain ⟨xn, rfl⟩ := Int.eq_ofNat_of_zero_le hx.1
                have hxn : xn < 16 := by omega
                have hgt : (0 : Int) < ((i + 1 : Nat) : Int) := by omega
                have hi1000 : i < 1000 := by omega
                have hil : i < p.length := Nat.lt_of_succ_lt hlj
                have h0i : (0 : Int) ≤ (i : Int) + 1 := by omega
                have hili : (i : Int) < (p.length : Int) := by omega
                have hlji : (i : Int) + 1 < (p.length : Int) := by omega
                clear e8 hx
                obtain ⟨m, hm⟩ : ∃ m, m = min xn yn := ⟨_, rfl⟩
                obtain ⟨M, hM⟩ : ∃ M, M = max xn yn := ⟨_, rfl⟩
                have HMI := Lib.hid (l1Min_w (xn : Int) (yn : Int) (m : Int) (by rw [hm]; exact min_if xn yn) wr.drew)
                have HMA := Lib.hid (l1Max_w (xn : Int) (yn : Int) (M : Int) (by rw [hM]; exact max_if xn yn) wr.drew)
                have hm16 : m < 16 := by rw [hm]; exact Nat.lt_of_le_of_lt (Nat.min_le_left _ _) hxn
                have hM16 : M < 16 := by rw [hM]; exact Nat.max_lt.2 ⟨hxn, hyn⟩
                have hid256 := (wrap16 hm16 hM16 rfl).2.2
                have HN : Hid (Tells pss k (i + 2) (bs.set (m * 16 + M) true)) := Lib.hid (by exact Tells.step HP.out HXX.out HY.out hxn hyn hm hM HT.out)
                have hcs : wr.cell? ⟨B + 2, m * 16 + M, none⟩ = some (.bool (bs.getD (m * 16 + M) false)) := (hO.cellAt (m * 16 + M) (Nat.lt_of_lt_of_eq hid256 (Nat.mul_one 256).symm)).trans (bools_at (Nat.lt_of_lt_of_eq hid256 hbl.symm))
                have hfo := hO.frozenAt (m * 16 + M)
                have hst := hO.stored (m * 16 + M) (.bool true)
                have HST : Hid ((wr.setCell ⟨B + 2, m * 16 + M, none⟩ (.bool true)).drew.ownsRow (B + 2) 4 1 (.slice (some ⟨B + 2, 0, none⟩) 256 256) 256 (bools (bs.set (m * 16 + M) true)) ∧ Below (B + 2) W1 (wr.setCell ⟨B + 2, m * 16 + M, none⟩ (.bool true)).drew) := Lib.hid ⟨by
                  have h1 := hst.1
                  rw [bools_set]
                  exact h1.drew, (hbr.setCell (by simp) _).drew⟩
                clear hst hm hM hO hbr
                go_wp2_with fail
                refine HIN.out.mono ?_
                rintro e1 w' ⟨rfl, rfl⟩
                go_wp2_with fail
                refine wp_region_take [0, 1, 2, 3, 4, 6, 7, 8, 12, 13, 14, 15, 17, 18, 19] [5, 9, 16, 20] 21 6 #[true, true, true, true, true, true, true, true, true, true, false, false, true, true, true, true, true, true, true, true, true, false, false, false, false] (by kernel_rfl) (by kernel_rfl) (by kernel_rfl) (by kernel_rfl) (fun _ _ d _ _ h => by cases d <;> exact h) ?_
                simp only [pickOps, List.filterMap_cons, List.filterMap_nil, List.getElem?_cons_succ, List.getElem?_cons_zero]
                repeat quiet_step (fail)
                try rw [wrap_nat hi1000]
                repeat quiet_step (fail)
                try rw [wrap_nat hi1000]
                repeat quiet_step (fail)
                try simp only [wpQuiet_nil_eq]
                refine wpAnyG_1 10 (by kernel_rfl) rfl ?_
                unfold wpNext
                go_wp2_with fail
                refine HMI.out.mono ?_
                rintro e1 w' ⟨rfl, rfl⟩
                go_wp2_with fail
                refine ⟨fun _ => over_of_below ((Below.refl _ _ : Below wr.heap.size wr wr).drew), ?_⟩
                refine wpAnyG_mid [11] 4 #[true, true, true, true, true, true, true, true, true, true, true, true, true, true, true, true, true, true, true, true, true, false, false, false, false] rfl (by kernel_rfl) (by kernel_rfl) (by kernel_rfl) (fun _ _ d _ _ h => by cases d <;> exact h) (fun _ => over_of_below ((Below.refl _ _ : Below wr.heap.size wr wr).drew)) ?_
                simp only [pickOps, List.filterMap_cons, List.filterMap_nil, List.getElem?_cons_succ, List.getElem?_cons_zero]
                repeat quiet_step (fail)
                try simp only [wpQuiet_nil_eq]
                refine wpAnyG_1 21 (by kernel_rfl) rfl ?_
                unfold wpNext
                go_wp2_with fail
                refine HMA.out.mono ?_
                rintro e1 w' ⟨rfl, rfl⟩
                go_wp2_with fail
                refine ⟨fun h => by simp at h, ?_⟩
                refine wpAnyG_tail [22, 23, 24] rfl (.inl (by kernel_rfl)) (by kernel_rfl) ?_
                simp only [pickOps, List.filterMap_cons, List.filterMap_nil, List.getElem?_cons_succ, List.getElem?_cons_zero]
                go_wp2_with fail
                go_roundw
                case rel => exact ⟨i + 2, _, by omega, by go_num, HX2, HN, HST.out.1, HST.out.2⟩
                case measure => simp [intOf]; omega
          · obtain rfl : j = p.length := by omega
            have HN := Lib.hid (Tells.next HP.out HT.out)
            have HK2 : Hid (∀ p ∈ pss.take (k + 1), p.length ≤ 16 ∧ ∀ x ∈ p, inV x = true) := Lib.hid fun p' hp => by
              rw [take_snoc HP.out, List.mem_append, List.mem_singleton] at hp
              rcases hp with hp | rfl
              · exact HK.out p' hp
              · exact ⟨by omega, by have := HX.out; rwa [List.take_length] at this⟩
            go_wp2_with fail
            go_roundw
            case rel => exact ⟨k + 1, bs, by omega, by go_num, HK2, HN, hO, hbr⟩
            case measure => simp [intOf]; omega
    · obtain rfl : k = pss.length := by omega
      have HROWS : Hid (rows = edgesL 16 (adjN pss pss.length 0)) := Lib.hid (by
        rcases H.out with ⟨hn, _⟩ | ⟨_, h⟩
        · refine (hn ⟨by omega, fun p hp => ?_⟩).elim
          exact HK.out p (by rw [List.take_length]; exact hp)
        · exact h)
      have hGe : OwnG wr (B + 1) 38 2 (.slice (some ⟨B + 1, 0, none⟩) 0 0) [] ((edgesTo 16 (adjN pss pss.length 0) 0 0).map ints) := by rw [edgesTo_zero]; exact hG1.below (hz1.symm ▸ hbr)
      have hOb := owns_base hO (show B + 1 ≤ B + 2 by omega)
      have hbE : Below (B + 1) W1 wr := hbr.mono (by omega)
      have HTT : Hid (∀ u v, u < v → v < 16 → bs.getD (u * 16 + v) false = adjN pss pss.length 0 u v) := Lib.hid fun u v h1 h2 => by
        rw [HT.out.2 u v h1 h2]
        unfold adjN
        rw [decide_eq_true (by omega), Bool.true_and]
      have hbl : bs.length = 256 := HT.out.1
      obtain ⟨e, he⟩ : ∃ e, adjN pss pss.length 0 = e := ⟨_, rfl⟩
      rw [he] at HROWS hGe HTT
      clear he hO
      go_wp2_with fail
      clear p0 p1 p2 hbr hbw
      go_loopw [3, 8] (fun o i wr => ∃ (k : Nat) (vs : List Value), k ≤ 16 ∧ i = .int .i64 k ∧ OwnG wr (B + 1) 38 2 o vs ((edgesTo 16 e k 0).map ints) ∧ wr.ownsRow (B + 1) 4 1 (.slice (some ⟨B + 2, 0, none⟩) 256 256) 256 (bools bs) ∧ Below (B + 1) W1 wr) (fun _ i _ => 16 - (intOf i).toNat)
      case atStart => exact ⟨0, _, Nat.zero_le _, rfl, hGe, hOb, hbE⟩
      case round =>
        clear hGe hOb hbE hsz
        obtain ⟨k, vs, hk, rfl, hG, hOb, hb⟩ := hrel
        by_cases hlt : k < 16
        · have hlt' : (k : Int) < 16 := by omega
          have hS0 := edgesTo2_start 16 e k
          rw [← hS0] at hG
          clear hS0
          go_wp2_with fail
          go_loopw [3, 9] (fun o i wr => ∃ (j : Nat) (vs : List Value), k < j ∧ j ≤ 16 ∧ i = .int .i64 j ∧ OwnG wr (B + 1) 38 2 o vs ((edgesTo2 16 e k j).map ints) ∧ wr.ownsRow (B + 1) 4 1 (.slice (some ⟨B + 2, 0, none⟩) 256 256) 256 (bools bs) ∧ Below (B + 1) W1 wr) (fun _ i _ => 16 - (intOf i).toNat)
          case atStart => exact ⟨k + 1, vs, by omega, by omega, by go_num, hG, hOb, hb⟩
          case round =>
            clear hG hOb hb
            obtain ⟨j, vs, hkj, hj, rfl, hG, hOb, hb⟩ := hrel
            have hsz := hb.size
            by_cases hlj : j < 16
            · have hid256 := (wrap16 hlt hlj rfl).2.2
              obtain ⟨b, hbb⟩ : ∃ b, e k j = b := ⟨_, rfl⟩
              have hcs : wr.cell? ⟨B + 2, k * 16 + j, none⟩ = some (.bool b) := by
                have h1 := (hOb.cellAt (k * 16 + j) (Nat.lt_of_lt_of_eq hid256 (Nat.mul_one 256).symm)).trans (bools_at (Nat.lt_of_lt_of_eq hid256 hbl.symm))
                have h2 := HTT.out k j hkj hlj
                rw [hbb] at h2
                rw [h2] at h1
                exact h1
              cases b with
              | false =>
                have HP := Lib.hid (edgesTo2_skip (n := 16) hbb)
                go_wp2_with fail
                go_roundw
                case rel => exact ⟨j + 1, _, by omega, by omega, by go_num, by rw [HP.out]; exact hG, hOb, hb⟩
                case measure => simp [intOf]; omega
              | true =>
                have HP := Lib.hid (edgesTo2_put (n := 16) hkj hbb)
                have hlen : vs.length ≤ 272 := by rw [hG.len, List.length_map]; exact edgesTo2_len (by omega) (by omega) (by omega)
                have hout := hG.outer
                have HG := Lib.hid hG
                have hne := owns_unlike hOb hout (by decide) (rfl : (Value.slice (some ⟨B + 2, 0, none⟩) 256 256).ownBlock = some (B + 2))
                have HOB := Lib.hid hOb
                clear hG hbb hOb
                obtain ⟨ua, uc, rfl⟩ := owns_shape hout
                go_wp2_with (at_builtin; refine wpList_push_at _ rfl _ _ 22 rfl (B + 1) 38 _ _ 24 Tryd.underlying22 infoR rfl _ _ _ rfl (hout.alloc _) (wr.heap.size + 1) (by simp) _ rfl rfl (by unfold maxLen; omega) (by omega) (by simp; omega) ?_; intro g2 c2 w2 ho2 hg2)
                have hlit := World.ownsRow_lit (base := wr.heap.size) (e := 2) (size := 1) wr #[.int .i64 (k : Int), .int .i64 (j : Int)] 2 (Nat.le_refl _) (by simp [maxLen]) rfl
                have hGn := HG.out.push (B := wr.heap.size) (cs := ints [(k : Int), (j : Int)]) (below_alloc' wr _) hlit (Nat.le_refl _) (by omega) ho2 hg2
                have hbn : Below (B + 1) W1 w2 := (hb.alloc (by omega) (.cells #[.int .i64 (k : Int), .int .i64 (j : Int)] 2)).grown hg2 (by simp; omega) (fun q hq => (owns_lt hout hq).1)
                have hOn := (HOB.out.alloc (.cells #[.int .i64 (k : Int), .int .i64 (j : Int)] 2)).kept hg2 (.inr fun h => hne h.symm)
                go_roundw
                case rel => exact ⟨j + 1, _, by omega, by omega, by go_num, by rw [HP.out, List.map_append]; exact hGn, hOn, hbn⟩
                case measure => simp [intOf]; omega
            · obtain rfl : j = 16 := by omega
              have HP := Lib.hid (edgesTo2_next 16 e k)
              go_wp2_with fail
              go_roundw
              case rel => exact ⟨k + 1, _, by omega, by go_num, by rw [← HP.out]; exact hG, hOb, hb⟩
              case measure => simp [intOf]; omega
        · obtain rfl : k = 16 := by omega
          rw [edgesTo_all] at hG
          have HG := Lib.hid hG
          have hbb := u01.trans (hb.mono (by omega))
          clear hG
          go_wp2_with fail
          go_ret
          exact ⟨_, vs, rfl, by rw [hB, HROWS.out]; exact HG.out.rebase (by omega), by rw [hB]; exact hbb⟩

theorem edgP_has (pss : List (List Int)) : ∃ rows, 1 + total rows ≤ 1000000000 ∧ rows.length ≤ 1000000000 ∧ EdgP pss rows := by
  by_cases h : OkEd pss
  · refine ⟨_, ?_, ?_, .inr ⟨h, rfl⟩⟩
    · have h1 : (edgesL 16 (adjN pss pss.length 0)).length ≤ 272 := by rw [← edgesTo_all]; exact edgesTo_len (by omega) (by omega)
      have h2 : ∀ l : List (List Int), (∀ x ∈ l, x.length = 2) → total l = 2 * l.length := fun l => by
        induction l with
        | nil => intro _; simp [total]
        | cons x l ih =>
          intro hx
          have h3 := ih fun y hy => hx y (by simp [hy])
          have h4 := hx x (by simp)
          simp only [total, List.map_cons, List.sum_cons, List.length_cons] at h3 ⊢
          omega
      rw [h2 _ fun x hx => by obtain ⟨u, v, _, _, _, _, rfl⟩ := mem_edgesL.1 hx; rfl]
      omega
    · have h1 : (edgesL 16 (adjN pss pss.length 0)).length ≤ 272 := by rw [← edgesTo_all]; exact edgesTo_len (by omega) (by omega)
      omega
  · exact ⟨[], by simp [total], by simp, .inl ⟨h, rfl⟩⟩
end Go.Proofs.YtehejjmmbjekgaaDoor
