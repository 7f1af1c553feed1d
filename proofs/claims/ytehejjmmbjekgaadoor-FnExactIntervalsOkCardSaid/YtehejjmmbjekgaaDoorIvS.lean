/-
  'l14Right', 'l14All', 'l14Meet', 'l14Graph', 'GraphOfIntervals' of the reference.
-/
import Derived.Test.YtehejjmmbjekgaaDoorIvP
import Derived.Test.YtehejjmmbjekgaaDoorOkay
import Derived.Test.YtehejjmmbjekgaaDoorComplement
namespace Go.Proofs.YtehejjmmbjekgaaDoor
open Go.RowKit

set_option maxHeartbeats 1000000 in
theorem right_any (x y : Int) (b : Bool) (h : rightI (x, y) = b) (w : World) :
    Calls Tryd.prog 128 #[.agg #[.int .i64 x, .int .i64 y]] w fun e w' => e = .returned (.bool b) ∧ Below w.heap.size w w' := by
  obtain ⟨b1, hb1⟩ : ∃ b1, decide (0 ≤ x ∧ x ≤ 100) = b1 := ⟨_, rfl⟩
  obtain ⟨b2, hb2⟩ : ∃ b2, decide (x ≤ y ∧ y ≤ 100) = b2 := ⟨_, rfl⟩
  have hbb : b = (b1 && b2) := by
    rw [← h, ← hb1, ← hb2]
    unfold rightI
    rw [Bool.eq_iff_iff]
    simp
    omega
  subst hbb
  have H1 := Lib.hid (l1In_is x 0 100 b1 hb1)
  have H2 := Lib.hid (l1In_is y x 100 b2 hb2)
  obtain ⟨B, hB⟩ : ∃ B, w.heap.size = B := ⟨_, rfl⟩
  obtain ⟨W0, hW0⟩ : ∃ W0, W0 = w.alloc (.cells #[.int .i64 x, .int .i64 y] 104) := ⟨_, rfl⟩
  have u0 : Below B w W0 := by rw [hW0, ← hB]; exact below_alloc' _ _
  have VX : VC 104 B #[.int .i64 x, .int .i64 y] W0 := by rw [hW0]; exact VC.new hB
  have c0 : W0.cell? ⟨B, 0, none⟩ = some (.int .i64 x) := by unfold VC at VX; simp [World.cell?, VX]
  have c1 : W0.cell? ⟨B, 1, none⟩ = some (.int .i64 y) := by unfold VC at VX; simp [World.cell?, VX]
  clear h hb1 hb2 VX
  go_enter Tryd.func128, Tryd.ntmps128
  go_wp2_with fail
  rw [← hW0]
  clear hW0
  refine (H1.out W0).mono ?_
  rintro e w' ⟨rfl, rfl⟩
  cases b1 with
  | false =>
    go_wp2_with fail
    go_ret
    exact ⟨rfl, by rw [hB]; exact u0⟩
  | true =>
    go_wp2_with fail
    refine (H2.out W0).mono ?_
    rintro e w' ⟨rfl, rfl⟩
    go_wp2_with fail
    go_ret
    exact ⟨rfl, by rw [hB]; exact u0⟩

set_option maxHeartbeats 1000000 in
theorem meet_any (p q : Int × Int) (b : Bool) (h : meetP p q = b) (w : World) :
    Calls Tryd.prog 129 #[.agg #[.int .i64 p.1, .int .i64 p.2], .agg #[.int .i64 q.1, .int .i64 q.2]] w fun e w' => e = .returned (.bool b) ∧ Below w.heap.size w w' := by
  obtain ⟨x, y⟩ := p
  obtain ⟨u, v⟩ := q
  unfold meetP at h
  simp only at h ⊢
  obtain ⟨B, hB⟩ : ∃ B, w.heap.size = B := ⟨_, rfl⟩
  have hb : Below B w ((w.alloc (.cells #[.int .i64 x, .int .i64 y] 104)).alloc (.cells #[.int .i64 u, .int .i64 v] 104)) := ((Below.refl _ _ : Below B w w).alloc (by omega) _).alloc (by simp; omega) _
  by_cases h1 : x ≤ v
  · by_cases h2 : u ≤ y
    · have HB : Hid (b = true) := Lib.hid (by rw [← h]; simp [h1, h2])
      clear h
      go_enter Tryd.func129, Tryd.ntmps129
      go_wp2_with fail
      go_ret
      exact ⟨ret_bool HB.out.symm, by first | exact hb | (rw [hB]; exact hb)⟩
    · have HB : Hid (b = false) := Lib.hid (by rw [← h]; simp [h2])
      clear h
      go_enter Tryd.func129, Tryd.ntmps129
      go_wp2_with fail
      go_ret
      exact ⟨ret_bool HB.out.symm, by first | exact hb | (rw [hB]; exact hb)⟩
  · have HB : Hid (b = false) := Lib.hid (by rw [← h]; simp [h1])
    clear h
    go_enter Tryd.func129, Tryd.ntmps129
    go_wp2_with fail
    go_ret
    exact ⟨ret_bool HB.out.symm, by first | exact hb | (rw [hB]; exact hb)⟩

set_option maxHeartbeats 2000000 in
theorem all14_any (v : Value) (L : List (Int × Int)) (b : Bool) (hbL : okI L = b) (w : World) (hr : RdV v L w) :
    Calls Tryd.prog 74 #[v] w fun e w' => e = .returned (.bool b) ∧ Below w.heap.size w w' := by
  obtain ⟨a, c, rfl, -, -, -⟩ := id hr
  have hl := hr.len
  unfold maxLen at hl
  obtain ⟨B, hB⟩ : ∃ B, w.heap.size = B := ⟨_, rfl⟩
  have hbr : Below B w w := Below.refl _ _
  obtain ⟨b1, hb1⟩ : ∃ b1, decide ((1 : Int) ≤ L.length ∧ (L.length : Int) ≤ 16) = b1 := ⟨_, rfl⟩
  have hbb : b = (b1 && L.all rightI) := by
    rw [← hbL, ← hb1]
    unfold okI
    congr 1
    rw [Bool.eq_iff_iff]; simp; omega
  have HB := Lib.hid hbb
  have H1 := Lib.hid (l1In_is (L.length : Int) 1 16 b1 hb1)
  clear hbL hb1 hbb
  cases b1 with
  | false =>
    have HF : Hid (b = false) := Lib.hid (by rw [HB.out]; rfl)
    go_enter Tryd.func74, Tryd.ntmps74
    go_wp2_with fail
    refine (H1.out _).mono ?_
    rintro e w' ⟨rfl, rfl⟩
    go_wp2_with fail
    go_ret
    exact ⟨ret_bool HF.out.symm, Below.refl _ _⟩
  | true =>
    have HF : Hid (b = L.all rightI) := Lib.hid (by rw [HB.out]; rfl)
    go_enter Tryd.func74, Tryd.ntmps74
    go_wp2_with fail
    refine (H1.out _).mono ?_
    rintro e w' ⟨rfl, rfl⟩
    go_wp2_with fail
    go_loopw [3] (fun i wr => ∃ k : Nat, k ≤ L.length ∧ i = .int .i64 k ∧ Hid ((L.take k).all rightI = true) ∧ Below B w wr) (fun i _ => L.length - (intOf i).toNat)
    case atStart => exact ⟨0, Nat.zero_le _, rfl, Lib.hid (by simp), hbr⟩
    case round =>
      clear hbr
      obtain ⟨k, hk, rfl, HK, hb⟩ := hrel
      have hsz := hb.size
      by_cases hlt : k < L.length
      · obtain ⟨p, hp⟩ : ∃ p, L[k]? = some p := ⟨_, List.getElem?_eq_getElem hlt⟩
        obtain ⟨pb, po, rfl, hc0, hc1⟩ := RdV.at (RdV.below hr hb hB) hp
        obtain ⟨q, hq⟩ : ∃ q, rightI p = q := ⟨_, rfl⟩
        have HR := Lib.hid (right_any p.1 p.2 q hq wr)
        have HS : Hid ((L.take (k + 1)).all rightI = q) := Lib.hid (by rw [take_snoc hp, List.all_append, HK.out]; simp [hq])
        have HP := Lib.hid hp
        have HQ := Lib.hid hq
        clear hq hp
        go_wp2_with fail
        refine HR.out.mono ?_
        rintro e1 w1 ⟨rfl, hb1⟩
        have hb2 := hb.trans (hb1.mono (by omega))
        clear hb1 hb HR
        cases q with
        | true =>
          go_wp2_with fail
          go_roundw
          case rel => exact ⟨k + 1, by omega, by go_num, HS, hb2⟩
          case measure => simp [intOf]; omega
        | false =>
          have HF2 : Hid (b = false) := Lib.hid (by
            rw [HF.out, List.all_eq_false]
            exact ⟨p, List.mem_of_getElem? HP.out, by rw [HQ.out]; simp⟩)
          go_wp2_with fail
          go_ret
          exact ⟨ret_bool HF2.out.symm, by rw [hB]; exact hb2⟩
      · obtain rfl : k = L.length := by omega
        have HF2 : Hid (b = true) := Lib.hid (by have := HK.out; rw [List.take_length] at this; rw [HF.out, this])
        go_wp2_with fail
        go_ret
        exact ⟨ret_bool HF2.out.symm, by rw [hB]; exact hb⟩

/-! ### The graph -/
def rowTo (L : List (Int × Int)) (v j : Nat) : List Int := rowB j (adjI L v)
theorem rowB_succ2 (n : Nat) (p : Nat → Bool) : rowB (n + 1) p = rowB n p ++ if p n = true then [(n : Int)] else [] := by
  unfold rowB
  rw [List.range_succ, List.filter_append, List.map_append]
  by_cases h : p n = true <;> simp [h]
theorem rowTo_yes {L : List (Int × Int)} {v j : Nat} (h : adjI L v j = true) : rowTo L v (j + 1) = rowTo L v j ++ [(j : Int)] := by unfold rowTo; rw [rowB_succ2, h]; simp
theorem rowTo_no {L : List (Int × Int)} {v j : Nat} (h : adjI L v j = false) : rowTo L v (j + 1) = rowTo L v j := by unfold rowTo; rw [rowB_succ2, h]; simp
theorem adjI_at {L : List (Int × Int)} {v j : Nat} {p q : Int × Int} (hv : L[v]? = some p) (hj : L[j]? = some q) : adjI L v j = (decide (v ≠ j) && meetP q p) := by
  unfold adjI meetI
  rw [getD_at hv, getD_at hj, meetP_comm]
def preRows (n : Nat) (f : Nat → Nat → Bool) (k : Nat) : List (List Int) := (List.range k).map fun u => rowB n (f u)
theorem preRows_succ (n : Nat) (f : Nat → Nat → Bool) (k : Nat) : preRows n f (k + 1) = preRows n f k ++ [rowB n (f k)] := by
  unfold preRows
  rw [List.range_succ, List.map_append]; rfl
@[simp] theorem preRows_length (n : Nat) (f : Nat → Nat → Bool) (k : Nat) : (preRows n f k).length = k := by simp [preRows]

attribute [local irreducible] wpQuiet
set_option maxHeartbeats 2000000 in
theorem graph14_any (v : Value) (L : List (Int × Int)) (hn : L.length ≤ 16) (w : World) (hr : RdV v L w) :
    Calls Tryd.prog 75 #[v] w (G1Res w (rowsB L.length (adjI L))) := by
  obtain ⟨a, c, rfl, -, -, -⟩ := id hr
  obtain ⟨B, hB⟩ : ∃ B, w.heap.size = B := ⟨_, rfl⟩
  obtain ⟨W0, hW0⟩ : ∃ W0, W0 = w.alloc (.cells #[.slice none 0 0] 24) := ⟨_, rfl⟩
  obtain ⟨W1, hW1⟩ : ∃ W1, W1 = W0.alloc (.cells #[.slice none 0 0] 24) := ⟨_, rfl⟩
  have hz0 : W0.heap.size = B + 1 := by simp [hW0, hB]
  have hz1 : W1.heap.size = B + 2 := by simp [hW1, hz0]
  have u0 : Below B w W0 := by rw [hW0, ← hB]; exact below_alloc' _ _
  have u1 : Below (B + 1) W0 W1 := by rw [hW1, ← hz0]; exact below_alloc' _ _
  have VR0 : VC 24 B #[.slice none 0 0] W0 := by rw [hW0]; exact VC.new hB
  have VR := VR0.belowAt u1 (by omega)
  have VO : VC 24 (B + 1) #[.slice none 0 0] W1 := by rw [hW1]; exact VC.new hz0
  have u01 := u0.trans (u1.mono (by omega))
  have hG0 : OwnG W1 (B + 2) 38 2 (.slice none 0 0) [] ((preRows L.length (adjI L) 0).map ints) := OwnG.nil _ _ (by decide) (World.ownsRow_nil _ _ _ 1)
  clear u0 u1 VR0
  go_enter Tryd.func75, Tryd.ntmps75
  go_wp2_with fail
  rw [← hW0, ← hW1]
  clear hW0 hW1
  go_loopw [4] (fun i wr => ∃ (k : Nat) (u : Value) (us : List Value), k ≤ L.length ∧ i = .int .i64 k ∧ VC 24 B #[.slice none 0 0] wr ∧ VC 24 (B + 1) #[u] wr ∧ OwnG wr (B + 2) 38 2 u us ((preRows L.length (adjI L) k).map ints) ∧ Below B w wr) (fun i _ => L.length - (intOf i).toNat)
  case atStart => exact ⟨0, _, _, Nat.zero_le _, rfl, VR, VO, hG0, u01⟩
  case round =>
    clear VR VO hG0 u01
    obtain ⟨k, u, us, hk, rfl, VR, VO, hG, hb⟩ := hrel
    generalize hw9 : wr = w9 at *
    clear hw9
    have hOlt := VO.lt
    by_cases hlt : k < L.length
    · obtain ⟨p, hp⟩ : ∃ p, L[k]? = some p := ⟨_, List.getElem?_eq_getElem hlt⟩
      have HP := Lib.hid hp
      obtain ⟨D, hD⟩ : ∃ D, w9.heap.size = D := ⟨_, rfl⟩
      obtain ⟨w1, hw1⟩ : ∃ w1, w1 = w9.alloc (.cells #[] 2) := ⟨_, rfl⟩
      have ho1 : w1.ownsRow D 2 1 (.slice (some ⟨D, 0, none⟩) 0 0) (rowTo L k 0).length (ints (rowTo L k 0)) := by
        rw [hw1, ← hD]; exact World.ownsRow_lit w9 #[] 0 (Nat.le_refl _) (by simp [maxLen]) rfl
      have hb1 : Below D w9 w1 := by rw [hw1, ← hD]; exact below_alloc' _ _
      have HG := Lib.hid hG
      have HVO := Lib.hid VO
      have HVR := Lib.hid VR
      have HD := Lib.hid hD
      clear hp hG VO VR
      go_wp2_with fail
      try rw [← hw1]
      clear hw1
      try rw [hD]
      clear hD
      go_wp2_with fail
      go_loopw [5, 6] (fun rv i wr => ∃ j : Nat, j ≤ L.length ∧ i = .int .i64 j ∧ wr.ownsRow D 2 1 rv (rowTo L k j).length (ints (rowTo L k j)) ∧ Below D w9 wr) (fun _ i _ => L.length - (intOf i).toNat)
      case atStart => exact ⟨0, Nat.zero_le _, rfl, ho1, hb1⟩
      case round =>
        clear ho1 hb1
        obtain ⟨j, hj, rfl, ho, hbq⟩ := hrel
        have hDq : D ≤ wr.heap.size := HD.out ▸ hbq.size
        have hrl : (rowTo L k j).length ≤ 16 := by have := rowB_length j (adjI L k); unfold rowTo; omega
        by_cases hlj : j < L.length
        · obtain ⟨q, hq⟩ : ∃ q, L[j]? = some q := ⟨_, List.getElem?_eq_getElem hlj⟩
          have hrq := RdV.below hr (hb.trans (hbq.mono (by have := hb.size; have := HD.out; omega))) hB
          obtain ⟨pb, po, rfl, hc0, hc1⟩ := RdV.at hrq HP.out
          obtain ⟨pb', po', e8, hd0, hd1⟩ := RdV.at hrq hq
          obtain ⟨rfl, rfl⟩ : pb = pb' ∧ po = po' := by simpa using e8
          clear e8 hrq
          by_cases hjk : j = k
          · have hdk : ((j : Int) != (k : Int)) = false := by simp [hjk]
            have HN : Hid (rowTo L k (j + 1) = rowTo L k j) := Lib.hid (rowTo_no (by simp [adjI, hjk]))
            clear hq hjk
            go_wp2_with fail
            refine wp_region_ord [0, 1, 2, 3, 4, 5, 6, 8, 9, 10] [7, 11] [] [12, 13] (by kernel_rfl) (by kernel_rfl) (fun _ _ d _ _ h => by cases d <;> exact h) ?_
            simp only [pickOps, List.filterMap_cons, List.filterMap_nil, List.getElem?_cons_succ, List.getElem?_cons_zero]
            repeat quiet_step (fail)
            simp only [wpQuiet_nil_eq]
            repeat quiet_step (fail)
            simp only [wpQuiet_nil_eq, wpSegs_nil_eq]
            go_wp2_with fail
            go_roundw
            case rel => exact ⟨j + 1, by omega, by go_num, by rw [HN.out]; exact ho, hbq.drew⟩
            case measure => simp [intOf]; omega
          · have hdk : ((j : Int) != (k : Int)) = true := by rw [bne_iff_ne]; omega
            obtain ⟨b, hbm⟩ : ∃ b, meetP q p = b := ⟨_, rfl⟩
            have HA : Hid (adjI L k j = b) := Lib.hid (by rw [adjI_at HP.out hq, hbm, decide_eq_true (by omega), Bool.true_and])
            have HM := Lib.hid (meet_any q p b hbm wr.drew)
            clear hbm hq
            go_wp2_with fail
            refine wp_region_ord [0, 1, 2, 3, 4, 5, 6, 8, 9, 10] [7, 11] [] [12, 13] (by kernel_rfl) (by kernel_rfl) (fun _ _ d _ _ h => by cases d <;> exact h) ?_
            simp only [pickOps, List.filterMap_cons, List.filterMap_nil, List.getElem?_cons_succ, List.getElem?_cons_zero]
            repeat quiet_step (fail)
            simp only [wpQuiet_nil_eq]
            repeat quiet_step (fail)
            simp only [wpQuiet_nil_eq, wpSegs_nil_eq]
            go_wp2_with fail
            refine HM.out.mono ?_
            rintro e1 w2 ⟨rfl, hb2⟩
            have ho2 := owns_below (ho.drew) hb2
            have hbq2 : Below D w9 w2 := hbq.drew.trans (hb2.mono (by show D ≤ wr.heap.size; omega))
            have hD2 : D ≤ w2.heap.size := HD.out ▸ hbq2.size
            clear hb2 ho hbq hc0 hc1 hd0 hd1 HM
            cases b with
            | false =>
              have HN := Lib.hid (rowTo_no HA.out)
              go_wp2_with fail
              go_roundw
              case rel => exact ⟨j + 1, by omega, by go_num, by rw [HN.out]; exact ho2, hbq2⟩
              case measure => simp [intOf]; omega
            | true =>
              have HN := Lib.hid (rowTo_yes HA.out)
              go_wp2_with (at_builtin; refine wpList_push _ rfl _ _ 38 rfl D 2 _ _ 8 Tryd.underlying38 infoI rfl _ _ _ rfl ho2 _ rfl rfl (by unfold maxLen; omega) (by omega) (by omega) ?_; intro g' c' w3 ho3 hg3)
              have hbq3 : Below D w9 w3 := hbq2.grown hg3 (by omega) fun b hb' => (owns_lt ho2 hb').1
              have HO : Hid (w3.ownsRow D 2 1 (.slice (some ⟨g', 0, none⟩) ((rowTo L k j).length + 1) c') (rowTo L k (j + 1)).length (ints (rowTo L k (j + 1)))) := Lib.hid (by rw [HN.out]; simpa [ints] using ho3)
              clear ho3 hg3 ho2 hbq2
              go_roundw
              case rel => exact ⟨j + 1, by omega, by go_num, HO.out, hbq3⟩
              case measure => simp [intOf]; omega
        · obtain rfl : j = L.length := by omega
          have hPS := Lib.hid (preRows_succ L.length (adjI L) k)
          have hG2 := HG.out.below (HD.out.symm ▸ hbq)
          have VO2 := HVO.out.belowAt hbq (by have := HVO.out.lt; have := HD.out; omega)
          have VR2 := HVR.out.belowAt hbq (by have := HVR.out.lt; have := HD.out; omega)
          have hB2 : B + 2 ≤ D := by have := HVO.out.lt; have := HD.out; omega
          have hbw := hb.trans (hbq.mono (by omega))
          have hul : us.length ≤ 16 := by rw [HG.out.len]; simp; omega
          obtain ⟨ra, rc, rfl⟩ := owns_shape ho
          obtain ⟨oa, oc, rfl⟩ := owns_shape hG2.outer
          have hcO := VO2.cell
          have hfO := VO2.free
          have hout := hG2.outer
          have hoD : (Value.slice oa us.length oc).ownBlock ≠ some (B + 1) := fun e => by have := (owns_lt hout e).1; omega
          have hoB : (Value.slice oa us.length oc).ownBlock ≠ some B := fun e => by have := (owns_lt hout e).1; omega
          have HGH := Lib.hid hG2
          have HVO2 := Lib.hid VO2
          have HVR2 := Lib.hid VR2
          have HOW := Lib.hid ho
          have HOUT := Lib.hid hout
          have HD3 := Lib.hid hoD
          have HB3 := Lib.hid hoB
          clear hG2 VO2 VR2 ho hout hoD hoB
          go_wp2_with (at_builtin; refine wpList_push wr rfl _ _ 22 rfl (B + 2) 38 _ _ 24 Tryd.underlying22 infoR rfl (.slice oa us.length oc) us.length us rfl HOUT.out (.slice ra (rowTo L k L.length).length rc) rfl rfl (by unfold maxLen; omega) (by omega) (by omega) ?_; intro g' c' w3 ho3 hg3; have VO3 := HVO2.out.grown hg3 HD3.out; have hcO3 := VO3.cell; have hfO3 := VO3.free)
          have VR3 := HVR2.out.grown hg3 HB3.out
          have hbl : Below wr.heap.size wr wr := Below.refl _ _
          have hG3 := HG.out.push (u := .slice ra (rowTo L k L.length).length rc) (cs := ints (rowTo L k L.length)) (HD.out.symm ▸ hbq) (by simpa using HOW.out) (B := D) (by have := HD.out; omega) (by have := HD.out; omega) ho3 hg3
          have HGF := Lib.hid ((hG3.other (p := ⟨B + 1, 0, none⟩) (by simp) (.slice (some ⟨g', 0, none⟩) (us.length + 1) c')))
          have HVOF := Lib.hid (VO3.set (.slice (some ⟨g', 0, none⟩) (us.length + 1) c'))
          have HVRF := Lib.hid (VR3.other (p := ⟨B + 1, 0, none⟩) (by simp) (.slice (some ⟨g', 0, none⟩) (us.length + 1) c'))
          have HBF := Lib.hid ((hbw.grown hg3 (by omega) (fun y hy => by have := (owns_lt HOUT.out hy).1; omega)).setCell (p := ⟨B + 1, 0, none⟩) (by simp) (.slice (some ⟨g', 0, none⟩) (us.length + 1) c'))
          clear hG3 VO3 VR3 hg3 ho3 hbl hbw
          go_roundw
          case rel => exact ⟨k + 1, _, _, by omega, by go_num, HVRF.out, HVOF.out, by rw [hPS.out, List.map_append]; exact HGF.out, HBF.out⟩
          case measure => simp [intOf]; omega
    · obtain rfl : k = L.length := by omega
      obtain ⟨oa, oc, rfl⟩ := owns_shape hG.outer
      have hcR := VR.cell
      have hfR := VR.free
      have hcO := VO.cell
      have hce := (VR.set (.slice oa us.length oc)).cell
      have HG : Hid (OwnG (w9.setCell ⟨B, 0, none⟩ (.slice oa us.length oc)) (B + 2) 38 2 (.slice oa us.length oc) us ((rowsB L.length (adjI L)).map ints)) := Lib.hid (hG.other (by simp) _)
      have HB := Lib.hid (hb.setCell (p := ⟨B, 0, none⟩) (by simp) (.slice oa us.length oc))
      clear hG
      go_wp2_with fail
      refine bodyPost_ret (v := .agg #[.slice oa us.length oc]) (by simp [results, Tryd.results75, go_sem, hce]) rfl ?_
      exact ⟨_, us, rfl, by rw [hB]; exact HG.out.rebase (by omega), by rw [hB]; exact HB.out⟩
end Go.Proofs.YtehejjmmbjekgaaDoor
