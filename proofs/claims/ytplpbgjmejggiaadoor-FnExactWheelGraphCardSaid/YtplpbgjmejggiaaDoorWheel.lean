/-
  'WheelGraph' of the reference and of the program.
-/
import Derived.Test.YtplpbgjmejggiaaDoorVertex
namespace Go.Proofs.YtplpbgjmejggiaaDoor
open Go.RowKit

/-- The edges of a path, of a loop. -/
def pathE (k : Nat) : Nat → Nat → Bool := (List.range k).foldl (fun f v => plus f v (v + 1)) (fun _ _ => false)
def loopE (n : Nat) : Nat → Nat → Bool := plus (pathE (n - 1)) 0 (n - 1)
theorem pathE_succ (k : Nat) : pathE (k + 1) = plus (pathE k) k (k + 1) := by simp [pathE, List.range_succ]
theorem pathM_NB (n k : Nat) (h : k < n) : pathM n k = NB n (pathE k) := by
  induction k with
  | zero => simp [pathM, pathE, NB_zeros]
  | succ k ih => rw [pathM_succ, ih (by omega), joinS_NB _ (by omega) (by omega), pathE_succ]
theorem loopM_NB (n : Nat) (h : 1 ≤ n) : loopM n = NB n (loopE n) := by
  unfold loopM loopE
  rw [pathM_NB n (n - 1) (by omega), joinS_NB _ (by omega) (by omega)]
theorem plus_sym {f : Nat → Nat → Bool} (h : ∀ a b, f a b = f b a) (u v a b : Nat) : plus f u v a b = plus f u v b a := by
  unfold plus
  rw [h a b, Bool.or_assoc, Bool.or_assoc]
  congr 1
  rw [Bool.or_comm, Bool.and_comm, Bool.and_comm (decide (a = u))]
theorem plus_irr {f : Nat → Nat → Bool} (h : ∀ a, f a a = false) {u v : Nat} (huv : u ≠ v) (a : Nat) : plus f u v a a = false := by
  unfold plus
  rw [h a]
  by_cases h1 : a = u
  · have : ¬ a = v := by omega
    simp [this]
  · simp [h1]
theorem pathE_sym (k : Nat) : ∀ a b, pathE k a b = pathE k b a := by
  induction k with
  | zero => intro a b; rfl
  | succ k ih => rw [pathE_succ]; exact plus_sym ih _ _
theorem pathE_irr (k : Nat) : ∀ a, pathE k a a = false := by
  induction k with
  | zero => intro a; rfl
  | succ k ih => rw [pathE_succ]; exact plus_irr ih (by omega)
theorem loop_adj {n : Nat} (h1 : 3 ≤ n) (h2 : n ≤ 16) : Adj n (loopE n) :=
  ⟨by omega, h2, fun u _ => plus_irr (pathE_irr _) (by omega) u, fun u v _ _ => plus_sym (pathE_sym _) _ _ u v⟩

/-- The numbers below n. -/
def allL (n : Nat) : List Int := (List.range n).map fun (i : Nat) => (i : Int)
@[simp] theorem allL_length (n : Nat) : (allL n).length = n := by simp [allL]
theorem allL_at {n k : Nat} (h : k < n) : (allL n)[k]? = some (k : Int) := by simp [allL, h]
theorem setP_all (n : Nat) : SetP n (allL n) := by
  have := setP_rowB n (fun _ => true)
  rwa [rowB_all] at this

set_option maxHeartbeats 2000000 in
theorem specWheel_yes (n : Nat) (h1 : 3 ≤ n) (h2 : n ≤ 16) (w : World) (rows : List (List Int)) (ok : Bool)
    (h : (n = 16 ∧ rows = [] ∧ ok = false) ∨ (n ≠ 16 ∧ rows = rowsB (n + 1) (hung n (loopE n) (allL n)) ∧ ok = true)) :
    Calls Tryd.prog 44 #[.int .i64 n] w (GRes w rows ok) := by
  obtain ⟨B, hB⟩ : ∃ B, w.heap.size = B := ⟨_, rfl⟩
  have u1 : Below B w (w.alloc (.cells #[.slice none 0 0] 35)) := by subst hB; exact below_alloc' _ _
  have VR : VC 35 B #[.slice none 0 0] (w.alloc (.cells #[.slice none 0 0] 35)) := VC.new hB
  have hz1 : (w.alloc (.cells #[.slice none 0 0] 35)).heap.size = B + 1 := by simp [hB]
  have H := Lib.hid h
  clear h
  go_enter Tryd.func44, Tryd.ntmps44
  go_wp2_with fail
  generalize w.alloc (.cells #[.slice none 0 0] 35) = W at *
  refine (specLoop_yes n h1 h2 W).mono ?_
  rintro e w1 ⟨u, vs, rfl, hG, hb1⟩
  rw [loopM_NB n (by omega), rowsOf_NB (by omega)] at hG
  have hvl : vs.length = n := by rw [hG.len]; simp
  obtain ⟨a, c, rfl⟩ := owns_shape hG.outer
  rw [hvl] at hG ⊢
  obtain ⟨S1, hS1⟩ : ∃ S, w1.heap.size = S := ⟨_, rfl⟩
  have hz2 : B + 1 ≤ S1 := by have := hb1.size; omega
  have VG : VC 35 S1 #[.slice a n c] (w1.alloc (.cells #[.slice a n c] 35)) := VC.new hS1
  have hb : Below B w (w1.alloc (.cells #[.slice a n c] 35)) := (u1.trans (hb1.mono (by omega))).alloc (by omega) _
  replace VR := (VR.upd (Upd.of_below hb1) (by omega)).upd (Upd.alloc w1 (.cells #[.slice a n c] 35)) (by omega)
  have hR : RdSS (.slice a n c) (rowsB n (loopE n)) (w1.alloc (.cells #[.slice a n c] 35)) := RdSS.below ⟨vs, hG.rd⟩ (below_alloc' w1 _) rfl
  have hzW : (w1.alloc (.cells #[.slice a n c] 35)).heap.size = S1 + 1 := by simp [hS1]
  have HVL := Lib.hid hvl
  clear hG hb1 u1 hvl
  have hcg := VG.cell
  generalize hW2 : w1.alloc (.cells #[.slice a n c] 35) = W2 at *
  have HW2 := Lib.hid hW2
  clear hW2
  go_wp2_with fail
  rw [HW2.out]
  refine wp_region_take [1] [0] 3 6 #[true, true, false, false, false, false, false, false] (by kernel_rfl) (by kernel_rfl) (by kernel_rfl) (by kernel_rfl) (fun _ _ d _ _ h => by cases d <;> exact h) ?_
  simp only [pickOps, List.filterMap_cons, List.filterMap_nil, List.getElem?_cons_succ, List.getElem?_cons_zero]
  repeat quiet_step (fail)
  simp only [wpQuiet_nil_eq]
  refine wpAnyG_1 2 (by kernel_rfl) rfl ?_
  unfold wpNext
  go_wp2_with fail
  refine (all_any n (by omega) W2.drew).mono ?_
  rintro e1 w3 ⟨ul, rfl, hL, hb3⟩
  have hLl : ((List.range n).map fun (i : Nat) => (i : Int)).length = n := by simp
  obtain ⟨la, lc, rfl⟩ := owns_shape hL
  have HB3 := Lib.hid (below_drew hb3)
  have hRL : RdS (.slice la ((List.range n).map fun (i : Nat) => (i : Int)).length lc) (allL n) w3 := Row.of_owns hL
  rw [hLl] at hRL hL ⊢
  have HLl := Lib.hid hLl
  clear hb3 hL hLl
  go_wp2_with fail
  refine ⟨fun _ => over_of_below HB3.out, ?_⟩
  refine wpAnyG_1 3 (by kernel_rfl) rfl ?_
  unfold wpNext
  have hAV : Calls Tryd.prog 54 #[.agg #[.slice a n c], .slice la n lc] w3 (GRes w3 rows ok) := by
    have hok := okB_adj (loop_adj h1 h2)
    refine specAddedVertex _ (rowsB n (loopE n)) _ (allL n) w3 (hR.below HB3.out rfl) hRL rows ok ?_
    rcases H.out with ⟨h3, h4, h5⟩ | ⟨h3, h4, h5⟩
    · exact .inl ⟨fun h => h.2.2 (by simpa using h3), h4, h5⟩
    · refine .inr ⟨loopE n, by simpa using loop_adj h1 h2, by simp, ⟨hok, by simpa using setP_all n, by simpa using h3⟩, by simpa using h4, h5⟩
  have HAV := Lib.hid hAV
  clear hAV hcg hRL
  go_wp2_with fail
  refine HAV.out.mono ?_
  rintro e1 w4 ⟨u4, us, rfl, hG4, hb4⟩
  obtain ⟨ua, uc, rfl⟩ := owns_shape hG4.outer
  have hb14 := HB3.out.trans (hb4.mono HB3.out.size)
  have HF := Lib.hid (GRes.put (b := B) hB hb (by omega) (by have := VR.lt; omega) (hG4.rebase HB3.out.size) hb14 ok)
  replace VR := VR.upd (Upd.of_below hb14) (by omega)
  have HCE := Lib.hid (VR.set (.slice ua us.length uc)).cell
  clear hG4 hb4 hb14 HAV VG hR
  have hcr := VR.cell
  have hfr := VR.free
  go_wp2_with fail
  refine ⟨fun h => by simp at h, ?_⟩
  refine wpAnyG_mid [4, 5] 2 #[true, true, true, true, true, true, false, false] rfl (by kernel_rfl) (by kernel_rfl) (by kernel_rfl) (fun _ _ d _ _ h => by cases d <;> exact h) (fun h => by simp at h) ?_
  simp only [pickOps, List.filterMap_cons, List.filterMap_nil, List.getElem?_cons_succ, List.getElem?_cons_zero]
  repeat quiet_step (fail)
  simp only [wpQuiet_nil_eq]
  refine wpAnyG_tail [6, 7] rfl (.inl (by kernel_rfl)) (by kernel_rfl) ?_
  simp only [pickOps, List.filterMap_cons, List.filterMap_nil, List.getElem?_cons_succ, List.getElem?_cons_zero]
  go_wp2_with fail
  refine bodyPost_ret (v := .tuple #[.agg #[.slice ua us.length uc], .bool ok]) (by simp [results, Tryd.results44, go_sem, HCE.out]) rfl ?_
  exact HF.out

set_option maxHeartbeats 1000000 in
theorem specWheel_no (n : Int) (h : ¬ (3 ≤ n ∧ n ≤ 16)) (w : World) :
    Calls Tryd.prog 44 #[.int .i64 n] w (GRes w [] false) := by
  obtain ⟨B, hB⟩ : ∃ B, w.heap.size = B := ⟨_, rfl⟩
  have u1 : Below B w (w.alloc (.cells #[.slice none 0 0] 35)) := by subst hB; exact below_alloc' _ _
  have VR : VC 35 B #[.slice none 0 0] (w.alloc (.cells #[.slice none 0 0] 35)) := VC.new hB
  have hz1 : (w.alloc (.cells #[.slice none 0 0] 35)).heap.size = B + 1 := by simp [hB]
  have H := Lib.hid h
  clear h
  go_enter Tryd.func44, Tryd.ntmps44
  go_wp2_with fail
  generalize w.alloc (.cells #[.slice none 0 0] 35) = W at *
  refine (specLoop_no n H.out W).mono ?_
  rintro e w1 ⟨u, vs, rfl, hG, hb1⟩
  obtain ⟨a, c, rfl⟩ := owns_shape hG.outer
  replace VR := (VR.upd (Upd.of_below hb1) (by omega)).upd (Upd.alloc w1 (.cells #[.slice a vs.length c] 35)) (by omega)
  have hb : Below B w (w1.alloc (.cells #[.slice a vs.length c] 35)) := (u1.trans (hb1.mono (by omega))).alloc (by have := hb1.size; omega) _
  have hcr := VR.cell
  have hfr := VR.free
  have HCE := Lib.hid (VR.set (.slice none 0 0)).cell
  have HB := Lib.hid (hb.setCell (p := ⟨B, 0, none⟩) (by simp) (.slice none 0 0))
  clear hG hb1 hb u1
  go_wp2_with fail
  refine bodyPost_ret (v := .tuple #[.agg #[.slice none 0 0], .bool false]) (by simp [results, Tryd.results44, go_sem, HCE.out]) rfl ?_
  exact GRes.nothing _ _ (by rw [hB]; exact HB.out)

set_option maxHeartbeats 2000000 in
theorem implWheel_yes (n : Nat) (h1 : 3 ≤ n) (h2 : n ≤ 16) (w : World) (ht : Tab w) (rows : List (List Int)) (ok : Bool)
    (h : (n = 16 ∧ rows = [] ∧ ok = false) ∨ (n ≠ 16 ∧ rows = rowsB (n + 1) (hung n (loopE n) (allL n)) ∧ ok = true)) :
    Calls Tryd.prog 45 #[.int .i64 n] w (GRes w rows ok) := by
  obtain ⟨B, hB⟩ : ∃ B, w.heap.size = B := ⟨_, rfl⟩
  have hTB : 0 < B := by rw [← hB]; exact ht.lt
  have u1 : Below B w (w.alloc (.cells #[.slice none 0 0] 35)) := by subst hB; exact below_alloc' _ _
  have VR : VC 35 B #[.slice none 0 0] (w.alloc (.cells #[.slice none 0 0] 35)) := VC.new hB
  have hz1 : (w.alloc (.cells #[.slice none 0 0] 35)).heap.size = B + 1 := by simp [hB]
  have ht1 := ht.keep u1 hTB
  have H := Lib.hid h
  clear h
  go_enter Tryd.func45, Tryd.ntmps45
  go_wp2_with fail
  generalize w.alloc (.cells #[.slice none 0 0] 35) = W at *
  refine (implLoop_yes n h1 h2 W ht1).mono ?_
  rintro e w1 ⟨u, vs, rfl, hG, hb1⟩
  rw [loopM_NB n (by omega), rowsOf_NB (by omega)] at hG
  have hvl : vs.length = n := by rw [hG.len]; simp
  obtain ⟨a, c, rfl⟩ := owns_shape hG.outer
  rw [hvl] at hG ⊢
  obtain ⟨S1, hS1⟩ : ∃ S, w1.heap.size = S := ⟨_, rfl⟩
  have hz2 : B + 1 ≤ S1 := by have := hb1.size; omega
  have VG : VC 35 S1 #[.slice a n c] (w1.alloc (.cells #[.slice a n c] 35)) := VC.new hS1
  have hb : Below B w (w1.alloc (.cells #[.slice a n c] 35)) := (u1.trans (hb1.mono (by omega))).alloc (by omega) _
  replace VR := (VR.upd (Upd.of_below hb1) (by omega)).upd (Upd.alloc w1 (.cells #[.slice a n c] 35)) (by omega)
  have hR : RdSS (.slice a n c) (rowsB n (loopE n)) (w1.alloc (.cells #[.slice a n c] 35)) := RdSS.below ⟨vs, hG.rd⟩ (below_alloc' w1 _) rfl
  have hzW : (w1.alloc (.cells #[.slice a n c] 35)).heap.size = S1 + 1 := by simp [hS1]
  have HVL := Lib.hid hvl
  clear hG hb1 u1 hvl
  have hcg := VG.cell
  have hcr := VR.cell
  have hfr := VR.free
  rcases H.out with ⟨h16, rfl, rfl⟩ | ⟨h16, rfl, rfl⟩
  · have hd : ((n : Int) == 16) = true := by simp [h16]
    have HCE := Lib.hid (VR.set (.slice none 0 0)).cell
    have HB := Lib.hid (hb.setCell (p := ⟨B, 0, none⟩) (by simp) (.slice none 0 0))
    clear h16
    go_wp2_with fail
    refine bodyPost_ret (v := .tuple #[.agg #[.slice none 0 0], .bool false]) (by simp [results, Tryd.results45, go_sem, HCE.out]) rfl ?_
    exact GRes.nothing _ _ (by rw [hB]; exact HB.out)
  have hd : ((n : Int) == 16) = false := by simp; omega
  have hn15 : n ≤ 15 := by omega
  generalize hW2 : w1.alloc (.cells #[.slice a n c] 35) = W2 at *
  have HW2 := Lib.hid hW2
  have HNO := Lib.hid (netsOf_any _ n (loopE n) h2 W2 hR)
  clear hW2 h16
  have HB2 := Lib.hid hb
  go_wp2_with fail
  rw [HW2.out]
  go_wp2_with fail
  refine HNO.out.mono ?_
  rintro e1 w3 ⟨u3, rfl, hN, hb3⟩
  obtain ⟨ua, uc, rfl⟩ := owns_shape hN
  have HB3 := Lib.hid hb3
  have hz3 : S1 + 1 ≤ w3.heap.size := by have := hb3.size; omega
  rw [hzW] at hN
  replace VR := VR.upd (Upd.of_below hb3) (by omega)
  clear hcg hcr hfr hb3 HNO
  go_wp2_with (at_builtin; refine wpList_push _ rfl _ _ 82 rfl (S1 + 1) 78 _ _ 4 Tryd.underlying82 infoV rfl _ _ _ rfl hN _ rfl rfl (by unfold maxLen; omega) (by omega) (by omega) ?_; intro g4 c4 w4 ho4 hg4)
  have hb4 : Below (S1 + 1) W2 w4 := by have := HB3.out; rw [hzW] at this; exact this.grown hg4 (by omega) (fun y hy => (owns_lt hN hy).1)
  have hN4 : NS (S1 + 1) W2 (.slice (some ⟨g4, 0, none⟩) (n + 1) c4) (NB (n + 1) (hung n (loopE n) ((allL n).take 0))) w4 := ⟨by rw [NB_length, show hung n (loopE n) ((allL n).take 0) = grown n (loopE n) from rfl, ← NB_grown]; simpa [sets] using ho4, NB_small (by omega) _, hb4⟩
  replace VR := VR.grown hg4 (fun e => by have := (owns_lt hN e).1; omega)
  have ht2 : Tab W2 := ht.keep HB2.out hTB
  clear hb4 ho4 hg4 hN HB3
  go_wp2_with fail
  have VR0 := VR
  clear VR
  go_loopw [25] (fun i wr => ∃ k : Nat, k ≤ n ∧ i = .int .i64 k ∧ NS (S1 + 1) W2 (.slice (some ⟨g4, 0, none⟩) (n + 1) c4) (NB (n + 1) (hung n (loopE n) ((allL n).take k))) wr ∧ VC 35 B #[.slice none 0 0] wr) (fun i _ => n - (intOf i).toNat)
  case atStart => exact ⟨0, Nat.zero_le _, rfl, hN4, VR0⟩
  case round =>
    clear hN4 VR0
    obtain ⟨k, hk, rfl, hN, VR⟩ := hrel
    have hsz := hN.bel.size
    by_cases hlt : k < n
    · have HL := Lib.hid (hung_succ (n := n) (e := loopE n) (allL_at hlt))
      have HLT := Lib.hid (fun b hb' => (owns_lt hN.own (b := b) hb').1)
      have HJ := Lib.hid (hN.join (by omega) k n (k : Int) (n : Int) rfl rfl (by simp; omega) (by simp) (by simp; omega))
      clear hN
      go_wp2_with fail
      refine HJ.out.mono ?_
      rintro e1 w5 ⟨rfl, hN5, hg5⟩
      rw [joinS_NB _ (by omega) (by omega), ← HL.out] at hN5
      replace VR := VR.grown hg5 (fun e => by have := HLT.out _ e; omega)
      clear hg5 HJ
      go_wp2_with fail
      go_roundw
      case rel => exact ⟨k + 1, by omega, by go_num, hN5, VR⟩
      case measure => simp [intOf]; omega
    · obtain rfl : k = n := by omega
      rw [List.take_of_length_le (by simp)] at hN
      have hb5 := HB2.out.trans (hN.bel.mono (by omega))
      have HGR := Lib.hid (hN.graph ht2 (by omega) (by simp; omega))
      go_wp2_with fail
      refine HGR.out.mono ?_
      rintro e1 w6 ⟨u6, us, rfl, hG6, hb6⟩
      rw [rowsOf_NB (by omega)] at hG6
      obtain ⟨uua, uuc, rfl⟩ := owns_shape hG6.outer
      have HF := Lib.hid (GRes.put (b := B) hB hb5 (by omega) (by omega) hG6 hb6 true)
      replace VR := VR.upd (Upd.of_below hb6) (by omega)
      have HCE := Lib.hid (VR.set (.slice uua us.length uuc)).cell
      clear hG6 hb6 hN HGR hb5
      have hcr := VR.cell
      have hfr := VR.free
      go_wp2_with fail
      refine bodyPost_ret (v := .tuple #[.agg #[.slice uua us.length uuc], .bool true]) (by simp [results, Tryd.results45, go_sem, HCE.out]) rfl ?_
      exact HF.out

set_option maxHeartbeats 1000000 in
theorem implWheel_no (n : Int) (h : ¬ (3 ≤ n ∧ n ≤ 16)) (w : World) :
    Calls Tryd.prog 45 #[.int .i64 n] w (GRes w [] false) := by
  obtain ⟨B, hB⟩ : ∃ B, w.heap.size = B := ⟨_, rfl⟩
  have u1 : Below B w (w.alloc (.cells #[.slice none 0 0] 35)) := by subst hB; exact below_alloc' _ _
  have VR : VC 35 B #[.slice none 0 0] (w.alloc (.cells #[.slice none 0 0] 35)) := VC.new hB
  have hz1 : (w.alloc (.cells #[.slice none 0 0] 35)).heap.size = B + 1 := by simp [hB]
  have H := Lib.hid h
  clear h
  go_enter Tryd.func45, Tryd.ntmps45
  go_wp2_with fail
  generalize w.alloc (.cells #[.slice none 0 0] 35) = W at *
  refine (implLoop_no n H.out W).mono ?_
  rintro e w1 ⟨u, vs, rfl, hG, hb1⟩
  obtain ⟨a, c, rfl⟩ := owns_shape hG.outer
  replace VR := (VR.upd (Upd.of_below hb1) (by omega)).upd (Upd.alloc w1 (.cells #[.slice a vs.length c] 35)) (by omega)
  have hb : Below B w (w1.alloc (.cells #[.slice a vs.length c] 35)) := (u1.trans (hb1.mono (by omega))).alloc (by have := hb1.size; omega) _
  have hcr := VR.cell
  have hfr := VR.free
  have HCE := Lib.hid (VR.set (.slice none 0 0)).cell
  have HB := Lib.hid (hb.setCell (p := ⟨B, 0, none⟩) (by simp) (.slice none 0 0))
  clear hG hb1 hb u1
  go_wp2_with fail
  refine bodyPost_ret (v := .tuple #[.agg #[.slice none 0 0], .bool false]) (by simp [results, Tryd.results45, go_sem, HCE.out]) rfl ?_
  exact GRes.nothing _ _ (by rw [hB]; exact HB.out)

theorem both_WheelGraph (n : Int) : ∃ rows ok, 1 + total rows ≤ 1000000000 ∧ rows.length ≤ 1000000000 ∧
    (∀ (w : World), Tab w → Calls Tryd.prog 44 #[.int .i64 n] w (GRes w rows ok)) ∧
    (∀ (w : World), Tab w → Calls Tryd.prog 45 #[.int .i64 n] w (GRes w rows ok)) := by
  by_cases h : 3 ≤ n ∧ n ≤ 16
  · obtain ⟨k, rfl⟩ := Int.eq_ofNat_of_zero_le (show 0 ≤ n by omega)
    by_cases h16 : k = 16
    · exact ⟨[], false, by simp [total], by simp, fun w _ => specWheel_yes k (by omega) (by omega) w _ _ (.inl ⟨h16, rfl, rfl⟩), fun w ht => implWheel_yes k (by omega) (by omega) w ht _ _ (.inl ⟨h16, rfl, rfl⟩)⟩
    · have ht := total_rowsB (k + 1) (hung k (loopE k) (allL k)) (by omega)
      exact ⟨_, true, by omega, by simp; omega, fun w _ => specWheel_yes k (by omega) (by omega) w _ _ (.inr ⟨h16, rfl, rfl⟩), fun w ht => implWheel_yes k (by omega) (by omega) w ht _ _ (.inr ⟨h16, rfl, rfl⟩)⟩
  · exact ⟨[], false, by simp [total], by simp, fun w _ => specWheel_no n h w, fun w _ => implWheel_no n h w⟩
end Go.Proofs.YtplpbgjmejggiaaDoor
