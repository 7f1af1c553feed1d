/-
  'DistHereditary' of both.
-/
import Derived.Test.YtbhobmngnjfgfaaDoorPruV
import Derived.Test.YtbhobmngnjfgfaaDoorPruI
namespace Go.Proofs.YtbhobmngnjfgfaaDoor
open Go.RowKit

def DistP (xss : List (List Int)) (r : Bool) : Prop :=
  (okB xss = false ∧ r = false) ∨ ∃ e, Adj xss.length e ∧ xss = rowsB xss.length e ∧ Fin' xss.length e (fun _ => true) r
theorem distP_has (xss : List (List Int)) : ∃ r, DistP xss r := by
  by_cases h : okB xss = true
  · obtain ⟨e, hA, hx⟩ := (okB_iff xss).1 h
    obtain ⟨r, hr⟩ := fin_has xss.length e _ (fun _ => true) (Nat.le_refl _)
    exact ⟨r, .inr ⟨e, hA, hx, hr⟩⟩
  · exact ⟨false, .inl ⟨by simpa using h, rfl⟩⟩

set_option maxHeartbeats 1000000 in
theorem l16AllP_any (g : Value) (xss : List (List Int)) (hn : xss.length ≤ 1000) (w : World) (hr : RdSS g xss w) :
    Calls Tryd.prog 92 #[.agg #[g]] w (SRes w (rowB xss.length fun _ => true)) := by
  obtain ⟨a, c, rfl⟩ := hr.shape
  obtain ⟨B, hB⟩ : ∃ B, w.heap.size = B := ⟨_, rfl⟩
  have u1 : Below B w (w.alloc (.cells #[.slice a xss.length c] 56)) := by subst hB; exact below_alloc' _ _
  have VG0 : VC 56 B #[.slice a xss.length c] (w.alloc (.cells #[.slice a xss.length c] 56)) := VC.new hB
  have hz0 : (w.alloc (.cells #[.slice a xss.length c] 56)).heap.size = B + 1 := by simp [hB]
  have ho0 := World.ownsRow_lit (base := B + 1) (e := 2) (size := 1) (w.alloc (.cells #[.slice a xss.length c] 56)) #[] 0 (by omega) (by simp [maxLen]) rfl
  rw [hz0] at ho0
  have u2 : Below B w ((w.alloc (.cells #[.slice a xss.length c] 56)).alloc (.cells #[] 2)) := u1.alloc (by omega) _
  have VG1 := VG0.upd (Upd.alloc _ (.cells #[] 2)) (by omega)
  have hz1 : ((w.alloc (.cells #[.slice a xss.length c] 56)).alloc (.cells #[] 2)).heap.size = B + 2 := by simp [hB]
  go_enter Tryd.func92, Tryd.ntmps92
  go_wp2_with fail
  generalize (w.alloc (.cells #[.slice a xss.length c] 56)).alloc (.cells #[] 2) = W at *
  have hbW : Below (B + 1) W W := Below.refl _ _
  go_loopw [3, 4] (fun u i wr => ∃ j : Nat, j ≤ xss.length ∧ i = .int .i64 j ∧ wr.ownsRow (B + 1) 2 1 u j (ints ((List.range j).map fun (i : Nat) => (i : Int))) ∧ Below (B + 1) W wr) (fun _ i _ => xss.length - (intOf i).toNat)
  case atStart => exact ⟨0, Nat.zero_le _, rfl, by simpa [ints] using ho0, hbW⟩
  case round =>
    clear ho0 hbW
    obtain ⟨j, hj, rfl, ho, hb⟩ := hrel
    have hsz := hb.size
    have hcg := (VG1.belowAt hb (by omega)).cell
    by_cases hlt : j < xss.length
    · go_wp2_with (at_builtin; refine wpList_push _ rfl _ _ 30 rfl (B + 1) 2 _ _ 8 Tryd.underlying30 infoI rfl _ _ _ rfl ho _ rfl rfl (by unfold maxLen; omega) (by omega) (by omega) ?_; intro g' c' w2 ho2 hg)
      go_roundw
      case rel => exact ⟨j + 1, by omega, by go_num, by rw [List.range_succ, List.map_append]; simpa [ints] using ho2, hb.grown hg (by omega) fun b hb' => (owns_lt ho hb').1⟩
      case measure => simp [intOf]; omega
    · obtain rfl : j = xss.length := by omega
      rw [← rowB_all] at ho
      have HEL : Hid ((rowB xss.length (fun _ => true)).length = xss.length) := Lib.hid (by rw [rowB_all]; simp)
      go_wp2_with fail
      go_ret
      exact ⟨_, rfl, by rw [hB, HEL.out]; exact owns_base ho (by omega), by rw [hB]; exact u2.trans (hb.mono (by omega))⟩

set_option maxHeartbeats 4000000 in
theorem specDist (g : Value) (xss : List (List Int)) (r : Bool) (hP : DistP xss r) (w : World) (hr : RdSS g xss w) :
    Calls Tryd.prog 31 #[.agg #[g]] w (BRes w r) := by
  obtain ⟨a, c, rfl⟩ := hr.shape
  obtain ⟨B, hB⟩ : ∃ B, w.heap.size = B := ⟨_, rfl⟩
  obtain ⟨W0, hW0⟩ : ∃ W0, W0 = w.alloc (.cells #[.slice a xss.length c] 56) := ⟨_, rfl⟩
  have u0 : Below B w W0 := by rw [hW0, ← hB]; exact below_alloc' _ _
  have VG : VC 56 B #[.slice a xss.length c] W0 := by rw [hW0]; exact VC.new hB
  have hz0 : W0.heap.size = B + 1 := by rw [hW0]; simp [hB]
  have CK := Lib.hid (specOk (.slice a xss.length c) xss W0 (hr.below u0 hB))
  have hcg := VG.cell
  rcases hP with ⟨hok, rfl⟩ | ⟨e, hA, hx, hF⟩
  · rw [hok] at CK
    clear hok
    go_enter Tryd.func31, Tryd.ntmps31
    go_wp2_with fail
    rw [← hW0]
    refine CK.out.mono ?_
    rintro e1 w1 ⟨rfl, hb1⟩
    have hb := u0.trans (hb1.mono (by omega))
    clear hb1 u0 hr VG hcg CK hW0
    go_wp2_with fail
    go_ret
    exact ⟨rfl, by rw [hB]; exact hb⟩
  · have hok : okB xss = true := (okB_iff xss).2 ⟨e, hA, hx⟩
    rw [hok] at CK
    obtain ⟨n, hn⟩ : ∃ n, xss.length = n := ⟨_, rfl⟩
    have hg : Gr n e xss := ⟨hn ▸ hA, hn, fun u hu => by rw [hx, hn]; exact rowsB_at e hu⟩
    have hn16 : n ≤ 16 := hg.adj.le
    rw [hn] at hF
    have HF := Lib.hid hF
    have HA : Hid (∀ W, Below B w W → Calls Tryd.prog 92 #[.agg #[.slice a xss.length c]] W (SRes W (rowB n fun _ => true))) := Lib.hid fun W hW => by
      have := l16AllP_any (.slice a xss.length c) xss (by omega) W (hr.below hW hB)
      rw [hn] at this
      rw [hn]
      exact this
    have HP : Hid (∀ (W : World) (u : Value) (base : Nat), Below B w W → W.ownsRow base 2 1 u (rowB n fun _ => true).length (ints (rowB n fun _ => true)) → Calls Tryd.prog 91 #[.agg #[.slice a xss.length c], u] W (LeftRes n e (fun _ => true) W)) := Lib.hid fun W u base hW hu => specPrune _ n e _ xss hg u W (hr.below hW hB) base hu
    clear hok hg hF hA hx hr hn
    go_enter Tryd.func31, Tryd.ntmps31
    go_wp2_with fail
    rw [← hW0]
    refine CK.out.mono ?_
    rintro e1 w1 ⟨rfl, hb1⟩
    have hb := u0.trans (hb1.mono (by omega))
    have VG1 := VG.belowAt hb1 (by omega)
    obtain ⟨S1, hS1⟩ : ∃ s, w1.heap.size = s := ⟨_, rfl⟩
    have hs1 : B + 1 ≤ S1 := by have := hb1.size; omega
    clear hb1 u0 VG hcg CK hW0 hz0
    have hcg := VG1.cell
    go_wp2_with fail
    refine wp_region_take [] [0, 1] 3 7 #[true, true, false, false, false, false, false, false, false] (by kernel_rfl) (by kernel_rfl) (by kernel_rfl) (by kernel_rfl) (fun _ _ d _ _ h => by cases d <;> exact h) ?_
    simp only [pickOps, List.filterMap_cons, List.filterMap_nil, List.getElem?_cons_succ, List.getElem?_cons_zero]
    repeat quiet_step (fail)
    simp only [wpQuiet_nil_eq]
    have hbd : Below B w w1.drew := hb.drew
    have hbe : Below S1 w1 w1.drew := (Below.refl _ _).drew
    have hSD : w1.drew.heap.size = S1 := hS1
    generalize hwv : w1.drew = wv at *
    refine wpAnyG_1 2 (by kernel_rfl) rfl ?_
    unfold wpNext
    go_wp2_with fail
    refine (HA.out wv hbd).mono ?_
    rintro e1 w2 ⟨u, rfl, ho, hb2⟩
    obtain ⟨ua, uc, rfl⟩ := owns_shape ho
    have hb3 := hbd.trans (hb2.mono (by omega))
    have CP := Lib.hid (HP.out w2 _ _ hb3 ho)
    have hs2 : S1 ≤ w2.heap.size := by have := hb2.size; omega
    have HB2 := Lib.hid (hbe.trans (hb2.mono (by omega)))
    clear hb2 ho
    go_wp2_with fail
    refine ⟨fun _ => over_of_below (by rw [hS1]; exact HB2.out), ?_⟩
    refine wpAnyG_1 3 (by kernel_rfl) rfl ?_
    unfold wpNext
    go_wp2_with fail
    refine CP.out.mono ?_
    rintro e1 w4 ⟨o, v, S, rfl, hf, hv, hb4⟩
    obtain ⟨va, vc, rfl, -, -, -⟩ := id hv
    have hb5 := hb3.trans (hb4.mono (by omega))
    obtain ⟨q, hq⟩ : ∃ q, decide ((rowB n S).length = 0) = q := ⟨_, rfl⟩
    rw [hq] at hf
    have hq2 := cast_zero (rowB n S).length
    rw [hq] at hq2
    obtain rfl : q = r := hf.det HF.out
    obtain ⟨L, hL⟩ : ∃ L, rowB n S = L := ⟨_, rfl⟩
    rw [hL] at hq2
    rw [hL]
    clear hL hf hq hv hb4 hb3 CP HP HA HF
    go_wp2_with fail
    refine ⟨fun h => by simp at h, ?_⟩
    refine wpAnyG_mid [4, 5, 6] 2 #[true, true, true, true, true, true, true, false, false] rfl (by kernel_rfl) (by kernel_rfl) (by kernel_rfl) (fun _ _ d _ _ h => by cases d <;> exact h) (fun h => by simp at h) ?_
    simp only [pickOps, List.filterMap_cons, List.filterMap_nil, List.getElem?_cons_succ, List.getElem?_cons_zero]
    repeat quiet_step (fail)
    simp only [wpQuiet_nil_eq]
    refine wpAnyG_tail [7, 8] rfl (.inl (by kernel_rfl)) (by kernel_rfl) ?_
    simp only [pickOps, List.filterMap_cons, List.filterMap_nil, List.getElem?_cons_succ, List.getElem?_cons_zero]
    go_wp2_with fail
    go_ret
    exact ⟨rfl, by rw [hB]; exact hb5⟩
end Go.Proofs.YtbhobmngnjfgfaaDoor
