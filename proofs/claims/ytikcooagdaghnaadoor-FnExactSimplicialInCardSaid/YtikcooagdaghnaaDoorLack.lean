/-
  The reference's count of the pairs of a list that are no edges: 'l7Missing', 'l8Clique'; 'SimplicialIn'.
-/
import Derived.Test.YtikcooagdaghnaaDoorSplit
namespace Go.Proofs.YtikcooagdaghnaaDoor
open Go.RowKit

def lackRow (e : Nat → Nat → Bool) (xs : List Int) (i j : Nat) : Nat := ((List.range j).filter fun q => !e (atL xs q) (atL xs i)).length
def lackTo (e : Nat → Nat → Bool) (xs : List Int) : Nat → Nat
  | 0 => 0
  | i + 1 => lackTo e xs i + lackRow e xs i i
theorem lackRow_yes {e : Nat → Nat → Bool} {xs : List Int} {i j : Nat} (h : e (atL xs j) (atL xs i) = true) : lackRow e xs i (j + 1) = lackRow e xs i j := by
  unfold lackRow
  rw [List.range_succ, List.filter_append]
  simp [h]
theorem lackRow_no {e : Nat → Nat → Bool} {xs : List Int} {i j : Nat} (h : e (atL xs j) (atL xs i) = false) : lackRow e xs i (j + 1) = lackRow e xs i j + 1 := by
  unfold lackRow
  rw [List.range_succ, List.filter_append]
  simp [h]
theorem lackRow_le (e : Nat → Nat → Bool) (xs : List Int) (i j : Nat) : lackRow e xs i j ≤ j := by
  have := List.length_filter_le (fun q => !e (atL xs q) (atL xs i)) (List.range j)
  simpa [lackRow] using this
theorem lackTo_le (e : Nat → Nat → Bool) (xs : List Int) : ∀ i, i ≤ 16 → lackTo e xs i ≤ 16 * i
  | 0, _ => by simp [lackTo]
  | i + 1, h => by
    have h1 := lackTo_le e xs i (by omega)
    have h2 := lackRow_le e xs i i
    simp only [lackTo]
    omega

set_option maxHeartbeats 2000000 in
theorem l7Missing_any (g : Value) (n : Nat) (e : Nat → Nat → Bool) (v2 : Value) (xs : List Int) (hin : InP n xs) (hxl : xs.length ≤ 16) (w : World) (hr : RdSS g (rowsB n e) w) (hs : RdS v2 xs w) :
    Calls Tryd.prog 117 #[.agg #[g], v2] w fun r w' => r = .returned (.int .i64 (lackTo e xs xs.length : Nat)) ∧ Below w.heap.size w w' := by
  obtain ⟨a, c, rfl⟩ := hr.shape
  obtain ⟨a2, c2, rfl, -, -, -⟩ := id hs
  rw [rowsB_length] at hr ⊢
  obtain ⟨B, hB⟩ : ∃ B, w.heap.size = B := ⟨_, rfl⟩
  have u1 : Below B w (w.alloc (.cells #[.slice a n c] 26)) := by subst hB; exact below_alloc' _ _
  have VG0 : VC 26 B #[.slice a n c] (w.alloc (.cells #[.slice a n c] 26)) := VC.new hB
  have hz0 : (w.alloc (.cells #[.slice a n c] 26)).heap.size = B + 1 := by simp [hB]
  have HI := Lib.hid hin
  clear hin
  go_enter Tryd.func117, Tryd.ntmps117
  go_wp2_with fail
  generalize w.alloc (.cells #[.slice a n c] 26) = W0 at *
  go_loopw [5, 6] (fun s i wr => ∃ (k m : Nat), k ≤ xs.length ∧ i = .int .i64 k ∧ s = .int .i64 m ∧ m ≤ 16 * k ∧ Hid (m = lackTo e xs k) ∧ Below (B + 1) W0 wr) (fun _ i _ => xs.length - (intOf i).toNat)
  case atStart => exact ⟨0, 0, Nat.zero_le _, rfl, rfl, Nat.zero_le _, Lib.hid rfl, by rw [← hz0]; exact Below.refl _ _⟩
  case round =>
    obtain ⟨k, m, hk, rfl, rfl, hm, HM, hb⟩ := hrel
    by_cases hlt : k < xs.length
    · go_wp2_with fail
      go_loopw [5, 7] (fun s i wr => ∃ (j d : Nat), j ≤ k ∧ i = .int .i64 j ∧ s = .int .i64 d ∧ d ≤ m + j ∧ Hid (d = m + lackRow e xs k j) ∧ Below (B + 1) W0 wr) (fun _ i _ => k - (intOf i).toNat)
      case atStart => exact ⟨0, m, Nat.zero_le _, rfl, rfl, Nat.le_refl _, Lib.hid (by simp [lackRow]), hb⟩
      case round =>
        clear hb
        obtain ⟨j, d, hj, rfl, rfl, hd, HD, hb⟩ := hrel
        by_cases hjt : j < k
        · have hcg := (VG0.belowAt hb (by omega)).cell
          have hGr : RdSS (.slice a n c) (rowsB n e) wr := (hr.below u1 hB).below hb hz0
          have hSr : RdS (.slice a2 xs.length c2) xs wr := RdS.below (RdS.below hs u1 hB) hb hz0
          obtain ⟨xb, xo, x, rfl, hcx, HX⟩ := hSr.intAt hlt
          obtain ⟨xb', xo', y, e', hcy, HY⟩ := hSr.intAt (j := j) (by omega)
          obtain ⟨rfl, rfl⟩ : xb = xb' ∧ xo = xo' := by simpa using e'
          obtain ⟨p, rfl, hp⟩ := HI.out.at HX.out
          obtain ⟨q, rfl, hq⟩ := HI.out.at HY.out
          have hjl : j < xs.length := by omega
          have hpe := atL_eq HX.out
          have hqe := atL_eq HY.out
          have HC := Lib.hid (edge_any (.slice a n c) (rowsB n e) q (p : Int) (by simpa using hq) wr.drew (hGr.below (below_drewN' wr 1) rfl))
          rw [rowsB_getD e hq, contains_rowB] at HC
          obtain ⟨b, HBB⟩ : ∃ b : Bool, Hid (e q p = b) := ⟨_, Lib.hid rfl⟩
          rw [HBB.out] at HC
          have hpn : decide (p < n) = true := by simpa using hp
          rw [hpn, Bool.true_and] at HC
          have HEB : Hid (e (atL xs j) (atL xs k) = b) := Lib.hid (by rw [hpe, hqe]; exact HBB.out)
          clear hpn hpe hqe e' hGr hSr
          go_wp2_with fail
          refine wp_region_ord [1, 2, 3, 5, 6, 7] [0, 4, 8] [] [9, 10] (by kernel_rfl) (by kernel_rfl) (fun _ _ d _ _ h => by cases d <;> exact h) ?_
          simp only [pickOps, List.filterMap_cons, List.filterMap_nil, List.getElem?_cons_succ, List.getElem?_cons_zero]
          repeat quiet_step (fail)
          simp only [wpQuiet_nil_eq, wpSegs_nil_eq]
          go_wp2_with fail
          refine HC.out.mono ?_
          rintro e1 w5 ⟨rfl, hb5⟩
          have hb6 := hb.trans ((below_drew hb5).mono (by have := hb.size; omega))
          clear hb5 hcg HC hb
          cases b with
          | true =>
            have HS := Lib.hid (lackRow_yes HEB.out)
            go_wp2_with fail
            go_roundw
            case rel => exact ⟨j + 1, d, by omega, by go_num, rfl, by omega, Lib.hid (by rw [HS.out]; exact HD.out), hb6⟩
            case measure => simp [intOf]; omega
          | false =>
            have HS := Lib.hid (lackRow_no HEB.out)
            go_wp2_with fail
            go_roundw
            case rel => exact ⟨j + 1, d + 1, by omega, by go_num, by go_num, by omega, Lib.hid (by rw [HS.out, HD.out]; omega), hb6⟩
            case measure => simp [intOf]; omega
        · obtain rfl : j = k := by omega
          go_wp2_with fail
          go_roundw
          case rel => exact ⟨j + 1, d, by omega, by go_num, rfl, by omega, Lib.hid (by rw [HD.out, HM.out]; rfl), hb⟩
          case measure => simp [intOf]; omega
    · obtain rfl : k = xs.length := by omega
      go_wp2_with fail
      go_ret
      exact ⟨ret_int (by rw [HM.out]), by rw [hB]; exact u1.trans (hb.mono (by omega))⟩

set_option maxHeartbeats 1000000 in
theorem l8Clique_any (g : Value) (n : Nat) (e : Nat → Nat → Bool) (v2 : Value) (xs : List Int) (hin : InP n xs) (hxl : xs.length ≤ 16) (b : Bool) (hb : decide (lackTo e xs xs.length = 0) = b) (w : World) (hr : RdSS g (rowsB n e) w) (hs : RdS v2 xs w) :
    Calls Tryd.prog 104 #[.agg #[g], v2] w fun r w' => r = .returned (.bool b) ∧ Below w.heap.size w w' := by
  obtain ⟨a, c, rfl⟩ := hr.shape
  rw [rowsB_length] at hr ⊢
  obtain ⟨B, hB⟩ : ∃ B, w.heap.size = B := ⟨_, rfl⟩
  have u1 : Below B w (w.alloc (.cells #[.slice a n c] 26)) := by subst hB; exact below_alloc' _ _
  have VG0 : VC 26 B #[.slice a n c] (w.alloc (.cells #[.slice a n c] 26)) := VC.new hB
  have hz0 : (w.alloc (.cells #[.slice a n c] 26)).heap.size = B + 1 := by simp [hB]
  have HM := Lib.hid (l7Missing_any (.slice a n c) n e v2 xs hin hxl (w.alloc (.cells #[.slice a n c] 26)) (hr.below u1 hB) (RdS.below hs u1 hB))
  obtain ⟨m, hm⟩ : ∃ m, lackTo e xs xs.length = m := ⟨_, rfl⟩
  rw [hm] at HM hb
  have hbe : ((m : Int) == 0) = b := by rw [← hb, Bool.eq_iff_iff]; simp
  have HBE := Lib.hid hbe
  have hcg := VG0.cell
  clear hm hb hbe
  go_enter Tryd.func104, Tryd.ntmps104
  go_wp2_with fail
  refine HM.out.mono ?_
  rintro e1 w1 ⟨rfl, hb1⟩
  have hb2 := u1.trans (hb1.mono (by omega))
  clear hb1 HM hcg
  go_wp2_with fail
  go_ret
  exact ⟨ret_bool HBE.out, by rw [hB]; exact hb2⟩

/-- v's neighbours are all joined. -/
def simB (n : Nat) (e : Nat → Nat → Bool) (v : Nat) : Bool := decide (lackTo e (rowB n (e v)) (rowB n (e v)).length = 0)
def preB (p : Nat → Bool) (j : Nat) : List Int := ((List.range j).filter p).map fun (i : Nat) => (i : Int)
theorem preB_yes {p : Nat → Bool} {j : Nat} (h : p j = true) : preB p (j + 1) = preB p j ++ [(j : Int)] := by simp [preB, List.range_succ, List.filter_append, h]
theorem preB_no {p : Nat → Bool} {j : Nat} (h : p j = false) : preB p (j + 1) = preB p j := by simp [preB, List.range_succ, List.filter_append, h]

set_option maxHeartbeats 2000000 in
theorem specSimplicial (g : Value) (xss : List (List Int)) (w : World) (hr : RdSS g xss w) (rs : List Int)
    (h : (okB xss = false ∧ rs = []) ∨ ∃ e, Adj xss.length e ∧ xss = rowsB xss.length e ∧ rs = preB (simB xss.length e) xss.length) :
    Calls Tryd.prog 58 #[.agg #[g]] w (SRes w rs) := by
  obtain ⟨a, c, rfl⟩ := hr.shape
  obtain ⟨B, hB⟩ : ∃ B, w.heap.size = B := ⟨_, rfl⟩
  have u1 : Below B w (w.alloc (.cells #[.slice a xss.length c] 26)) := by subst hB; exact below_alloc' _ _
  have VG0 : VC 26 B #[.slice a xss.length c] (w.alloc (.cells #[.slice a xss.length c] 26)) := VC.new hB
  have hz0 : (w.alloc (.cells #[.slice a xss.length c] 26)).heap.size = B + 1 := by simp [hB]
  have ho0 := World.ownsRow_lit (base := B + 1) (e := 2) (size := 1) (w.alloc (.cells #[.slice a xss.length c] 26)) #[] 0 (by omega) (by simp [maxLen]) rfl
  rw [hz0] at ho0
  have u2 : Below B w ((w.alloc (.cells #[.slice a xss.length c] 26)).alloc (.cells #[] 2)) := u1.alloc (by omega) _
  have VG1 := VG0.upd (Upd.alloc _ (.cells #[] 2)) (by omega)
  have hz1 : ((w.alloc (.cells #[.slice a xss.length c] 26)).alloc (.cells #[] 2)).heap.size = B + 2 := by simp [hB]
  have H := Lib.hid h
  clear h
  go_enter Tryd.func58, Tryd.ntmps58
  go_wp2_with fail
  generalize (w.alloc (.cells #[.slice a xss.length c] 26)).alloc (.cells #[] 2) = W at *
  have hbW : Below (B + 1) W W := Below.refl _ _
  obtain ⟨p, HP⟩ : ∃ p, Hid (okB xss = true → ∃ e, Adj xss.length e ∧ xss = rowsB xss.length e ∧ simB xss.length e = p ∧ rs = preB p xss.length) := by
    rcases H.out with ⟨h, _⟩ | ⟨e, hA, hx, hrs⟩
    · exact ⟨fun _ => true, Lib.hid fun h' => by rw [h] at h'; cases h'⟩
    · exact ⟨simB xss.length e, Lib.hid fun _ => ⟨e, hA, hx, rfl, hrs⟩⟩
  go_loopw [4, 3] (fun i u wr => ∃ (j m : Nat), j ≤ xss.length ∧ m ≤ j ∧ (j = 0 ∨ okB xss = true) ∧ i = .int .i64 j ∧ Hid ((preB p j).length = m) ∧ wr.ownsRow (B + 1) 2 1 u m (ints (preB p j)) ∧ Below (B + 1) W wr) (fun i _ _ => xss.length - (intOf i).toNat)
  case atStart => exact ⟨0, 0, Nat.zero_le _, Nat.le_refl _, .inl rfl, rfl, Lib.hid rfl, by simpa [ints, preB] using ho0, hbW⟩
  case round =>
    clear ho0 hbW
    obtain ⟨j, m, hj, hm, hJ, rfl, HM, ho, hb⟩ := hrel
    have HJ := Lib.hid hJ
    clear hJ
    have hsz := hb.size
    have VGr := VG1.belowAt hb (by omega)
    have hcg := VGr.cell
    have hbw := u2.trans (hb.mono (by omega))
    go_wp2_with fail
    refine (size_any a xss.length c wr).mono ?_
    rintro e1 w1 ⟨rfl, hb1⟩
    have VG2 := VGr.upd (Upd.of_below hb1) (by omega)
    have hbw1 := hbw.trans (hb1.mono (by omega))
    have hbW1 := hb.trans (hb1.mono (by omega))
    have ho1 := owns_below ho hb1
    have hsz1 := hbW1.size
    clear hb1 hcg ho hb
    have hcg := VG2.cell
    by_cases hlt : j < xss.length
    · have hd : (j : Int) < xss.length := by omega
      go_wp2_with fail
      refine (specOk _ xss w1 (hr.below hbw1 hB)).mono ?_
      rintro e1 w2 ⟨rfl, hb2⟩
      have VG3 := VG2.upd (Upd.of_below hb2) (by omega)
      have hbw2 := hbw1.trans (hb2.mono (by omega))
      have hbW2 := hbW1.trans (hb2.mono (by omega))
      have ho2 := owns_below ho1 hb2
      have hsz2 := hbW2.size
      clear hb2 hcg ho1 hbW1
      have hcg := VG3.cell
      cases hok : okB xss with
      | false =>
        obtain ⟨rfl⟩ : j = 0 := by
          rcases HJ.out with h | h
          · exact h
          · rw [hok] at h; cases h
        obtain rfl : rs = [] := by
          rcases H.out with ⟨_, h⟩ | ⟨e, hA, hx, _⟩
          · exact h
          · rw [hx, okB_adj hA] at hok; cases hok
        obtain rfl : m = 0 := by omega
        clear hok
        go_wp2_with fail
        go_ret
        exact ⟨_, rfl, by rw [hB]; exact owns_base ho2 (by omega), by rw [hB]; exact hbw2⟩
      | true =>
        obtain ⟨e, hA, hx, hp, -⟩ := HP.out hok
        have hn16 := hA.le
        have HOK := Lib.hid hok
        have hGr : RdSS (.slice a xss.length c) (rowsB xss.length e) w2 := by
          have := hr.below hbw2 hB
          rwa [hx, rowsB_length] at this
        have HG := Lib.hid hGr
        obtain ⟨vsr, hGx⟩ := hGr.ex
        obtain ⟨rb, ro, r, x, rfl, hc, hxr, -, HXX⟩ := hGx.intsAt (k := j) (by simpa using hlt)
        obtain rfl : rowB xss.length (e j) = x := by have h := HXX.out; rw [rowsB_at e hlt] at h; exact Option.some.inj h
        have hrl := rowB_length xss.length (e j)
        obtain ⟨b, HBB⟩ : ∃ b, Hid (p j = b) := ⟨_, Lib.hid rfl⟩
        have HCL := Lib.hid (l8Clique_any (.slice (some ⟨rb, ro, none⟩) xss.length c) xss.length e r (rowB xss.length (e j)) (setP_rowB _ _).inP (by omega) b (by rw [← HBB.out, ← hp]; rfl) w2.drew (HG.out.below (below_drewN' w2 1) rfl) (RdS.below hxr (below_drewN' w2 1) rfl))
        clear hok hx hp hGr hGx HXX hxr HG
        go_wp2_with fail
        refine wp_region_ord [1, 3] [0, 2, 4, 5] [] [6] (by kernel_rfl) (by kernel_rfl) (fun _ _ d _ _ h => by cases d <;> exact h) ?_
        simp only [pickOps, List.filterMap_cons, List.filterMap_nil, List.getElem?_cons_succ, List.getElem?_cons_zero]
        repeat quiet_step (fail)
        simp only [wpQuiet_nil_eq, wpSegs_nil_eq]
        go_wp2_with fail
        refine HCL.out.mono ?_
        rintro e1 w3 ⟨rfl, hb3⟩
        replace hb3 := below_drew hb3
        have hbW3 := hbW2.trans (hb3.mono (by omega))
        have ho3 := owns_below ho2 hb3
        have hsz3 := hbW3.size
        clear hb3 hcg HCL ho2 hbW2 hc
        cases b with
        | false =>
          have HS := Lib.hid (preB_no HBB.out)
          go_wp2_with fail
          go_roundw
          case rel => exact ⟨j + 1, m, by omega, by omega, .inr HOK.out, by go_num, Lib.hid (by rw [HS.out]; exact HM.out), by rw [HS.out]; exact ho3, hbW3⟩
          case measure => simp [intOf]; omega
        | true =>
          have HS := Lib.hid (preB_yes HBB.out)
          go_wp2_with (at_builtin; refine wpList_push _ rfl _ _ 33 rfl (B + 1) 2 _ _ 8 Tryd.underlying33 infoI rfl _ _ _ rfl ho3 _ rfl rfl (by unfold maxLen; omega) (by omega) (by omega) ?_; intro g' c' w4 ho4 hg)
          go_roundw
          case rel => exact ⟨j + 1, m + 1, by omega, by omega, .inr HOK.out, by go_num, Lib.hid (by rw [HS.out, List.length_append, HM.out]; rfl), by rw [HS.out]; simpa [ints] using ho4, hbW3.grown hg (by omega) fun b hb' => (owns_lt ho3 hb').1⟩
          case measure => simp [intOf]; omega
    · obtain rfl : j = xss.length := by omega
      have hd : ¬ (xss.length : Int) < xss.length := by omega
      have hrs : rs = preB p xss.length := by
        cases hok : okB xss with
        | true => obtain ⟨_, _, _, _, h⟩ := HP.out hok; exact h
        | false =>
          have h0 : xss.length = 0 := by
            rcases HJ.out with h | h
            · exact h
            · rw [hok] at h; cases h
          have h1 : rs = [] := by
            rcases H.out with ⟨_, h⟩ | ⟨e, hA, hx, _⟩
            · exact h
            · rw [hx, okB_adj hA] at hok; cases hok
          rw [h1, h0]
          rfl
      have HRS := Lib.hid hrs
      clear hrs
      go_wp2_with fail
      go_ret
      exact ⟨_, rfl, by rw [hB, HRS.out, HM.out]; exact owns_base ho1 (by omega), by rw [hB]; exact hbw1⟩
end Go.Proofs.YtikcooagdaghnaaDoor
