/-
  Induced graphs: 'l2Of' of the reference; 'has', 'narrow', 'induced' of the program.
-/
import Derived.Test.YtikcooagdaghnaaDoorCutEdge
namespace Go.Proofs.YtikcooagdaghnaaDoor
open Go.RowKit

/-- The vertex at a place of a list. -/
def atL (xs : List Int) (i : Nat) : Nat := (xs.getD i 0).toNat
theorem atL_eq {xs : List Int} {i x : Nat} (h : xs[i]? = some (x : Int)) : atL xs i = x := by simp [atL, List.getD, h]
/-- All are vertices of n. -/
def InP (n : Nat) (xs : List Int) : Prop := ∀ x ∈ xs, 0 ≤ x ∧ x < (n : Int)
theorem InP.at {n : Nat} {xs : List Int} (h : InP n xs) {i : Nat} {x : Int} (hx : xs[i]? = some x) : ∃ k : Nat, x = k ∧ k < n := by
  have := h x (List.mem_of_getElem? hx)
  exact ⟨x.toNat, by omega, by omega⟩

set_option maxHeartbeats 4000000 in
theorem l2Of_any (g : Value) (n : Nat) (e : Nat → Nat → Bool) (hn : n ≤ 16) (v2 : Value) (xs : List Int) (hin : InP n xs) (hxl : xs.length ≤ 16) (w : World) (hr : RdSS g (rowsB n e) w) (hs : RdS v2 xs w) :
    Calls Tryd.prog 74 #[.agg #[g], v2] w (G1Res w (rowsB xs.length (sym fun a b => e (atL xs b) (atL xs a)))) := by
  obtain ⟨a, c, rfl⟩ := hr.shape
  obtain ⟨a2, c2, rfl, -, -, -⟩ := id hs
  rw [rowsB_length] at hr ⊢
  obtain ⟨B, hB⟩ : ∃ B, w.heap.size = B := ⟨_, rfl⟩
  have u1 : Below B w (w.alloc (.cells #[.slice a n c] 26)) := by subst hB; exact below_alloc' _ _
  have VG0 : VC 26 B #[.slice a n c] (w.alloc (.cells #[.slice a n c] 26)) := VC.new hB
  have hz0 : (w.alloc (.cells #[.slice a n c] 26)).heap.size = B + 1 := by simp [hB]
  have HI := Lib.hid hin
  clear hin
  go_enter Tryd.func74, Tryd.ntmps74
  go_wp2_with fail
  generalize w.alloc (.cells #[.slice a n c] 26) = W0 at *
  have hR0 : GC (W0.alloc (.cells #[.slice none 0 0] 26)) (B + 1) (.slice none 0 0) := by have := GC.new W0 (.slice none 0 0); rwa [hz0] at this
  refine (empty_any xs.length (by omega) _).mono ?_
  rintro e1 w3 ⟨u, vs, rfl, hE, hb3⟩
  obtain ⟨a3, c3, rfl⟩ := owns_shape hE.outer
  have hvl : vs.length = xs.length := by rw [hE.len]; simp
  rw [hvl] at hE ⊢
  rw [← rowsB_zeros, ← rowsOf_NB (by omega), ← tri_zero (fun a b => e (atL xs b) (atL xs a))] at hE
  have hS := SG.ofRes (ms := NB xs.length (tri (fun a b => e (atL xs b) (atL xs a)) 0 0)) hz0 hR0 hE hb3 (by simp)
  obtain ⟨C, hCe⟩ : ∃ C, w3.heap.size = C := ⟨_, rfl⟩
  rw [hCe] at hS
  clear hE hb3 hvl hR0
  go_wp2_with fail
  go_loopw [6] (fun i wr => ∃ (k : Nat) (vs : List Value), k ≤ xs.length ∧ i = .int .i64 k ∧ SG W0 (B + 1) C a3 xs.length c3 vs (NB xs.length (tri (fun a b => e (atL xs b) (atL xs a)) k 0)) wr) (fun i _ => xs.length - (intOf i).toNat)
  case atStart => exact ⟨0, vs, Nat.zero_le _, rfl, hS⟩
  case round =>
    clear hS
    obtain ⟨k, vs, hk, rfl, hS⟩ := hrel
    by_cases hlt : k < xs.length
    · go_wp2_with fail
      go_loopw [7] (fun i wr => ∃ (j : Nat) (vs : List Value), j ≤ k ∧ i = .int .i64 j ∧ SG W0 (B + 1) C a3 xs.length c3 vs (NB xs.length (tri (fun a b => e (atL xs b) (atL xs a)) k j)) wr) (fun i _ => k - (intOf i).toNat)
      case atStart => exact ⟨0, vs, Nat.zero_le _, rfl, hS⟩
      case round =>
        clear hS
        obtain ⟨j, vs, hj, rfl, hS⟩ := hrel
        by_cases hjt : j < k
        · have hcg := (VG0.belowAt hS.bel (by omega)).cell
          have hGr : RdSS (.slice a n c) (rowsB n e) wr := (hr.below u1 hB).below hS.bel hz0
          have hSr : RdS (.slice a2 xs.length c2) xs wr := RdS.below (RdS.below hs u1 hB) hS.bel hz0
          obtain ⟨xb, xo, x, rfl, hcx, HX⟩ := hSr.intAt hlt
          obtain ⟨xb', xo', y, e', hcy, HY⟩ := hSr.intAt (j := j) (by omega)
          obtain ⟨rfl, rfl⟩ : xb = xb' ∧ xo = xo' := by simpa using e'
          obtain ⟨p, rfl, hp⟩ := HI.out.at HX.out
          obtain ⟨q, rfl, hq⟩ := HI.out.at HY.out
          have hjl : j < xs.length := by omega
          have hpe := atL_eq HX.out
          have hqe := atL_eq HY.out
          have hGd : RdSS (.slice a n c) (rowsB n e) wr.drew := hGr.below (below_drewN' wr 1) rfl
          have hSd : SG W0 (B + 1) C a3 xs.length c3 vs (NB xs.length (tri (fun a b => e (atL xs b) (atL xs a)) k j)) wr.drew := hS.below (below_drewN' wr 1)
          cases hejk : e p q with
          | false =>
            have hstep := Lib.hid (tri_no (fun a b => e (atL xs b) (atL xs a)) (k := k) (j := j) (by simp only [hpe, hqe]; exact hejk))
            have HC := Lib.hid (edge_adj _ n e p q hp hq wr.drew hGd _ _ rfl rfl false hejk)
            clear hejk hGr hGd hSr e' hpe hqe hS
            go_wp2_with fail
            refine wp_region_ord [1, 2, 3, 5, 6, 7] [0, 4, 8] [] [9] (by kernel_rfl) (by kernel_rfl) (fun _ _ d _ _ h => by cases d <;> exact h) ?_
            simp only [pickOps, List.filterMap_cons, List.filterMap_nil, List.getElem?_cons_succ, List.getElem?_cons_zero]
            repeat quiet_step (fail)
            simp only [wpQuiet_nil_eq, wpSegs_nil_eq]
            go_wp2_with fail
            refine HC.out.mono ?_
            rintro e1 w5 ⟨rfl, hb5⟩
            replace hS := hSd.below hb5
            clear hb5 hcg hSd
            go_wp2_with fail
            go_roundw
            case rel => exact ⟨j + 1, vs, by omega, by go_num, by rw [← hstep.out]; exact hS⟩
            case measure => simp [intOf]; omega
          | true =>
            have hstep := Lib.hid (tri_yes (fun a b => e (atL xs b) (atL xs a)) (k := k) (j := j) (by simp only [hpe, hqe]; exact hejk) hjt)
            have HC := Lib.hid (edge_adj _ n e p q hp hq wr.drew hGd _ _ rfl rfl true hejk)
            clear hejk hGr hGd hSr e' hpe hqe hS
            go_wp2_with fail
            refine wp_region_ord [1, 2, 3, 5, 6, 7] [0, 4, 8] [] [9] (by kernel_rfl) (by kernel_rfl) (fun _ _ d _ _ h => by cases d <;> exact h) ?_
            simp only [pickOps, List.filterMap_cons, List.filterMap_nil, List.getElem?_cons_succ, List.getElem?_cons_zero]
            repeat quiet_step (fail)
            simp only [wpQuiet_nil_eq, wpSegs_nil_eq]
            go_wp2_with fail
            refine HC.out.mono ?_
            rintro e1 w5 ⟨rfl, hb5⟩
            replace hS := hSd.below hb5
            clear hb5 hcg hSd
            have hcC := hS.var.cell
            go_wp2_with fail
            refine (hS.link j k _ _ rfl rfl (by omega) (by omega) (by omega)).mono ?_
            rintro e1 w6 ⟨rfl, vs6, hS6⟩
            rw [joinS_NB _ (by omega) (by omega), hstep.out] at hS6
            have hcC6 := hS6.var.cell
            have hfC6 := hS6.var.free
            clear hS hcC
            go_wp2_with fail
            go_roundw
            case rel => exact ⟨j + 1, vs6, by omega, by go_num, hS6.store⟩
            case measure => simp [intOf]; omega
        · obtain rfl : j = k := by omega
          go_wp2_with fail
          go_roundw
          case rel => exact ⟨j + 1, vs, by omega, by go_num, by rw [← tri_next]; exact hS⟩
          case measure => simp [intOf]; omega
    · obtain rfl : k = xs.length := by omega
      have hcC := hS.var.cell
      have hcR := hS.res.cell
      have hfR := hS.res.free
      have HCE := Lib.hid (hS.res.set (.slice a3 xs.length c3)).cell
      go_wp2_with fail
      refine bodyPost_ret (v := .agg #[.slice a3 xs.length c3]) (by simp [results, Tryd.results74, go_sem, HCE.out]) rfl ?_
      rw [tri_all] at hS
      refine ⟨_, vs, rfl, ?_, ?_⟩
      · rw [← rowsOf_NB (by omega), hB]; exact (hS.res.own hS.own).rebase (by omega)
      · rw [hB]; exact u1.trans ((hS.bel.setCell (Nat.le_refl _) _).mono (by omega))
end Go.Proofs.YtikcooagdaghnaaDoor
