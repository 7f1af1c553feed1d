import Derived.Test.YtbhobmngnjfgfaaDoorGq14
import Derived.Test.YtbhobmngnjfgfaaDoorSmCoverM
import Derived.Test.YtbhobmngnjfgfaaDoorSmRuleM
/-
  'LeastRule', 'LeastCover', 'BestStable', 'BestClique' of the program.
-/



namespace Go.Proofs.YtbhobmngnjfgfaaDoor
open Go.RowKit

/-- What a search gives: the least set by a key that fits. -/
def SearchP (key : Nat → Nat) (fit : Nat → (Nat → Nat → Bool) → Nat → Bool) (xss : List (List Int)) (rs : List Int) : Prop :=
  (okB xss = false ∧ rs = []) ∨ ∃ e r, Adj xss.length e ∧ xss = rowsB xss.length e ∧ IsBest key (fun s => fit xss.length e s = true) (2 ^ xss.length) r ∧ rs = rowB xss.length r.testBit
def ruleF (n : Nat) (e : Nat → Nat → Bool) (m : Nat) : Bool := ruleB n e m.testBit
def covF (n : Nat) (e : Nat → Nat → Bool) (m : Nat) : Bool := covB n e m.testBit
def stF (n : Nat) (e : Nat → Nat → Bool) (m : Nat) : Bool := stB n e m.testBit

def clF (n : Nat) (e : Nat → Nat → Bool) (m : Nat) : Bool := stB n (coE e) m.testBit
theorem pow_le_32 {n : Nat} (hn : n ≤ 16) : 2 ^ n ≤ 4294967296 := by have := Nat.pow_le_pow_right (n := 2) (j := 16) (by decide) hn; omega

set_option maxHeartbeats 1000000 in
theorem rule1_any (v : Value) (n : Nat) (e : Nat → Nat → Bool) (hn : n ≤ 16) (s : Nat) (hs : s < 2 ^ n) (A : Nat) (W : World) (ht : Tab W) (hA : VC 120 A #[v] W) (hr : Row W 1 v n (sets (NB n e))) :
    Calls Tryd.prog 110 #[.int .u32 (s : Nat), .pointer (some ⟨A, 0, none⟩)] W fun r W' => r = .returned (.bool (ruleF n e s)) ∧ Below W.heap.size W W' := by
  obtain ⟨si, HSI⟩ : ∃ z : Int, Hid ((s : Int) = z) := ⟨_, Lib.hid rfl⟩
  have HS := Lib.hid (rules_any v n e hn s.testBit si (by rw [← HSI.out, mask_self hs]) W ht hr)
  have hc := hA.cell
  obtain ⟨a, c, rfl, -, -, -⟩ := id hr
  rw [HSI.out]
  clear hs
  go_enter Tryd.func110, Tryd.ntmps110
  go_wp2_with fail
  refine HS.out.mono ?_
  rintro e2 w1 ⟨rfl, hb1⟩
  go_wp2_with fail
  go_ret
  exact ⟨ret_bool rfl, hb1⟩

set_option maxHeartbeats 2000000 in
theorem implLeastRule (g : Value) (xss : List (List Int)) (w : World) (ht : Tab w) (hr : RdSS g xss w) (rs : List Int) (h : SearchP size ruleF xss rs) :
    Calls Tryd.prog 41 #[.agg #[g]] w (SRes w rs) := by
  have hmf : ∀ (fn : Fn) (first cap : Array Value) (w : World), (Instr.makeFunc fn first cap).run Tryd.prog w = .ok (.func fn first cap) w := fun _ _ _ _ => rfl
  obtain ⟨a, c, rfl⟩ := hr.shape
  obtain ⟨B, hB⟩ : ∃ B, w.heap.size = B := ⟨_, rfl⟩
  have hTB : 2 < B := by rw [← hB]; exact ht.lt
  have u1 : Below B w (w.alloc (.cells #[.slice a xss.length c] 56)) := by subst hB; exact below_alloc' _ _
  have VG0 : VC 56 B #[.slice a xss.length c] (w.alloc (.cells #[.slice a xss.length c] 56)) := VC.new hB
  have hz0 : (w.alloc (.cells #[.slice a xss.length c] 56)).heap.size = B + 1 := by simp [hB]
  have H := Lib.hid h
  have hcg := VG0.cell
  clear h
  go_enter Tryd.func41, Tryd.ntmps41
  go_wp2_with fail
  generalize w.alloc (.cells #[.slice a xss.length c] 56) = W at *
  refine (implOk _ xss W (hr.below u1 hB)).mono ?_
  rintro e1 w1 ⟨rfl, hb1⟩
  have VG1 := VG0.upd (Upd.of_below hb1) (by omega)
  have hb := u1.trans (hb1.mono (by omega))
  have hz1 : B + 1 ≤ w1.heap.size := by have := hb1.size; omega
  clear hb1 hcg u1
  have hcg := VG1.cell
  cases hok : okB xss with
  | false =>
    obtain rfl : rs = [] := by
      rcases H.out with ⟨_, h⟩ | ⟨e, _, hA, hx, _⟩
      · exact h
      · rw [hx, okB_adj hA] at hok; cases hok
    clear hok
    go_wp2_with fail
    go_ret
    exact ⟨_, rfl, World.ownsRow_nil _ _ _ 1, by rw [hB]; exact hb⟩
  | true =>
    obtain ⟨e, r, hA, hx, hbe, hrs⟩ : ∃ e r, Adj xss.length e ∧ xss = rowsB xss.length e ∧ IsBest size (fun s => ruleF xss.length e s = true) (2 ^ xss.length) r ∧ rs = rowB xss.length r.testBit := by
      rcases H.out with ⟨h, _⟩ | h
      · rw [hok] at h; cases h
      · exact h
    have hn16 := hA.le
    have HRS := Lib.hid hrs
    have HBE := Lib.hid hbe
    have hr' := hr.below hb hB
    rw [hx, rowsB_length] at hr'
    have HN := Lib.hid (netsOf_any _ xss.length e hn16 w1 hr')
    clear hok hx hrs hr' H hA hbe
    go_wp2_with fail
    refine HN.out.mono ?_
    rintro e1 w2 ⟨u2, rfl, hN2, hb2⟩
    obtain ⟨na, nc, rfl⟩ := owns_shape hN2
    have hNr := Row.of_owns hN2
    have hb02 := hb.trans (hb2.mono (by omega))
    have hz2 := hb2.size
    obtain ⟨C, hC⟩ : ∃ C, w2.heap.size = C := ⟨_, rfl⟩
    obtain ⟨w3, hw3⟩ : ∃ w3, w3 = w2.alloc (.cells #[.slice na xss.length nc] 120) := ⟨_, rfl⟩
    have VA3 : VC 120 C #[.slice na xss.length nc] w3 := by rw [hw3]; exact VC.new hC
    have hz3 : w3.heap.size = C + 1 := by rw [hw3]; simp [hC]
    have hb23 : Below C w2 w3 := by rw [hw3, ← hC]; exact below_alloc' _ _
    have hb03 := hb02.trans (hb23.mono (by omega))
    have hca := VA3.cell
    have HSM := Lib.hid (smallest_any_rule C xss.length hn16 (ruleF xss.length e) w3 (fun s W hs hbW => by
      have hbw3 : Below C w2 W := hb23.trans (hbW.mono (by omega))
      exact rule1_any (.slice na xss.length nc) xss.length e hn16 s hs C W (ht.keep (hb02.trans (hbw3.mono (by omega))) hTB) (VA3.belowAt hbW (by omega)) (hNr.below (hC.symm ▸ hbw3))))
    clear hN2 HN hb2 hcg
    go_wp2_with fail
    rw [← hw3]
    clear hw3
    refine HSM.out.mono ?_
    rintro e1 w4 ⟨r2, ok, rfl, HRR, hb4⟩
    have hb04 := hb03.trans (hb4.mono (by omega))
    have hz4 := hb4.size
    have hr2 : r2 = r := by
      rcases HRR.out with ⟨_, h⟩ | ⟨_, _, h⟩
      · exact h.unique (pow_le_32 hn16) HBE.out
      · have := h r HBE.out.lt
        rw [HBE.out.fits] at this
        cases this
    subst hr2
    obtain ⟨ri, HRI⟩ : ∃ z : Int, Hid ((r2 : Int) = z) := ⟨_, Lib.hid rfl⟩
    have HNU := Lib.hid (numbersB_any (n := xss.length) (by omega) r2.testBit ri (by rw [← HRI.out, mask_self HBE.out.lt]) w4 (ht.keep hb04 hTB))
    rw [← HRS.out] at HNU
    rw [HRI.out]
    clear HSM hb4 hca
    go_wp2_with fail
    refine HNU.out.mono ?_
    rintro e1 w5 ⟨u5, rfl, hL5, hb5⟩
    have hbf := hb04.trans (hb5.mono (by omega))
    have HL := Lib.hid (owns_base hL5 (show B ≤ w4.heap.size by omega))
    obtain ⟨la, lc, rfl⟩ := owns_shape hL5
    clear hb5 hL5 HNU
    go_wp2_with fail
    go_ret
    exact ⟨_, rfl, by rw [hB]; exact HL.out, by rw [hB]; exact hbf⟩

end Go.Proofs.YtbhobmngnjfgfaaDoor
