/-
  The kind Formula (a struct around []Fact): the helpers of the laws.
-/
import Derived.Test.YtbhobmngnjfgfaaDoorForK
namespace Go.Proofs.YtbhobmngnjfgfaaDoor
open Go.RowKit

theorem eqO_k {v1 v2 : Value} {L : List (Int × Int × Int)} {w : World} (h1 : RdF v1 L w) (h2 : RdF v2 L w) :
    Calls Tryd.prog 28 #[.agg #[v1], .agg #[v2]] w fun e w' => e = .returned (.bool true) ∧ Upd 0 0 w w' := by
  obtain ⟨a1, c1, rfl, -, -, -⟩ := id h1
  obtain ⟨a2, c2, rfl, -, -, -⟩ := id h2
  obtain ⟨B, hB⟩ : ∃ B, w.heap.size = B := ⟨_, rfl⟩
  obtain ⟨W0, hW0⟩ : ∃ W0, W0 = (w.alloc (.cells #[.slice a1 L.length c1] 46)).alloc (.cells #[.slice a2 L.length c2] 46) := ⟨_, rfl⟩
  have u0 : Below B w W0 := by rw [hW0]; exact ((Below.refl _ _ : Below B w w).alloc (by omega) _).alloc (by simp; omega) _
  have hz0 : W0.heap.size = B + 2 := by rw [hW0]; simp [hB]
  have CE := Lib.hid (eqF_k (RdF.below h1 u0 hB) (RdF.below h2 u0 hB))
  go_enter Tryd.func28, Tryd.ntmps28
  go_wp2_with fail
  rw [← hW0]
  clear hW0
  refine CE.out.mono ?_
  rintro e w1 ⟨rfl, u⟩
  have hb := u.below u0 (by omega) (by omega)
  clear CE u
  go_wp2_with fail
  go_ret
  exact ⟨rfl, Upd.of_below (by rw [hB]; exact hb)⟩

theorem markO_k {lo hi : Nat} {v : Value} {L : List (Int × Int × Int)} {w : World} (h : OwF lo hi v L w) {k : Nat} {K0 K' : Int} (hK : K0 = k) (hK' : K' = ((k + 3 * L.length : Nat) : Int)) (hk : k + 3 * L.length ≤ 1000000000) :
    Calls Tryd.prog 29 #[.agg #[v], .int .i64 K0] w fun e w' => e = .returned (.int .i64 K') ∧ True ∧ Upd lo hi w w' := by
  obtain ⟨a1, c1, rfl⟩ := h.shape
  obtain ⟨B, hB⟩ : ∃ B, w.heap.size = B := ⟨_, rfl⟩
  have hhi : ∀ y, (Value.slice a1 L.length c1).ownBlock = some y → lo ≤ y ∧ y < hi ∧ y < B := fun y hy => ⟨(owns_lt h.own hy).1, h.hi y hy, hB ▸ (owns_lt h.own hy).2⟩
  obtain ⟨W0, hW0⟩ : ∃ W0, W0 = w.alloc (.cells #[.slice a1 L.length c1] 46) := ⟨_, rfl⟩
  have u0 : Upd 0 0 w W0 := by rw [hW0]; exact Upd.alloc _ _
  have CE := Lib.hid (markF_k (h.upd u0 (by omega)) hK hK' hk)
  have HU := Lib.hid u0
  clear hK hK' h hhi u0
  go_enter Tryd.func29, Tryd.ntmps29
  go_wp2_with fail
  rw [← hW0]
  clear hW0
  refine CE.out.mono ?_
  rintro e w1 ⟨rfl, -, u⟩
  have HU2 := Lib.hid u
  clear CE u
  go_wp2_with fail
  go_ret
  refine ⟨rfl, trivial, ?_⟩
  have a1 := HU.out
  have a2 := HU2.out
  have s1 := a1.size
  exact ⟨a2.os.trans a1.os, a2.tape.trans a1.tape, a2.output.trans a1.output, by have := a2.size; omega, fun y hy hn => (a2.block y (by omega) hn).trans (a1.block y hy (by omega))⟩

set_option maxHeartbeats 400000 in
theorem szO_k {v : Value} {L : List (Int × Int × Int)} {w : World} (h : RdF v L w) {M : Int} (hL : M ≤ 1048576) (hL0 : 0 ≤ M) :
    Calls Tryd.prog 24 #[.agg #[v], .int .i64 M] w fun e w' => ∃ r, e = .returned (.int .i64 r) ∧ LeftS M L.length r ∧ Upd 0 0 w w' := by
  obtain ⟨a, c, rfl, -, -, -⟩ := id h
  have hu := Upd.alloc w (.cells #[.slice a L.length c] 41)
  have h2 := RdF.below h (below_alloc' w (.cells #[.slice a L.length c] 41)) rfl
  go_enter Tryd.func24, Tryd.ntmps24
  go_wp2_with fail
  refine (szF_k h2 hL hL0).mono ?_
  rintro e w' ⟨r, rfl, hr, hu2⟩
  rcases hr with rfl | ⟨h0, hr⟩
  · go_wp2_with fail
    go_ret
    exact ⟨-1, rfl, .inl rfl, ⟨hu2.os.trans hu.os, hu2.tape.trans hu.tape, hu2.output.trans hu.output, by have := hu.size; have := hu2.size; omega, fun k hk _ => (hu2.block k (by have := hu.size; omega) (by omega)).trans (hu.block k hk (by omega))⟩⟩
  · have HR := Lib.hid hr
    clear hr
    go_wp2_with fail
    go_ret
    exact ⟨r, rfl, .inr ⟨h0, HR.out⟩, ⟨hu2.os.trans hu.os, hu2.tape.trans hu.tape, hu2.output.trans hu.output, by have := hu.size; have := hu2.size; omega, fun k hk _ => (hu2.block k (by have := hu.size; omega) (by omega)).trans (hu.block k hk (by omega))⟩⟩

set_option maxHeartbeats 1000000 in
theorem toO_k {v : Value} {L : List (Int × Int × Int)} {w : World} (h : RdF v L w) (hn : L.length ≤ 1048576) {lo : Nat} (hlo : w.heap.size = lo) :
    Calls Tryd.prog 26 #[.agg #[v]] w fun e w' => ∃ u, e = .returned (.agg #[u]) ∧ OwF lo w'.heap.size u L w' ∧ Upd 0 0 w w' := by
  obtain ⟨a, c, rfl, -, -, -⟩ := id h
  have u1 := below_alloc' w (.cells #[.slice a L.length c] 41)
  have u2 := below_alloc' (w.alloc (.cells #[.slice a L.length c] 41)) (.cells #[.slice none 0 0] 46)
  have u3 := below_alloc' ((w.alloc (.cells #[.slice a L.length c] 41)).alloc (.cells #[.slice none 0 0] 46)) (.cells #[.slice none 0 0] 46)
  have u12 := u1.trans (u2.mono (by simp))
  have u13 := u12.trans (u3.mono (by simp; omega))
  have V1 : VC 46 (lo + 1) #[.slice none 0 0] ((w.alloc (.cells #[.slice a L.length c] 41)).alloc (.cells #[.slice none 0 0] 46)) := VC.new (by simp [hlo])
  have V2 : VC 46 (lo + 2) #[.slice none 0 0] (((w.alloc (.cells #[.slice a L.length c] 41)).alloc (.cells #[.slice none 0 0] 46)).alloc (.cells #[.slice none 0 0] 46)) := VC.new (by simp [hlo])
  have V1' := V1.upd (Upd.of_below u3) (by omega)
  have h3 := RdF.below h u13 rfl
  have hsz3 : (((w.alloc (.cells #[.slice a L.length c] 41)).alloc (.cells #[.slice none 0 0] 46)).alloc (.cells #[.slice none 0 0] 46)).heap.size = lo + 3 := by simp [hlo]
  clear u1 u2 u3 u12 V1
  go_enter Tryd.func26, Tryd.ntmps26
  go_wp2_with fail
  generalize (((w.alloc (.cells #[.slice a L.length c] 41)).alloc (.cells #[.slice none 0 0] 46)).alloc (.cells #[.slice none 0 0] 46)) = W at *
  refine (toF_k h3 hn hsz3).mono ?_
  rintro e w1 ⟨u, rfl, hO, hu⟩
  obtain ⟨ua, uc, rfl⟩ := hO.shape
  have V1'' := V1'.upd hu (by omega)
  have V2' := V2.upd hu (by omega)
  have hf := V2'.free
  have hf1 := V1''.free
  have hc := V2'.cell
  have hc1 := V1''.cell
  have hb : Below lo w w1 := by subst hlo; exact hu.below u13 (by omega) (by omega)
  have hlt1 := V1''.lt
  have hlt2 := V2'.lt
  clear V1' V2 hu u13
  have hO2 : OwF lo ((w1.setCell ⟨lo + 2, 0, none⟩ (.slice ua L.length uc)).setCell ⟨lo + 1, 0, none⟩ (.slice ua L.length uc)).heap.size (.slice ua L.length uc) L ((w1.setCell ⟨lo + 2, 0, none⟩ (.slice ua L.length uc)).setCell ⟨lo + 1, 0, none⟩ (.slice ua L.length uc)) := by
    have g := (hO.upd (Upd.setCell (lo + 2) w1 (.slice ua L.length uc)) (by omega)).upd (Upd.setCell (lo + 1) _ (.slice ua L.length uc)) (by omega)
    have e2 : ((w1.setCell ⟨lo + 2, 0, none⟩ (.slice ua L.length uc)).setCell ⟨lo + 1, 0, none⟩ (.slice ua L.length uc)).heap.size = w1.heap.size := by simp [World.setCell]
    exact ⟨owns_base g.own (by omega), fun k hk => by rw [e2]; exact g.hi k hk⟩
  have hb2 := (hb.setCell (p := ⟨lo + 2, 0, none⟩) (by simp) (.slice ua L.length uc)).setCell (p := ⟨lo + 1, 0, none⟩) (by simp) (.slice ua L.length uc)
  have HCE := Lib.hid (VC.cell (show VC 46 (lo + 1) #[.slice ua L.length uc] ((w1.setCell ⟨lo + 2, 0, none⟩ (.slice ua L.length uc)).setCell ⟨lo + 1, 0, none⟩ (.slice ua L.length uc)) from one_setCell (show VC 46 (lo + 1) #[.slice none 0 0] (w1.setCell ⟨lo + 2, 0, none⟩ (.slice ua L.length uc)) from (Below.heap_setCell _ _ _ _ (by simp)).trans V1'')))
  have H2 := Lib.hid hb2
  clear hb2 hb
  go_wp2_with fail
  refine bodyPost_ret (v := .agg #[.slice ua L.length uc]) (by simp [results, Tryd.results26, go_sem, HCE.out]) rfl ?_
  exact ⟨_, rfl, hO2, Upd.of_below (by subst hlo; exact H2.out)⟩
end Go.Proofs.YtbhobmngnjfgfaaDoor
