/-
  The kind Model (rows): the helpers of the laws.
-/
import Derived.Test.YtehejjmmbjekgaaDoorKinds
namespace Go.Proofs.YtehejjmmbjekgaaDoor
open Go.RowKit

set_option maxHeartbeats 400000 in
theorem eqModel_any (v1 v2 : Value) (vs1 vs2 : List Value) (xss yss : List (List Int)) (w : World) (h1 : RdG w v1 vs1 (xss.map ints)) (h2 : RdG w v2 vs2 (yss.map ints)) :
    Calls Tryd.prog 26 #[.agg #[v1], .agg #[v2]] w fun e w' => e = .returned (.bool (decide (xss = yss))) ∧ Below w.heap.size w w' := by
  obtain ⟨a1, c1, rfl, -, -, -⟩ := id h1.outer
  obtain ⟨a2, c2, rfl, -, -, -⟩ := id h2.outer
  have hbel : ∀ o1 o2, Below w.heap.size w ((w.alloc o1).alloc o2) := fun o1 o2 => ((Below.refl _ _).alloc (Nat.le_refl _) _).alloc (by simp) _
  go_enter Tryd.func26, Tryd.ntmps26
  go_wp2_with fail
  refine (eqSS_any _ _ vs1 vs2 xss yss _ (h1.below (hbel _ _)) (h2.below (hbel _ _))).mono ?_
  rintro e w1 ⟨rfl, hb1⟩
  have hb2 := (hbel _ _).trans (hb1.mono (hbel _ _).size)
  clear hb1
  by_cases hd : xss = yss
  · have hd' : decide (xss = yss) = true := by simp [hd]
    rw [hd']
    have HD := Lib.hid hd'
    clear hd hd'
    go_wp2_with fail
    go_ret
    exact ⟨by rw [HD.out]; rfl, hb2⟩
  · have hd' : decide (xss = yss) = false := by simp [hd]
    rw [hd']
    have HD := Lib.hid hd'
    clear hd hd'
    go_wp2_with fail
    go_ret
    exact ⟨by rw [HD.out]; rfl, hb2⟩

theorem markModel_any (v : Value) (vs : List Value) (css : List (List Value)) (base : Nat) (k : Nat) (w : World) (hk : k + (css.map List.length).sum ≤ 1000000000) (hn : css.length ≤ 1000000000) (h : OwnG w base 38 2 v vs css) :
    Calls Tryd.prog 29 #[.agg #[v], .int .i64 k] w fun e w' => e = .returned (.int .i64 ((k + (css.map List.length).sum : Nat) : Int)) ∧
      OwnG w' base 38 2 v vs ((number k (css.map List.length)).map ints) ∧ Wrote w w' (fun b => ∃ u ∈ vs, u.ownBlock = some b) := by
  obtain ⟨a, cap, rfl⟩ := owns_shape h.outer
  go_enter Tryd.func29, Tryd.ntmps29
  go_wp2_with fail
  refine (markSS_any _ vs css base k _ hk hn (h.below ((Below.refl _ _).alloc (Nat.le_refl _) _))).mono ?_
  rintro e w1 ⟨rfl, h1, h2⟩
  go_wp2_with fail
  go_ret
  exact ⟨rfl, h1, ((Wrote.of_below ((Below.refl w.heap.size w).alloc (Nat.le_refl _) _)).mono (fun k hk hk' => (by omega : False).elim)).trans h2 (fun _ _ h => h)⟩

theorem heldModel_any (v : Value) (vs : List Value) (ns : List Nat) (k : Nat) (w : World) (hk : k + ns.sum ≤ 1000000000) (hn : ns.length ≤ 1000000000) (h : RdG w v vs ((number k ns).map ints)) :
    Calls Tryd.prog 30 #[.agg #[v], .int .i64 k] w fun e w' => e = .returned (.int .i64 ((k + ns.sum : Nat) : Int)) ∧ Below w.heap.size w w' := by
  obtain ⟨a, cap, rfl, -, -, -⟩ := id h.outer
  have hbel : ∀ o, Below w.heap.size w (w.alloc o) := fun o => (Below.refl _ _).alloc (Nat.le_refl _) _
  have hnn : ¬ ((k + ns.sum : Nat) : Int) < 0 := by omega
  go_enter Tryd.func30, Tryd.ntmps30
  go_wp2_with fail
  refine (heldSS_any _ vs ns k _ hk hn (h.below (hbel _))).mono ?_
  rintro e w1 ⟨rfl, rfl⟩
  go_wp2_with fail
  go_ret
  exact ⟨rfl, hbel _⟩

theorem eqM_k {v1 v2 : Value} {xss : List (List Int)} {w : World} (h1 : RdSS v1 xss w) (h2 : RdSS v2 xss w) :
    Calls Tryd.prog 26 #[.agg #[v1], .agg #[v2]] w fun e w' => e = .returned (.bool true) ∧ Upd 0 0 w w' := by
  obtain ⟨vs1, h1⟩ := h1.ex
  obtain ⟨vs2, h2⟩ := h2.ex
  exact (eqModel_any v1 v2 vs1 vs2 xss xss w h1 h2).mono fun _ _ ⟨he, hb⟩ => ⟨by rw [he]; exact ret_bool (by simp), Upd.of_below hb⟩

theorem markM_k {lo hi : Nat} {v : Value} {xss : List (List Int)} {w : World} (h : OwSS lo hi v xss w) {k : Nat} {K K' : Int} (hK : K = k) (hK' : K' = ((k + total xss : Nat) : Int)) (hk : k + total xss ≤ 1000000000) (hn : xss.length ≤ 1000000000) :
    Calls Tryd.prog 29 #[.agg #[v], .int .i64 K] w fun e w' => e = .returned (.int .i64 K') ∧ OwSS lo hi v (markedFrom k xss) w' ∧ Upd lo hi w w' := by
  subst hK; subst hK'
  obtain ⟨vs, hG, hh⟩ := h.ex
  refine (markModel_any v vs (xss.map ints) lo k w (by rw [total_ints]; exact hk) (by simpa using hn) hG).mono ?_
  rintro e w' ⟨rfl, h1, h2⟩
  exact ⟨by rw [total_ints], ⟨vs, h1, hh⟩, Upd.of_wrote h2 fun b hb => ⟨(hG.lt (.inr hb)).1, hh b (.inr hb)⟩⟩

theorem heldM_k {v : Value} {xss : List (List Int)} {w : World} {k : Nat} (h : RdSS v (markedFrom k xss) w) {K K' : Int} (hK : K = k) (hK' : K' = ((k + total xss : Nat) : Int)) (hk : k + total xss ≤ 1000000000) (hn : xss.length ≤ 1000000000) :
    Calls Tryd.prog 30 #[.agg #[v], .int .i64 K] w fun e w' => e = .returned (.int .i64 K') ∧ Upd 0 0 w w' := by
  subst hK; subst hK'
  obtain ⟨vs, h⟩ := h.ex
  refine (heldModel_any v vs _ k w (by rw [total_ints]; exact hk) (by simpa using hn) h).mono ?_
  rintro e w' ⟨rfl, hb⟩
  exact ⟨by rw [total_ints], Upd.of_below hb⟩

set_option maxHeartbeats 400000 in
theorem szM_k {v : Value} {xss : List (List Int)} {w : World} (h : RdSS v xss w) {L : Int} (hL : L ≤ 1048576) (hL0 : 0 ≤ L) :
    Calls Tryd.prog 32 #[.agg #[v], .int .i64 L] w fun e w' => ∃ r, e = .returned (.int .i64 r) ∧ LeftS L (xss.length + total xss) r ∧ Upd 0 0 w w' := by
  obtain ⟨a, c, rfl⟩ := h.shape
  have hu := Upd.alloc w (.cells #[.slice a xss.length c] 50)
  have h2 := h.below (below_alloc' w (.cells #[.slice a xss.length c] 50)) rfl
  go_enter Tryd.func32, Tryd.ntmps32
  go_wp2_with fail
  refine (szSS_k h2 hL hL0).mono ?_
  rintro e w' ⟨r, rfl, hr, hu2⟩
  rcases hr with rfl | ⟨h0, hr⟩
  · go_wp2_with fail
    go_ret
    exact ⟨-1, rfl, .inl rfl, ⟨hu2.os.trans hu.os, hu2.tape.trans hu.tape, hu2.output.trans hu.output, by have := hu.size; have := hu2.size; omega, fun k hk _ => (hu2.block k (by have := hu.size; omega) (by omega)).trans (hu.block k hk (by omega))⟩⟩
  · have HR := Lib.hid hr
    clear hr
    go_wp2_with fail
    go_ret
    exact ⟨r, rfl, .inr ⟨h0, HR.out⟩, ⟨hu2.os.trans hu.os, hu2.tape.trans hu.tape, hu2.output.trans hu.output, by have := hu.size; have := hu2.size; omega, fun k hk _ => (hu2.block k (by have := hu.size; omega) (by omega)).trans (hu.block k hk (by omega))⟩⟩

set_option maxHeartbeats 400000 in
theorem toM_k {v : Value} {xss : List (List Int)} {w : World} (h : RdSS v xss w) (hn : xss.length ≤ 1048576) (hs : ∀ xs ∈ xss, xs.length ≤ 1048576) {lo : Nat} (hlo : w.heap.size = lo) :
    Calls Tryd.prog 35 #[.agg #[v]] w fun e w' => ∃ u, e = .returned (.agg #[u]) ∧ OwSS lo w'.heap.size u xss w' ∧ Upd 0 0 w w' := by
  obtain ⟨a, c, rfl⟩ := h.shape
  have u1 := below_alloc' w (.cells #[.slice a xss.length c] 50)
  have u2 := below_alloc' (w.alloc (.cells #[.slice a xss.length c] 50)) (.cells #[.slice none 0 0] 40)
  have u3 := below_alloc' ((w.alloc (.cells #[.slice a xss.length c] 50)).alloc (.cells #[.slice none 0 0] 40)) (.cells #[.slice none 0 0] 40)
  have u12 := u1.trans (u2.mono (by simp))
  have u13 := u12.trans (u3.mono (by simp; omega))
  have V1 : VC 40 (lo + 1) #[.slice none 0 0] ((w.alloc (.cells #[.slice a xss.length c] 50)).alloc (.cells #[.slice none 0 0] 40)) := VC.new (by simp [hlo])
  have V2 : VC 40 (lo + 2) #[.slice none 0 0] (((w.alloc (.cells #[.slice a xss.length c] 50)).alloc (.cells #[.slice none 0 0] 40)).alloc (.cells #[.slice none 0 0] 40)) := VC.new (by simp [hlo])
  have V1' := V1.upd (Upd.of_below u3) (by omega)
  have h3 := h.below u13 rfl
  have hsz3 : (((w.alloc (.cells #[.slice a xss.length c] 50)).alloc (.cells #[.slice none 0 0] 40)).alloc (.cells #[.slice none 0 0] 40)).heap.size = lo + 3 := by simp [hlo]
  have HS := Lib.hid hs
  clear hs u1 u2 u3 u12 V1
  go_enter Tryd.func35, Tryd.ntmps35
  go_wp2_with fail
  generalize (((w.alloc (.cells #[.slice a xss.length c] 50)).alloc (.cells #[.slice none 0 0] 40)).alloc (.cells #[.slice none 0 0] 40)) = W at *
  refine (toSS_k h3 hn HS.out hsz3).mono ?_
  rintro e w1 ⟨u, rfl, hO, hu⟩
  obtain ⟨ua, uc, rfl⟩ := hO.shape
  have V1'' := V1'.upd hu (by omega)
  have V2' := V2.upd hu (by omega)
  have hf := V2'.free
  have hf1 := V1''.free
  have hc := V2'.cell
  have hc1 := V1''.cell
  have hb : Below lo w w1 := by subst hlo; exact hu.below u13 (by omega) (by omega)
  have hlt1 := V1''.lt
  have hlt2 := V2'.lt
  clear V1' V2 hu u13 HS
  have hO2 : OwSS lo ((w1.setCell ⟨lo + 2, 0, none⟩ (.slice ua xss.length uc)).setCell ⟨lo + 1, 0, none⟩ (.slice ua xss.length uc)).heap.size (.slice ua xss.length uc) xss ((w1.setCell ⟨lo + 2, 0, none⟩ (.slice ua xss.length uc)).setCell ⟨lo + 1, 0, none⟩ (.slice ua xss.length uc)) := by
    obtain ⟨vs, hG, hh⟩ := hO.ex
    have e1 : (w1.setCell ⟨lo + 2, 0, none⟩ (.slice ua xss.length uc)).heap.size = w1.heap.size := by simp [World.setCell]
    have e2 : ((w1.setCell ⟨lo + 2, 0, none⟩ (.slice ua xss.length uc)).setCell ⟨lo + 1, 0, none⟩ (.slice ua xss.length uc)).heap.size = w1.heap.size := by simp [World.setCell]
    refine ⟨vs, ((hG.other (by simp) _).other (by simp) _).rebase (by omega), fun k hk => by rw [e2]; exact hh k hk⟩
  have hb2 := (hb.setCell (p := ⟨lo + 2, 0, none⟩) (by simp) (.slice ua xss.length uc)).setCell (p := ⟨lo + 1, 0, none⟩) (by simp) (.slice ua xss.length uc)
  have HCE := Lib.hid (VC.cell (show VC 40 (lo + 1) #[.slice ua xss.length uc] ((w1.setCell ⟨lo + 2, 0, none⟩ (.slice ua xss.length uc)).setCell ⟨lo + 1, 0, none⟩ (.slice ua xss.length uc)) from one_setCell (show VC 40 (lo + 1) #[.slice none 0 0] (w1.setCell ⟨lo + 2, 0, none⟩ (.slice ua xss.length uc)) from (Below.heap_setCell _ _ _ _ (by simp)).trans V1'')))
  have H2 := Lib.hid hb2
  clear hb2 hb
  go_wp2_with fail
  refine bodyPost_ret (v := .agg #[.slice ua xss.length uc]) (by simp [results, Tryd.results35, go_sem, HCE.out]) rfl ?_
  exact ⟨_, rfl, hO2, Upd.of_below (by subst hlo; exact H2.out)⟩
end Go.Proofs.YtehejjmmbjekgaaDoor
