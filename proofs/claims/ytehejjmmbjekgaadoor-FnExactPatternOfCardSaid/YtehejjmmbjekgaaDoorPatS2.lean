/-
  'PatternOf' of the reference.
-/
import Derived.Test.YtehejjmmbjekgaaDoorPatS
import Derived.Test.YtehejjmmbjekgaaDoorOkay
namespace Go.Proofs.YtehejjmmbjekgaaDoor
open Go.RowKit

/-- Pairs put in, one by one. -/
def jm (L : List (Nat × Nat)) (n : Nat) : List Nat := L.foldl (fun ms p => joinS ms p.1 p.2) (List.replicate n 0)
theorem jm_snoc (L : List (Nat × Nat)) (p : Nat × Nat) (n : Nat) : jm (L ++ [p]) n = joinS (jm L n) p.1 p.2 := by simp [jm]
theorem foldl_joinS_length (L : List (Nat × Nat)) : ∀ ms : List Nat, (L.foldl (fun ms p => joinS ms p.1 p.2) ms).length = ms.length := by
  induction L with
  | nil => intro ms; rfl
  | cons p L ih => intro ms; rw [List.foldl_cons, ih]; simp
theorem jm_length (L : List (Nat × Nat)) (n : Nat) : (jm L n).length = n := by unfold jm; rw [foldl_joinS_length]; simp

theorem pairsL_len {a b : Nat} (ha : a ≤ 5) (hb : b ≤ 3) (i : Nat) : (pairsL a b i).length ≤ 8 * i := by
  induction i with
  | zero => simp [pairsL]
  | succ i ih =>
    rw [pairsL_succ, List.length_append]
    have : (rowP a b i).length ≤ 8 := by
      unfold rowP rowA rowC
      split <;> simp <;> omega
    omega

theorem pair_at {w : World} {u : Value} {p : Nat × Nat} (h : Row w 1 u (pairI p).length (ints (pairI p))) :
    ∃ b o c, u = .slice (some ⟨b, o, none⟩) 2 c ∧ w.cell? ⟨b, o, none⟩ = some (.int .i64 p.1) ∧ w.cell? ⟨b, o + 1, none⟩ = some (.int .i64 p.2) := by
  obtain ⟨a, c, rfl, -, -, -⟩ := id h
  obtain ⟨b, o, x, rfl, hc0, h0⟩ := Row.intAt (k := .i64) h (j := 0) (by simp [pairI])
  obtain ⟨b', o', y, e, hc1, h1⟩ := Row.intAt (k := .i64) h (j := 1) (by simp [pairI])
  obtain ⟨rfl, rfl⟩ : b = b' ∧ o = o' := by simpa using e
  have e0 : x = p.1 := by have := h0.out; simpa [pairI, eq_comm] using this
  have e1 : y = p.2 := by have := h1.out; simpa [pairI, eq_comm] using this
  subst e0; subst e1
  exact ⟨b, o, c, rfl, hc0, hc1⟩

/-- As 'SG.link', and what has been written. -/
theorem SG.link_wrote {w0 : World} {B C : Nat} {a : Option Addr} {n c : Nat} {vs : List Value} {ms : List Nat} {wr : World} (h : SG w0 B C a n c vs ms wr)
    (i j : Nat) (I J : Int) (hI : I = i) (hJ : J = j) (hi : i < n) (hj : j < n) (hn : n ≤ 32) :
    Calls Tryd.prog 69 #[.agg #[.slice a n c], .int .i64 I, .int .i64 J] wr fun e w' => e = .returned (.agg #[.slice a n c]) ∧ ∃ vs', SG w0 B C a n c vs' (joinS ms i j) w' ∧ Wrote wr w' (fun b => (Value.slice a n c).ownBlock = some b) := by
  have hl := h.len
  have hB := h.res.lt
  refine (link_sets (B + 1) (.slice a n c) vs ms i j I J hI hJ wr (by omega) (by omega) (by omega) (by omega) (by omega) (by omega) h.own).mono ?_
  rintro e w2 ⟨vs2, rfl, hG2, hw2⟩
  refine ⟨rfl, vs2, ⟨h.res.wrote hw2 ?_, h.var.wrote hw2 ?_, hG2, h.bel.trans (hw2.below (by omega) fun k hk => by have := (owns_lt h.own.outer hk).1; omega), h.ord, by simpa using hl⟩, hw2⟩
  · exact h.res.unlike h.own.outer (by decide)
  · exact h.var.unlike h.own.outer (by decide)

set_option maxHeartbeats 4000000 in
theorem specPatternOf (kd : Int) (w : World) :
    Calls Tryd.prog 12 #[.int .i64 kd] w (G1Res w (rowsOf (jm (pairsL (sideA kd) (sideB kd) (sideA kd)) (sideA kd + sideB kd)))) := by
  obtain ⟨B, hB⟩ : ∃ B, w.heap.size = B := ⟨_, rfl⟩
  have HS := fun W => Lib.hid (sides_any kd W)
  have HPR := fun W => Lib.hid (pairs23_any kd W)
  have hside := side_le kd
  have hlt := Lib.hid (pairsL_lt (Nat.le_refl (sideA kd)) (b := sideB kd))
  have hz : Hid (sideA kd = 0 → sideB kd = 0) := Lib.hid (by unfold sideA sideB; intro h; repeat' (split at h) <;> simp_all)
  generalize sideA kd = a at *
  generalize sideB kd = b at *
  obtain ⟨ha5, hb3⟩ := hside
  have hR0 : GC (w.alloc (.cells #[.slice none 0 0] 24)) B (.slice none 0 0) := by have := GC.new w (.slice none 0 0); rwa [hB] at this
  by_cases h0 : a = 0
  · have hd : ((a : Int) == 0) = true := by rw [beq_iff_eq]; omega
    have HR : Hid (rowsOf (jm (pairsL a b a) (a + b)) = []) := Lib.hid (by
      have := hz.out h0
      subst h0; subst this
      simp [jm, pairsL, rowsOf])
    have hcR := hR0.cell
    have hfR := hR0.free
    clear h0 hlt HPR
    go_enter Tryd.func12, Tryd.ntmps12
    go_wp2_with fail
    refine (HS _).out.mono ?_
    rintro e1 w' ⟨rfl, rfl⟩
    go_wp2_with fail
    refine bodyPost_ret (v := .agg #[.slice none 0 0]) (by simp [results, Tryd.results12, go_sem, hcR]) rfl ?_
    rw [HR.out]
    exact ⟨_, [], rfl, OwnG.nil _ _ (by decide) (World.ownsRow_nil _ _ _ 1), below_alloc' w _⟩
  · have hd : ((a : Int) == 0) = false := by rw [beq_eq_false_iff_ne]; omega
    obtain ⟨n, hn⟩ : ∃ n, a + b = n := ⟨_, rfl⟩
    have hn8 : n ≤ 8 := by omega
    have hni : (a : Int) + b = (n : Int) := by omega
    rw [hn] at hlt ⊢
    obtain ⟨L, HL⟩ : ∃ L, Hid (pairsL a b a = L) := ⟨_, Lib.hid rfl⟩
    have hL40 : L.length ≤ 40 := by have := pairsL_len ha5 hb3 a; rw [HL.out] at this; omega
    rw [HL.out] at hlt HPR ⊢
    clear h0 hz hn
    go_enter Tryd.func12, Tryd.ntmps12
    go_wp2_with fail
    refine (HS _).out.mono ?_
    rintro e1 w' ⟨rfl, rfl⟩
    have HNI := Lib.hid hni
    clear HS hni
    go_wp2_with fail
    try rw [HNI.out]
    refine (empty_any n (by omega) _).mono ?_
    rintro e1 w3 ⟨u, vs, rfl, hE, hb3'⟩
    obtain ⟨a3, c3, rfl⟩ := owns_shape hE.outer
    have hvl : vs.length = n := by rw [hE.len]; simp
    rw [hvl] at hE ⊢
    have hE' : OwnG w3 (w.alloc (.cells #[.slice none 0 0] 24)).heap.size 38 2 (.slice a3 n c3) vs ((rowsOf (jm (L.take 0) n)).map ints) := by
      rw [show jm (L.take 0) n = List.replicate n 0 from rfl, rowsOf_zeros]; exact hE
    have hS := SG.ofRes hB hR0 hE' hb3' (jm_length _ _)
    obtain ⟨C, hCe⟩ : ∃ C, w3.heap.size = C := ⟨_, rfl⟩
    have hgC : ∀ k, (Value.slice a3 n c3).ownBlock = some k → k < C := fun k hk => by rw [← hCe]; exact (owns_lt hE.outer hk).2
    rw [hCe] at hS
    clear hE hE' hb3' hvl hR0
    have hzC : (w3.alloc (.cells #[.slice a3 n c3] 24)).heap.size = C + 1 := by simp [hCe]
    go_wp2_with fail
    generalize w3.alloc (.cells #[.slice a3 n c3] 24) = w4 at *
    refine (HPR _).out.mono ?_
    rintro e1 w5 ⟨u, us, rfl, hO, hb5⟩
    rw [hzC] at hO
    replace hS := hS.below hb5
    obtain ⟨ua, uc, rfl⟩ := owns_shape hO.outer
    have hul : us.length = L.length := by rw [hO.len]; simp
    rw [hul] at hO ⊢
    clear hb5 HPR hzC
    go_wp2_with fail
    go_loopw [7] (fun i wr => ∃ (k : Nat) (vs : List Value), k ≤ L.length ∧ i = .int .i64 k ∧ SG w B C a3 n c3 vs (jm (L.take k) n) wr ∧ OwnG wr (C + 1) 92 3 (.slice ua L.length uc) us ((L.map pairI).map ints)) (fun i _ => L.length - (intOf i).toNat)
    case atStart => exact ⟨0, vs, Nat.zero_le _, rfl, hS, hO⟩
    case round =>
      clear hS hO
      obtain ⟨k, vs, hk, rfl, hS, hO⟩ := hrel
      have hcC := hS.var.cell
      have hfC := hS.var.free
      by_cases hlk : k < L.length
      · obtain ⟨pb, po, x, xs, rfl, hcx, hx, -, HX⟩ := hO.rd.intsAt (k := k) (by simpa using hlk)
        obtain ⟨p, hp⟩ : ∃ p, L[k]? = some p := ⟨_, List.getElem?_eq_getElem hlk⟩
        obtain rfl : xs = pairI p := by have := HX.out; rw [List.getElem?_map, hp] at this; simpa [eq_comm] using this
        obtain ⟨qb, qo, qc, rfl, hq0, hq1⟩ := pair_at hx
        have HJ : Hid (jm (L.take (k + 1)) n = joinS (jm (L.take k) n) p.1 p.2) := Lib.hid (by rw [take_snoc hp, jm_snoc])
        obtain ⟨hp1, hp2⟩ := hlt.out p (List.mem_of_getElem? hp)
        have hbd := below_drewN' wr 1
        have HLK := Lib.hid ((hS.below hbd).link_wrote p.1 p.2 (p.1 : Int) (p.2 : Int) rfl rfl (by omega) (by omega) (by omega))
        have hOd := hO.below hbd
        clear HX hp
        go_wp2_with fail
        refine wp_region_ord [1, 2, 3, 7, 8, 9] [0, 4, 5, 6, 10, 11, 12] [] [13, 14] (by kernel_rfl) (by kernel_rfl) (fun _ _ d _ _ h => by cases d <;> exact h) ?_
        simp only [pickOps, List.filterMap_cons, List.filterMap_nil, List.getElem?_cons_succ, List.getElem?_cons_zero]
        repeat quiet_step (fail)
        simp only [wpQuiet_nil_eq]
        refine wpSegs_nil ?_
        go_wp2_with fail
        refine HLK.out.mono ?_
        rintro e1 w6 ⟨rfl, vs2, hS6, hw6⟩
        rw [← HJ.out] at hS6
        have hcC6 := hS6.var.cell
        have hfC6 := hS6.var.free
        have hO6 : OwnG w6 (C + 1) 92 3 (.slice (some ⟨pb, po, none⟩) L.length uc) us ((L.map pairI).map ints) := hOd.wrote hw6 fun k hk h => by have := hgC k h; omega
        have hO7 : OwnG (w6.setCell ⟨C, 0, none⟩ (.slice a3 n c3)) (C + 1) 92 3 (.slice (some ⟨pb, po, none⟩) L.length uc) us ((L.map pairI).map ints) :=
          hO6.wrote (S := fun b => b ≤ C) (Wrote.setCell (p := ⟨C, 0, none⟩) (Wrote.refl w6 fun b => b ≤ C) (.inr (Nat.le_refl C)) _) fun k hk h => by omega
        have hS7 := hS6.store
        clear hS6 hw6 hO6 hOd hbd HLK hO hS
        go_wp2_with fail
        go_roundw
        case rel => exact ⟨k + 1, vs2, by omega, by go_num, hS7, hO7⟩
        case measure => simp [intOf]; omega
      · obtain rfl : k = L.length := by omega
        have hcR := hS.res.cell
        have hfR := hS.res.free
        go_wp2_with fail
        have hce := cell_of_one (one_setCell (u := .slice a3 n c3) hS.res)
        refine bodyPost_ret (v := .agg #[.slice a3 n c3]) (by simp [results, Tryd.results12, go_sem, hce]) rfl ?_
        have hS' := hS
        rw [List.take_length] at hS'
        exact ⟨_, vs, rfl, by rw [hB]; exact (hS'.res.own hS'.own).rebase (by omega), by rw [hB]; exact hS'.bel.setCell (by simp) _⟩
end Go.Proofs.YtehejjmmbjekgaaDoor
