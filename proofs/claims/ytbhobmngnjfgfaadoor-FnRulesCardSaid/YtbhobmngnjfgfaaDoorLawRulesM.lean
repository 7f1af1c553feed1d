import Derived.Test.YtbhobmngnjfgfaaDoorAppendM
import Derived.Test.YtbhobmngnjfgfaaDoorRMaM
import Derived.Test.YtbhobmngnjfgfaaDoorRulPM
import Derived.Test.YtbhobmngnjfgfaaDoorSmRuleM
/-
  The law 'FnRules' returns true.
-/




namespace Go.Proofs.YtbhobmngnjfgfaaDoor
open Go.RowKit

/-- What rules depends on the vertices alone. -/
theorem ruleB_congr {n : Nat} {e : Nat → Nat → Bool} {p q : Nat → Bool} (h : ∀ b, b < n → p b = q b) : ruleB n e p = ruleB n e q := by
  unfold ruleB
  rw [← dom_mask p, ← dom_mask q, maskB_ext h]
theorem ruleB_iff {n : Nat} {e : Nat → Nat → Bool} {p : Nat → Bool} : ruleB n e p = true ↔ ∀ v, v < n → domB n e p v = true := by
  have h : ruleB n e p = ruleF n e (maskB n p) := ruleB_congr fun b hb => by rw [testBit_maskB]; simp [hb]
  rw [h, ruleF_iff]
  constructor
  · intro h v hv
    have h2 := h v hv
    unfold domB at h2 ⊢
    rw [Bool.or_eq_true, List.any_eq_true] at h2 ⊢
    rcases h2 with h2 | ⟨u, hu, h2⟩
    · rw [testBit_maskB] at h2; simp at h2; exact .inl h2.2
    · rw [testBit_maskB] at h2
      simp at h2
      exact .inr ⟨u, hu, by simp [h2.1.2, h2.2]⟩
  · intro h v hv
    have h2 := h v hv
    unfold domB at h2 ⊢
    rw [Bool.or_eq_true, List.any_eq_true] at h2 ⊢
    rcases h2 with h2 | ⟨u, hu, h2⟩
    · rw [testBit_maskB]; exact .inl (by simp [h2, hv])
    · rw [testBit_maskB] 
      simp at h2
      exact .inr ⟨u, hu, by rw [testBit_maskB]; simp [h2.1, h2.2, List.mem_range.1 hu]⟩
theorem ruleB_mono {n : Nat} {e : Nat → Nat → Bool} {p q : Nat → Bool} (h : ∀ b, b < n → p b = true → q b = true) (hp : ruleB n e p = true) : ruleB n e q = true := by
  rw [ruleB_iff] at hp ⊢
  intro v hv
  have h2 := hp v hv
  unfold domB at h2 ⊢
  rw [Bool.or_eq_true, List.any_eq_true] at h2 ⊢
  rcases h2 with h2 | ⟨u, hu, h2⟩
  · exact .inl (h v hv h2)
  · simp at h2
    exact .inr ⟨u, hu, by simp [h u (List.mem_range.1 hu) h2.1, h2.2]⟩
theorem inL_row {n : Nat} {p : Nat → Bool} {b : Nat} (hb : b < n) : inL (rowB n p) b = p b := inL_rowB hb
theorem ruleIn_least {n : Nat} {e : Nat → Nat → Bool} {r : Nat} (h : IsBest size (fun s => ruleF n e s = true) (2 ^ n) r) : ruleIn n e (rowB n r.testBit) = true := by
  unfold ruleIn
  rw [show decide (SetP n (rowB n r.testBit)) = true by simpa using setP_rowB n r.testBit, Bool.true_and, ruleB_congr (q := r.testBit) fun b hb => inL_rowB hb]
  exact h.fits
theorem least_short {n : Nat} {e : Nat → Nat → Bool} {r : Nat} (hn : n ≤ 16) (h : IsBest size (fun s => ruleF n e s = true) (2 ^ n) r) {xs : List Int} (hx : SetP n xs) (hr : ruleIn n e xs = true) : (rowB n r.testBit).length ≤ xs.length := by
  unfold ruleIn at hr
  rw [show decide (SetP n xs) = true by simpa using hx, Bool.true_and] at hr
  have hm := maskB_below n (inL xs)
  have hf : ruleF n e (maskB n (inL xs)) = true := by
    unfold ruleF
    rw [ruleB_congr (q := inL xs) fun b hb => by rw [testBit_maskB]; simp [hb]]
    exact hr
  have h1 := h.least _ hm hf
  rw [size_row (by omega) h.lt]
  have h2 : (rowB n (maskB n (inL xs)).testBit).length = size (maskB n (inL xs)) := size_row (by omega) hm
  have h3 : rowB n (maskB n (inL xs)).testBit = xs := by
    rw [rowB_ext (q := inL xs) fun b hb => by rw [testBit_maskB]; simp [hb]]
    exact hx.eq.symm
  rw [h3] at h2
  rw [h2]
  exact Nat.le_of_not_lt fun hlt => h1 (.inl hlt)
/-- A set with more vertices. -/
def moreL (n : Nat) (ts ss : List Int) : List Int := rowB n (restB (rowB n (restB (ts ++ ss))))
theorem more_rules {n : Nat} {e : Nat → Nat → Bool} (ts : List Int) {ss : List Int} (hs : SetP n ss) (hr : ruleIn n e ss = true) : ruleIn n e (moreL n ts ss) = true := by
  unfold ruleIn at hr ⊢
  rw [show decide (SetP n ss) = true by simpa using hs, Bool.true_and] at hr
  rw [show decide (SetP n (moreL n ts ss)) = true by rw [decide_eq_true_eq]; exact setP_rowB n _, Bool.true_and]
  refine ruleB_mono (fun b hb h => ?_) hr
  unfold moreL
  rw [inL_rowB hb]
  unfold inL at h
  rw [decide_eq_true_eq] at h
  unfold restB
  rw [Bool.not_eq_true', decide_eq_false_iff_not, nat_mem_rowB]
  simp [h]
/-- A memory in which a cell reads so. -/
structure Kept (G : Nat) (g : Value) where
  W : World
  h : W.cell? ⟨G, 0, none⟩ = some g
theorem Far.mk {D : Nat} {v : Value} {bs : List UInt8} {w : World} (h : RdB v bs w) (hD : w.heap.size = D) : Far D v bs := hD ▸ h.far
theorem Tab.upd {w w' : World} {D : Nat} (h : Tab w) (u : Upd D (D + 1) w w') (hD : 2 < D) : Tab w' := fun i hi => (World.cell?_of_block (u.block _ h.lt (by dsimp only; omega))).trans (h i hi)
theorem Upd.ofBelow {D : Nat} {w w' : World} (h : Below w.heap.size w w') : Upd D (D + 1) w w' := (Upd.of_below h).wide (by omega)

set_option maxHeartbeats 8000000 in
set_option maxRecDepth 100000 in
theorem lawRules (v : Value) (bs : List UInt8) (w : World) (ht : Tab w) (hr : RdB v bs w) :
    Calls Tryd.prog 8 #[v] w fun e w' => e = .returned (.bool true) ∧ Below w.heap.size w w' := by
  have hbig := Lib.hid (big_any v bs w hr)
  obtain ⟨a, c, rfl, -, -, -⟩ := id hr
  obtain ⟨D, hD⟩ : ∃ D, w.heap.size = D := ⟨_, rfl⟩
  have hTB : 2 < D := by rw [← hD]; exact ht.lt
  have hfar := hD ▸ hr.far
  have hb0 : Below D w w := Below.refl _ _
  go_enter Tryd.func8, Tryd.ntmps8
  go_wp2_with fail
  refine hbig.out.mono ?_
  rintro e1 w' ⟨rfl, rfl⟩
  by_cases hl : 4096 < bs.length
  · have hd : decide (4096 < bs.length) = true := by simpa using hl
    rw [hd]
    clear hd hbig
    go_wp2_with fail
    go_ret
    exact ⟨rfl, by rw [hD]; exact hb0⟩
  have hd : decide (4096 < bs.length) = false := by simpa using hl
  rw [hd]
  clear hd hbig
  have hl' : bs.length ≤ 4096 := by omega
  go_wp2_with fail
  refine (roll_any _ bs 811 hl' w hr).mono ?_
  rintro e1 w1 ⟨rfl, hd1, hb1⟩
  rw [hD] at hd1 hb1 ⊢
  have hr1 : RdB (.slice a bs.length c) bs w1 := Row.below hr (by rw [hD]; exact hb1)
  clear hb0
  go_wp2_with fail
  refine (w6Graph_any D _ bs w1 hd1 hr1 hl' hfar).mono ?_
  rintro e1 w2 ⟨n, f, g, hn8, hA, rfl, hg2, hd2, u2⟩
  have hDw1 : D < w1.heap.size := hd1.lt
  obtain ⟨ga, gc, rfl⟩ := hg2.shape
  rw [rowsB_length] at hg2 ⊢
  have hn16 : n ≤ 16 := by omega
  have hr2 := hr1.upd u2 hfar
  have ht1 := ht.keep hb1 hTB
  have ht2 := ht1.upd u2 hTB
  have hb2 : Below D w w2 := u2.below hb1 (by omega) (by omega)
  obtain ⟨W3, hW3⟩ : ∃ W, W = w2.alloc (.cells #[.slice ga n gc] 56) := ⟨_, rfl⟩
  obtain ⟨G, hG⟩ : ∃ G, w2.heap.size = G := ⟨_, rfl⟩
  have VG3 : VC 56 G #[.slice ga n gc] W3 := by rw [hW3]; exact VC.new hG
  have b3 : Below G w2 W3 := by rw [hW3, ← hG]; exact below_alloc' _ _
  have u3 : Upd D (D + 1) w2 W3 := Upd.ofBelow (hG.symm ▸ b3)
  have hg3 := hg2.upd u3 (by omega)
  have hd3 := hd2.belowAt b3 (by have := hd2.lt; omega)
  have hr3 := hr2.upd u3 hfar
  have ht3 := ht2.upd u3 hTB
  have hb3 : Below D w W3 := u3.below hb2 (by have := hb2.size; have := hd2.lt; omega) (by omega)
  have hz3 : W3.heap.size = G + 1 := by rw [hW3]; simp [hG]
  have hDG : D < G := by have := hd2.lt; omega
  rw [hG] at hg3
  obtain ⟨lo, hlo⟩ : ∃ lo, w1.heap.size = lo := ⟨_, rfl⟩
  rw [hlo] at hg3 hDw1
  obtain ⟨r, hbest⟩ := exists_best size (ruleF n f) (show 2 ^ n - 1 < 2 ^ n by have := Nat.one_le_two_pow (n := n); omega) (rule_all n f)
  have hlop : (rowsB n f).length = n := rowsB_length n f
  have hS : SearchP size ruleF (rowsB n f) (rowB n r.testBit) := .inr ⟨f, r, by rw [hlop]; exact hA, by rw [hlop], by rw [hlop]; exact hbest, by rw [hlop]⟩
  have HA := Lib.hid hA
  have HBE := Lib.hid hbest
  have hcg := VG3.cell
  have HLR := Lib.hid (implLeastRule (.slice ga n gc) (rowsB n f) W3 ht3 hg3.rd (rowB n r.testBit) hS)
  clear hg2 hd2 u2 hr2 ht2 ht1 hr1 hd1 b3 u3 hA hbest hS hlop
  go_wp2_with fail
  try rw [← hW3]
  try rw [hG]
  clear hW3
  go_wp2_with fail
  refine HLR.out.mono ?_
  rintro e1 w4 ⟨lv, rfl, hL4, hb4⟩
  have OL4 := OwS.of hL4 rfl rfl
  obtain ⟨la, lc, rfl⟩ := owns_shape hL4
  have u4 : Upd D (D + 1) W3 w4 := Upd.ofBelow hb4
  have VG4 := VG3.upd u4 (by omega)
  have hg4 := hg3.upd u4 (by omega)
  have hd4 := hd3.belowAt hb4 (by omega)
  have hr4 := hr3.upd u4 hfar
  have ht4 := ht3.upd u4 hTB
  have hz4 : W3.heap.size ≤ w4.heap.size := hb4.size
  have hb4' : Below D w w4 := u4.below hb3 (by omega) (by omega)
  clear hcg HLR hL4 hb4 u4 hb3
  have hcg := VG4.cell
  go_wp2_with fail
  refine (w6Set_any D _ bs (.slice ga n gc) (rowsB n f) n (rowsB_length n f) (by omega) w4 ⟨hg4.ex.imp fun vs h => ⟨h.1.rebase (by omega), fun k hk => by have := h.2 k hk; omega⟩⟩ hd4 hr4 hl' hfar).mono ?_
  rintro e1 w5 ⟨ss, sv, hss, rfl, hS5, hd5, u5⟩
  have hsl : ss.length ≤ n := hss.length
  obtain ⟨sa, sc, rfl⟩ := hS5.shape
  have VG5 := VG4.upd u5 (by omega)
  have hg5 := hg4.upd u5 (by omega)
  have OL5 := OL4.upd u5 (by omega)
  have hr5 := hr4.upd u5 hfar
  have ht5 := ht4.upd u5 hTB
  have hz5 : w4.heap.size ≤ w5.heap.size := u5.size
  have hb5 : Below D w w5 := u5.below hb4' (by omega) (by omega)
  obtain ⟨q, hq⟩ : ∃ q, ruleIn n f ss = q := ⟨_, rfl⟩
  have HQ := Lib.hid hq
  have HSS := Lib.hid hss
  have HRU : Hid (∀ (xv : Value) (xs : List Int) (W : World), Upd D (D + 1) w5 W → RdS xv xs W → Calls Tryd.prog 43 #[.agg #[.slice ga n gc], xv] W (BRes W (ruleIn n f xs))) :=
    Lib.hid fun xv xs W hu hx => implRuleIn (.slice ga n gc) n f HA.out xv xs W (ht5.upd hu hTB) (hg5.upd hu (by omega)).rd hx
  have HRS : Hid (∀ (xv : Value) (xs : List Int) (W : World), SetP n xs → Upd D (D + 1) w5 W → RdS xv xs W → Calls Tryd.prog 44 #[.agg #[.slice ga n gc], xv] W (BRes W (ruleIn n f xs))) :=
    Lib.hid fun xv xs W hs hu hx => specRuleIn (.slice ga n gc) n f HA.out xv xs hs W (hg5.upd hu (by omega)).rd hx
  obtain ⟨m, HM⟩ : ∃ m, Hid (ruleN n f (2 ^ n) = m) := ⟨_, Lib.hid rfl⟩
  have HMU : Hid (∀ (W : World), Upd D (D + 1) w5 W → Calls Tryd.prog 45 #[.agg #[.slice ga n gc]] W fun r w' => r = .returned (.int .i64 (m : Nat)) ∧ Below W.heap.size W w') :=
    Lib.hid fun W hu => by rw [← HM.out]; exact implRulesMany (.slice ga n gc) n f HA.out W (ht5.upd hu hTB) (hg5.upd hu (by omega)).rd
  have HMS : Hid (∀ (W : World), Upd D (D + 1) w5 W → Calls Tryd.prog 46 #[.agg #[.slice ga n gc]] W fun r w' => r = .returned (.int .i64 (m : Nat)) ∧ Below W.heap.size W w') :=
    Lib.hid fun W hu => by rw [← HM.out]; exact specRulesMany (.slice ga n gc) n f HA.out W (hg5.upd hu (by omega)).rd
  have hodd : m % 2 = 1 := by rw [← HM.out]; exact rules_odd HA.out.sym
  have hoddI : Int.tmod (m : Int) 2 = 1 := by rw [Int.tmod_eq_emod_of_nonneg (by omega)]; omega
  have HSR := Lib.hid hS5.rd
  have HLR := Lib.hid OL5.rd
  have HLQ := Lib.hid (ruleIn_least HBE.out)
  have u55 : Upd D (D + 1) w5 w5 := (Upd.rfl' w5).wide (by omega)
  have HC5 := Lib.hid (HRU.out (.slice sa ss.length sc) ss w5 u55 HSR.out)
  rw [hq] at HC5
  clear hq hcg hd4 u5 hr4 ht4 VG4 hg4 OL4 hss
  have hcg := VG5.cell
  go_wp2_with fail
  refine HC5.out.mono ?_
  rintro e1 w6 ⟨rfl, hb6⟩
  have u6 : Upd D (D + 1) w5 w6 := Upd.ofBelow hb6
  have VG6 := VG5.upd u6 (by omega)
  have hd6 := hd5.belowAt hb6 (by have := hd5.lt; omega)
  have hz6 : w5.heap.size ≤ w6.heap.size := u6.size
  have hb6' : Below D w w6 := u6.below hb5 (by omega) (by omega)
  clear hb6 hcg HC5
  have hcg := VG6.cell
  have HOV : Hid (∀ x, Upd D (D + 1) w5 (over w6 x)) := Lib.hid fun x => u6.then (below_over w6 x) (by omega)
  have HO1 : Hid (∀ x, Calls Tryd.prog 44 #[.agg #[.slice ga n gc], .slice la (rowB n r.testBit).length lc] (over w6 x) fun e w' => e = .returned (.bool true) ∧ Below (over w6 x).heap.size (over w6 x) w') := Lib.hid fun x => by
    have h := HRS.out _ _ (over w6 x) (setP_rowB n _) (HOV.out x) (OL5.upd (HOV.out x) (by omega)).rd
    rw [HLQ.out] at h
    exact h
  have HO2 : Hid (∀ x, Calls Tryd.prog 44 #[.agg #[.slice ga n gc], .slice sa ss.length sc] (over w6 x) fun e w' => e = .returned (.bool q) ∧ Below (over w6 x).heap.size (over w6 x) w') := Lib.hid fun x => by
    have h := HRS.out _ _ (over w6 x) HSS.out (HOV.out x) (hS5.upd (HOV.out x) (by omega)).rd
    rw [HQ.out] at h
    exact h
  have HO3 : Hid (∀ x, Calls Tryd.prog 45 #[.agg #[.slice ga n gc]] (over w6 x) fun e w' => e = .returned (.int .i64 (m : Nat)) ∧ Below (over w6 x).heap.size (over w6 x) w') := Lib.hid fun x => HMU.out _ (HOV.out x)
  have HO4 : Hid (∀ x, Calls Tryd.prog 46 #[.agg #[.slice ga n gc]] (over w6 x) fun e w' => e = .returned (.int .i64 (m : Nat)) ∧ Below (over w6 x).heap.size (over w6 x) w') := Lib.hid fun x => HMS.out _ (HOV.out x)
  have hlen : q = true → (rowB n r.testBit).length ≤ ss.length := fun h => least_short hn16 HBE.out HSS.out (by rw [HQ.out, h])
  have HLEN := Lib.hid hlen
  clear hlen
  have hfin : ∃ x : Bool, x = q := ⟨_, rfl⟩
  cases q with
  | true =>
    have hnl : ¬ (ss.length : Int) < ((rowB n r.testBit).length : Int) := by have := HLEN.out rfl; omega
    have hnl2 : ¬ ss.length < (rowB n r.testBit).length := by have := HLEN.out rfl; omega
    have hnl3 : (rowB n r.testBit).length ≤ ss.length := by omega
    go_wp2_with fail
    refine wp_region_calm (by kernel_rfl) (by kernel_rfl) ?_
    repeat quiet_step (first | (go_at_call 44; with_reducible exact calls_over (HO1.out _)) | (go_at_call 44; with_reducible exact calls_over (HO2.out _)) | (go_at_call 45; with_reducible exact calls_over (HO3.out _)) | (go_at_call 46; with_reducible exact calls_over (HO4.out _)))
    refine wpQuiet_nil ?_
    intro W' hbW'
    have uW : Upd D (D + 1) w5 W' := u6.then hbW' (by omega)
    have hz7 : w6.heap.size ≤ W'.heap.size := hbW'.size
    have hdW := (hd6.belowAt hbW' (by omega)).upd (Upd.drew W') (by omega)
    have VGW := (VG6.belowAt hbW' (by omega)).upd (Upd.drew W') (by omega)
    have uWd : Upd D (D + 1) w5 W'.drew := uW.trans ((Upd.drew W').wide (by omega))
    have hcgw := (VG6.belowAt hbW' (by omega)).cell
    have hzd : W'.drew.heap.size = W'.heap.size := rfl
    have hsub : ∀ x : Kept G (.slice ga n gc), x.W.cell? ⟨G, 0, none⟩ = some (.slice ga n gc) := fun x => x.h
    have HC0 : Hid (∃ x : Kept G (.slice ga n gc), W'.drew = x.W) := Lib.hid ⟨⟨_, VGW.cell⟩, rfl⟩
    haveI hne : Nonempty (Kept G (.slice ga n gc)) := ⟨⟨_, VGW.cell⟩⟩
    clear hcg hbW' uW HO1 HO2 HO3 HO4 HOV
    go_wp2_with fail
    refine wp_region_order [2, 5] [0, 1, 3] [4, 6, 7] [8, 9] (fun W => ∃ x : Kept G (.slice ga n gc), W = x.W) (by kernel_rfl) (by kernel_rfl) (fun _ _ d _ _ h => by cases d <;> exact h) HC0.out ?_
    simp only [pickOps, List.filterMap_cons, List.filterMap_nil, List.getElem?_cons_succ, List.getElem?_cons_zero]
    repeat quiet_step (fail)
    simp only [wpQuiet_nil_eq]
    clear hcgw HC0
    generalize W'.drew = wd at *
    have hgd := hg5.upd uWd (by omega)
    have hrd := hr5.upd uWd hfar
    refine wpSegs_cons ?_
    go_wp2_with fail
    refine (w6Set_any D _ bs (.slice ga n gc) (rowsB n f) n (rowsB_length n f) (by omega) wd ⟨hgd.ex.imp fun vs h => ⟨h.1.rebase (by omega), fun k hk => by have := h.2 k hk; omega⟩⟩ hdW hrd hl' hfar).mono ?_
    rintro e1 w8 ⟨ts, tv, hts, rfl, hT8, hd8, u8⟩
    have htl : ts.length ≤ n := hts.length
    obtain ⟨ta, tc, rfl⟩ := hT8.shape
    have VG8 := VGW.upd u8 (by omega)
    have uW8 := uWd.trans u8
    have hz8 : wd.heap.size ≤ w8.heap.size := u8.size
    have hT8o := hT8.own
    obtain ⟨S8, hS8⟩ : ∃ S, wd.heap.size = S := ⟨_, rfl⟩
    rw [hS8] at hT8o hz8
    have HS8 := Lib.hid (hS5.upd uW8 (by omega)).rd
    have hsr := HS8.out
    have HC8 : Hid (∃ x : Kept G (.slice ga n gc), w8 = x.W) := Lib.hid ⟨⟨_, VG8.cell⟩, rfl⟩
    clear hd8 u8 hgd hrd hdW uWd VGW
    go_wp2_with fail
    refine ⟨HC8.out, ?_⟩
    refine wpSegs_cons ?_
    go_wp2_with (at_builtin; refine wpList_extend _ rfl _ _ 30 rfl S8 2 _ 8 Tryd.underlying30 infoI rfl (.slice ta ts.length tc) ts.length (ints ts) rfl hT8o (.slice sa ss.length sc) ss.length (ints ss) rfl hsr (ints_one ss) (by unfold maxLen; omega) (by omega) (by omega) ?_; intro a9 c9 w9 ho9 hg9)
    have b9 : Below S8 w8 w9 := (Below.refl _ _).grown hg9 (by omega) fun b hb' => (owns_lt hT8o hb').1
    have uW9 := uW8.then b9 (by omega)
    have VG9 := VG8.belowAt b9 (by omega)
    have hz9 : w8.heap.size ≤ w9.heap.size := b9.size
    have HX9 : Hid (RdS (.slice a9 (ts.length + ss.length) c9) (ts ++ ss) w9) := Lib.hid (by
      unfold RdS
      rw [List.length_append]
      have := Row.of_owns ho9
      simpa [ints] using this)
    have HC9 : Hid (∃ x : Kept G (.slice ga n gc), w9 = x.W) := Lib.hid ⟨⟨_, VG9.cell⟩, rfl⟩
    have HR9 : Hid (Calls Tryd.prog 47 #[.agg #[.slice ga n gc], .slice a9 (ts.length + ss.length) c9] w9 (SRes w9 (rowB n (restB (ts ++ ss))))) := Lib.hid (w6Rest_any (.slice ga n gc) (rowsB n f) n (rowsB_length n f) (by omega) _ (ts ++ ss) w9 (hg5.upd uW9 (by omega)).rd HX9.out)
    clear ho9 hg9 b9 HC8 hT8o hsr HS8
    refine ⟨HC9.out, ?_⟩
    refine wpSegs_cons ?_
    go_wp2_with fail
    refine HR9.out.mono ?_
    rintro e1 w10 ⟨v10, rfl, hL10, hb10⟩
    have OL10 := OwS.of hL10 rfl rfl
    obtain ⟨xa, xc, rfl⟩ := owns_shape hL10
    have uWX := uW9.then hb10 (by omega)
    have VGX := VG9.belowAt hb10 (by omega)
    have hzX : w9.heap.size ≤ w10.heap.size := hb10.size
    have HCX : Hid (∃ x : Kept G (.slice ga n gc), w10 = x.W) := Lib.hid ⟨⟨_, VGX.cell⟩, rfl⟩
    have HRX : Hid (Calls Tryd.prog 47 #[.agg #[.slice ga n gc], .slice xa (rowB n (restB (ts ++ ss))).length xc] w10 (SRes w10 (moreL n ts ss))) := Lib.hid (w6Rest_any (.slice ga n gc) (rowsB n f) n (rowsB_length n f) (by omega) _ _ w10 (hg5.upd uWX (by omega)).rd OL10.rd)
    clear hL10 hb10 HC9 HR9 HX9
    go_wp2_with fail
    refine ⟨HCX.out, ?_⟩
    simp only [wpSegs_nil_eq]
    go_wp2_with fail
    refine HRX.out.mono ?_
    rintro e1 w11 ⟨v11, rfl, hL11, hb11⟩
    have OL11 := OwS.of hL11 rfl rfl
    obtain ⟨ya, yc, rfl⟩ := owns_shape hL11
    have uW11 := uWX.then hb11 (by omega)
    have VG11 := VGX.belowAt hb11 (by omega)
    have hz11 : w10.heap.size ≤ w11.heap.size := hb11.size
    have HM11 := Lib.hid (HMU.out w11 uW11)
    have HR11 := Lib.hid (HRU.out (.slice ya (moreL n ts ss).length yc) (moreL n ts ss) w11 uW11 OL11.rd)
    rw [more_rules ts HSS.out HQ.out] at HR11
    clear hL11 hb11 HRX HCX hsub
    have hcg := VG11.cell
    go_wp2_with fail
    refine HR11.out.mono ?_
    rintro e1 w12 ⟨rfl, hb12⟩
    have uW12 := uW11.then hb12 (by omega)
    have VG12 := VG11.belowAt hb12 (by omega)
    have hz12 : w11.heap.size ≤ w12.heap.size := hb12.size
    have HM12 := Lib.hid (HMU.out w12 uW12)
    clear hcg hb12 HM11 HR11
    have hcg := VG12.cell
    go_wp2_with fail
    refine HM12.out.mono ?_
    rintro e1 w13 ⟨rfl, hb13⟩
    have HEND := Lib.hid ((uW12.then hb13 (by omega)).below hb5 (by omega) (by omega))
    clear hcg hb13
    go_wp2_with fail
    go_ret
    exact ⟨rfl, by rw [hD]; exact HEND.out⟩
  | false =>
    go_wp2_with fail
    refine wp_region_calm (by kernel_rfl) (by kernel_rfl) ?_
    repeat quiet_step (first | (go_at_call 44; with_reducible exact calls_over (HO1.out _)) | (go_at_call 44; with_reducible exact calls_over (HO2.out _)) | (go_at_call 45; with_reducible exact calls_over (HO3.out _)) | (go_at_call 46; with_reducible exact calls_over (HO4.out _)))
    refine wpQuiet_nil ?_
    intro W' hbW'
    have uW : Upd D (D + 1) w5 W' := u6.then hbW' (by omega)
    have hz7 : w6.heap.size ≤ W'.heap.size := hbW'.size
    have hdW := (hd6.belowAt hbW' (by omega)).upd (Upd.drew W') (by omega)
    have VGW := (VG6.belowAt hbW' (by omega)).upd (Upd.drew W') (by omega)
    have uWd : Upd D (D + 1) w5 W'.drew := uW.trans ((Upd.drew W').wide (by omega))
    have hcgw := (VG6.belowAt hbW' (by omega)).cell
    have hzd : W'.drew.heap.size = W'.heap.size := rfl
    have hsub : ∀ x : Kept G (.slice ga n gc), x.W.cell? ⟨G, 0, none⟩ = some (.slice ga n gc) := fun x => x.h
    have HC0 : Hid (∃ x : Kept G (.slice ga n gc), W'.drew = x.W) := Lib.hid ⟨⟨_, VGW.cell⟩, rfl⟩
    haveI hne : Nonempty (Kept G (.slice ga n gc)) := ⟨⟨_, VGW.cell⟩⟩
    clear hcg hbW' uW HO1 HO2 HO3 HO4 HOV
    go_wp2_with fail
    refine wp_region_order [2, 5] [0, 1, 3] [4, 6, 7] [8, 9] (fun W => ∃ x : Kept G (.slice ga n gc), W = x.W) (by kernel_rfl) (by kernel_rfl) (fun _ _ d _ _ h => by cases d <;> exact h) HC0.out ?_
    simp only [pickOps, List.filterMap_cons, List.filterMap_nil, List.getElem?_cons_succ, List.getElem?_cons_zero]
    repeat quiet_step (fail)
    simp only [wpQuiet_nil_eq]
    clear hcgw HC0
    generalize W'.drew = wd at *
    have hgd := hg5.upd uWd (by omega)
    have hrd := hr5.upd uWd hfar
    refine wpSegs_cons ?_
    go_wp2_with fail
    refine (w6Set_any D _ bs (.slice ga n gc) (rowsB n f) n (rowsB_length n f) (by omega) wd ⟨hgd.ex.imp fun vs h => ⟨h.1.rebase (by omega), fun k hk => by have := h.2 k hk; omega⟩⟩ hdW hrd hl' hfar).mono ?_
    rintro e1 w8 ⟨ts, tv, hts, rfl, hT8, hd8, u8⟩
    have htl : ts.length ≤ n := hts.length
    obtain ⟨ta, tc, rfl⟩ := hT8.shape
    have VG8 := VGW.upd u8 (by omega)
    have uW8 := uWd.trans u8
    have hz8 : wd.heap.size ≤ w8.heap.size := u8.size
    have hT8o := hT8.own
    obtain ⟨S8, hS8⟩ : ∃ S, wd.heap.size = S := ⟨_, rfl⟩
    rw [hS8] at hT8o hz8
    have HS8 := Lib.hid (hS5.upd uW8 (by omega)).rd
    have hsr := HS8.out
    have HC8 : Hid (∃ x : Kept G (.slice ga n gc), w8 = x.W) := Lib.hid ⟨⟨_, VG8.cell⟩, rfl⟩
    clear hd8 u8 hgd hrd hdW uWd VGW
    go_wp2_with fail
    refine ⟨HC8.out, ?_⟩
    refine wpSegs_cons ?_
    go_wp2_with (at_builtin; refine wpList_extend _ rfl _ _ 30 rfl S8 2 _ 8 Tryd.underlying30 infoI rfl (.slice ta ts.length tc) ts.length (ints ts) rfl hT8o (.slice sa ss.length sc) ss.length (ints ss) rfl hsr (ints_one ss) (by unfold maxLen; omega) (by omega) (by omega) ?_; intro a9 c9 w9 ho9 hg9)
    have b9 : Below S8 w8 w9 := (Below.refl _ _).grown hg9 (by omega) fun b hb' => (owns_lt hT8o hb').1
    have uW9 := uW8.then b9 (by omega)
    have VG9 := VG8.belowAt b9 (by omega)
    have hz9 : w8.heap.size ≤ w9.heap.size := b9.size
    have HX9 : Hid (RdS (.slice a9 (ts.length + ss.length) c9) (ts ++ ss) w9) := Lib.hid (by
      unfold RdS
      rw [List.length_append]
      have := Row.of_owns ho9
      simpa [ints] using this)
    have HC9 : Hid (∃ x : Kept G (.slice ga n gc), w9 = x.W) := Lib.hid ⟨⟨_, VG9.cell⟩, rfl⟩
    have HR9 : Hid (Calls Tryd.prog 47 #[.agg #[.slice ga n gc], .slice a9 (ts.length + ss.length) c9] w9 (SRes w9 (rowB n (restB (ts ++ ss))))) := Lib.hid (w6Rest_any (.slice ga n gc) (rowsB n f) n (rowsB_length n f) (by omega) _ (ts ++ ss) w9 (hg5.upd uW9 (by omega)).rd HX9.out)
    clear ho9 hg9 b9 HC8 hT8o hsr HS8
    refine ⟨HC9.out, ?_⟩
    refine wpSegs_cons ?_
    go_wp2_with fail
    refine HR9.out.mono ?_
    rintro e1 w10 ⟨v10, rfl, hL10, hb10⟩
    have OL10 := OwS.of hL10 rfl rfl
    obtain ⟨xa, xc, rfl⟩ := owns_shape hL10
    have uWX := uW9.then hb10 (by omega)
    have VGX := VG9.belowAt hb10 (by omega)
    have hzX : w9.heap.size ≤ w10.heap.size := hb10.size
    have HCX : Hid (∃ x : Kept G (.slice ga n gc), w10 = x.W) := Lib.hid ⟨⟨_, VGX.cell⟩, rfl⟩
    have HRX : Hid (Calls Tryd.prog 47 #[.agg #[.slice ga n gc], .slice xa (rowB n (restB (ts ++ ss))).length xc] w10 (SRes w10 (moreL n ts ss))) := Lib.hid (w6Rest_any (.slice ga n gc) (rowsB n f) n (rowsB_length n f) (by omega) _ _ w10 (hg5.upd uWX (by omega)).rd OL10.rd)
    clear hL10 hb10 HC9 HR9 HX9
    go_wp2_with fail
    refine ⟨HCX.out, ?_⟩
    simp only [wpSegs_nil_eq]
    go_wp2_with fail
    refine HRX.out.mono ?_
    rintro e1 w11 ⟨v11, rfl, hL11, hb11⟩
    have OL11 := OwS.of hL11 rfl rfl
    obtain ⟨ya, yc, rfl⟩ := owns_shape hL11
    have uW11 := uWX.then hb11 (by omega)
    have VG11 := VGX.belowAt hb11 (by omega)
    have hz11 : w10.heap.size ≤ w11.heap.size := hb11.size
    have HM11 := Lib.hid (HMU.out w11 uW11)
    clear hL11 hb11 HRX HCX hsub
    have hcg := VG11.cell
    go_wp2_with fail
    refine HM11.out.mono ?_
    rintro e1 w13 ⟨rfl, hb13⟩
    have HEND := Lib.hid ((uW11.then hb13 (by omega)).below hb5 (by omega) (by omega))
    clear hcg hb13
    go_wp2_with fail
    go_ret
    exact ⟨rfl, by rw [hD]; exact HEND.out⟩
end Go.Proofs.YtbhobmngnjfgfaaDoor
