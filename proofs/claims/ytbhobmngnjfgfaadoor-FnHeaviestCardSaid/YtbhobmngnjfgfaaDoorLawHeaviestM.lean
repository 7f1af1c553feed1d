import Derived.Test.YtbhobmngnjfgfaaDoorHeavyM
import Derived.Test.YtbhobmngnjfgfaaDoorHlpM
import Derived.Test.YtbhobmngnjfgfaaDoorRInM
import Derived.Test.YtbhobmngnjfgfaaDoorSpecBestM
/-
  The law 'FnHeaviest' returns true.
-/




namespace Go.Proofs.YtbhobmngnjfgfaaDoor
open Go.RowKit

theorem row_mask {n : Nat} {xs : List Int} (h : SetP n xs) : rowB n (maskB n (inL xs)).testBit = xs := by
  rw [rowB_ext (q := inL xs) fun b hb => by rw [testBit_maskB]; simp [hb]]
  exact h.eq.symm
theorem stF_mask {n : Nat} {e : Nat → Nat → Bool} {xs : List Int} : stF n e (maskB n (inL xs)) = stB n e (inL xs) := by
  unfold stF
  exact stB_ext (fun _ _ _ _ => rfl) fun b hb => by rw [testBit_maskB]; simp [hb]
theorem stB_row {n : Nat} {e : Nat → Nat → Bool} (r : Nat) : stB n e (inL (rowB n r.testBit)) = stF n e r := stB_ext (fun _ _ _ _ => rfl) fun _ hb => inL_rowB hb
theorem heavy_most {ws : List Int} {n : Nat} {e : Nat → Nat → Bool} {r : Nat} (hw : ∀ x ∈ ws, 0 ≤ x ∧ x ≤ 1000) (hn : n ≤ 16) (h : IsBest (keyH ws n) (fun s => stF n e s = true) (2 ^ n) r) {xs : List Int} (hx : SetP n xs) (hs : stB n e (inL xs) = true) : wsum ws xs ≤ wt ws n r := by
  have hm := maskB_below n (inL xs)
  have h1 := h.least _ hm (by rw [stF_mask]; exact hs)
  have h32 := pow_le_32 hn
  rw [ahead_keyH hw hn (by omega) (by have := h.lt; omega)] at h1
  have h2 : wt ws n (maskB n (inL xs)) = wsum ws xs := by unfold wt; rw [row_mask hx]
  rw [h2] at h1
  exact Int.not_lt.1 fun hlt => h1 (.inl hlt)
theorem wsum_ones : ∀ {k : Nat} (xs : List Int), (∀ x ∈ xs, 0 ≤ x ∧ x < (k : Int)) → wsum (List.replicate k 1) xs = xs.length := by
  intro k xs
  induction xs with
  | nil => intro _; rfl
  | cons x xs ih =>
    intro h
    have hx := h x (by simp)
    have h1 : wsum (List.replicate k 1) (x :: xs) = (List.replicate k (1 : Int)).getD x.toNat 0 + wsum (List.replicate k 1) xs := by simp [wsum]
    rw [h1, ih fun y hy => h y (by simp [hy])]
    have hk : x.toNat < k := by omega
    simp [List.getD, hk]
    omega
theorem wt_ones {n : Nat} (hn : n ≤ 16) {s : Nat} (hs : s < 2 ^ n) : wt (List.replicate n 1) n s = size s := by
  unfold wt
  rw [wsum_ones _ fun x hx => ?_, size_row (by omega) hs]
  exact (setP_rowB n s.testBit).1 x hx
theorem best_ones {n : Nat} {e : Nat → Nat → Bool} {r : Nat} (hn : n ≤ 16) (h : IsBest (keyH (List.replicate n 1) n) (fun s => stF n e s = true) (2 ^ n) r) : IsBest keyM (fun s => stF n e s = true) (2 ^ n) r := by
  refine ⟨h.lt, h.fits, fun t ht hf ha => ?_⟩
  have h1 := h.least t ht hf
  have h32 := pow_le_32 hn
  have hr := h.lt
  rw [ahead_keyH (fun x hx => by have := List.eq_of_mem_replicate hx; omega) hn (by omega) (by omega), wt_ones hn ht, wt_ones hn hr] at h1
  rw [ahead_keyM (by omega) (by omega)] at ha
  rcases ha with ha | ⟨ha, hl⟩
  · exact h1 (.inl (by omega))
  · exact h1 (.inr ⟨by omega, .inr ⟨ha, hl⟩⟩)
theorem goodW_of {ws : List Int} {n : Nat} (h1 : ws.length = n) (h2 : ∀ x ∈ ws, 0 ≤ x ∧ x ≤ 1000) : goodW ws n = true := by
  unfold goodW
  rw [Bool.and_eq_true, decide_eq_true_eq, Bool.not_eq_true', List.any_eq_false]
  refine ⟨h1, fun x hx => ?_⟩
  unfold lightB
  simp [h2 x hx]
theorem wsum_take {ws xs : List Int} {j q : Nat} (h : xs[j]? = some (q : Int)) : wsum ws (xs.take (j + 1)) = wsum ws (xs.take j) + ws.getD q 0 := by
  rw [take_snoc h, wsum_snoc]
  simp

set_option maxHeartbeats 8000000 in
set_option maxRecDepth 100000 in
theorem lawHeaviest (v : Value) (bs : List UInt8) (w : World) (ht : Tab w) (hr : RdB v bs w) :
    Calls Tryd.prog 9 #[v] w fun e w' => e = .returned (.bool true) ∧ Below w.heap.size w w' := by
  have hbig := Lib.hid (big_any v bs w hr)
  obtain ⟨a, c, rfl, -, -, -⟩ := id hr
  obtain ⟨D, hD⟩ : ∃ D, w.heap.size = D := ⟨_, rfl⟩
  have hTB : 2 < D := by rw [← hD]; exact ht.lt
  have hfar := hD ▸ hr.far
  have hb0 : Below D w w := Below.refl _ _
  go_enter Tryd.func9, Tryd.ntmps9
  go_wp2_with fail
  refine hbig.out.mono ?_
  rintro e1 w' ⟨rfl, rfl⟩
  by_cases hl : 4096 < bs.length
  · have hd : decide (4096 < bs.length) = true := by simpa using hl
    rw [hd]
    clear hd hbig
    go_wp2_with fail
    go_ret
    exact ⟨rfl, by rw [hD]; exact hb0⟩
  have hd : decide (4096 < bs.length) = false := by simpa using hl
  rw [hd]
  clear hd hbig
  have hl' : bs.length ≤ 4096 := by omega
  go_wp2_with fail
  refine (roll_any _ bs 803 hl' w hr).mono ?_
  rintro e1 w1 ⟨rfl, hd1, hb1⟩
  rw [hD] at hd1 hb1 ⊢
  have hr1 : RdB (.slice a bs.length c) bs w1 := Row.below hr (by rw [hD]; exact hb1)
  clear hb0
  go_wp2_with fail
  refine (w6Graph_any D _ bs w1 hd1 hr1 hl' hfar).mono ?_
  rintro e1 w2 ⟨n, f, g, hn8, hA, rfl, hg2, hd2, u2⟩
  have hDw1 : D < w1.heap.size := hd1.lt
  obtain ⟨ga, gc, rfl⟩ := hg2.shape
  rw [rowsB_length] at hg2 ⊢
  have hn16 : n ≤ 16 := by omega
  have hr2 := hr1.upd u2 hfar
  have ht1 := ht.keep hb1 hTB
  have ht2 := ht1.updD u2 hTB
  have hb2 : Below D w w2 := u2.below hb1 (by omega) (by omega)
  obtain ⟨W3, hW3⟩ : ∃ W, W = w2.alloc (.cells #[.slice ga n gc] 56) := ⟨_, rfl⟩
  obtain ⟨G, hG⟩ : ∃ G, w2.heap.size = G := ⟨_, rfl⟩
  have VG3 : VC 56 G #[.slice ga n gc] W3 := by rw [hW3]; exact VC.new hG
  have b3 : Below G w2 W3 := by rw [hW3, ← hG]; exact below_alloc' _ _
  have u3 : Upd D (D + 1) w2 W3 := Upd.ofB (hG.symm ▸ b3)
  have hg3 := hg2.upd u3 (by omega)
  have hd3 := hd2.belowAt b3 (by have := hd2.lt; omega)
  have hr3 := hr2.upd u3 hfar
  have ht3 := ht2.updD u3 hTB
  have hb3 : Below D w W3 := u3.below hb2 (by have := hb2.size; have := hd2.lt; omega) (by omega)
  have hz3 : W3.heap.size = G + 1 := by rw [hW3]; simp [hG]
  have hDG : D < G := by have := hd2.lt; omega
  rw [hG] at hg3
  obtain ⟨lo, hlo⟩ : ∃ lo, w1.heap.size = lo := ⟨_, rfl⟩
  rw [hlo] at hg3 hDw1
  obtain ⟨W4, hW4⟩ : ∃ W, W = W3.alloc (.cells #[] 2) := ⟨_, rfl⟩
  obtain ⟨W5, hW5⟩ : ∃ W, W = W4.alloc (.cells #[] 2) := ⟨_, rfl⟩
  have hz4 : W4.heap.size = G + 2 := by rw [hW4]; simp [hz3]
  have hz5 : W5.heap.size = G + 3 := by rw [hW5]; simp [hz4]
  have b4 : Below (G + 1) W3 W4 := by rw [hW4, ← hz3]; exact below_alloc' _ _
  have b5 : Below (G + 2) W4 W5 := by rw [hW5, ← hz4]; exact below_alloc' _ _
  have b35 : Below (G + 1) W3 W5 := b4.trans (b5.mono (by omega))
  have ho5 : W5.ownsRow (G + 1) 2 1 (.slice (some ⟨G + 1, 0, none⟩) 0 0) 0 (ints []) := by
    have h : W4.ownsRow (G + 1) 2 1 (.slice (some ⟨G + 1, 0, none⟩) 0 0) 0 [] := by rw [hW4, ← hz3]; exact World.ownsRow_lit W3 #[] 0 (Nat.le_refl _) (by simp [maxLen]) rfl
    rw [hW5]
    exact h.alloc _
  have ho6 : W5.ownsRow (G + 1) 2 1 (.slice (some ⟨G + 2, 0, none⟩) 0 0) 0 (ints (List.replicate 0 1)) := by
    have h : W5.ownsRow (G + 2) 2 1 (.slice (some ⟨G + 2, 0, none⟩) 0 0) 0 [] := by rw [hW5, ← hz4]; exact World.ownsRow_lit W4 #[] 0 (Nat.le_refl _) (by simp [maxLen]) rfl
    exact owns_base h (by omega)
  have hu5 : Upd D (D + 1) W3 W5 := (Upd.rfl' W3).then b35 (by omega) |>.wide (by omega)
  have hd5 := hd3.belowAt b35 (by omega)
  have HA := Lib.hid hA
  have HR3 : Hid (∀ W, Upd D (D + 1) W3 W → RdB (.slice a bs.length c) bs W) := Lib.hid fun W h => hr3.upd h hfar
  have HBE : Hid (∀ (N : Int) (n : Nat) (W : World), N = n → 0 < n → n ≤ 1000000 → Dice D (.slice a bs.length c) bs.length W → Upd D (D + 1) W3 W →
    Calls Tryd.prog 48 #[.pointer (some ⟨D, 0, none⟩), .int .i64 N] W fun e w' => ∃ x : Nat, e = .returned (.int .i64 x) ∧ x < n ∧ Dice D (.slice a bs.length c) bs.length w' ∧ Upd D (D + 1) W w') :=
    Lib.hid fun N n W hN h0 h1 hdW hu => below_any D _ bs n N hN h0 h1 W hdW (hr3.upd hu hfar) hl' hfar
  clear hg2 hd2 u2 hr2 ht2 ht1 hr1 hd1 b3 u3 hA b4 b5 b35
  go_wp2_with fail
  try rw [← hW3]
  try rw [hG]
  try rw [← hW4]
  try rw [← hW5]
  try rw [hz3]
  try rw [hz4]
  clear hW3 hW4 hW5
  go_loopw [5, 6, 7] (fun o5 o6 i wr => ∃ (k : Nat) (ws : List Int), k ≤ n ∧ i = .int .i64 k ∧ Hid (ws.length = k) ∧ Hid (∀ x ∈ ws, 0 ≤ x ∧ x ≤ 8) ∧ wr.ownsRow (G + 1) 2 1 o5 k (ints ws) ∧ wr.ownsRow (G + 1) 2 1 o6 k (ints (List.replicate k 1)) ∧ Hid (∀ b, o5.ownBlock = some b → o6.ownBlock ≠ some b) ∧ Dice D (.slice a bs.length c) bs.length wr ∧ Upd D (D + 1) W3 wr ∧ G + 1 ≤ wr.heap.size) (fun _ _ i _ => n - (intOf i).toNat)
  case atStart => exact ⟨0, [], Nat.zero_le _, rfl, Lib.hid rfl, Lib.hid (by simp), ho5, ho6, Lib.hid (by simp [Value.ownBlock]), hd5, hu5, by omega⟩
  case round =>
    clear ho5 ho6 hd5 hu5
    obtain ⟨k, ws, hk, rfl, HWL, HWB, ho5, ho6, HNE, hdk, uk, hzk⟩ := hrel
    have VGk := VG3.upd uk (by omega)
    have hcg := VGk.cell
    by_cases hlt : k < n
    · have hb9 := Lib.hid (HBE.out 9 9 wr rfl (by decide) (by decide) hdk uk)
      go_wp2_with fail
      refine hb9.out.mono ?_
      rintro e1 w9 ⟨x, rfl, hx, hd9, u9⟩
      have ho59 := own_upd ho5 u9 (by omega)
      have ho69 := own_upd ho6 u9 (by omega)
      have uk9 := uk.trans u9
      have hz9 : wr.heap.size ≤ w9.heap.size := u9.size
      clear ho5 ho6 hdk uk u9 hcg hb9 VGk
      obtain ⟨a5, c5, rfl⟩ := owns_shape ho59
      obtain ⟨a6, c6, rfl⟩ := owns_shape ho69
      obtain ⟨WL, HWLL⟩ : ∃ l : Nat, Hid (ws.length = l) := ⟨k, HWL⟩
      have hown6 := Lib.hid ho69
      have HNEB := Lib.hid (show (Value.slice a6 k c6).ownBlock = none ∨ (Value.slice a6 k c6).ownBlock ≠ (Value.slice a5 k c5).ownBlock from by
        cases h6 : (Value.slice a6 k c6).ownBlock with
        | none => exact .inl rfl
        | some b => exact .inr fun e => HNE.out b e.symm h6)
      have hB9 : Hid (∀ W, (∃ r, w9.grownBy W r ∧ (∀ b, r = some b → G + 1 ≤ b)) → Below (G + 1) w9 W) := Lib.hid fun W ⟨r, hg, hr⟩ => (Below.refl _ _).grown hg (by omega) hr
      go_wp2_with (first
        | (at_builtin; refine wpList_push_wh w9 rfl _ _ 30 rfl (G + 1) 2 _ _ 8 Tryd.underlying30 infoI rfl (.slice a5 k c5) k (ints ws) rfl ho59 (.int .i64 (x : Int)) rfl rfl (by unfold maxLen; omega) (by omega) (by omega) ?_; intro g5 d5 wa hoa hga hwa; have ho6a := hown6.out.kept hga HNEB.out; have HGA := Lib.hid hga; have HWA := Lib.hid hwa; have HOA := Lib.hid hoa; have hzwa : G + 1 ≤ wa.heap.size := by { have := hga.size; omega })
        | (at_builtin; refine wpList_push_wh wa rfl _ _ 30 rfl (G + 1) 2 _ _ 8 Tryd.underlying30 infoI rfl (.slice a6 k c6) k (ints (List.replicate k 1)) rfl ho6a (.int .i64 1) rfl rfl (by unfold maxLen; omega) (by omega) (by omega) ?_; intro g6 d6 wb hob hgb hwb))
      have HN5 : (Value.slice (some ⟨g5, 0, none⟩) (k + 1) d5).ownBlock = none ∨ (Value.slice (some ⟨g5, 0, none⟩) (k + 1) d5).ownBlock ≠ (Value.slice a6 k c6).ownBlock := .inr (by
        intro e
        have e' : (Value.slice a6 k c6).ownBlock = some g5 := e.symm
        have hlt5 := (owns_lt hown6.out e').2
        rcases HWA.out with h | h
        · rcases HNEB.out with h0 | h0
          · rw [e'] at h0; cases h0
          · exact h0 (by rw [e', h])
        · omega)
      have HO5 := Lib.hid (HOA.out.kept hgb HN5)
      have hg5lt := (owns_lt HOA.out (show (Value.slice (some ⟨g5, 0, none⟩) (k + 1) d5).ownBlock = some g5 from rfl)).2
      have HNE2 : Hid (∀ b, (Value.slice (some ⟨g5, 0, none⟩) (k + 1) d5).ownBlock = some b → (Value.slice (some ⟨g6, 0, none⟩) (k + 1) d6).ownBlock ≠ some b) := Lib.hid fun b hb hb6 => by
        have e1 : g5 = b := by simpa [Value.ownBlock] using hb
        have e2 : g6 = b := by simpa [Value.ownBlock] using hb6
        rcases hwb with h | h
        · rcases HN5 with h0 | h0
          · cases h0
          · exact h0 (by rw [h, hb, e2])
        · omega
      have hba : Below (G + 1) w9 wa := hB9.out wa ⟨_, HGA.out, fun b hb => (owns_lt ho59 hb).1⟩
      have hbb : Below (G + 1) wa wb := (Below.refl _ _).grown hgb (by omega) fun b hb => (owns_lt ho6a hb).1
      have hbab := hba.trans (hbb.mono (by omega))
      have hzb : G + 1 ≤ wb.heap.size := by have := hbb.size; omega
      have HD9 := Lib.hid (hd9.belowAt hbab (by omega))
      have HU9 := Lib.hid (uk9.then hbab (by omega))
      go_roundw
      case rel => exact ⟨k + 1, ws ++ [(x : Int)], by omega, by go_num, Lib.hid (by simp [HWL.out]), Lib.hid (by
        intro y hy
        rw [List.mem_append] at hy
        rcases hy with hy | hy
        · exact HWB.out y hy
        · rw [List.mem_singleton.1 hy]; omega), by simpa [ints] using HO5.out, by rw [List.replicate_succ']; simpa [ints] using hob, HNE2, HD9.out, HU9.out, hzb⟩
      case measure => simp [intOf]; omega
    · have hkn : k = n := by omega
      clear hlt
      subst hkn
      obtain ⟨a5, c5, rfl⟩ := owns_shape ho5
      obtain ⟨a6, c6, rfl⟩ := owns_shape ho6
      have hn0 := HA.out.pos
      have HW5 : Hid (∀ W, Upd D (D + 1) wr W → RdS (.slice a5 k c5) ws W) := Lib.hid fun W h => by
        unfold RdS
        rw [HWL.out]
        exact Row.of_owns (own_upd ho5 h (by omega))
      have HW6 : Hid (∀ W, Upd D (D + 1) wr W → RdS (.slice a6 k c6) (List.replicate k 1) W) := Lib.hid fun W h => by
        unfold RdS
        rw [List.length_replicate]
        exact Row.of_owns (own_upd ho6 h (by omega))
      have HGO : Hid (∀ W, Upd D (D + 1) wr W → OwSS lo G (.slice ga k gc) (rowsB k f) W) := Lib.hid fun W h => hg3.upd (uk.trans h) (by omega)
      have HVG : Hid (∀ W, Upd D (D + 1) wr W → W.cell? ⟨G, 0, none⟩ = some (.slice ga k gc)) := Lib.hid fun W h => (VG3.upd (uk.trans h) (by omega)).cell
      have HTA : Hid (∀ W, Upd D (D + 1) wr W → Tab W) := Lib.hid fun W h => ht3.updD (uk.trans h) hTB
      have HBW : Hid (∀ W, Upd D (D + 1) wr W → Below D w W) := Lib.hid fun W h => (uk.trans h).below hb3 (by omega) (by omega)
      have HWB2 : Hid (∀ x ∈ ws, 0 ≤ x ∧ x ≤ 1000) := Lib.hid fun x hx => by have := HWB.out x hx; omega
      have hgw := goodW_of HWL.out HWB2.out
      have hgo := goodW_of (ws := List.replicate k 1) (n := k) (by simp) (fun x hx => by have := List.eq_of_mem_replicate hx; omega)
      obtain ⟨r, hbest⟩ := exists_best (keyH ws k) (stF k f) (show 0 < 2 ^ k from Nat.two_pow_pos k) (st_none k f)
      obtain ⟨r2, hbest2⟩ := exists_best (keyH (List.replicate k 1) k) (stF k f) (show 0 < 2 ^ k from Nat.two_pow_pos k) (st_none k f)
      have hlop : (rowsB k f).length = k := rowsB_length k f
      have hH : HeavyP (rowsB k f) ws (rowB k r.testBit) (wt ws k r) := .inr ⟨f, r, by rw [hlop]; exact HA.out, by rw [hlop], by rw [hlop]; exact hgw, by rw [hlop]; exact hbest, by rw [hlop], by rw [hlop]⟩
      have hH2 : HeavyP (rowsB k f) (List.replicate k 1) (rowB k r2.testBit) (wt (List.replicate k 1) k r2) := .inr ⟨f, r2, by rw [hlop]; exact HA.out, by rw [hlop], by rw [hlop]; exact hgo, by rw [hlop]; exact hbest2, by rw [hlop], by rw [hlop]⟩
      have hB2 : SearchP keyM stF (rowsB k f) (rowB k r2.testBit) := .inr ⟨f, r2, by rw [hlop]; exact HA.out, by rw [hlop], by rw [hlop]; exact best_ones (by omega) hbest2, by rw [hlop]⟩
      have HB2 := Lib.hid hB2
      have HH2 := Lib.hid hH2
      have HBEST := Lib.hid hbest
      obtain ⟨M, HM⟩ : ∃ M, Hid (wt ws k r = M) := ⟨_, Lib.hid rfl⟩
      rw [HM.out] at hH
      have hmany : wt (List.replicate k 1) k r2 = ((rowB k r2.testBit).length : Int) := by rw [wt_ones (by omega) hbest2.lt, size_row (by omega) hbest2.lt]
      have HMANY := Lib.hid hmany
      have uu : Upd D (D + 1) wr wr := (Upd.rfl' wr).wide (by omega)
      have HHS := Lib.hid (implHeaviestStable (.slice ga k gc) (rowsB k f) (.slice a5 k c5) ws wr (HTA.out wr uu) (HGO.out wr uu).rd (HW5.out wr uu) (rowB k r.testBit) M hH)
      have HSB : Hid (SetP k (rowB k r.testBit)) := Lib.hid (setP_rowB k _)
      have HSTB : Hid (stB k f (inL (rowB k r.testBit)) = true) := Lib.hid (by rw [stB_row]; exact hbest.fits)
      have HSUM : Hid (wsum ws (rowB k r.testBit) = M) := Lib.hid HM.out
      clear hH hH2 hB2 hbest hbest2 hgw hgo hmany hlop ho5 ho6
      obtain ⟨bl, hbl⟩ : ∃ bl, rowB k r.testBit = bl := ⟨_, rfl⟩
      rw [hbl] at HHS HSB HSTB HSUM
      clear hbl
      have hbll : bl.length ≤ k := HSB.out.length
      go_wp2_with fail
      refine HHS.out.mono ?_
      rintro e1 w13 ⟨bv, rfl, hBL, hb13⟩
      have hu13 : Upd D (D + 1) wr w13 := Upd.ofB hb13
      have OB := OwS.of hBL rfl rfl
      obtain ⟨ba, bc, rfl⟩ := owns_shape hBL
      have hz13 : wr.heap.size ≤ w13.heap.size := hb13.size
      have HST1 := Lib.hid (specStableIn (.slice ga k gc) k f HA.out (.slice ba bl.length bc) bl HSB.out w13 (HGO.out w13 hu13).rd OB.rd)
      have hd13 := hdk.belowAt hb13 (by omega)
      rw [HSTB.out] at HST1
      clear hcg hBL hb13 HHS uu hdk
      have hcg := HVG.out w13 hu13
      go_wp2_with fail
      refine HST1.out.mono ?_
      rintro e1 w14 ⟨rfl, hb14⟩
      have hu14 := hu13.then hb14 (by omega)
      have hz14 : w13.heap.size ≤ w14.heap.size := hb14.size
      have OB14 := OB.upd (Upd.of_below hb14) (by omega)
      have hd14 := hd13.belowAt hb14 (by omega)
      have HBR := OB14.rd
      have HWR := HW5.out w14 hu14
      clear hcg hb14 HST1 OB hd13
      have hcg := HVG.out w14 hu14
      go_wp2_with fail
      go_loopw [10, 11] (fun c t wx => ∃ (j : Nat) (s1 : Int), j ≤ bl.length ∧ t = .int .i64 j ∧ c = .int .i64 s1 ∧ Hid (s1 = wsum ws (bl.take j)) ∧ w14 = wx) (fun _ t _ => bl.length - (intOf t).toNat)
      case atStart => exact ⟨0, 0, Nat.zero_le _, rfl, rfl, Lib.hid rfl, rfl⟩
      case round =>
        obtain ⟨j, s1, hj, rfl, rfl, HS1, rfl⟩ := hrel
        by_cases hlj : j < bl.length
        · obtain ⟨xb, xo, y, rfl, hcx, HX⟩ := HBR.intAt hlj
          obtain ⟨q, rfl⟩ := Int.eq_ofNat_of_zero_le (HSB.out.1 y (List.mem_of_getElem? HX.out)).1
          have hq : q < k := by have := (HSB.out.1 q (List.mem_of_getElem? HX.out)).2; omega
          obtain ⟨yb, yo, z, rfl, hcz, HZ⟩ := HWR.intAt (show q < ws.length by rw [HWL.out]; exact hq)
          have HT := Lib.hid (wsum_take (ws := ws) HX.out)
          have hz0 := HWB.out z (List.mem_of_getElem? HZ.out)
          have hbd := wsum_bound HWB2.out (bl.take j)
          rw [← HS1.out, List.length_take] at hbd
          have hb1 : s1 ≤ 8000 := by omega
          have hb0 : 0 ≤ s1 := by omega
          have hqI : (q : Int) < (k : Int) := by omega
          have HGD : Hid (ws.getD q 0 = z) := Lib.hid (by rw [List.getD_eq_getElem?_getD, HZ.out]; rfl)
          clear hbd
          go_wp2_with fail
          go_roundw
          case rel => exact ⟨j + 1, s1 + z, by omega, by go_num, by go_num, Lib.hid (by rw [HT.out, HS1.out, HGD.out]), by first | rfl | trivial⟩
          case measure => simp [intOf]; omega
        · have hjl : j = bl.length := by omega
          clear hlj
          subst hjl
          have hsm : s1 = M := by rw [HS1.out, List.take_length]; exact HSUM.out
          subst hsm
          go_wp2_with fail
          have hgo14 := HGO.out w14 hu14
          refine (w6Set_any D _ bs (.slice ga k gc) (rowsB k f) k (rowsB_length k f) (by omega) w14 ⟨hgo14.ex.imp fun vs h => ⟨h.1.rebase (by omega), fun x hx => by have := h.2 x hx; omega⟩⟩ hd14 (HR3.out w14 (uk.trans hu14)) hl' hfar).mono ?_
          rintro e1 w15 ⟨ss, sv, hss, rfl, hS15, hd15, v15⟩
          have hu15 := hu14.trans v15
          have hsl : ss.length ≤ k := hss.length
          obtain ⟨sa, sc, rfl⟩ := hS15.shape
          have HSS := Lib.hid hss
          have hz15 : w14.heap.size ≤ w15.heap.size := v15.size
          have HSR := hS15.rd
          have HWR := HW5.out w15 hu15
          clear hcg hd14 hd15 v15 HBR OB14 hss hgo14
          have hcg := HVG.out w15 hu15
          go_wp2_with fail
          go_loopw [13, 14] (fun c t wx => ∃ (j : Nat) (s2 : Int), j ≤ ss.length ∧ t = .int .i64 j ∧ c = .int .i64 s2 ∧ Hid (s2 = wsum ws (ss.take j)) ∧ w15 = wx) (fun _ t _ => ss.length - (intOf t).toNat)
          case atStart => exact ⟨0, 0, Nat.zero_le _, rfl, rfl, Lib.hid rfl, rfl⟩
          case round =>
            obtain ⟨j, s2, hj, rfl, rfl, HS2, rfl⟩ := hrel
            by_cases hlj : j < ss.length
            · obtain ⟨xb, xo, y, rfl, hcx, HX⟩ := HSR.intAt hlj
              obtain ⟨q, rfl⟩ := Int.eq_ofNat_of_zero_le (HSS.out.1 y (List.mem_of_getElem? HX.out)).1
              have hq : q < k := by have := (HSS.out.1 q (List.mem_of_getElem? HX.out)).2; omega
              obtain ⟨yb, yo, z, rfl, hcz, HZ⟩ := HWR.intAt (show q < ws.length by rw [HWL.out]; exact hq)
              have HT := Lib.hid (wsum_take (ws := ws) HX.out)
              have hz0 := HWB.out z (List.mem_of_getElem? HZ.out)
              have hbd := wsum_bound HWB2.out (ss.take j)
              rw [← HS2.out, List.length_take] at hbd
              have hb1 : s2 ≤ 8000 := by omega
              have hb0 : 0 ≤ s2 := by omega
              have hqI : (q : Int) < (k : Int) := by omega
              have HGD : Hid (ws.getD q 0 = z) := Lib.hid (by rw [List.getD_eq_getElem?_getD, HZ.out]; rfl)
              clear hbd
              go_wp2_with fail
              go_roundw
              case rel => exact ⟨j + 1, s2 + z, by omega, by go_num, by go_num, Lib.hid (by rw [HT.out, HS2.out, HGD.out]), by first | rfl | trivial⟩
              case measure => simp [intOf]; omega
            · have hjl : j = ss.length := by omega
              clear hlj
              subst hjl
              have HHT := Lib.hid (implHeaviestStable (.slice ga k gc) (rowsB k f) (.slice a6 k c6) (List.replicate k 1) w15 (HTA.out w15 hu15) (HGO.out w15 hu15).rd (HW6.out w15 hu15) (rowB k r2.testBit) _ HH2.out)
              rw [HMANY.out] at HHT
              have HLESS : Hid (stB k f (inL ss) = true → s2 ≤ s1) := Lib.hid fun h => by
                rw [HS2.out, List.take_length, ← HM.out]
                exact heavy_most HWB2.out (by omega) HBEST.out HSS.out h
              go_wp2_with fail
              refine HHT.out.mono ?_
              rintro e1 w16 ⟨v16, rfl, hL16, hb16⟩
              have hu16 := hu15.then hb16 (by omega)
              have OL16 := OwS.of hL16 rfl rfl
              obtain ⟨la, lc, rfl⟩ := owns_shape hL16
              have hz16 : w15.heap.size ≤ w16.heap.size := hb16.size
              have OS16 := hS15.upd (Upd.of_below hb16) (by omega)
              have HST2 := Lib.hid (specStableIn (.slice ga k gc) k f HA.out (.slice sa ss.length sc) ss HSS.out w16 (HGO.out w16 hu16).rd OS16.rd)
              obtain ⟨q, hq⟩ : ∃ q, stB k f (inL ss) = q := ⟨_, rfl⟩
              rw [hq] at HST2 HLESS
              clear hcg hL16 hb16 HHT HSR HWR hq
              have hcg := HVG.out w16 hu16
              go_wp2_with fail
              refine HST2.out.mono ?_
              rintro e1 w17 ⟨rfl, hb17⟩
              have hu17 := hu16.then hb17 (by omega)
              have hz17 : w16.heap.size ≤ w17.heap.size := hb17.size
              have OL17 := OL16.upd (Upd.of_below hb17) (by omega)
              have HBS := Lib.hid (specBestStable (.slice ga k gc) (rowsB k f) w17 (HGO.out w17 hu17).rd (rowB k r2.testBit) HB2.out)
              clear hcg hb17 HST2
              have hcg := HVG.out w17 hu17
              cases q with
              | true =>
                have hle := HLESS.out rfl
                go_wp2_with fail
                refine HBS.out.mono ?_
                rintro e1 w18 ⟨v18, rfl, hL18, hb18⟩
                have hu18 := hu17.then hb18 (by omega)
                have hz18 : w17.heap.size ≤ w18.heap.size := hb18.size
                have OM18 := OwS.of hL18 rfl rfl
                obtain ⟨ma, mc, rfl⟩ := owns_shape hL18
                have HLI := Lib.hid (likeInts_any (.slice la (rowB k r2.testBit).length lc) (.slice ma (rowB k r2.testBit).length mc) (rowB k r2.testBit) (rowB k r2.testBit) w18 (OL17.upd (Upd.of_below hb18) (by omega)).rd OM18.rd)
                rw [decide_eq_true rfl] at HLI
                clear hcg hb18 hL18 HBS
                go_wp2_with fail
                refine HLI.out.mono ?_
                rintro e1 w19 ⟨rfl, hb19⟩
                have HEND := Lib.hid (HBW.out w19 (hu18.then hb19 (by omega)))
                clear hb19 HLI
                go_wp2_with fail
                go_ret
                exact ⟨rfl, by rw [hD]; exact HEND.out⟩
              | false =>
                go_wp2_with fail
                refine HBS.out.mono ?_
                rintro e1 w18 ⟨v18, rfl, hL18, hb18⟩
                have hu18 := hu17.then hb18 (by omega)
                have hz18 : w17.heap.size ≤ w18.heap.size := hb18.size
                have OM18 := OwS.of hL18 rfl rfl
                obtain ⟨ma, mc, rfl⟩ := owns_shape hL18
                have HLI := Lib.hid (likeInts_any (.slice la (rowB k r2.testBit).length lc) (.slice ma (rowB k r2.testBit).length mc) (rowB k r2.testBit) (rowB k r2.testBit) w18 (OL17.upd (Upd.of_below hb18) (by omega)).rd OM18.rd)
                rw [decide_eq_true rfl] at HLI
                clear hcg hb18 hL18 HBS
                go_wp2_with fail
                refine HLI.out.mono ?_
                rintro e1 w19 ⟨rfl, hb19⟩
                have HEND := Lib.hid (HBW.out w19 (hu18.then hb19 (by omega)))
                clear hb19 HLI
                go_wp2_with fail
                go_ret
                exact ⟨rfl, by rw [hD]; exact HEND.out⟩
end Go.Proofs.YtbhobmngnjfgfaaDoor
