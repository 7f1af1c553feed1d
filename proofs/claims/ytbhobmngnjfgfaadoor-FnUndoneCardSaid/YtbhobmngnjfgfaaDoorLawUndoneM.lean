import Derived.Deep.DeepCutAuto
import Derived.Test.YtbhobmngnjfgfaaDoorHlpM
import Derived.Test.YtbhobmngnjfgfaaDoorMidM
import Derived.Test.YtbhobmngnjfgfaaDoorTakCM
import Derived.Test.YtbhobmngnjfgfaaDoorUndPM
/-
  The law 'FnUndone' returns true.
-/





namespace Go.Proofs.YtbhobmngnjfgfaaDoor
open Go.RowKit

/-- A write into new memory. -/
theorem Upd.trans2 {D B : Nat} {w w1 w2 : World} (h : Upd D (D + 1) w w1) (h' : Upd B (B + 1) w1 w2) (hB : w.heap.size ≤ B) : Upd D (D + 1) w w2 :=
  ⟨h'.os.trans h.os, h'.tape.trans h.tape, h'.output.trans h.output, Nat.le_trans h.size h'.size, fun k hk hn => (h'.block k (Nat.lt_of_lt_of_le hk h.size) (by omega)).trans (h.block k hk hn)⟩

set_option maxHeartbeats 8000000 in
set_option maxRecDepth 100000 in
theorem lawUndone (v : Value) (bs : List UInt8) (w : World) (ht : Tab w) (hr : RdB v bs w) :
    Calls Tryd.prog 10 #[v] w fun e w' => e = .returned (.bool true) ∧ Below w.heap.size w w' := by
  have hbig := Lib.hid (big_any v bs w hr)
  obtain ⟨a, c, rfl, -, -, -⟩ := id hr
  obtain ⟨D, hD⟩ : ∃ D, w.heap.size = D := ⟨_, rfl⟩
  have hTB : 2 < D := by rw [← hD]; exact ht.lt
  have hfar := hD ▸ hr.far
  have hb0 : Below D w w := Below.refl _ _
  go_enter Tryd.func10, Tryd.ntmps10
  go_wp2_with fail
  refine hbig.out.mono ?_
  rintro e1 w' ⟨rfl, rfl⟩
  by_cases hl : 4096 < bs.length
  · have hd : decide (4096 < bs.length) = true := by simpa using hl
    rw [hd]
    clear hd hbig
    go_wp2_with fail
    go_ret
    exact ⟨rfl, by rw [hD]; exact hb0⟩
  have hd : decide (4096 < bs.length) = false := by simpa using hl
  rw [hd]
  clear hd hbig
  have hl' : bs.length ≤ 4096 := by omega
  go_wp2_with fail
  refine (roll_any _ bs 801 hl' w hr).mono ?_
  rintro e1 w1 ⟨rfl, hd1, hb1⟩
  rw [hD] at hd1 hb1 ⊢
  have hr1 : RdB (.slice a bs.length c) bs w1 := Row.below hr (by rw [hD]; exact hb1)
  clear hb0
  go_wp2_with fail
  refine (w5Graph_any D _ bs w1 hd1 hr1 hl' hfar).mono ?_
  rintro e1 w2 ⟨n, f, g, hn8, hA, rfl, hg2, hd2, u2⟩
  have hDw1 : D < w1.heap.size := hd1.lt
  obtain ⟨ga, gc, rfl⟩ := hg2.shape
  rw [rowsB_length] at hg2 ⊢
  have hn16 : n ≤ 16 := by omega
  have hr2 := hr1.upd u2 hfar
  have ht1 := ht.keep hb1 hTB
  have ht2 := ht1.updD u2 hTB
  have hb2 : Below D w w2 := u2.below hb1 (by omega) (by omega)
  obtain ⟨W3, hW3⟩ : ∃ W, W = w2.alloc (.cells #[.slice ga n gc] 56) := ⟨_, rfl⟩
  obtain ⟨G, hG⟩ : ∃ G, w2.heap.size = G := ⟨_, rfl⟩
  have VG3 : VC 56 G #[.slice ga n gc] W3 := by rw [hW3]; exact VC.new hG
  have b3 : Below G w2 W3 := by rw [hW3, ← hG]; exact below_alloc' _ _
  have u3 : Upd D (D + 1) w2 W3 := Upd.ofB (hG.symm ▸ b3)
  have hg3 := hg2.upd u3 (by omega)
  have hd3 := hd2.belowAt b3 (by have := hd2.lt; omega)
  have hr3 := hr2.upd u3 hfar
  have ht3 := ht2.updD u3 hTB
  have hb3 : Below D w W3 := u3.below hb2 (by have := hb2.size; have := hd2.lt; omega) (by omega)
  have hz3 : W3.heap.size = G + 1 := by rw [hW3]; simp [hG]
  have hDG : D < G := by have := hd2.lt; omega
  rw [hG] at hg3
  obtain ⟨lo, hlo⟩ : ∃ lo, w1.heap.size = lo := ⟨_, rfl⟩
  rw [hlo] at hg3 hDw1
  have HA := Lib.hid hA
  have HR3 : Hid (∀ W, Upd D (D + 1) W3 W → RdB (.slice a bs.length c) bs W) := Lib.hid fun W h => hr3.upd h hfar
  have HBE : Hid (∀ (N : Int) (m : Nat) (W : World), N = m → 0 < m → m ≤ 1000000 → Dice D (.slice a bs.length c) bs.length W → Upd D (D + 1) W3 W →
    Calls Tryd.prog 48 #[.pointer (some ⟨D, 0, none⟩), .int .i64 N] W fun e w' => ∃ x : Nat, e = .returned (.int .i64 x) ∧ x < m ∧ Dice D (.slice a bs.length c) bs.length w' ∧ Upd D (D + 1) W w') :=
    Lib.hid fun N m W hN h0 h1 hdW hu => below_any D _ bs m N hN h0 h1 W hdW (hr3.upd hu hfar) hl' hfar
  have HTA : Hid (∀ W, Upd D (D + 1) W3 W → Tab W) := Lib.hid fun W h => ht3.updD h hTB
  have HFG : Hid (∀ W, Upd D (D + 1) W3 W → RdSS (.slice ga n gc) (rowsB n f) W) := Lib.hid fun W h => (hg3.upd h (by omega)).rd
  have HCG : Hid (∀ W, Upd D (D + 1) W3 W → W.cell? ⟨G, 0, none⟩ = some (.slice ga n gc)) := Lib.hid fun W h => (VG3.upd h (by omega)).cell
  have HEN : Hid (∀ W, Upd D (D + 1) W3 W → Below D w W) := Lib.hid fun W h => h.below hb3 (by omega) (by omega)
  have vG0 : Upd D (D + 1) W3 W3 := (Upd.rfl' W3).wide (by omega)
  have hn0 : 0 < n := hA.pos
  have hd0 := hd3
  have hDz : D + 1 ≤ W3.heap.size := by omega
  have hb6 := Lib.hid (HBE.out n n W3 rfl hn0 (by omega) hd0 vG0)
  have hcG := HCG.out _ vG0
  clear hg2 hd2 u2 hr2 ht2 ht1 hr1 hd1 b3 u3 hA hd3 hr3 ht3 hg3 VG3 hb3
  go_wp2_with fail
  try rw [← hW3]
  try rw [hG]
  clear hW3
  try go_wp2_with fail
  refine hb6.out.mono ?_
  rintro e1 w4 ⟨x, rfl, hx, hd1, v4⟩
  have vG1 := vG0.trans v4
  clear hcG hd0 v4 hb6
  have hcG := HCG.out _ vG1
  have hb7 := Lib.hid (HBE.out n n w4 rfl hn0 (by omega) hd1 vG1)
  go_wp2_with fail
  refine hb7.out.mono ?_
  rintro e1 w5 ⟨y, rfl, hy, hd2, v5⟩
  have vG2 := vG1.trans v5
  clear hcG hd1 v5 hb7 vG0 vG1
  obtain ⟨rX, p, hRX⟩ : ∃ r p, addR n f x y = (r, p) := ⟨_, _, rfl⟩
  obtain ⟨rY, q, hRY⟩ : ∃ r p, cutR n f x y = (r, p) := ⟨_, _, rfl⟩
  have hAO := addR_ok HA.out hx hy
  have hCO := cutR_ok HA.out hx hy
  rw [hRX] at hAO
  rw [hRY] at hCO
  have HAO := Lib.hid hAO
  have HCO := Lib.hid hCO
  have HRX := Lib.hid hRX
  have HRY := Lib.hid hRY
  clear hAO hCO hRX hRY
  have hcG := HCG.out _ vG2
  have HQX := Lib.hid (implAddedEdge (.slice ga n gc) (rowsB n f) (x : Int) (y : Int) w5 (HTA.out _ vG2) (HFG.out _ vG2) rX p HAO.out)
  go_wp2_with fail
  refine HQX.out.mono ?_
  rintro e1 wAX ⟨xu, xsX, rfl, hXG, hbA⟩
  obtain ⟨xaX, xcX, rfl⟩ := owns_shape hXG.outer
  obtain ⟨xlX, hxl⟩ : ∃ l, xsX.length = l := ⟨_, rfl⟩
  have OX := OwSS.of hXG rfl rfl
  rw [hxl] at OX ⊢
  clear hXG hxl
  have hlow : D + 1 ≤ w5.heap.size := by have := vG2.size; omega
  obtain ⟨WX, hW⟩ : ∃ W, W = wAX.alloc (.cells #[.slice xaX xlX xcX] 56) := ⟨_, rfl⟩
  obtain ⟨XX, hX⟩ : ∃ X, wAX.heap.size = X := ⟨_, rfl⟩
  have VX : VC 56 XX #[.slice xaX xlX xcX] WX := by rw [hW]; exact VC.new hX
  have bB : Below wAX.heap.size wAX WX := by rw [hW]; exact below_alloc' _ _
  have hhi : w5.heap.size ≤ XX := by have := hbA.size; omega
  have HFX : Hid (∀ W, Upd D (D + 1) WX W → RdSS (.slice xaX xlX xcX) rX W) := Lib.hid fun W h => ((OX.upd (Upd.of_below bB) (by omega)).upd h (by omega)).rd
  have HCX : Hid (∀ W, Upd D (D + 1) WX W → W.cell? ⟨XX, 0, none⟩ = some (.slice xaX xlX xcX)) := Lib.hid fun W h => (VX.upd h (by omega)).cell
  have vG3 := (vG2.then hbA vG2.size).then bB (by have := vG2.size; have := hbA.size; omega)
  have hd3 := (hd2.belowAt hbA (by omega)).belowAt bB (by have := hbA.size; omega)
  clear hcG
  clear vG2 hd2 HQX
  have vX3 : Upd D (D + 1) WX WX := (Upd.rfl' WX).wide (by omega)
  have hrG := HCG.out _ vG3
  rw [hW] at hrG
  clear OX VX bB hbA hhi hlow
  go_wp2_with fail
  try rw [← hW]
  try rw [hX]
  clear hW hX hrG
  have hcG := HCG.out _ vG3
  have hcX := HCX.out _ vX3
  have HQY := Lib.hid (implCutEdge (.slice ga n gc) (rowsB n f) (x : Int) (y : Int) WX (HTA.out _ vG3) (HFG.out _ vG3) rY q HCO.out)
  go_wp2_with fail
  refine HQY.out.mono ?_
  rintro e1 wAY ⟨xu, xsY, rfl, hXG, hbA⟩
  obtain ⟨xaY, xcY, rfl⟩ := owns_shape hXG.outer
  obtain ⟨xlY, hxl⟩ : ∃ l, xsY.length = l := ⟨_, rfl⟩
  have OX := OwSS.of hXG rfl rfl
  rw [hxl] at OX ⊢
  clear hXG hxl
  have hlow : D + 1 ≤ WX.heap.size := by have := vG3.size; omega
  obtain ⟨WY, hW⟩ : ∃ W, W = wAY.alloc (.cells #[.slice xaY xlY xcY] 56) := ⟨_, rfl⟩
  obtain ⟨XY, hX⟩ : ∃ X, wAY.heap.size = X := ⟨_, rfl⟩
  have VX : VC 56 XY #[.slice xaY xlY xcY] WY := by rw [hW]; exact VC.new hX
  have bB : Below wAY.heap.size wAY WY := by rw [hW]; exact below_alloc' _ _
  have hhi : WX.heap.size ≤ XY := by have := hbA.size; omega
  have HFY : Hid (∀ W, Upd D (D + 1) WY W → RdSS (.slice xaY xlY xcY) rY W) := Lib.hid fun W h => ((OX.upd (Upd.of_below bB) (by omega)).upd h (by omega)).rd
  have HCY : Hid (∀ W, Upd D (D + 1) WY W → W.cell? ⟨XY, 0, none⟩ = some (.slice xaY xlY xcY)) := Lib.hid fun W h => (VX.upd h (by omega)).cell
  have vG4 := (vG3.then hbA vG3.size).then bB (by have := vG3.size; have := hbA.size; omega)
  have vX4 := (vX3.then hbA vX3.size).then bB (by have := vX3.size; have := hbA.size; omega)
  have hd4 := (hd3.belowAt hbA (by omega)).belowAt bB (by have := hbA.size; omega)
  clear hcG hcX
  clear vG3 vX3 hd3 HQY
  have vY4 : Upd D (D + 1) WY WY := (Upd.rfl' WY).wide (by omega)
  have hrG := HCG.out _ vG4
  have hrX := HCX.out _ vX4
  rw [hW] at hrG hrX
  clear OX VX bB hbA hhi hlow
  by_cases hxy : x = y
  ·
    have hff : f x y = false := by rw [hxy]; exact HA.out.irr y hy
    obtain ⟨rfl, rfl⟩ : rX = [] ∧ p = false := by
      have h := HRX.out
      unfold addR at h
      rw [if_neg (by simp [hxy])] at h
      exact ⟨(congrArg Prod.fst h).symm, (congrArg Prod.snd h).symm⟩
    obtain ⟨rfl, rfl⟩ : rY = [] ∧ q = false := by
      have h := HRY.out
      unfold cutR at h
      rw [if_neg (by simp [hff])] at h
      exact ⟨(congrArg Prod.fst h).symm, (congrArg Prod.snd h).symm⟩
    have hne : ((x : Int) != (y : Int)) = false := by simp [hxy]
    have HXY := Lib.hid hxy
    clear hxy
    have HQB := Lib.hid (specEdgeIn (.slice ga n gc) (rowsB n f) (x : Int) (y : Int) WY (HFG.out _ vG4))
    rw [edgeB_rows HA.out hx hy, hff] at HQB
    go_wp2_with fail
    try rw [← hW]
    try rw [hX]
    clear hW hX hrG hrX
    have hcG := HCG.out _ vG4
    have hcX := HCX.out _ vX4
    have hcY := HCY.out _ vY4
    try go_wp2_with fail
    refine HQB.out.mono ?_
    rintro e1 wB4 ⟨rfl, hbB⟩
    have vG5 := vG4.then hbB vG4.size
    have vX5 := vX4.then hbB vX4.size
    have vY5 := vY4.then hbB vY4.size
    have hd5 := hd4.belowAt hbB (by have := vG4.size; omega)
    clear hcG hcX hcY
    clear hbB HQB vG4 vX4 vY4 hd4
    have hcG := HCG.out _ vG5
    have hcX := HCX.out _ vX5
    have hcY := HCY.out _ vY5
    have HQO := Lib.hid (implComplement (.slice ga n gc) (rowsB n f) wB4 (HTA.out _ vG5) (HFG.out _ vG5) (rowsB n (compB f)) true (.inr ⟨n, f, HA.out, rfl, rfl, rfl⟩))
    go_wp2_with fail
    refine HQO.out.mono ?_
    rintro e1 wAO ⟨xu, xsO, rfl, hXG, hbA⟩
    obtain ⟨xaO, xcO, rfl⟩ := owns_shape hXG.outer
    obtain ⟨xlO, hxl⟩ : ∃ l, xsO.length = l := ⟨_, rfl⟩
    have OX := OwSS.of hXG rfl rfl
    rw [hxl] at OX ⊢
    clear hXG hxl
    have hlow : D + 1 ≤ wB4.heap.size := by have := vG5.size; omega
    obtain ⟨WO, hW⟩ : ∃ W, W = wAO.alloc (.cells #[.slice xaO xlO xcO] 56) := ⟨_, rfl⟩
    obtain ⟨XO, hX⟩ : ∃ X, wAO.heap.size = X := ⟨_, rfl⟩
    have VX : VC 56 XO #[.slice xaO xlO xcO] WO := by rw [hW]; exact VC.new hX
    have bB : Below wAO.heap.size wAO WO := by rw [hW]; exact below_alloc' _ _
    have hhi : wB4.heap.size ≤ XO := by have := hbA.size; omega
    have HFO : Hid (∀ W, Upd D (D + 1) WO W → RdSS (.slice xaO xlO xcO) (rowsB n (compB f)) W) := Lib.hid fun W h => ((OX.upd (Upd.of_below bB) (by omega)).upd h (by omega)).rd
    have HCO : Hid (∀ W, Upd D (D + 1) WO W → W.cell? ⟨XO, 0, none⟩ = some (.slice xaO xlO xcO)) := Lib.hid fun W h => (VX.upd h (by omega)).cell
    have vG6 := (vG5.then hbA vG5.size).then bB (by have := vG5.size; have := hbA.size; omega)
    have vX6 := (vX5.then hbA vX5.size).then bB (by have := vX5.size; have := hbA.size; omega)
    have vY6 := (vY5.then hbA vY5.size).then bB (by have := vY5.size; have := hbA.size; omega)
    have hd6 := (hd5.belowAt hbA (by omega)).belowAt bB (by have := hbA.size; omega)
    clear hcG hcX hcY
    clear vG5 vX5 vY5 hd5 HQO
    have vO6 : Upd D (D + 1) WO WO := (Upd.rfl' WO).wide (by omega)
    have hrG := HCG.out _ vG6
    have hrX := HCX.out _ vX6
    have hrY := HCY.out _ vY6
    rw [hW] at hrG hrX hrY
    clear OX VX bB hbA hhi hlow
    go_wp2_with fail
    try rw [← hW]
    try rw [hX]
    clear hW hX hrG hrX hrY
    have hcG := HCG.out _ vG6
    have hcX := HCX.out _ vX6
    have hcY := HCY.out _ vY6
    have hcO := HCO.out _ vO6
    have HQT := Lib.hid (implComplement (.slice xaO xlO xcO) (rowsB n (compB f)) WO (HTA.out _ vG6) (HFO.out _ vO6) (rowsB n f) true (.inr ⟨n, compB f, adj_comp HA.out, rfl, (comp_comp HA.out).symm, rfl⟩))
    go_wp2_with fail
    refine HQT.out.mono ?_
    rintro e1 wAT ⟨xu, xsT, rfl, hXG, hbA⟩
    obtain ⟨xaT, xcT, rfl⟩ := owns_shape hXG.outer
    obtain ⟨xlT, hxl⟩ : ∃ l, xsT.length = l := ⟨_, rfl⟩
    have OX := OwSS.of hXG rfl rfl
    rw [hxl] at OX ⊢
    clear hXG hxl
    have hlow : D + 1 ≤ WO.heap.size := by have := vG6.size; omega
    obtain ⟨WT, hW⟩ : ∃ W, W = wAT.alloc (.cells #[.slice xaT xlT xcT] 56) := ⟨_, rfl⟩
    obtain ⟨XT, hX⟩ : ∃ X, wAT.heap.size = X := ⟨_, rfl⟩
    have VX : VC 56 XT #[.slice xaT xlT xcT] WT := by rw [hW]; exact VC.new hX
    have bB : Below wAT.heap.size wAT WT := by rw [hW]; exact below_alloc' _ _
    have hhi : WO.heap.size ≤ XT := by have := hbA.size; omega
    have HFT : Hid (∀ W, Upd D (D + 1) WT W → RdSS (.slice xaT xlT xcT) (rowsB n f) W) := Lib.hid fun W h => ((OX.upd (Upd.of_below bB) (by omega)).upd h (by omega)).rd
    have HCT : Hid (∀ W, Upd D (D + 1) WT W → W.cell? ⟨XT, 0, none⟩ = some (.slice xaT xlT xcT)) := Lib.hid fun W h => (VX.upd h (by omega)).cell
    have vG7 := (vG6.then hbA vG6.size).then bB (by have := vG6.size; have := hbA.size; omega)
    have vX7 := (vX6.then hbA vX6.size).then bB (by have := vX6.size; have := hbA.size; omega)
    have vY7 := (vY6.then hbA vY6.size).then bB (by have := vY6.size; have := hbA.size; omega)
    have vO7 := (vO6.then hbA vO6.size).then bB (by have := vO6.size; have := hbA.size; omega)
    have hd7 := (hd6.belowAt hbA (by omega)).belowAt bB (by have := hbA.size; omega)
    clear hcG hcX hcY hcO
    clear vG6 vX6 vY6 vO6 hd6 HQT
    have vT7 : Upd D (D + 1) WT WT := (Upd.rfl' WT).wide (by omega)
    have hrG := HCG.out _ vG7
    have hrX := HCX.out _ vX7
    have hrY := HCY.out _ vY7
    have hrO := HCO.out _ vO7
    rw [hW] at hrG hrX hrY hrO
    clear OX VX bB hbA hhi hlow
    go_upto_region 22 with (fail)
    try rw [← hW]
    try rw [hX]
    clear hW hX hrG hrX hrY hrO
    go_cut [20, 21] (fun p q wx => ∃ (XM : Nat) (xaM : Option Addr) (xlM xcM : Nat) (ss : List Int), p = .pointer (some ⟨XM, 0, none⟩) ∧ q = .bool true ∧ Hid (SetP n ss) ∧ Hid (∀ W, Upd D (D + 1) wx W → RdSS (.slice xaM xlM xcM) (rowsB (n + 1) (hung n f ss)) W) ∧ Hid (∀ W, Upd D (D + 1) wx W → W.cell? ⟨XM, 0, none⟩ = some (.slice xaM xlM xcM)) ∧ Upd D (D + 1) WT wx)
    case first =>
      have uD : Upd D (D + 1) WT WT.drew := (Upd.drew WT).wide (by omega)
      have vGd := vG7.trans uD
      have hdd := hd7.upd (Upd.drew WT) (by omega)
      have hcGw := HCG.out _ vG7
      have hzd : WT.heap.size ≤ WT.drew.heap.size := Nat.le_refl _
      have hDT : D + 1 ≤ WT.heap.size := by have := vG7.size; omega
      have hsub : ∀ x : KeptC G (.slice ga n gc), x.W.cell? ⟨G, 0, none⟩ = some (.slice ga n gc) := fun x => x.h
      haveI hne2 : Nonempty (KeptC G (.slice ga n gc)) := ⟨⟨_, hcGw⟩⟩
      have HKC : Hid (∀ W, Upd D (D + 1) W3 W → ∃ x : KeptC G (.slice ga n gc), W = x.W) := Lib.hid fun W h => ⟨⟨_, HCG.out W h⟩, rfl⟩
      have HSET : Hid (∀ (W : World), Upd D (D + 1) W3 W → Dice D (.slice a bs.length c) bs.length W → Calls Tryd.prog 60 #[.pointer (some ⟨D, 0, none⟩), .int .i64 n] W (GenS D (.slice a bs.length c) bs.length n W)) := Lib.hid fun W h hdw => w5Set_any D _ bs n n rfl (by omega) W hdw (HR3.out W h) hl' hfar
      have HADD : Hid (∀ (sv : Value) (ss : List Int) (W : World), Upd D (D + 1) W3 W → SetP n ss → RdS sv ss W → Calls Tryd.prog 59 #[.agg #[.slice ga n gc], sv] W (GRes W (rowsB (n + 1) (hung n f ss)) true)) := Lib.hid fun sv ss W h hss hs => implAddedVertex (.slice ga n gc) (rowsB n f) sv ss W (HTA.out W h) (HFG.out W h) hs _ _ (.inr ⟨f, by rw [rowsB_length]; exact HA.out, by rw [rowsB_length], ⟨okB_adj HA.out, by rw [rowsB_length]; exact hss, by rw [rowsB_length]; omega⟩, by rw [rowsB_length], rfl⟩)
      refine wp_region_takeC (C := fun W => ∃ x : KeptC G (.slice ga n gc), W = x.W) [1, 2] [0] 4 8 #[true, true, true, false, false, false, false, false, false, false, false] (by kernel_rfl) (by kernel_rfl) (by kernel_rfl) (by kernel_rfl) (HKC.out _ vGd) (fun _ _ d _ _ h => by cases d <;> exact h) ?_
      simp only [pickOps, List.filterMap_cons, List.filterMap_nil, List.getElem?_cons_succ, List.getElem?_cons_zero]
      repeat quiet_step (fail)
      simp only [wpQuiet_nil_eq]
      clear hcGw hsub
      generalize WT.drew = wd at *
      refine wpAnyG_2 3 8 (by kernel_rfl) rfl rfl ?_ ?_
      · unfold wpNext
        go_wp2_with fail
        refine (HSET.out wd vGd hdd).mono ?_
        rintro e1 w5 ⟨ss, sv, hss, rfl, hS5, -, u5⟩
        obtain ⟨sa, sc, rfl⟩ := hS5.shape
        have HSS := Lib.hid hss
        have v5 := vGd.trans u5
        have HAD := Lib.hid (HADD.out _ ss w5 v5 hss hS5.rd)
        have hUD5 := uD.trans u5
        have hz5 : wd.heap.size ≤ w5.heap.size := u5.size
        clear hss
        go_wp2_with fail
        refine ⟨fun _ => HKC.out _ v5, ?_⟩
        refine wpAnyG_2 4 8 (by kernel_rfl) rfl rfl ?_ ?_
        · unfold wpNext
          go_wp2_with fail
          refine HAD.out.mono ?_
          rintro e1 wA ⟨xu, xs, rfl, hXG, hbA⟩
          obtain ⟨xa, xc, rfl⟩ := owns_shape hXG.outer
          have OX := OwSS.of hXG rfl rfl
          obtain ⟨xl, hxl⟩ : ∃ l, xs.length = l := ⟨_, rfl⟩
          rw [hxl] at OX ⊢
          obtain ⟨W9, hW9⟩ : ∃ W, W = wA.alloc (.cells #[.slice xa xl xc] 56) := ⟨_, rfl⟩
          obtain ⟨B8, hB8⟩ : ∃ X, wA.heap.size = X := ⟨_, rfl⟩
          have VX : VC 56 B8 #[.slice xa xl xc] W9 := by rw [hW9]; exact VC.new hB8
          have bB : Below wA.heap.size wA W9 := by rw [hW9]; exact below_alloc' _ _
          have hzA := hbA.size
          have v9 : Upd D (D + 1) WT W9 := (hUD5.then hbA (by have := hUD5.size; omega)).then bB (by have := hUD5.size; omega)
          have HF9 : Hid (∀ W, Upd D (D + 1) W9 W → RdSS (.slice xa xl xc) (rowsB (n + 1) (hung n f ss)) W) := Lib.hid fun W h => ((OX.upd (Upd.of_below bB) (by omega)).upd h (by omega)).rd
          have HC9 : Hid (∀ W, Upd D (D + 1) W9 W → W.cell? ⟨B8, 0, none⟩ = some (.slice xa xl xc)) := Lib.hid fun W h => (VX.upd h (by have := hbA.size; omega)).cell
          clear OX VX bB hXG hbA
          go_wp2_with fail
          refine ⟨fun h => by simp at h, ?_⟩
          refine wpAnyG_mid [5, 6, 7] 3 #[true, true, true, true, true, true, true, true, false, false, false] rfl (by kernel_rfl) (by kernel_rfl) (by kernel_rfl) (fun _ _ d _ _ h => by cases d <;> exact h) (fun h => by simp at h) ?_
          simp only [pickOps, List.filterMap_cons, List.filterMap_nil, List.getElem?_cons_succ, List.getElem?_cons_zero]
          repeat quiet_step (fail)
          try simp only [wpQuiet_nil_eq]
          refine wpAnyG_tail [8, 9, 10] rfl (.inl (by kernel_rfl)) (by kernel_rfl) ?_
          simp only [pickOps, List.filterMap_cons, List.filterMap_nil, List.getElem?_cons_succ, List.getElem?_cons_zero]
          go_wp2_with fail
          try rw [← hW9]
          try rw [hB8]
          go_meet
          case rel => exact ⟨B8, xa, xl, xc, ss, rfl, rfl, HSS, HF9, HC9, v9⟩
        · unfold wpNext
          go_wp2_with fail
          obtain ⟨B8, hB8⟩ : ∃ X, w5.heap.size = X := ⟨_, rfl⟩
          obtain ⟨w8, hw8⟩ : ∃ W, W = w5.alloc (.cells #[.slice none 0 0] 56) := ⟨_, rfl⟩
          have VB : VC 56 B8 #[.slice none 0 0] w8 := by rw [hw8]; exact VC.new hB8
          have b8 : Below w5.heap.size w5 w8 := by rw [hw8]; exact below_alloc' _ _
          have v8 := v5.then b8 v5.size
          have HA8 := Lib.hid (HADD.out _ ss w8 v8 HSS.out (hS5.upd (Upd.of_below b8) (by omega)).rd)
          have hUD8 := hUD5.then b8 hUD5.size
          have hz8 : w8.heap.size = B8 + 1 := by rw [hw8]; simp [hB8]
          have hDB : D + 1 ≤ B8 := by have := v5.size; omega
          have hTB8 : WT.heap.size ≤ B8 := by have := hUD5.size; omega
          clear hUD5 HAD
          have hUD5 := hUD8
          rw [← hw8]
          try rw [hB8]
          clear hw8 hUD8
          refine ⟨fun _ => HKC.out _ v8, ?_⟩
          refine wpAnyG_1 4 (by kernel_rfl) rfl ?_
          unfold wpNext
          go_wp2_with fail
          refine HA8.out.mono ?_
          rintro e1 wA ⟨xu, xs, rfl, hXG, hbA⟩
          obtain ⟨xa, xc, rfl⟩ := owns_shape hXG.outer
          have OX := OwSS.of hXG rfl rfl
          obtain ⟨xl, hxl⟩ : ∃ l, xs.length = l := ⟨_, rfl⟩
          rw [hxl] at OX ⊢
          obtain ⟨W9, hW9⟩ : ∃ W, W = wA.setCell ⟨B8, 0, none⟩ (.slice xa xl xc) := ⟨_, rfl⟩
          have VBA := VB.belowAt hbA (by omega)
          have VX : VC 56 B8 #[.slice xa xl xc] W9 := by rw [hW9]; exact VBA.set _
          have hcb := VBA.cell
          have hfb := VBA.free
          have bB : Upd B8 (B8 + 1) wA W9 := by rw [hW9]; exact Upd.setAt _ _ _ _
          have v9 : Upd D (D + 1) WT W9 := (hUD5.then hbA (by have := hUD5.size; omega)).trans2 bB (by have := hUD5.size; omega)
          have HF9 : Hid (∀ W, Upd D (D + 1) W9 W → RdSS (.slice xa xl xc) (rowsB (n + 1) (hung n f ss)) W) := Lib.hid fun W h => ((OX.upd bB (by omega)).upd h (by omega)).rd
          have HC9 : Hid (∀ W, Upd D (D + 1) W9 W → W.cell? ⟨B8, 0, none⟩ = some (.slice xa xl xc)) := Lib.hid fun W h => (VX.upd h (by have := hbA.size; omega)).cell
          clear OX VX bB hXG hbA VB VBA
          go_wp2_with fail
          refine ⟨fun h => by simp at h, ?_⟩
          refine wpAnyG_mid [5, 6, 7] 2 #[true, true, true, true, true, true, true, true, true, false, false] rfl (by kernel_rfl) (by kernel_rfl) (by kernel_rfl) (fun _ _ d _ _ h => by cases d <;> exact h) (fun h => by simp at h) ?_
          simp only [pickOps, List.filterMap_cons, List.filterMap_nil, List.getElem?_cons_succ, List.getElem?_cons_zero]
          repeat quiet_step (fail)
          try simp only [wpQuiet_nil_eq]
          refine wpAnyG_tail [9, 10] rfl (.inl (by kernel_rfl)) (by kernel_rfl) ?_
          simp only [pickOps, List.filterMap_cons, List.filterMap_nil, List.getElem?_cons_succ, List.getElem?_cons_zero]
          go_wp2_with fail
          try rw [← hW9]
          try rw [hB8]
          go_meet
          case rel => exact ⟨B8, xa, xl, xc, ss, rfl, rfl, HSS, HF9, HC9, v9⟩
      · unfold wpNext
        go_wp2_with fail
        obtain ⟨B8, hB8⟩ : ∃ X, wd.heap.size = X := ⟨_, rfl⟩
        obtain ⟨w8, hw8⟩ : ∃ W, W = wd.alloc (.cells #[.slice none 0 0] 56) := ⟨_, rfl⟩
        have VB0 : VC 56 B8 #[.slice none 0 0] w8 := by rw [hw8]; exact VC.new hB8
        have b8 : Below wd.heap.size wd w8 := by rw [hw8]; exact below_alloc' _ _
        have v8 := vGd.then b8 vGd.size
        have hd8 := hdd.belowAt b8 (by omega)
        have hUD8 := uD.then b8 uD.size
        have hz8 : w8.heap.size = B8 + 1 := by rw [hw8]; simp [hB8]
        have hDB : D + 1 ≤ B8 := by omega
        have hTB8 : WT.heap.size ≤ B8 := by omega
        rw [← hw8]
        try rw [hB8]
        clear hw8
        refine ⟨fun _ => HKC.out _ v8, ?_⟩
        refine wpAnyG_1 3 (by kernel_rfl) rfl ?_
        unfold wpNext
        go_wp2_with fail
        refine (HSET.out w8 v8 hd8).mono ?_
        rintro e1 w5 ⟨ss, sv, hss, rfl, hS5, -, u5⟩
        obtain ⟨sa, sc, rfl⟩ := hS5.shape
        have HSS := Lib.hid hss
        have v5 := v8.trans u5
        have VB := VB0.upd u5 (by omega)
        have HAD := Lib.hid (HADD.out _ ss w5 v5 hss hS5.rd)
        have hUD5 := hUD8.trans u5
        have hz5 : w8.heap.size ≤ w5.heap.size := u5.size
        clear hss hUD8
        go_wp2_with fail
        refine ⟨fun _ => HKC.out _ v5, ?_⟩
        refine wpAnyG_1 4 (by kernel_rfl) rfl ?_
        unfold wpNext
        go_wp2_with fail
        refine HAD.out.mono ?_
        rintro e1 wA ⟨xu, xs, rfl, hXG, hbA⟩
        obtain ⟨xa, xc, rfl⟩ := owns_shape hXG.outer
        have OX := OwSS.of hXG rfl rfl
        obtain ⟨xl, hxl⟩ : ∃ l, xs.length = l := ⟨_, rfl⟩
        rw [hxl] at OX ⊢
        obtain ⟨W9, hW9⟩ : ∃ W, W = wA.setCell ⟨B8, 0, none⟩ (.slice xa xl xc) := ⟨_, rfl⟩
        have VBA := VB.belowAt hbA (by omega)
        have VX : VC 56 B8 #[.slice xa xl xc] W9 := by rw [hW9]; exact VBA.set _
        have hcb := VBA.cell
        have hfb := VBA.free
        have bB : Upd B8 (B8 + 1) wA W9 := by rw [hW9]; exact Upd.setAt _ _ _ _
        have v9 : Upd D (D + 1) WT W9 := (hUD5.then hbA (by have := hUD5.size; omega)).trans2 bB (by have := hUD5.size; omega)
        have HF9 : Hid (∀ W, Upd D (D + 1) W9 W → RdSS (.slice xa xl xc) (rowsB (n + 1) (hung n f ss)) W) := Lib.hid fun W h => ((OX.upd bB (by omega)).upd h (by omega)).rd
        have HC9 : Hid (∀ W, Upd D (D + 1) W9 W → W.cell? ⟨B8, 0, none⟩ = some (.slice xa xl xc)) := Lib.hid fun W h => (VX.upd h (by have := hbA.size; omega)).cell
        clear OX VX bB hXG hbA VB VBA
        go_wp2_with fail
        refine ⟨fun h => by simp at h, ?_⟩
        refine wpAnyG_mid [5, 6, 7] 2 #[true, true, true, true, true, true, true, true, true, false, false] rfl (by kernel_rfl) (by kernel_rfl) (by kernel_rfl) (fun _ _ d _ _ h => by cases d <;> exact h) (fun h => by simp at h) ?_
        simp only [pickOps, List.filterMap_cons, List.filterMap_nil, List.getElem?_cons_succ, List.getElem?_cons_zero]
        repeat quiet_step (fail)
        try simp only [wpQuiet_nil_eq]
        refine wpAnyG_tail [9, 10] rfl (.inl (by kernel_rfl)) (by kernel_rfl) ?_
        simp only [pickOps, List.filterMap_cons, List.filterMap_nil, List.getElem?_cons_succ, List.getElem?_cons_zero]
        go_wp2_with fail
        try rw [← hW9]
        try rw [hB8]
        go_meet
        case rel => exact ⟨B8, xa, xl, xc, ss, rfl, rfl, HSS, HF9, HC9, v9⟩
    case rest =>
      obtain ⟨XM, xaM, xlM, xcM, ss, rfl, rfl, HSS, HFM, HCM, vcut⟩ := hcut
      have vG8 := vG7.trans vcut
      have vX8 := vX7.trans vcut
      have vY8 := vY7.trans vcut
      have vO8 := vO7.trans vcut
      have vT8 := vT7.trans vcut
      clear vcut hd7 vG7 vX7 vY7 vO7 vT7
      have vM8 : Upd D (D + 1) wc wc := (Upd.rfl' wc).wide (by omega)
      have HCV : Hid (∀ (g : Value) (W : World), Tab W → RdSS g (rowsB (n + 1) (hung n f ss)) W → Calls Tryd.prog 61 #[.agg #[g], .int .i64 (n : Int)] W (GRes W (rowsB n f) true)) := Lib.hid fun g W ht hr => by
        have hAH := adj_hung HA.out (by omega) (fun x hx => (HSS.out.1 x hx).2) (fun x hx => (HSS.out.1 x hx).1)
        have hll : (rowsB (n + 1) (hung n f ss)).length = n + 1 := rowsB_length _ _
        refine implCutVertex g _ (n : Int) W ht hr _ _ (.inr ⟨hung n f ss, n, by rw [hll]; exact hAH, by rw [hll], rfl, by rw [hll]; omega, ⟨vertexB_rows hAH (by omega), by rw [hll]; omega⟩, ?_, rfl⟩)
        rw [hll]
        exact (cut_hung hAH).symm
      have hcG := HCG.out _ vG8
      have hcX := HCX.out _ vX8
      have hcY := HCY.out _ vY8
      have hcO := HCO.out _ vO8
      have hcT := HCT.out _ vT8
      have hcM := HCM.out _ vM8
      have HQL := Lib.hid (HCV.out (.slice xaM xlM xcM) wc (HTA.out _ vG8) (HFM.out _ vM8))
      go_wp2_with fail
      refine HQL.out.mono ?_
      rintro e1 wAL ⟨xu, xsL, rfl, hXG, hbA⟩
      obtain ⟨xaL, xcL, rfl⟩ := owns_shape hXG.outer
      obtain ⟨xlL, hxl⟩ : ∃ l, xsL.length = l := ⟨_, rfl⟩
      have OX := OwSS.of hXG rfl rfl
      rw [hxl] at OX ⊢
      clear hXG hxl
      have hlow : D + 1 ≤ wc.heap.size := by have := vG8.size; omega
      obtain ⟨WL, hW⟩ : ∃ W, W = wAL.alloc (.cells #[.slice xaL xlL xcL] 56) := ⟨_, rfl⟩
      obtain ⟨XL, hX⟩ : ∃ X, wAL.heap.size = X := ⟨_, rfl⟩
      have VX : VC 56 XL #[.slice xaL xlL xcL] WL := by rw [hW]; exact VC.new hX
      have bB : Below wAL.heap.size wAL WL := by rw [hW]; exact below_alloc' _ _
      have hhi : wc.heap.size ≤ XL := by have := hbA.size; omega
      have HFL : Hid (∀ W, Upd D (D + 1) WL W → RdSS (.slice xaL xlL xcL) (rowsB n f) W) := Lib.hid fun W h => ((OX.upd (Upd.of_below bB) (by omega)).upd h (by omega)).rd
      have HCL : Hid (∀ W, Upd D (D + 1) WL W → W.cell? ⟨XL, 0, none⟩ = some (.slice xaL xlL xcL)) := Lib.hid fun W h => (VX.upd h (by omega)).cell
      have vG9 := (vG8.then hbA vG8.size).then bB (by have := vG8.size; have := hbA.size; omega)
      have vX9 := (vX8.then hbA vX8.size).then bB (by have := vX8.size; have := hbA.size; omega)
      have vY9 := (vY8.then hbA vY8.size).then bB (by have := vY8.size; have := hbA.size; omega)
      have vO9 := (vO8.then hbA vO8.size).then bB (by have := vO8.size; have := hbA.size; omega)
      have vT9 := (vT8.then hbA vT8.size).then bB (by have := vT8.size; have := hbA.size; omega)
      have vM9 := (vM8.then hbA vM8.size).then bB (by have := vM8.size; have := hbA.size; omega)
      clear hcG hcX hcY hcO hcT hcM
      clear vG8 vX8 vY8 vO8 vT8 vM8 HQL
      have vL9 : Upd D (D + 1) WL WL := (Upd.rfl' WL).wide (by omega)
      have hrG := HCG.out _ vG9
      have hrX := HCX.out _ vX9
      have hrY := HCY.out _ vY9
      have hrO := HCO.out _ vO9
      have hrT := HCT.out _ vT9
      have hrM := HCM.out _ vM9
      rw [hW] at hrG hrX hrY hrO hrT hrM
      clear OX VX bB hbA hhi hlow
      go_wp2_with fail
      try rw [← hW]
      try rw [hX]
      clear hW hX hrG hrX hrY hrO hrT hrM
      have hcG := HCG.out _ vG9
      have hcX := HCX.out _ vX9
      have hcY := HCY.out _ vY9
      have hcO := HCO.out _ vO9
      have hcT := HCT.out _ vT9
      have hcM := HCM.out _ vM9
      have hcL := HCL.out _ vL9
      have HOG : Hid (∀ x, Upd D (D + 1) W3 (over WL x)) := Lib.hid fun x => vG9.then (below_over WL x) vG9.size
      have HOO : Hid (∀ x, Upd D (D + 1) WO (over WL x)) := Lib.hid fun x => vO9.then (below_over WL x) vO9.size
      have HOT : Hid (∀ x, Upd D (D + 1) WT (over WL x)) := Lib.hid fun x => vT9.then (below_over WL x) vT9.size
      have HOL : Hid (∀ x, Upd D (D + 1) WL (over WL x)) := Lib.hid fun x => vL9.then (below_over WL x) vL9.size
      have HS1 : Hid (∀ x, Calls Tryd.prog 57 #[.agg #[.slice xaT xlT xcT], .agg #[.slice ga n gc]] (over WL x) fun e w' => e = .returned (.bool true) ∧ Below (over WL x).heap.size (over WL x) w') := Lib.hid fun x => implSame (.slice xaT xlT xcT) (.slice ga n gc) (rowsB n f) (rowsB n f) _ (HFT.out _ (HOT.out x)) (HFG.out _ (HOG.out x)) true (sameB_rows HA.out)
      have HS2 : Hid (∀ x, Calls Tryd.prog 57 #[.agg #[.slice xaL xlL xcL], .agg #[.slice ga n gc]] (over WL x) fun e w' => e = .returned (.bool true) ∧ Below (over WL x).heap.size (over WL x) w') := Lib.hid fun x => implSame (.slice xaL xlL xcL) (.slice ga n gc) (rowsB n f) (rowsB n f) _ (HFL.out _ (HOL.out x)) (HFG.out _ (HOG.out x)) true (sameB_rows HA.out)
      obtain ⟨a1, HA1⟩ : ∃ l, Hid ((edgesL n (compB f)).length = l) := ⟨_, Lib.hid rfl⟩
      obtain ⟨a2, HA2⟩ : ∃ l, Hid ((edgesL n f).length = l) := ⟨_, Lib.hid rfl⟩
      have HM1 : Hid (∀ x, Calls Tryd.prog 62 #[.agg #[.slice xaO xlO xcO]] (over WL x) fun e w' => e = .returned (.int .i64 (a1 : Nat)) ∧ Below (over WL x).heap.size (over WL x) w') := Lib.hid fun x => by rw [← HA1.out]; exact implManyEdges _ n (compB f) (adj_comp HA.out) _ (HFO.out _ (HOO.out x))
      have HM2 : Hid (∀ x, Calls Tryd.prog 62 #[.agg #[.slice ga n gc]] (over WL x) fun e w' => e = .returned (.int .i64 (a2 : Nat)) ∧ Below (over WL x).heap.size (over WL x) w') := Lib.hid fun x => by rw [← HA2.out]; exact implManyEdges _ n f HA.out _ (HFG.out _ (HOG.out x))
      have hE := edges_both f hn8
      rw [HA1.out, HA2.out] at hE
      obtain ⟨m1, hm1⟩ : ∃ m1 : Nat, (n : Int) - 1 = (m1 : Int) := ⟨n - 1, by omega⟩
      have hm1n : n - 1 = m1 := by omega
      obtain ⟨m2, hm2⟩ : ∃ m2 : Nat, (n : Int) * (m1 : Int) = (m2 : Int) := ⟨n * m1, by simp⟩
      have hm2n : n * m1 = m2 := by have := hm2; rw [← Int.natCast_mul] at this; omega
      have hm56 : m2 ≤ 56 := by rw [← hm2n, ← hm1n]; exact Nat.le_trans (Nat.mul_le_mul hn8 (show n - 1 ≤ 7 by omega)) (by decide)
      rw [hm1n, hm2n] at hE
      obtain ⟨m3, hm3⟩ : ∃ m3 : Nat, Int.tdiv (m2 : Int) 2 = (m3 : Int) := ⟨m2 / 2, by rw [Int.tdiv_eq_ediv_of_nonneg (by omega)]; omega⟩
      have hm3n : m2 / 2 = m3 := by rw [Int.tdiv_eq_ediv_of_nonneg (by omega)] at hm3; omega
      have hE2 : (a1 : Int) + (a2 : Int) = (m3 : Int) := by omega
      have hm28 : m3 ≤ 28 := by omega
      have hm17 : m1 ≤ 7 := by omega
      have HEND : Hid (∀ W, Below WL.heap.size WL W → Below D w W) := Lib.hid fun W h => HEN.out W (vG9.then h vG9.size)
      clear hm1n hm2n hm3n hE
      refine wp_region_calm (by kernel_rfl) (by kernel_rfl) ?_
      repeat quiet_step (first | (go_at_call 57; with_reducible exact calls_over (HS1.out _)) | (go_at_call 57; with_reducible exact calls_over (HS2.out _)) | (go_at_call 62; with_reducible exact calls_over (HM1.out _)) | (go_at_call 62; with_reducible exact calls_over (HM2.out _)))
      have hw1 : IntKind.i64.wrap (m1 : Int) = m1 := by rw [IntKind.wrap_i64]; omega
      have hw2 : IntKind.i64.wrap ((n : Int) * (m1 : Int)) = m2 := by rw [hm2, IntKind.wrap_i64]; omega
      have hw3 : IntKind.i64.wrap (m3 : Int) = m3 := by rw [IntKind.wrap_i64]; omega
      try rw [hw1]
      try rw [hw2]
      try rw [hm3]
      try rw [hw3]
      refine wpQuiet_nil ?_
      intro W' hbW'
      have HBB := Lib.hid (HEND.out W' hbW')
      clear hbW'
      go_wp2_with fail
      go_ret
      exact ⟨by simp, by rw [hD]; exact HBB.out⟩
  have hne : ((x : Int) != (y : Int)) = true := by simpa using (show ¬ (x : Int) = (y : Int) by omega)
  have HXY := Lib.hid hxy
  clear hxy
  cases hff : f x y with
  | false =>
    have HFF := Lib.hid hff
    obtain ⟨rfl, rfl⟩ : rX = rowsB n (plus f x y) ∧ p = true := by
      have h := HRX.out
      unfold addR at h
      rw [if_pos (by simp [HXY.out, hff])] at h
      exact ⟨(congrArg Prod.fst h).symm, (congrArg Prod.snd h).symm⟩
    obtain ⟨rfl, rfl⟩ : rY = [] ∧ q = false := by
      have h := HRY.out
      unfold cutR at h
      rw [if_neg (by simp [hff])] at h
      exact ⟨(congrArg Prod.fst h).symm, (congrArg Prod.snd h).symm⟩
    have hCZ := cutR_ok (adj_plus HA.out HXY.out) hy hx
    rw [plus_minus HA.out hx hy HXY.out hff] at hCZ
    have HCT : Hid (∀ (g : Value) (W : World), Tab W → RdSS g (rowsB n (plus f x y)) W → Calls Tryd.prog 55 #[.agg #[g], .int .i64 (y : Int), .int .i64 (x : Int)] W (GRes W (rowsB n f) true)) := Lib.hid fun g W ht hr => implCutEdge g _ (y : Int) (x : Int) W ht hr _ _ hCZ
    clear hCZ
    have HQB := Lib.hid (specEdgeIn (.slice ga n gc) (rowsB n f) (x : Int) (y : Int) WY (HFG.out _ vG4))
    rw [edgeB_rows HA.out hx hy, hff] at HQB
    go_wp2_with fail
    try rw [← hW]
    try rw [hX]
    clear hW hX hrG hrX
    have hcG := HCG.out _ vG4
    have hcX := HCX.out _ vX4
    have hcY := HCY.out _ vY4
    try go_wp2_with fail
    refine HQB.out.mono ?_
    rintro e1 wB4 ⟨rfl, hbB⟩
    have vG5 := vG4.then hbB vG4.size
    have vX5 := vX4.then hbB vX4.size
    have vY5 := vY4.then hbB vY4.size
    have hd5 := hd4.belowAt hbB (by have := vG4.size; omega)
    clear hcG hcX hcY
    clear hbB HQB vG4 vX4 vY4 hd4
    have hcG := HCG.out _ vG5
    have hcX := HCX.out _ vX5
    have hcY := HCY.out _ vY5
    have HQB := Lib.hid (specEdgeIn (.slice ga n gc) (rowsB n f) (x : Int) (y : Int) wB4 (HFG.out _ vG5))
    rw [edgeB_rows HA.out hx hy, hff] at HQB
    go_wp2_with fail
    refine HQB.out.mono ?_
    rintro e1 wB5 ⟨rfl, hbB⟩
    have vG6 := vG5.then hbB vG5.size
    have vX6 := vX5.then hbB vX5.size
    have vY6 := vY5.then hbB vY5.size
    have hd6 := hd5.belowAt hbB (by have := vG5.size; omega)
    clear hcG hcX hcY
    clear hbB HQB vG5 vX5 vY5 hd5
    have hcG := HCG.out _ vG6
    have hcX := HCX.out _ vX6
    have hcY := HCY.out _ vY6
    have HQZ := Lib.hid (HCT.out (.slice xaX xlX xcX) wB5 (HTA.out _ vG6) (HFX.out _ vX6))
    go_wp2_with fail
    refine HQZ.out.mono ?_
    rintro e1 wAZ ⟨xu, xsZ, rfl, hXG, hbA⟩
    obtain ⟨xaZ, xcZ, rfl⟩ := owns_shape hXG.outer
    obtain ⟨xlZ, hxl⟩ : ∃ l, xsZ.length = l := ⟨_, rfl⟩
    have OX := OwSS.of hXG rfl rfl
    rw [hxl] at OX ⊢
    clear hXG hxl
    have hlow : D + 1 ≤ wB5.heap.size := by have := vG6.size; omega
    obtain ⟨WZ, hW⟩ : ∃ W, W = wAZ.alloc (.cells #[.slice xaZ xlZ xcZ] 56) := ⟨_, rfl⟩
    obtain ⟨XZ, hX⟩ : ∃ X, wAZ.heap.size = X := ⟨_, rfl⟩
    have VX : VC 56 XZ #[.slice xaZ xlZ xcZ] WZ := by rw [hW]; exact VC.new hX
    have bB : Below wAZ.heap.size wAZ WZ := by rw [hW]; exact below_alloc' _ _
    have hhi : wB5.heap.size ≤ XZ := by have := hbA.size; omega
    have HFZ : Hid (∀ W, Upd D (D + 1) WZ W → RdSS (.slice xaZ xlZ xcZ) (rowsB n f) W) := Lib.hid fun W h => ((OX.upd (Upd.of_below bB) (by omega)).upd h (by omega)).rd
    have HCZ : Hid (∀ W, Upd D (D + 1) WZ W → W.cell? ⟨XZ, 0, none⟩ = some (.slice xaZ xlZ xcZ)) := Lib.hid fun W h => (VX.upd h (by omega)).cell
    have vG7 := (vG6.then hbA vG6.size).then bB (by have := vG6.size; have := hbA.size; omega)
    have vX7 := (vX6.then hbA vX6.size).then bB (by have := vX6.size; have := hbA.size; omega)
    have vY7 := (vY6.then hbA vY6.size).then bB (by have := vY6.size; have := hbA.size; omega)
    have hd7 := (hd6.belowAt hbA (by omega)).belowAt bB (by have := hbA.size; omega)
    clear hcG hcX hcY
    clear vG6 vX6 vY6 hd6 HQZ
    have vZ7 : Upd D (D + 1) WZ WZ := (Upd.rfl' WZ).wide (by omega)
    have hrG := HCG.out _ vG7
    have hrX := HCX.out _ vX7
    have hrY := HCY.out _ vY7
    rw [hW] at hrG hrX hrY
    clear OX VX bB hbA hhi hlow
    have HQB := Lib.hid (implSame (.slice xaZ xlZ xcZ) (.slice ga n gc) (rowsB n f) (rowsB n f) WZ (HFZ.out _ vZ7) (HFG.out _ vG7) true (sameB_rows HA.out))
    go_wp2_with fail
    try rw [← hW]
    try rw [hX]
    clear hW hX hrG hrX hrY
    have hcG := HCG.out _ vG7
    have hcX := HCX.out _ vX7
    have hcY := HCY.out _ vY7
    have hcZ := HCZ.out _ vZ7
    try go_wp2_with fail
    refine HQB.out.mono ?_
    rintro e1 wB7 ⟨rfl, hbB⟩
    have vG8 := vG7.then hbB vG7.size
    have vX8 := vX7.then hbB vX7.size
    have vY8 := vY7.then hbB vY7.size
    have vZ8 := vZ7.then hbB vZ7.size
    have hd8 := hd7.belowAt hbB (by have := vG7.size; omega)
    clear hcG hcX hcY hcZ
    clear hbB HQB vG7 vX7 vY7 vZ7 hd7
    have hcG := HCG.out _ vG8
    have hcX := HCX.out _ vX8
    have hcY := HCY.out _ vY8
    have hcZ := HCZ.out _ vZ8
    have HQO := Lib.hid (implComplement (.slice ga n gc) (rowsB n f) wB7 (HTA.out _ vG8) (HFG.out _ vG8) (rowsB n (compB f)) true (.inr ⟨n, f, HA.out, rfl, rfl, rfl⟩))
    go_wp2_with fail
    refine HQO.out.mono ?_
    rintro e1 wAO ⟨xu, xsO, rfl, hXG, hbA⟩
    obtain ⟨xaO, xcO, rfl⟩ := owns_shape hXG.outer
    obtain ⟨xlO, hxl⟩ : ∃ l, xsO.length = l := ⟨_, rfl⟩
    have OX := OwSS.of hXG rfl rfl
    rw [hxl] at OX ⊢
    clear hXG hxl
    have hlow : D + 1 ≤ wB7.heap.size := by have := vG8.size; omega
    obtain ⟨WO, hW⟩ : ∃ W, W = wAO.alloc (.cells #[.slice xaO xlO xcO] 56) := ⟨_, rfl⟩
    obtain ⟨XO, hX⟩ : ∃ X, wAO.heap.size = X := ⟨_, rfl⟩
    have VX : VC 56 XO #[.slice xaO xlO xcO] WO := by rw [hW]; exact VC.new hX
    have bB : Below wAO.heap.size wAO WO := by rw [hW]; exact below_alloc' _ _
    have hhi : wB7.heap.size ≤ XO := by have := hbA.size; omega
    have HFO : Hid (∀ W, Upd D (D + 1) WO W → RdSS (.slice xaO xlO xcO) (rowsB n (compB f)) W) := Lib.hid fun W h => ((OX.upd (Upd.of_below bB) (by omega)).upd h (by omega)).rd
    have HCO : Hid (∀ W, Upd D (D + 1) WO W → W.cell? ⟨XO, 0, none⟩ = some (.slice xaO xlO xcO)) := Lib.hid fun W h => (VX.upd h (by omega)).cell
    have vG9 := (vG8.then hbA vG8.size).then bB (by have := vG8.size; have := hbA.size; omega)
    have vX9 := (vX8.then hbA vX8.size).then bB (by have := vX8.size; have := hbA.size; omega)
    have vY9 := (vY8.then hbA vY8.size).then bB (by have := vY8.size; have := hbA.size; omega)
    have vZ9 := (vZ8.then hbA vZ8.size).then bB (by have := vZ8.size; have := hbA.size; omega)
    have hd9 := (hd8.belowAt hbA (by omega)).belowAt bB (by have := hbA.size; omega)
    clear hcG hcX hcY hcZ
    clear vG8 vX8 vY8 vZ8 hd8 HQO
    have vO9 : Upd D (D + 1) WO WO := (Upd.rfl' WO).wide (by omega)
    have hrG := HCG.out _ vG9
    have hrX := HCX.out _ vX9
    have hrY := HCY.out _ vY9
    have hrZ := HCZ.out _ vZ9
    rw [hW] at hrG hrX hrY hrZ
    clear OX VX bB hbA hhi hlow
    go_wp2_with fail
    try rw [← hW]
    try rw [hX]
    clear hW hX hrG hrX hrY hrZ
    have hcG := HCG.out _ vG9
    have hcX := HCX.out _ vX9
    have hcY := HCY.out _ vY9
    have hcZ := HCZ.out _ vZ9
    have hcO := HCO.out _ vO9
    have HQT := Lib.hid (implComplement (.slice xaO xlO xcO) (rowsB n (compB f)) WO (HTA.out _ vG9) (HFO.out _ vO9) (rowsB n f) true (.inr ⟨n, compB f, adj_comp HA.out, rfl, (comp_comp HA.out).symm, rfl⟩))
    go_wp2_with fail
    refine HQT.out.mono ?_
    rintro e1 wAT ⟨xu, xsT, rfl, hXG, hbA⟩
    obtain ⟨xaT, xcT, rfl⟩ := owns_shape hXG.outer
    obtain ⟨xlT, hxl⟩ : ∃ l, xsT.length = l := ⟨_, rfl⟩
    have OX := OwSS.of hXG rfl rfl
    rw [hxl] at OX ⊢
    clear hXG hxl
    have hlow : D + 1 ≤ WO.heap.size := by have := vG9.size; omega
    obtain ⟨WT, hW⟩ : ∃ W, W = wAT.alloc (.cells #[.slice xaT xlT xcT] 56) := ⟨_, rfl⟩
    obtain ⟨XT, hX⟩ : ∃ X, wAT.heap.size = X := ⟨_, rfl⟩
    have VX : VC 56 XT #[.slice xaT xlT xcT] WT := by rw [hW]; exact VC.new hX
    have bB : Below wAT.heap.size wAT WT := by rw [hW]; exact below_alloc' _ _
    have hhi : WO.heap.size ≤ XT := by have := hbA.size; omega
    have HFT : Hid (∀ W, Upd D (D + 1) WT W → RdSS (.slice xaT xlT xcT) (rowsB n f) W) := Lib.hid fun W h => ((OX.upd (Upd.of_below bB) (by omega)).upd h (by omega)).rd
    have HCT : Hid (∀ W, Upd D (D + 1) WT W → W.cell? ⟨XT, 0, none⟩ = some (.slice xaT xlT xcT)) := Lib.hid fun W h => (VX.upd h (by omega)).cell
    have vG10 := (vG9.then hbA vG9.size).then bB (by have := vG9.size; have := hbA.size; omega)
    have vX10 := (vX9.then hbA vX9.size).then bB (by have := vX9.size; have := hbA.size; omega)
    have vY10 := (vY9.then hbA vY9.size).then bB (by have := vY9.size; have := hbA.size; omega)
    have vZ10 := (vZ9.then hbA vZ9.size).then bB (by have := vZ9.size; have := hbA.size; omega)
    have vO10 := (vO9.then hbA vO9.size).then bB (by have := vO9.size; have := hbA.size; omega)
    have hd10 := (hd9.belowAt hbA (by omega)).belowAt bB (by have := hbA.size; omega)
    clear hcG hcX hcY hcZ hcO
    clear vG9 vX9 vY9 vZ9 vO9 hd9 HQT
    have vT10 : Upd D (D + 1) WT WT := (Upd.rfl' WT).wide (by omega)
    have hrG := HCG.out _ vG10
    have hrX := HCX.out _ vX10
    have hrY := HCY.out _ vY10
    have hrZ := HCZ.out _ vZ10
    have hrO := HCO.out _ vO10
    rw [hW] at hrG hrX hrY hrZ hrO
    clear OX VX bB hbA hhi hlow
    go_upto_region 22 with (fail)
    try rw [← hW]
    try rw [hX]
    clear hW hX hrG hrX hrY hrZ hrO
    go_cut [20, 21] (fun p q wx => ∃ (XM : Nat) (xaM : Option Addr) (xlM xcM : Nat) (ss : List Int), p = .pointer (some ⟨XM, 0, none⟩) ∧ q = .bool true ∧ Hid (SetP n ss) ∧ Hid (∀ W, Upd D (D + 1) wx W → RdSS (.slice xaM xlM xcM) (rowsB (n + 1) (hung n f ss)) W) ∧ Hid (∀ W, Upd D (D + 1) wx W → W.cell? ⟨XM, 0, none⟩ = some (.slice xaM xlM xcM)) ∧ Upd D (D + 1) WT wx)
    case first =>
      have uD : Upd D (D + 1) WT WT.drew := (Upd.drew WT).wide (by omega)
      have vGd := vG10.trans uD
      have hdd := hd10.upd (Upd.drew WT) (by omega)
      have hcGw := HCG.out _ vG10
      have hzd : WT.heap.size ≤ WT.drew.heap.size := Nat.le_refl _
      have hDT : D + 1 ≤ WT.heap.size := by have := vG10.size; omega
      have hsub : ∀ x : KeptC G (.slice ga n gc), x.W.cell? ⟨G, 0, none⟩ = some (.slice ga n gc) := fun x => x.h
      haveI hne2 : Nonempty (KeptC G (.slice ga n gc)) := ⟨⟨_, hcGw⟩⟩
      have HKC : Hid (∀ W, Upd D (D + 1) W3 W → ∃ x : KeptC G (.slice ga n gc), W = x.W) := Lib.hid fun W h => ⟨⟨_, HCG.out W h⟩, rfl⟩
      have HSET : Hid (∀ (W : World), Upd D (D + 1) W3 W → Dice D (.slice a bs.length c) bs.length W → Calls Tryd.prog 60 #[.pointer (some ⟨D, 0, none⟩), .int .i64 n] W (GenS D (.slice a bs.length c) bs.length n W)) := Lib.hid fun W h hdw => w5Set_any D _ bs n n rfl (by omega) W hdw (HR3.out W h) hl' hfar
      have HADD : Hid (∀ (sv : Value) (ss : List Int) (W : World), Upd D (D + 1) W3 W → SetP n ss → RdS sv ss W → Calls Tryd.prog 59 #[.agg #[.slice ga n gc], sv] W (GRes W (rowsB (n + 1) (hung n f ss)) true)) := Lib.hid fun sv ss W h hss hs => implAddedVertex (.slice ga n gc) (rowsB n f) sv ss W (HTA.out W h) (HFG.out W h) hs _ _ (.inr ⟨f, by rw [rowsB_length]; exact HA.out, by rw [rowsB_length], ⟨okB_adj HA.out, by rw [rowsB_length]; exact hss, by rw [rowsB_length]; omega⟩, by rw [rowsB_length], rfl⟩)
      refine wp_region_takeC (C := fun W => ∃ x : KeptC G (.slice ga n gc), W = x.W) [1, 2] [0] 4 8 #[true, true, true, false, false, false, false, false, false, false, false] (by kernel_rfl) (by kernel_rfl) (by kernel_rfl) (by kernel_rfl) (HKC.out _ vGd) (fun _ _ d _ _ h => by cases d <;> exact h) ?_
      simp only [pickOps, List.filterMap_cons, List.filterMap_nil, List.getElem?_cons_succ, List.getElem?_cons_zero]
      repeat quiet_step (fail)
      simp only [wpQuiet_nil_eq]
      clear hcGw hsub
      generalize WT.drew = wd at *
      refine wpAnyG_2 3 8 (by kernel_rfl) rfl rfl ?_ ?_
      · unfold wpNext
        go_wp2_with fail
        refine (HSET.out wd vGd hdd).mono ?_
        rintro e1 w5 ⟨ss, sv, hss, rfl, hS5, -, u5⟩
        obtain ⟨sa, sc, rfl⟩ := hS5.shape
        have HSS := Lib.hid hss
        have v5 := vGd.trans u5
        have HAD := Lib.hid (HADD.out _ ss w5 v5 hss hS5.rd)
        have hUD5 := uD.trans u5
        have hz5 : wd.heap.size ≤ w5.heap.size := u5.size
        clear hss
        go_wp2_with fail
        refine ⟨fun _ => HKC.out _ v5, ?_⟩
        refine wpAnyG_2 4 8 (by kernel_rfl) rfl rfl ?_ ?_
        · unfold wpNext
          go_wp2_with fail
          refine HAD.out.mono ?_
          rintro e1 wA ⟨xu, xs, rfl, hXG, hbA⟩
          obtain ⟨xa, xc, rfl⟩ := owns_shape hXG.outer
          have OX := OwSS.of hXG rfl rfl
          obtain ⟨xl, hxl⟩ : ∃ l, xs.length = l := ⟨_, rfl⟩
          rw [hxl] at OX ⊢
          obtain ⟨W9, hW9⟩ : ∃ W, W = wA.alloc (.cells #[.slice xa xl xc] 56) := ⟨_, rfl⟩
          obtain ⟨B8, hB8⟩ : ∃ X, wA.heap.size = X := ⟨_, rfl⟩
          have VX : VC 56 B8 #[.slice xa xl xc] W9 := by rw [hW9]; exact VC.new hB8
          have bB : Below wA.heap.size wA W9 := by rw [hW9]; exact below_alloc' _ _
          have hzA := hbA.size
          have v9 : Upd D (D + 1) WT W9 := (hUD5.then hbA (by have := hUD5.size; omega)).then bB (by have := hUD5.size; omega)
          have HF9 : Hid (∀ W, Upd D (D + 1) W9 W → RdSS (.slice xa xl xc) (rowsB (n + 1) (hung n f ss)) W) := Lib.hid fun W h => ((OX.upd (Upd.of_below bB) (by omega)).upd h (by omega)).rd
          have HC9 : Hid (∀ W, Upd D (D + 1) W9 W → W.cell? ⟨B8, 0, none⟩ = some (.slice xa xl xc)) := Lib.hid fun W h => (VX.upd h (by have := hbA.size; omega)).cell
          clear OX VX bB hXG hbA
          go_wp2_with fail
          refine ⟨fun h => by simp at h, ?_⟩
          refine wpAnyG_mid [5, 6, 7] 3 #[true, true, true, true, true, true, true, true, false, false, false] rfl (by kernel_rfl) (by kernel_rfl) (by kernel_rfl) (fun _ _ d _ _ h => by cases d <;> exact h) (fun h => by simp at h) ?_
          simp only [pickOps, List.filterMap_cons, List.filterMap_nil, List.getElem?_cons_succ, List.getElem?_cons_zero]
          repeat quiet_step (fail)
          try simp only [wpQuiet_nil_eq]
          refine wpAnyG_tail [8, 9, 10] rfl (.inl (by kernel_rfl)) (by kernel_rfl) ?_
          simp only [pickOps, List.filterMap_cons, List.filterMap_nil, List.getElem?_cons_succ, List.getElem?_cons_zero]
          go_wp2_with fail
          try rw [← hW9]
          try rw [hB8]
          go_meet
          case rel => exact ⟨B8, xa, xl, xc, ss, rfl, rfl, HSS, HF9, HC9, v9⟩
        · unfold wpNext
          go_wp2_with fail
          obtain ⟨B8, hB8⟩ : ∃ X, w5.heap.size = X := ⟨_, rfl⟩
          obtain ⟨w8, hw8⟩ : ∃ W, W = w5.alloc (.cells #[.slice none 0 0] 56) := ⟨_, rfl⟩
          have VB : VC 56 B8 #[.slice none 0 0] w8 := by rw [hw8]; exact VC.new hB8
          have b8 : Below w5.heap.size w5 w8 := by rw [hw8]; exact below_alloc' _ _
          have v8 := v5.then b8 v5.size
          have HA8 := Lib.hid (HADD.out _ ss w8 v8 HSS.out (hS5.upd (Upd.of_below b8) (by omega)).rd)
          have hUD8 := hUD5.then b8 hUD5.size
          have hz8 : w8.heap.size = B8 + 1 := by rw [hw8]; simp [hB8]
          have hDB : D + 1 ≤ B8 := by have := v5.size; omega
          have hTB8 : WT.heap.size ≤ B8 := by have := hUD5.size; omega
          clear hUD5 HAD
          have hUD5 := hUD8
          rw [← hw8]
          try rw [hB8]
          clear hw8 hUD8
          refine ⟨fun _ => HKC.out _ v8, ?_⟩
          refine wpAnyG_1 4 (by kernel_rfl) rfl ?_
          unfold wpNext
          go_wp2_with fail
          refine HA8.out.mono ?_
          rintro e1 wA ⟨xu, xs, rfl, hXG, hbA⟩
          obtain ⟨xa, xc, rfl⟩ := owns_shape hXG.outer
          have OX := OwSS.of hXG rfl rfl
          obtain ⟨xl, hxl⟩ : ∃ l, xs.length = l := ⟨_, rfl⟩
          rw [hxl] at OX ⊢
          obtain ⟨W9, hW9⟩ : ∃ W, W = wA.setCell ⟨B8, 0, none⟩ (.slice xa xl xc) := ⟨_, rfl⟩
          have VBA := VB.belowAt hbA (by omega)
          have VX : VC 56 B8 #[.slice xa xl xc] W9 := by rw [hW9]; exact VBA.set _
          have hcb := VBA.cell
          have hfb := VBA.free
          have bB : Upd B8 (B8 + 1) wA W9 := by rw [hW9]; exact Upd.setAt _ _ _ _
          have v9 : Upd D (D + 1) WT W9 := (hUD5.then hbA (by have := hUD5.size; omega)).trans2 bB (by have := hUD5.size; omega)
          have HF9 : Hid (∀ W, Upd D (D + 1) W9 W → RdSS (.slice xa xl xc) (rowsB (n + 1) (hung n f ss)) W) := Lib.hid fun W h => ((OX.upd bB (by omega)).upd h (by omega)).rd
          have HC9 : Hid (∀ W, Upd D (D + 1) W9 W → W.cell? ⟨B8, 0, none⟩ = some (.slice xa xl xc)) := Lib.hid fun W h => (VX.upd h (by have := hbA.size; omega)).cell
          clear OX VX bB hXG hbA VB VBA
          go_wp2_with fail
          refine ⟨fun h => by simp at h, ?_⟩
          refine wpAnyG_mid [5, 6, 7] 2 #[true, true, true, true, true, true, true, true, true, false, false] rfl (by kernel_rfl) (by kernel_rfl) (by kernel_rfl) (fun _ _ d _ _ h => by cases d <;> exact h) (fun h => by simp at h) ?_
          simp only [pickOps, List.filterMap_cons, List.filterMap_nil, List.getElem?_cons_succ, List.getElem?_cons_zero]
          repeat quiet_step (fail)
          try simp only [wpQuiet_nil_eq]
          refine wpAnyG_tail [9, 10] rfl (.inl (by kernel_rfl)) (by kernel_rfl) ?_
          simp only [pickOps, List.filterMap_cons, List.filterMap_nil, List.getElem?_cons_succ, List.getElem?_cons_zero]
          go_wp2_with fail
          try rw [← hW9]
          try rw [hB8]
          go_meet
          case rel => exact ⟨B8, xa, xl, xc, ss, rfl, rfl, HSS, HF9, HC9, v9⟩
      · unfold wpNext
        go_wp2_with fail
        obtain ⟨B8, hB8⟩ : ∃ X, wd.heap.size = X := ⟨_, rfl⟩
        obtain ⟨w8, hw8⟩ : ∃ W, W = wd.alloc (.cells #[.slice none 0 0] 56) := ⟨_, rfl⟩
        have VB0 : VC 56 B8 #[.slice none 0 0] w8 := by rw [hw8]; exact VC.new hB8
        have b8 : Below wd.heap.size wd w8 := by rw [hw8]; exact below_alloc' _ _
        have v8 := vGd.then b8 vGd.size
        have hd8 := hdd.belowAt b8 (by omega)
        have hUD8 := uD.then b8 uD.size
        have hz8 : w8.heap.size = B8 + 1 := by rw [hw8]; simp [hB8]
        have hDB : D + 1 ≤ B8 := by omega
        have hTB8 : WT.heap.size ≤ B8 := by omega
        rw [← hw8]
        try rw [hB8]
        clear hw8
        refine ⟨fun _ => HKC.out _ v8, ?_⟩
        refine wpAnyG_1 3 (by kernel_rfl) rfl ?_
        unfold wpNext
        go_wp2_with fail
        refine (HSET.out w8 v8 hd8).mono ?_
        rintro e1 w5 ⟨ss, sv, hss, rfl, hS5, -, u5⟩
        obtain ⟨sa, sc, rfl⟩ := hS5.shape
        have HSS := Lib.hid hss
        have v5 := v8.trans u5
        have VB := VB0.upd u5 (by omega)
        have HAD := Lib.hid (HADD.out _ ss w5 v5 hss hS5.rd)
        have hUD5 := hUD8.trans u5
        have hz5 : w8.heap.size ≤ w5.heap.size := u5.size
        clear hss hUD8
        go_wp2_with fail
        refine ⟨fun _ => HKC.out _ v5, ?_⟩
        refine wpAnyG_1 4 (by kernel_rfl) rfl ?_
        unfold wpNext
        go_wp2_with fail
        refine HAD.out.mono ?_
        rintro e1 wA ⟨xu, xs, rfl, hXG, hbA⟩
        obtain ⟨xa, xc, rfl⟩ := owns_shape hXG.outer
        have OX := OwSS.of hXG rfl rfl
        obtain ⟨xl, hxl⟩ : ∃ l, xs.length = l := ⟨_, rfl⟩
        rw [hxl] at OX ⊢
        obtain ⟨W9, hW9⟩ : ∃ W, W = wA.setCell ⟨B8, 0, none⟩ (.slice xa xl xc) := ⟨_, rfl⟩
        have VBA := VB.belowAt hbA (by omega)
        have VX : VC 56 B8 #[.slice xa xl xc] W9 := by rw [hW9]; exact VBA.set _
        have hcb := VBA.cell
        have hfb := VBA.free
        have bB : Upd B8 (B8 + 1) wA W9 := by rw [hW9]; exact Upd.setAt _ _ _ _
        have v9 : Upd D (D + 1) WT W9 := (hUD5.then hbA (by have := hUD5.size; omega)).trans2 bB (by have := hUD5.size; omega)
        have HF9 : Hid (∀ W, Upd D (D + 1) W9 W → RdSS (.slice xa xl xc) (rowsB (n + 1) (hung n f ss)) W) := Lib.hid fun W h => ((OX.upd bB (by omega)).upd h (by omega)).rd
        have HC9 : Hid (∀ W, Upd D (D + 1) W9 W → W.cell? ⟨B8, 0, none⟩ = some (.slice xa xl xc)) := Lib.hid fun W h => (VX.upd h (by have := hbA.size; omega)).cell
        clear OX VX bB hXG hbA VB VBA
        go_wp2_with fail
        refine ⟨fun h => by simp at h, ?_⟩
        refine wpAnyG_mid [5, 6, 7] 2 #[true, true, true, true, true, true, true, true, true, false, false] rfl (by kernel_rfl) (by kernel_rfl) (by kernel_rfl) (fun _ _ d _ _ h => by cases d <;> exact h) (fun h => by simp at h) ?_
        simp only [pickOps, List.filterMap_cons, List.filterMap_nil, List.getElem?_cons_succ, List.getElem?_cons_zero]
        repeat quiet_step (fail)
        try simp only [wpQuiet_nil_eq]
        refine wpAnyG_tail [9, 10] rfl (.inl (by kernel_rfl)) (by kernel_rfl) ?_
        simp only [pickOps, List.filterMap_cons, List.filterMap_nil, List.getElem?_cons_succ, List.getElem?_cons_zero]
        go_wp2_with fail
        try rw [← hW9]
        try rw [hB8]
        go_meet
        case rel => exact ⟨B8, xa, xl, xc, ss, rfl, rfl, HSS, HF9, HC9, v9⟩
    case rest =>
      obtain ⟨XM, xaM, xlM, xcM, ss, rfl, rfl, HSS, HFM, HCM, vcut⟩ := hcut
      have vG11 := vG10.trans vcut
      have vX11 := vX10.trans vcut
      have vY11 := vY10.trans vcut
      have vZ11 := vZ10.trans vcut
      have vO11 := vO10.trans vcut
      have vT11 := vT10.trans vcut
      clear vcut hd10 vG10 vX10 vY10 vZ10 vO10 vT10
      have vM11 : Upd D (D + 1) wc wc := (Upd.rfl' wc).wide (by omega)
      have HCV : Hid (∀ (g : Value) (W : World), Tab W → RdSS g (rowsB (n + 1) (hung n f ss)) W → Calls Tryd.prog 61 #[.agg #[g], .int .i64 (n : Int)] W (GRes W (rowsB n f) true)) := Lib.hid fun g W ht hr => by
        have hAH := adj_hung HA.out (by omega) (fun x hx => (HSS.out.1 x hx).2) (fun x hx => (HSS.out.1 x hx).1)
        have hll : (rowsB (n + 1) (hung n f ss)).length = n + 1 := rowsB_length _ _
        refine implCutVertex g _ (n : Int) W ht hr _ _ (.inr ⟨hung n f ss, n, by rw [hll]; exact hAH, by rw [hll], rfl, by rw [hll]; omega, ⟨vertexB_rows hAH (by omega), by rw [hll]; omega⟩, ?_, rfl⟩)
        rw [hll]
        exact (cut_hung hAH).symm
      have hcG := HCG.out _ vG11
      have hcX := HCX.out _ vX11
      have hcY := HCY.out _ vY11
      have hcZ := HCZ.out _ vZ11
      have hcO := HCO.out _ vO11
      have hcT := HCT.out _ vT11
      have hcM := HCM.out _ vM11
      have HQL := Lib.hid (HCV.out (.slice xaM xlM xcM) wc (HTA.out _ vG11) (HFM.out _ vM11))
      go_wp2_with fail
      refine HQL.out.mono ?_
      rintro e1 wAL ⟨xu, xsL, rfl, hXG, hbA⟩
      obtain ⟨xaL, xcL, rfl⟩ := owns_shape hXG.outer
      obtain ⟨xlL, hxl⟩ : ∃ l, xsL.length = l := ⟨_, rfl⟩
      have OX := OwSS.of hXG rfl rfl
      rw [hxl] at OX ⊢
      clear hXG hxl
      have hlow : D + 1 ≤ wc.heap.size := by have := vG11.size; omega
      obtain ⟨WL, hW⟩ : ∃ W, W = wAL.alloc (.cells #[.slice xaL xlL xcL] 56) := ⟨_, rfl⟩
      obtain ⟨XL, hX⟩ : ∃ X, wAL.heap.size = X := ⟨_, rfl⟩
      have VX : VC 56 XL #[.slice xaL xlL xcL] WL := by rw [hW]; exact VC.new hX
      have bB : Below wAL.heap.size wAL WL := by rw [hW]; exact below_alloc' _ _
      have hhi : wc.heap.size ≤ XL := by have := hbA.size; omega
      have HFL : Hid (∀ W, Upd D (D + 1) WL W → RdSS (.slice xaL xlL xcL) (rowsB n f) W) := Lib.hid fun W h => ((OX.upd (Upd.of_below bB) (by omega)).upd h (by omega)).rd
      have HCL : Hid (∀ W, Upd D (D + 1) WL W → W.cell? ⟨XL, 0, none⟩ = some (.slice xaL xlL xcL)) := Lib.hid fun W h => (VX.upd h (by omega)).cell
      have vG12 := (vG11.then hbA vG11.size).then bB (by have := vG11.size; have := hbA.size; omega)
      have vX12 := (vX11.then hbA vX11.size).then bB (by have := vX11.size; have := hbA.size; omega)
      have vY12 := (vY11.then hbA vY11.size).then bB (by have := vY11.size; have := hbA.size; omega)
      have vZ12 := (vZ11.then hbA vZ11.size).then bB (by have := vZ11.size; have := hbA.size; omega)
      have vO12 := (vO11.then hbA vO11.size).then bB (by have := vO11.size; have := hbA.size; omega)
      have vT12 := (vT11.then hbA vT11.size).then bB (by have := vT11.size; have := hbA.size; omega)
      have vM12 := (vM11.then hbA vM11.size).then bB (by have := vM11.size; have := hbA.size; omega)
      clear hcG hcX hcY hcZ hcO hcT hcM
      clear vG11 vX11 vY11 vZ11 vO11 vT11 vM11 HQL
      have vL12 : Upd D (D + 1) WL WL := (Upd.rfl' WL).wide (by omega)
      have hrG := HCG.out _ vG12
      have hrX := HCX.out _ vX12
      have hrY := HCY.out _ vY12
      have hrZ := HCZ.out _ vZ12
      have hrO := HCO.out _ vO12
      have hrT := HCT.out _ vT12
      have hrM := HCM.out _ vM12
      rw [hW] at hrG hrX hrY hrZ hrO hrT hrM
      clear OX VX bB hbA hhi hlow
      go_wp2_with fail
      try rw [← hW]
      try rw [hX]
      clear hW hX hrG hrX hrY hrZ hrO hrT hrM
      have hcG := HCG.out _ vG12
      have hcX := HCX.out _ vX12
      have hcY := HCY.out _ vY12
      have hcZ := HCZ.out _ vZ12
      have hcO := HCO.out _ vO12
      have hcT := HCT.out _ vT12
      have hcM := HCM.out _ vM12
      have hcL := HCL.out _ vL12
      have HOG : Hid (∀ x, Upd D (D + 1) W3 (over WL x)) := Lib.hid fun x => vG12.then (below_over WL x) vG12.size
      have HOO : Hid (∀ x, Upd D (D + 1) WO (over WL x)) := Lib.hid fun x => vO12.then (below_over WL x) vO12.size
      have HOT : Hid (∀ x, Upd D (D + 1) WT (over WL x)) := Lib.hid fun x => vT12.then (below_over WL x) vT12.size
      have HOL : Hid (∀ x, Upd D (D + 1) WL (over WL x)) := Lib.hid fun x => vL12.then (below_over WL x) vL12.size
      have HS1 : Hid (∀ x, Calls Tryd.prog 57 #[.agg #[.slice xaT xlT xcT], .agg #[.slice ga n gc]] (over WL x) fun e w' => e = .returned (.bool true) ∧ Below (over WL x).heap.size (over WL x) w') := Lib.hid fun x => implSame (.slice xaT xlT xcT) (.slice ga n gc) (rowsB n f) (rowsB n f) _ (HFT.out _ (HOT.out x)) (HFG.out _ (HOG.out x)) true (sameB_rows HA.out)
      have HS2 : Hid (∀ x, Calls Tryd.prog 57 #[.agg #[.slice xaL xlL xcL], .agg #[.slice ga n gc]] (over WL x) fun e w' => e = .returned (.bool true) ∧ Below (over WL x).heap.size (over WL x) w') := Lib.hid fun x => implSame (.slice xaL xlL xcL) (.slice ga n gc) (rowsB n f) (rowsB n f) _ (HFL.out _ (HOL.out x)) (HFG.out _ (HOG.out x)) true (sameB_rows HA.out)
      obtain ⟨a1, HA1⟩ : ∃ l, Hid ((edgesL n (compB f)).length = l) := ⟨_, Lib.hid rfl⟩
      obtain ⟨a2, HA2⟩ : ∃ l, Hid ((edgesL n f).length = l) := ⟨_, Lib.hid rfl⟩
      have HM1 : Hid (∀ x, Calls Tryd.prog 62 #[.agg #[.slice xaO xlO xcO]] (over WL x) fun e w' => e = .returned (.int .i64 (a1 : Nat)) ∧ Below (over WL x).heap.size (over WL x) w') := Lib.hid fun x => by rw [← HA1.out]; exact implManyEdges _ n (compB f) (adj_comp HA.out) _ (HFO.out _ (HOO.out x))
      have HM2 : Hid (∀ x, Calls Tryd.prog 62 #[.agg #[.slice ga n gc]] (over WL x) fun e w' => e = .returned (.int .i64 (a2 : Nat)) ∧ Below (over WL x).heap.size (over WL x) w') := Lib.hid fun x => by rw [← HA2.out]; exact implManyEdges _ n f HA.out _ (HFG.out _ (HOG.out x))
      have hE := edges_both f hn8
      rw [HA1.out, HA2.out] at hE
      obtain ⟨m1, hm1⟩ : ∃ m1 : Nat, (n : Int) - 1 = (m1 : Int) := ⟨n - 1, by omega⟩
      have hm1n : n - 1 = m1 := by omega
      obtain ⟨m2, hm2⟩ : ∃ m2 : Nat, (n : Int) * (m1 : Int) = (m2 : Int) := ⟨n * m1, by simp⟩
      have hm2n : n * m1 = m2 := by have := hm2; rw [← Int.natCast_mul] at this; omega
      have hm56 : m2 ≤ 56 := by rw [← hm2n, ← hm1n]; exact Nat.le_trans (Nat.mul_le_mul hn8 (show n - 1 ≤ 7 by omega)) (by decide)
      rw [hm1n, hm2n] at hE
      obtain ⟨m3, hm3⟩ : ∃ m3 : Nat, Int.tdiv (m2 : Int) 2 = (m3 : Int) := ⟨m2 / 2, by rw [Int.tdiv_eq_ediv_of_nonneg (by omega)]; omega⟩
      have hm3n : m2 / 2 = m3 := by rw [Int.tdiv_eq_ediv_of_nonneg (by omega)] at hm3; omega
      have hE2 : (a1 : Int) + (a2 : Int) = (m3 : Int) := by omega
      have hm28 : m3 ≤ 28 := by omega
      have hm17 : m1 ≤ 7 := by omega
      have HEND : Hid (∀ W, Below WL.heap.size WL W → Below D w W) := Lib.hid fun W h => HEN.out W (vG12.then h vG12.size)
      clear hm1n hm2n hm3n hE
      refine wp_region_calm (by kernel_rfl) (by kernel_rfl) ?_
      repeat quiet_step (first | (go_at_call 57; with_reducible exact calls_over (HS1.out _)) | (go_at_call 57; with_reducible exact calls_over (HS2.out _)) | (go_at_call 62; with_reducible exact calls_over (HM1.out _)) | (go_at_call 62; with_reducible exact calls_over (HM2.out _)))
      have hw1 : IntKind.i64.wrap (m1 : Int) = m1 := by rw [IntKind.wrap_i64]; omega
      have hw2 : IntKind.i64.wrap ((n : Int) * (m1 : Int)) = m2 := by rw [hm2, IntKind.wrap_i64]; omega
      have hw3 : IntKind.i64.wrap (m3 : Int) = m3 := by rw [IntKind.wrap_i64]; omega
      try rw [hw1]
      try rw [hw2]
      try rw [hm3]
      try rw [hw3]
      refine wpQuiet_nil ?_
      intro W' hbW'
      have HBB := Lib.hid (HEND.out W' hbW')
      clear hbW'
      go_wp2_with fail
      go_ret
      exact ⟨by simp, by rw [hD]; exact HBB.out⟩
  | true =>
    have HFF := Lib.hid hff
    obtain ⟨rfl, rfl⟩ : rX = [] ∧ p = false := by
      have h := HRX.out
      unfold addR at h
      rw [if_neg (by simp [hff])] at h
      exact ⟨(congrArg Prod.fst h).symm, (congrArg Prod.snd h).symm⟩
    obtain ⟨rfl, rfl⟩ : rY = rowsB n (minus f x y) ∧ q = true := by
      have h := HRY.out
      unfold cutR at h
      rw [if_pos hff] at h
      exact ⟨(congrArg Prod.fst h).symm, (congrArg Prod.snd h).symm⟩
    have hCZ := addR_ok (adj_minus HA.out x y) hy hx
    rw [minus_plus HA.out hx hy hff] at hCZ
    have HCT : Hid (∀ (g : Value) (W : World), Tab W → RdSS g (rowsB n (minus f x y)) W → Calls Tryd.prog 54 #[.agg #[g], .int .i64 (y : Int), .int .i64 (x : Int)] W (GRes W (rowsB n f) true)) := Lib.hid fun g W ht hr => implAddedEdge g _ (y : Int) (x : Int) W ht hr _ _ hCZ
    clear hCZ
    have HQB := Lib.hid (specEdgeIn (.slice ga n gc) (rowsB n f) (x : Int) (y : Int) WY (HFG.out _ vG4))
    rw [edgeB_rows HA.out hx hy, hff] at HQB
    go_wp2_with fail
    try rw [← hW]
    try rw [hX]
    clear hW hX hrG hrX
    have hcG := HCG.out _ vG4
    have hcX := HCX.out _ vX4
    have hcY := HCY.out _ vY4
    try go_wp2_with fail
    refine HQB.out.mono ?_
    rintro e1 wB4 ⟨rfl, hbB⟩
    have vG5 := vG4.then hbB vG4.size
    have vX5 := vX4.then hbB vX4.size
    have vY5 := vY4.then hbB vY4.size
    have hd5 := hd4.belowAt hbB (by have := vG4.size; omega)
    clear hcG hcX hcY
    clear hbB HQB vG4 vX4 vY4 hd4
    have hcG := HCG.out _ vG5
    have hcX := HCX.out _ vX5
    have hcY := HCY.out _ vY5
    have HQB := Lib.hid (specEdgeIn (.slice ga n gc) (rowsB n f) (x : Int) (y : Int) wB4 (HFG.out _ vG5))
    rw [edgeB_rows HA.out hx hy, hff] at HQB
    go_wp2_with fail
    refine HQB.out.mono ?_
    rintro e1 wB5 ⟨rfl, hbB⟩
    have vG6 := vG5.then hbB vG5.size
    have vX6 := vX5.then hbB vX5.size
    have vY6 := vY5.then hbB vY5.size
    have hd6 := hd5.belowAt hbB (by have := vG5.size; omega)
    clear hcG hcX hcY
    clear hbB HQB vG5 vX5 vY5 hd5
    have hcG := HCG.out _ vG6
    have hcX := HCX.out _ vX6
    have hcY := HCY.out _ vY6
    have HQZ := Lib.hid (HCT.out (.slice xaY xlY xcY) wB5 (HTA.out _ vG6) (HFY.out _ vY6))
    go_wp2_with fail
    refine HQZ.out.mono ?_
    rintro e1 wAZ ⟨xu, xsZ, rfl, hXG, hbA⟩
    obtain ⟨xaZ, xcZ, rfl⟩ := owns_shape hXG.outer
    obtain ⟨xlZ, hxl⟩ : ∃ l, xsZ.length = l := ⟨_, rfl⟩
    have OX := OwSS.of hXG rfl rfl
    rw [hxl] at OX ⊢
    clear hXG hxl
    have hlow : D + 1 ≤ wB5.heap.size := by have := vG6.size; omega
    obtain ⟨WZ, hW⟩ : ∃ W, W = wAZ.alloc (.cells #[.slice xaZ xlZ xcZ] 56) := ⟨_, rfl⟩
    obtain ⟨XZ, hX⟩ : ∃ X, wAZ.heap.size = X := ⟨_, rfl⟩
    have VX : VC 56 XZ #[.slice xaZ xlZ xcZ] WZ := by rw [hW]; exact VC.new hX
    have bB : Below wAZ.heap.size wAZ WZ := by rw [hW]; exact below_alloc' _ _
    have hhi : wB5.heap.size ≤ XZ := by have := hbA.size; omega
    have HFZ : Hid (∀ W, Upd D (D + 1) WZ W → RdSS (.slice xaZ xlZ xcZ) (rowsB n f) W) := Lib.hid fun W h => ((OX.upd (Upd.of_below bB) (by omega)).upd h (by omega)).rd
    have HCZ : Hid (∀ W, Upd D (D + 1) WZ W → W.cell? ⟨XZ, 0, none⟩ = some (.slice xaZ xlZ xcZ)) := Lib.hid fun W h => (VX.upd h (by omega)).cell
    have vG7 := (vG6.then hbA vG6.size).then bB (by have := vG6.size; have := hbA.size; omega)
    have vX7 := (vX6.then hbA vX6.size).then bB (by have := vX6.size; have := hbA.size; omega)
    have vY7 := (vY6.then hbA vY6.size).then bB (by have := vY6.size; have := hbA.size; omega)
    have hd7 := (hd6.belowAt hbA (by omega)).belowAt bB (by have := hbA.size; omega)
    clear hcG hcX hcY
    clear vG6 vX6 vY6 hd6 HQZ
    have vZ7 : Upd D (D + 1) WZ WZ := (Upd.rfl' WZ).wide (by omega)
    have hrG := HCG.out _ vG7
    have hrX := HCX.out _ vX7
    have hrY := HCY.out _ vY7
    rw [hW] at hrG hrX hrY
    clear OX VX bB hbA hhi hlow
    have HQB := Lib.hid (implSame (.slice xaZ xlZ xcZ) (.slice ga n gc) (rowsB n f) (rowsB n f) WZ (HFZ.out _ vZ7) (HFG.out _ vG7) true (sameB_rows HA.out))
    go_wp2_with fail
    try rw [← hW]
    try rw [hX]
    clear hW hX hrG hrX hrY
    have hcG := HCG.out _ vG7
    have hcX := HCX.out _ vX7
    have hcY := HCY.out _ vY7
    have hcZ := HCZ.out _ vZ7
    try go_wp2_with fail
    refine HQB.out.mono ?_
    rintro e1 wB7 ⟨rfl, hbB⟩
    have vG8 := vG7.then hbB vG7.size
    have vX8 := vX7.then hbB vX7.size
    have vY8 := vY7.then hbB vY7.size
    have vZ8 := vZ7.then hbB vZ7.size
    have hd8 := hd7.belowAt hbB (by have := vG7.size; omega)
    clear hcG hcX hcY hcZ
    clear hbB HQB vG7 vX7 vY7 vZ7 hd7
    have hcG := HCG.out _ vG8
    have hcX := HCX.out _ vX8
    have hcY := HCY.out _ vY8
    have hcZ := HCZ.out _ vZ8
    have HQO := Lib.hid (implComplement (.slice ga n gc) (rowsB n f) wB7 (HTA.out _ vG8) (HFG.out _ vG8) (rowsB n (compB f)) true (.inr ⟨n, f, HA.out, rfl, rfl, rfl⟩))
    go_wp2_with fail
    refine HQO.out.mono ?_
    rintro e1 wAO ⟨xu, xsO, rfl, hXG, hbA⟩
    obtain ⟨xaO, xcO, rfl⟩ := owns_shape hXG.outer
    obtain ⟨xlO, hxl⟩ : ∃ l, xsO.length = l := ⟨_, rfl⟩
    have OX := OwSS.of hXG rfl rfl
    rw [hxl] at OX ⊢
    clear hXG hxl
    have hlow : D + 1 ≤ wB7.heap.size := by have := vG8.size; omega
    obtain ⟨WO, hW⟩ : ∃ W, W = wAO.alloc (.cells #[.slice xaO xlO xcO] 56) := ⟨_, rfl⟩
    obtain ⟨XO, hX⟩ : ∃ X, wAO.heap.size = X := ⟨_, rfl⟩
    have VX : VC 56 XO #[.slice xaO xlO xcO] WO := by rw [hW]; exact VC.new hX
    have bB : Below wAO.heap.size wAO WO := by rw [hW]; exact below_alloc' _ _
    have hhi : wB7.heap.size ≤ XO := by have := hbA.size; omega
    have HFO : Hid (∀ W, Upd D (D + 1) WO W → RdSS (.slice xaO xlO xcO) (rowsB n (compB f)) W) := Lib.hid fun W h => ((OX.upd (Upd.of_below bB) (by omega)).upd h (by omega)).rd
    have HCO : Hid (∀ W, Upd D (D + 1) WO W → W.cell? ⟨XO, 0, none⟩ = some (.slice xaO xlO xcO)) := Lib.hid fun W h => (VX.upd h (by omega)).cell
    have vG9 := (vG8.then hbA vG8.size).then bB (by have := vG8.size; have := hbA.size; omega)
    have vX9 := (vX8.then hbA vX8.size).then bB (by have := vX8.size; have := hbA.size; omega)
    have vY9 := (vY8.then hbA vY8.size).then bB (by have := vY8.size; have := hbA.size; omega)
    have vZ9 := (vZ8.then hbA vZ8.size).then bB (by have := vZ8.size; have := hbA.size; omega)
    have hd9 := (hd8.belowAt hbA (by omega)).belowAt bB (by have := hbA.size; omega)
    clear hcG hcX hcY hcZ
    clear vG8 vX8 vY8 vZ8 hd8 HQO
    have vO9 : Upd D (D + 1) WO WO := (Upd.rfl' WO).wide (by omega)
    have hrG := HCG.out _ vG9
    have hrX := HCX.out _ vX9
    have hrY := HCY.out _ vY9
    have hrZ := HCZ.out _ vZ9
    rw [hW] at hrG hrX hrY hrZ
    clear OX VX bB hbA hhi hlow
    go_wp2_with fail
    try rw [← hW]
    try rw [hX]
    clear hW hX hrG hrX hrY hrZ
    have hcG := HCG.out _ vG9
    have hcX := HCX.out _ vX9
    have hcY := HCY.out _ vY9
    have hcZ := HCZ.out _ vZ9
    have hcO := HCO.out _ vO9
    have HQT := Lib.hid (implComplement (.slice xaO xlO xcO) (rowsB n (compB f)) WO (HTA.out _ vG9) (HFO.out _ vO9) (rowsB n f) true (.inr ⟨n, compB f, adj_comp HA.out, rfl, (comp_comp HA.out).symm, rfl⟩))
    go_wp2_with fail
    refine HQT.out.mono ?_
    rintro e1 wAT ⟨xu, xsT, rfl, hXG, hbA⟩
    obtain ⟨xaT, xcT, rfl⟩ := owns_shape hXG.outer
    obtain ⟨xlT, hxl⟩ : ∃ l, xsT.length = l := ⟨_, rfl⟩
    have OX := OwSS.of hXG rfl rfl
    rw [hxl] at OX ⊢
    clear hXG hxl
    have hlow : D + 1 ≤ WO.heap.size := by have := vG9.size; omega
    obtain ⟨WT, hW⟩ : ∃ W, W = wAT.alloc (.cells #[.slice xaT xlT xcT] 56) := ⟨_, rfl⟩
    obtain ⟨XT, hX⟩ : ∃ X, wAT.heap.size = X := ⟨_, rfl⟩
    have VX : VC 56 XT #[.slice xaT xlT xcT] WT := by rw [hW]; exact VC.new hX
    have bB : Below wAT.heap.size wAT WT := by rw [hW]; exact below_alloc' _ _
    have hhi : WO.heap.size ≤ XT := by have := hbA.size; omega
    have HFT : Hid (∀ W, Upd D (D + 1) WT W → RdSS (.slice xaT xlT xcT) (rowsB n f) W) := Lib.hid fun W h => ((OX.upd (Upd.of_below bB) (by omega)).upd h (by omega)).rd
    have HCT : Hid (∀ W, Upd D (D + 1) WT W → W.cell? ⟨XT, 0, none⟩ = some (.slice xaT xlT xcT)) := Lib.hid fun W h => (VX.upd h (by omega)).cell
    have vG10 := (vG9.then hbA vG9.size).then bB (by have := vG9.size; have := hbA.size; omega)
    have vX10 := (vX9.then hbA vX9.size).then bB (by have := vX9.size; have := hbA.size; omega)
    have vY10 := (vY9.then hbA vY9.size).then bB (by have := vY9.size; have := hbA.size; omega)
    have vZ10 := (vZ9.then hbA vZ9.size).then bB (by have := vZ9.size; have := hbA.size; omega)
    have vO10 := (vO9.then hbA vO9.size).then bB (by have := vO9.size; have := hbA.size; omega)
    have hd10 := (hd9.belowAt hbA (by omega)).belowAt bB (by have := hbA.size; omega)
    clear hcG hcX hcY hcZ hcO
    clear vG9 vX9 vY9 vZ9 vO9 hd9 HQT
    have vT10 : Upd D (D + 1) WT WT := (Upd.rfl' WT).wide (by omega)
    have hrG := HCG.out _ vG10
    have hrX := HCX.out _ vX10
    have hrY := HCY.out _ vY10
    have hrZ := HCZ.out _ vZ10
    have hrO := HCO.out _ vO10
    rw [hW] at hrG hrX hrY hrZ hrO
    clear OX VX bB hbA hhi hlow
    go_upto_region 22 with (fail)
    try rw [← hW]
    try rw [hX]
    clear hW hX hrG hrX hrY hrZ hrO
    go_cut [20, 21] (fun p q wx => ∃ (XM : Nat) (xaM : Option Addr) (xlM xcM : Nat) (ss : List Int), p = .pointer (some ⟨XM, 0, none⟩) ∧ q = .bool true ∧ Hid (SetP n ss) ∧ Hid (∀ W, Upd D (D + 1) wx W → RdSS (.slice xaM xlM xcM) (rowsB (n + 1) (hung n f ss)) W) ∧ Hid (∀ W, Upd D (D + 1) wx W → W.cell? ⟨XM, 0, none⟩ = some (.slice xaM xlM xcM)) ∧ Upd D (D + 1) WT wx)
    case first =>
      have uD : Upd D (D + 1) WT WT.drew := (Upd.drew WT).wide (by omega)
      have vGd := vG10.trans uD
      have hdd := hd10.upd (Upd.drew WT) (by omega)
      have hcGw := HCG.out _ vG10
      have hzd : WT.heap.size ≤ WT.drew.heap.size := Nat.le_refl _
      have hDT : D + 1 ≤ WT.heap.size := by have := vG10.size; omega
      have hsub : ∀ x : KeptC G (.slice ga n gc), x.W.cell? ⟨G, 0, none⟩ = some (.slice ga n gc) := fun x => x.h
      haveI hne2 : Nonempty (KeptC G (.slice ga n gc)) := ⟨⟨_, hcGw⟩⟩
      have HKC : Hid (∀ W, Upd D (D + 1) W3 W → ∃ x : KeptC G (.slice ga n gc), W = x.W) := Lib.hid fun W h => ⟨⟨_, HCG.out W h⟩, rfl⟩
      have HSET : Hid (∀ (W : World), Upd D (D + 1) W3 W → Dice D (.slice a bs.length c) bs.length W → Calls Tryd.prog 60 #[.pointer (some ⟨D, 0, none⟩), .int .i64 n] W (GenS D (.slice a bs.length c) bs.length n W)) := Lib.hid fun W h hdw => w5Set_any D _ bs n n rfl (by omega) W hdw (HR3.out W h) hl' hfar
      have HADD : Hid (∀ (sv : Value) (ss : List Int) (W : World), Upd D (D + 1) W3 W → SetP n ss → RdS sv ss W → Calls Tryd.prog 59 #[.agg #[.slice ga n gc], sv] W (GRes W (rowsB (n + 1) (hung n f ss)) true)) := Lib.hid fun sv ss W h hss hs => implAddedVertex (.slice ga n gc) (rowsB n f) sv ss W (HTA.out W h) (HFG.out W h) hs _ _ (.inr ⟨f, by rw [rowsB_length]; exact HA.out, by rw [rowsB_length], ⟨okB_adj HA.out, by rw [rowsB_length]; exact hss, by rw [rowsB_length]; omega⟩, by rw [rowsB_length], rfl⟩)
      refine wp_region_takeC (C := fun W => ∃ x : KeptC G (.slice ga n gc), W = x.W) [1, 2] [0] 4 8 #[true, true, true, false, false, false, false, false, false, false, false] (by kernel_rfl) (by kernel_rfl) (by kernel_rfl) (by kernel_rfl) (HKC.out _ vGd) (fun _ _ d _ _ h => by cases d <;> exact h) ?_
      simp only [pickOps, List.filterMap_cons, List.filterMap_nil, List.getElem?_cons_succ, List.getElem?_cons_zero]
      repeat quiet_step (fail)
      simp only [wpQuiet_nil_eq]
      clear hcGw hsub
      generalize WT.drew = wd at *
      refine wpAnyG_2 3 8 (by kernel_rfl) rfl rfl ?_ ?_
      · unfold wpNext
        go_wp2_with fail
        refine (HSET.out wd vGd hdd).mono ?_
        rintro e1 w5 ⟨ss, sv, hss, rfl, hS5, -, u5⟩
        obtain ⟨sa, sc, rfl⟩ := hS5.shape
        have HSS := Lib.hid hss
        have v5 := vGd.trans u5
        have HAD := Lib.hid (HADD.out _ ss w5 v5 hss hS5.rd)
        have hUD5 := uD.trans u5
        have hz5 : wd.heap.size ≤ w5.heap.size := u5.size
        clear hss
        go_wp2_with fail
        refine ⟨fun _ => HKC.out _ v5, ?_⟩
        refine wpAnyG_2 4 8 (by kernel_rfl) rfl rfl ?_ ?_
        · unfold wpNext
          go_wp2_with fail
          refine HAD.out.mono ?_
          rintro e1 wA ⟨xu, xs, rfl, hXG, hbA⟩
          obtain ⟨xa, xc, rfl⟩ := owns_shape hXG.outer
          have OX := OwSS.of hXG rfl rfl
          obtain ⟨xl, hxl⟩ : ∃ l, xs.length = l := ⟨_, rfl⟩
          rw [hxl] at OX ⊢
          obtain ⟨W9, hW9⟩ : ∃ W, W = wA.alloc (.cells #[.slice xa xl xc] 56) := ⟨_, rfl⟩
          obtain ⟨B8, hB8⟩ : ∃ X, wA.heap.size = X := ⟨_, rfl⟩
          have VX : VC 56 B8 #[.slice xa xl xc] W9 := by rw [hW9]; exact VC.new hB8
          have bB : Below wA.heap.size wA W9 := by rw [hW9]; exact below_alloc' _ _
          have hzA := hbA.size
          have v9 : Upd D (D + 1) WT W9 := (hUD5.then hbA (by have := hUD5.size; omega)).then bB (by have := hUD5.size; omega)
          have HF9 : Hid (∀ W, Upd D (D + 1) W9 W → RdSS (.slice xa xl xc) (rowsB (n + 1) (hung n f ss)) W) := Lib.hid fun W h => ((OX.upd (Upd.of_below bB) (by omega)).upd h (by omega)).rd
          have HC9 : Hid (∀ W, Upd D (D + 1) W9 W → W.cell? ⟨B8, 0, none⟩ = some (.slice xa xl xc)) := Lib.hid fun W h => (VX.upd h (by have := hbA.size; omega)).cell
          clear OX VX bB hXG hbA
          go_wp2_with fail
          refine ⟨fun h => by simp at h, ?_⟩
          refine wpAnyG_mid [5, 6, 7] 3 #[true, true, true, true, true, true, true, true, false, false, false] rfl (by kernel_rfl) (by kernel_rfl) (by kernel_rfl) (fun _ _ d _ _ h => by cases d <;> exact h) (fun h => by simp at h) ?_
          simp only [pickOps, List.filterMap_cons, List.filterMap_nil, List.getElem?_cons_succ, List.getElem?_cons_zero]
          repeat quiet_step (fail)
          try simp only [wpQuiet_nil_eq]
          refine wpAnyG_tail [8, 9, 10] rfl (.inl (by kernel_rfl)) (by kernel_rfl) ?_
          simp only [pickOps, List.filterMap_cons, List.filterMap_nil, List.getElem?_cons_succ, List.getElem?_cons_zero]
          go_wp2_with fail
          try rw [← hW9]
          try rw [hB8]
          go_meet
          case rel => exact ⟨B8, xa, xl, xc, ss, rfl, rfl, HSS, HF9, HC9, v9⟩
        · unfold wpNext
          go_wp2_with fail
          obtain ⟨B8, hB8⟩ : ∃ X, w5.heap.size = X := ⟨_, rfl⟩
          obtain ⟨w8, hw8⟩ : ∃ W, W = w5.alloc (.cells #[.slice none 0 0] 56) := ⟨_, rfl⟩
          have VB : VC 56 B8 #[.slice none 0 0] w8 := by rw [hw8]; exact VC.new hB8
          have b8 : Below w5.heap.size w5 w8 := by rw [hw8]; exact below_alloc' _ _
          have v8 := v5.then b8 v5.size
          have HA8 := Lib.hid (HADD.out _ ss w8 v8 HSS.out (hS5.upd (Upd.of_below b8) (by omega)).rd)
          have hUD8 := hUD5.then b8 hUD5.size
          have hz8 : w8.heap.size = B8 + 1 := by rw [hw8]; simp [hB8]
          have hDB : D + 1 ≤ B8 := by have := v5.size; omega
          have hTB8 : WT.heap.size ≤ B8 := by have := hUD5.size; omega
          clear hUD5 HAD
          have hUD5 := hUD8
          rw [← hw8]
          try rw [hB8]
          clear hw8 hUD8
          refine ⟨fun _ => HKC.out _ v8, ?_⟩
          refine wpAnyG_1 4 (by kernel_rfl) rfl ?_
          unfold wpNext
          go_wp2_with fail
          refine HA8.out.mono ?_
          rintro e1 wA ⟨xu, xs, rfl, hXG, hbA⟩
          obtain ⟨xa, xc, rfl⟩ := owns_shape hXG.outer
          have OX := OwSS.of hXG rfl rfl
          obtain ⟨xl, hxl⟩ : ∃ l, xs.length = l := ⟨_, rfl⟩
          rw [hxl] at OX ⊢
          obtain ⟨W9, hW9⟩ : ∃ W, W = wA.setCell ⟨B8, 0, none⟩ (.slice xa xl xc) := ⟨_, rfl⟩
          have VBA := VB.belowAt hbA (by omega)
          have VX : VC 56 B8 #[.slice xa xl xc] W9 := by rw [hW9]; exact VBA.set _
          have hcb := VBA.cell
          have hfb := VBA.free
          have bB : Upd B8 (B8 + 1) wA W9 := by rw [hW9]; exact Upd.setAt _ _ _ _
          have v9 : Upd D (D + 1) WT W9 := (hUD5.then hbA (by have := hUD5.size; omega)).trans2 bB (by have := hUD5.size; omega)
          have HF9 : Hid (∀ W, Upd D (D + 1) W9 W → RdSS (.slice xa xl xc) (rowsB (n + 1) (hung n f ss)) W) := Lib.hid fun W h => ((OX.upd bB (by omega)).upd h (by omega)).rd
          have HC9 : Hid (∀ W, Upd D (D + 1) W9 W → W.cell? ⟨B8, 0, none⟩ = some (.slice xa xl xc)) := Lib.hid fun W h => (VX.upd h (by have := hbA.size; omega)).cell
          clear OX VX bB hXG hbA VB VBA
          go_wp2_with fail
          refine ⟨fun h => by simp at h, ?_⟩
          refine wpAnyG_mid [5, 6, 7] 2 #[true, true, true, true, true, true, true, true, true, false, false] rfl (by kernel_rfl) (by kernel_rfl) (by kernel_rfl) (fun _ _ d _ _ h => by cases d <;> exact h) (fun h => by simp at h) ?_
          simp only [pickOps, List.filterMap_cons, List.filterMap_nil, List.getElem?_cons_succ, List.getElem?_cons_zero]
          repeat quiet_step (fail)
          try simp only [wpQuiet_nil_eq]
          refine wpAnyG_tail [9, 10] rfl (.inl (by kernel_rfl)) (by kernel_rfl) ?_
          simp only [pickOps, List.filterMap_cons, List.filterMap_nil, List.getElem?_cons_succ, List.getElem?_cons_zero]
          go_wp2_with fail
          try rw [← hW9]
          try rw [hB8]
          go_meet
          case rel => exact ⟨B8, xa, xl, xc, ss, rfl, rfl, HSS, HF9, HC9, v9⟩
      · unfold wpNext
        go_wp2_with fail
        obtain ⟨B8, hB8⟩ : ∃ X, wd.heap.size = X := ⟨_, rfl⟩
        obtain ⟨w8, hw8⟩ : ∃ W, W = wd.alloc (.cells #[.slice none 0 0] 56) := ⟨_, rfl⟩
        have VB0 : VC 56 B8 #[.slice none 0 0] w8 := by rw [hw8]; exact VC.new hB8
        have b8 : Below wd.heap.size wd w8 := by rw [hw8]; exact below_alloc' _ _
        have v8 := vGd.then b8 vGd.size
        have hd8 := hdd.belowAt b8 (by omega)
        have hUD8 := uD.then b8 uD.size
        have hz8 : w8.heap.size = B8 + 1 := by rw [hw8]; simp [hB8]
        have hDB : D + 1 ≤ B8 := by omega
        have hTB8 : WT.heap.size ≤ B8 := by omega
        rw [← hw8]
        try rw [hB8]
        clear hw8
        refine ⟨fun _ => HKC.out _ v8, ?_⟩
        refine wpAnyG_1 3 (by kernel_rfl) rfl ?_
        unfold wpNext
        go_wp2_with fail
        refine (HSET.out w8 v8 hd8).mono ?_
        rintro e1 w5 ⟨ss, sv, hss, rfl, hS5, -, u5⟩
        obtain ⟨sa, sc, rfl⟩ := hS5.shape
        have HSS := Lib.hid hss
        have v5 := v8.trans u5
        have VB := VB0.upd u5 (by omega)
        have HAD := Lib.hid (HADD.out _ ss w5 v5 hss hS5.rd)
        have hUD5 := hUD8.trans u5
        have hz5 : w8.heap.size ≤ w5.heap.size := u5.size
        clear hss hUD8
        go_wp2_with fail
        refine ⟨fun _ => HKC.out _ v5, ?_⟩
        refine wpAnyG_1 4 (by kernel_rfl) rfl ?_
        unfold wpNext
        go_wp2_with fail
        refine HAD.out.mono ?_
        rintro e1 wA ⟨xu, xs, rfl, hXG, hbA⟩
        obtain ⟨xa, xc, rfl⟩ := owns_shape hXG.outer
        have OX := OwSS.of hXG rfl rfl
        obtain ⟨xl, hxl⟩ : ∃ l, xs.length = l := ⟨_, rfl⟩
        rw [hxl] at OX ⊢
        obtain ⟨W9, hW9⟩ : ∃ W, W = wA.setCell ⟨B8, 0, none⟩ (.slice xa xl xc) := ⟨_, rfl⟩
        have VBA := VB.belowAt hbA (by omega)
        have VX : VC 56 B8 #[.slice xa xl xc] W9 := by rw [hW9]; exact VBA.set _
        have hcb := VBA.cell
        have hfb := VBA.free
        have bB : Upd B8 (B8 + 1) wA W9 := by rw [hW9]; exact Upd.setAt _ _ _ _
        have v9 : Upd D (D + 1) WT W9 := (hUD5.then hbA (by have := hUD5.size; omega)).trans2 bB (by have := hUD5.size; omega)
        have HF9 : Hid (∀ W, Upd D (D + 1) W9 W → RdSS (.slice xa xl xc) (rowsB (n + 1) (hung n f ss)) W) := Lib.hid fun W h => ((OX.upd bB (by omega)).upd h (by omega)).rd
        have HC9 : Hid (∀ W, Upd D (D + 1) W9 W → W.cell? ⟨B8, 0, none⟩ = some (.slice xa xl xc)) := Lib.hid fun W h => (VX.upd h (by have := hbA.size; omega)).cell
        clear OX VX bB hXG hbA VB VBA
        go_wp2_with fail
        refine ⟨fun h => by simp at h, ?_⟩
        refine wpAnyG_mid [5, 6, 7] 2 #[true, true, true, true, true, true, true, true, true, false, false] rfl (by kernel_rfl) (by kernel_rfl) (by kernel_rfl) (fun _ _ d _ _ h => by cases d <;> exact h) (fun h => by simp at h) ?_
        simp only [pickOps, List.filterMap_cons, List.filterMap_nil, List.getElem?_cons_succ, List.getElem?_cons_zero]
        repeat quiet_step (fail)
        try simp only [wpQuiet_nil_eq]
        refine wpAnyG_tail [9, 10] rfl (.inl (by kernel_rfl)) (by kernel_rfl) ?_
        simp only [pickOps, List.filterMap_cons, List.filterMap_nil, List.getElem?_cons_succ, List.getElem?_cons_zero]
        go_wp2_with fail
        try rw [← hW9]
        try rw [hB8]
        go_meet
        case rel => exact ⟨B8, xa, xl, xc, ss, rfl, rfl, HSS, HF9, HC9, v9⟩
    case rest =>
      obtain ⟨XM, xaM, xlM, xcM, ss, rfl, rfl, HSS, HFM, HCM, vcut⟩ := hcut
      have vG11 := vG10.trans vcut
      have vX11 := vX10.trans vcut
      have vY11 := vY10.trans vcut
      have vZ11 := vZ10.trans vcut
      have vO11 := vO10.trans vcut
      have vT11 := vT10.trans vcut
      clear vcut hd10 vG10 vX10 vY10 vZ10 vO10 vT10
      have vM11 : Upd D (D + 1) wc wc := (Upd.rfl' wc).wide (by omega)
      have HCV : Hid (∀ (g : Value) (W : World), Tab W → RdSS g (rowsB (n + 1) (hung n f ss)) W → Calls Tryd.prog 61 #[.agg #[g], .int .i64 (n : Int)] W (GRes W (rowsB n f) true)) := Lib.hid fun g W ht hr => by
        have hAH := adj_hung HA.out (by omega) (fun x hx => (HSS.out.1 x hx).2) (fun x hx => (HSS.out.1 x hx).1)
        have hll : (rowsB (n + 1) (hung n f ss)).length = n + 1 := rowsB_length _ _
        refine implCutVertex g _ (n : Int) W ht hr _ _ (.inr ⟨hung n f ss, n, by rw [hll]; exact hAH, by rw [hll], rfl, by rw [hll]; omega, ⟨vertexB_rows hAH (by omega), by rw [hll]; omega⟩, ?_, rfl⟩)
        rw [hll]
        exact (cut_hung hAH).symm
      have hcG := HCG.out _ vG11
      have hcX := HCX.out _ vX11
      have hcY := HCY.out _ vY11
      have hcZ := HCZ.out _ vZ11
      have hcO := HCO.out _ vO11
      have hcT := HCT.out _ vT11
      have hcM := HCM.out _ vM11
      have HQL := Lib.hid (HCV.out (.slice xaM xlM xcM) wc (HTA.out _ vG11) (HFM.out _ vM11))
      go_wp2_with fail
      refine HQL.out.mono ?_
      rintro e1 wAL ⟨xu, xsL, rfl, hXG, hbA⟩
      obtain ⟨xaL, xcL, rfl⟩ := owns_shape hXG.outer
      obtain ⟨xlL, hxl⟩ : ∃ l, xsL.length = l := ⟨_, rfl⟩
      have OX := OwSS.of hXG rfl rfl
      rw [hxl] at OX ⊢
      clear hXG hxl
      have hlow : D + 1 ≤ wc.heap.size := by have := vG11.size; omega
      obtain ⟨WL, hW⟩ : ∃ W, W = wAL.alloc (.cells #[.slice xaL xlL xcL] 56) := ⟨_, rfl⟩
      obtain ⟨XL, hX⟩ : ∃ X, wAL.heap.size = X := ⟨_, rfl⟩
      have VX : VC 56 XL #[.slice xaL xlL xcL] WL := by rw [hW]; exact VC.new hX
      have bB : Below wAL.heap.size wAL WL := by rw [hW]; exact below_alloc' _ _
      have hhi : wc.heap.size ≤ XL := by have := hbA.size; omega
      have HFL : Hid (∀ W, Upd D (D + 1) WL W → RdSS (.slice xaL xlL xcL) (rowsB n f) W) := Lib.hid fun W h => ((OX.upd (Upd.of_below bB) (by omega)).upd h (by omega)).rd
      have HCL : Hid (∀ W, Upd D (D + 1) WL W → W.cell? ⟨XL, 0, none⟩ = some (.slice xaL xlL xcL)) := Lib.hid fun W h => (VX.upd h (by omega)).cell
      have vG12 := (vG11.then hbA vG11.size).then bB (by have := vG11.size; have := hbA.size; omega)
      have vX12 := (vX11.then hbA vX11.size).then bB (by have := vX11.size; have := hbA.size; omega)
      have vY12 := (vY11.then hbA vY11.size).then bB (by have := vY11.size; have := hbA.size; omega)
      have vZ12 := (vZ11.then hbA vZ11.size).then bB (by have := vZ11.size; have := hbA.size; omega)
      have vO12 := (vO11.then hbA vO11.size).then bB (by have := vO11.size; have := hbA.size; omega)
      have vT12 := (vT11.then hbA vT11.size).then bB (by have := vT11.size; have := hbA.size; omega)
      have vM12 := (vM11.then hbA vM11.size).then bB (by have := vM11.size; have := hbA.size; omega)
      clear hcG hcX hcY hcZ hcO hcT hcM
      clear vG11 vX11 vY11 vZ11 vO11 vT11 vM11 HQL
      have vL12 : Upd D (D + 1) WL WL := (Upd.rfl' WL).wide (by omega)
      have hrG := HCG.out _ vG12
      have hrX := HCX.out _ vX12
      have hrY := HCY.out _ vY12
      have hrZ := HCZ.out _ vZ12
      have hrO := HCO.out _ vO12
      have hrT := HCT.out _ vT12
      have hrM := HCM.out _ vM12
      rw [hW] at hrG hrX hrY hrZ hrO hrT hrM
      clear OX VX bB hbA hhi hlow
      go_wp2_with fail
      try rw [← hW]
      try rw [hX]
      clear hW hX hrG hrX hrY hrZ hrO hrT hrM
      have hcG := HCG.out _ vG12
      have hcX := HCX.out _ vX12
      have hcY := HCY.out _ vY12
      have hcZ := HCZ.out _ vZ12
      have hcO := HCO.out _ vO12
      have hcT := HCT.out _ vT12
      have hcM := HCM.out _ vM12
      have hcL := HCL.out _ vL12
      have HOG : Hid (∀ x, Upd D (D + 1) W3 (over WL x)) := Lib.hid fun x => vG12.then (below_over WL x) vG12.size
      have HOO : Hid (∀ x, Upd D (D + 1) WO (over WL x)) := Lib.hid fun x => vO12.then (below_over WL x) vO12.size
      have HOT : Hid (∀ x, Upd D (D + 1) WT (over WL x)) := Lib.hid fun x => vT12.then (below_over WL x) vT12.size
      have HOL : Hid (∀ x, Upd D (D + 1) WL (over WL x)) := Lib.hid fun x => vL12.then (below_over WL x) vL12.size
      have HS1 : Hid (∀ x, Calls Tryd.prog 57 #[.agg #[.slice xaT xlT xcT], .agg #[.slice ga n gc]] (over WL x) fun e w' => e = .returned (.bool true) ∧ Below (over WL x).heap.size (over WL x) w') := Lib.hid fun x => implSame (.slice xaT xlT xcT) (.slice ga n gc) (rowsB n f) (rowsB n f) _ (HFT.out _ (HOT.out x)) (HFG.out _ (HOG.out x)) true (sameB_rows HA.out)
      have HS2 : Hid (∀ x, Calls Tryd.prog 57 #[.agg #[.slice xaL xlL xcL], .agg #[.slice ga n gc]] (over WL x) fun e w' => e = .returned (.bool true) ∧ Below (over WL x).heap.size (over WL x) w') := Lib.hid fun x => implSame (.slice xaL xlL xcL) (.slice ga n gc) (rowsB n f) (rowsB n f) _ (HFL.out _ (HOL.out x)) (HFG.out _ (HOG.out x)) true (sameB_rows HA.out)
      obtain ⟨a1, HA1⟩ : ∃ l, Hid ((edgesL n (compB f)).length = l) := ⟨_, Lib.hid rfl⟩
      obtain ⟨a2, HA2⟩ : ∃ l, Hid ((edgesL n f).length = l) := ⟨_, Lib.hid rfl⟩
      have HM1 : Hid (∀ x, Calls Tryd.prog 62 #[.agg #[.slice xaO xlO xcO]] (over WL x) fun e w' => e = .returned (.int .i64 (a1 : Nat)) ∧ Below (over WL x).heap.size (over WL x) w') := Lib.hid fun x => by rw [← HA1.out]; exact implManyEdges _ n (compB f) (adj_comp HA.out) _ (HFO.out _ (HOO.out x))
      have HM2 : Hid (∀ x, Calls Tryd.prog 62 #[.agg #[.slice ga n gc]] (over WL x) fun e w' => e = .returned (.int .i64 (a2 : Nat)) ∧ Below (over WL x).heap.size (over WL x) w') := Lib.hid fun x => by rw [← HA2.out]; exact implManyEdges _ n f HA.out _ (HFG.out _ (HOG.out x))
      have hE := edges_both f hn8
      rw [HA1.out, HA2.out] at hE
      obtain ⟨m1, hm1⟩ : ∃ m1 : Nat, (n : Int) - 1 = (m1 : Int) := ⟨n - 1, by omega⟩
      have hm1n : n - 1 = m1 := by omega
      obtain ⟨m2, hm2⟩ : ∃ m2 : Nat, (n : Int) * (m1 : Int) = (m2 : Int) := ⟨n * m1, by simp⟩
      have hm2n : n * m1 = m2 := by have := hm2; rw [← Int.natCast_mul] at this; omega
      have hm56 : m2 ≤ 56 := by rw [← hm2n, ← hm1n]; exact Nat.le_trans (Nat.mul_le_mul hn8 (show n - 1 ≤ 7 by omega)) (by decide)
      rw [hm1n, hm2n] at hE
      obtain ⟨m3, hm3⟩ : ∃ m3 : Nat, Int.tdiv (m2 : Int) 2 = (m3 : Int) := ⟨m2 / 2, by rw [Int.tdiv_eq_ediv_of_nonneg (by omega)]; omega⟩
      have hm3n : m2 / 2 = m3 := by rw [Int.tdiv_eq_ediv_of_nonneg (by omega)] at hm3; omega
      have hE2 : (a1 : Int) + (a2 : Int) = (m3 : Int) := by omega
      have hm28 : m3 ≤ 28 := by omega
      have hm17 : m1 ≤ 7 := by omega
      have HEND : Hid (∀ W, Below WL.heap.size WL W → Below D w W) := Lib.hid fun W h => HEN.out W (vG12.then h vG12.size)
      clear hm1n hm2n hm3n hE
      refine wp_region_calm (by kernel_rfl) (by kernel_rfl) ?_
      repeat quiet_step (first | (go_at_call 57; with_reducible exact calls_over (HS1.out _)) | (go_at_call 57; with_reducible exact calls_over (HS2.out _)) | (go_at_call 62; with_reducible exact calls_over (HM1.out _)) | (go_at_call 62; with_reducible exact calls_over (HM2.out _)))
      have hw1 : IntKind.i64.wrap (m1 : Int) = m1 := by rw [IntKind.wrap_i64]; omega
      have hw2 : IntKind.i64.wrap ((n : Int) * (m1 : Int)) = m2 := by rw [hm2, IntKind.wrap_i64]; omega
      have hw3 : IntKind.i64.wrap (m3 : Int) = m3 := by rw [IntKind.wrap_i64]; omega
      try rw [hw1]
      try rw [hw2]
      try rw [hm3]
      try rw [hw3]
      refine wpQuiet_nil ?_
      intro W' hbW'
      have HBB := Lib.hid (HEND.out W' hbW')
      clear hbW'
      go_wp2_with fail
      go_ret
      exact ⟨by simp, by rw [hD]; exact HBB.out⟩
end Go.Proofs.YtbhobmngnjfgfaaDoor
