/-
  'freeIn' of the program.
-/
import Derived.Test.YtbhobmngnjfgfaaDoorFreS
import Derived.Test.YtbhobmngnjfgfaaDoorOther
namespace Go.Proofs.YtbhobmngnjfgfaaDoor
open Go.RowKit

set_option maxHeartbeats 16000000 in
set_option maxRecDepth 100000 in
theorem implFreeIn (v : Value) (fs : List FD) (hok : OkF fs) (w : World) (hr : RdF v fs w) :
    Calls Tryd.prog 86 #[.agg #[v]] w fun e w' => ∃ u, e = .returned u ∧ w'.ownsRow w.heap.size 98 1 u fs.length (sets (masksF fs)) ∧ Below w.heap.size w w' := by
  have hl := hr.len
  unfold maxLen at hl
  obtain ⟨a, c, rfl, -, -, -⟩ := id hr
  obtain ⟨B, hB⟩ : ∃ B, w.heap.size = B := ⟨_, rfl⟩
  obtain ⟨W0, hW0⟩ : ∃ W0, W0 = (w.alloc (.cells #[.slice a fs.length c] 46)).alloc (.cells #[] 98) := ⟨_, rfl⟩
  have u0 : Below B w W0 := by rw [hW0]; exact ((Below.refl _ _ : Below B w w).alloc (by omega) _).alloc (by simp; omega) _
  have V : VC 46 B #[.slice a fs.length c] W0 := by rw [hW0]; exact (VC.new hB).upd (Upd.alloc _ _) (by omega)
  have hz0 : W0.heap.size = B + 2 := by rw [hW0]; simp [hB]
  have ho0 : W0.ownsRow (B + 1) 98 1 (.slice (some ⟨B + 1, 0, none⟩) 0 0) 0 [] := by
    have := World.ownsRow_lit (base := B + 1) (e := 98) (size := 1) (w.alloc (.cells #[.slice a fs.length c] 46)) #[] 0 (by simp; omega) (by simp [maxLen]) rfl
    rw [← hW0] at this
    simpa [hB] using this
  have HF : Hid (∀ k p, fs[k]? = some p → ∃ b o, a = some ⟨b, o, none⟩ ∧ ∀ W, Below B w W → W.cell? ⟨b, o + k * 3, none⟩ = some (.int .i64 p.1) ∧ W.cell? ⟨b, o + k * 3 + 1, none⟩ = some (.int .i64 p.2.1) ∧ W.cell? ⟨b, o + k * 3 + 2, none⟩ = some (.int .i64 p.2.2)) := Lib.hid fun k p hp => hB ▸ RdF.fix hr hp
  have HOK := Lib.hid hok
  obtain ⟨hl1, hl40, -⟩ := hok
  have hbW : Below (B + 1) W0 W0 := Below.refl _ _
  clear hr
  have hcg0 := V.cell
  rw [hW0] at hcg0
  go_enter Tryd.func86, Tryd.ntmps86
  go_wp2_with fail
  rw [← hW0]
  clear hW0 hcg0
  go_loopw [3, 11] (fun u i wr => ∃ k : Nat, k ≤ fs.length ∧ i = .int .i64 k ∧ wr.ownsRow (B + 1) 98 1 u k (sets (masksF (fs.take k))) ∧ Below (B + 1) W0 wr) (fun _ i _ => fs.length - (intOf i).toNat)
  case atStart => exact ⟨0, Nat.zero_le _, rfl, by simpa [masksF, sets] using ho0, hbW⟩
  case round =>
    clear hbW ho0
    obtain ⟨k, hk, rfl, ho, hb⟩ := hrel
    have hsz := hb.size
    have hbw : Below B w wr := u0.trans (hb.mono (by omega))
    have hcg := (V.belowAt hb (by omega)).cell
    by_cases hlt : k < fs.length
    · obtain ⟨⟨K, A, Bv⟩, hp⟩ : ∃ p, fs[k]? = some p := ⟨_, List.getElem?_eq_getElem hlt⟩
      obtain ⟨b0, o, rfl, hce⟩ := HF.out k _ hp
      obtain ⟨h0, h1, h2⟩ := hce wr hbw
      have hgood := HOK.out.2.2 k _ (by omega) hp
      have HSM := Lib.hid (masksF_small (Nat.le_of_lt hlt) fun i y hi hy => HOK.out.2.2 i y (by omega) hy)
      have HMT := Lib.hid (masksF_take hp)
      have HML : Hid ((masksF (fs.take k)).length = k) := Lib.hid (by rw [masksF_length, List.length_take]; omega)
      have HGD := Lib.hid hgood
      obtain ⟨S, hS⟩ : ∃ s, wr.heap.size = s := ⟨_, rfl⟩
      obtain ⟨W1, hW1⟩ : ∃ W1, W1 = wr.alloc (.cells #[.int .i64 K, .int .i64 A, .int .i64 Bv] 169) := ⟨_, rfl⟩
      have V1 : VC 169 S #[.int .i64 K, .int .i64 A, .int .i64 Bv] W1 := by rw [hW1]; exact VC.new hS
      have hb1 : Below (B + 1) W0 W1 := by rw [hW1]; exact hb.alloc (by omega) _
      obtain ⟨ua, uc, rfl⟩ := owns_shape ho
      have ho1 : W1.ownsRow (B + 1) 98 1 (.slice ua k uc) k (sets (masksF (fs.take k))) := by rw [hW1]; exact ho.alloc _
      have c0 : W1.cell? ⟨S, 0, none⟩ = some (.int .i64 K) := by unfold VC at V1; simp [World.cell?, V1]
      have c1 : W1.cell? ⟨S, 1, none⟩ = some (.int .i64 A) := by unfold VC at V1; simp [World.cell?, V1]
      have c2 : W1.cell? ⟨S, 2, none⟩ = some (.int .i64 Bv) := by unfold VC at V1; simp [World.cell?, V1]
      have hs1 : B + 1 ≤ S := by omega
      have HB1 := Lib.hid hb1
      have HO1 := Lib.hid ho1
      have HOC : Hid (∀ j : Nat, j < k → ∃ g, ua = some ⟨g, 0, none⟩ ∧ W1.cell? ⟨g, j, none⟩ = some (.int .u32 ((masksF (fs.take k)).getD j 0 : Nat))) := Lib.hid fun j hj => by
        obtain ⟨g, cap, e⟩ := owns_head HO1.out (by omega)
        obtain ⟨rfl, -⟩ : ua = some ⟨g, 0, none⟩ ∧ uc = cap := by simpa using e
        have hjl : j < (masksF (fs.take k)).length := by rw [HML.out]; exact hj
        refine ⟨g, rfl, (HO1.out.cellAt j (by omega)).trans ?_⟩
        simp [sets, List.getD, hjl]
      have HSW : Hid (W1.heap.size = S + 1) := Lib.hid (by rw [hW1]; simp [hS])
      have HW1 := Lib.hid hW1
      generalize hM : masksF (fs.take k) = M at *
      rw [hW1] at c0 c1 c2
      clear hce hp hgood ho1 hb1 hb hbw ho V1 hW1 hM
      rcases good_kind HGD.out with rfl | rfl | rfl | rfl | rfl | rfl | rfl | rfl
      · have hg := HGD.out
        rw [goodB_1, Bool.and_eq_true] at hg
        obtain ⟨a, rfl, ha0, ha2⟩ := inB_nat hg.1 (by omega)
        obtain ⟨b, rfl, hb0, hb2⟩ := inB_nat hg.2 (by omega)
        clear hg
        have HST : Hid (stepM M (1, (a : Int), (b : Int)) = 2 ^ a ||| 2 ^ b) := Lib.hid (by simp [stepM])
        obtain ⟨y, HY⟩ : ∃ y : Int, Hid (y = ((2 ^ a ||| 2 ^ b : Nat) : Int)) := ⟨_, Lib.hid rfl⟩
        have HPa : Hid (2 ^ (a) < 32) := Lib.hid (pow_lt32 (by omega))
        obtain ⟨za, HZa⟩ : ∃ z : Int, Hid (z = ((2 ^ (a) : Nat) : Int)) := ⟨_, Lib.hid rfl⟩
        have HPb : Hid (2 ^ (b) < 32) := Lib.hid (pow_lt32 (by omega))
        obtain ⟨zb, HZb⟩ : ∃ z : Int, Hid (z = ((2 ^ (b) : Nat) : Int)) := ⟨_, Lib.hid rfl⟩
        have HOa : Hid (∀ W : World, Calls Tryd.prog 106 #[.int .i64 (a : Nat)] W fun e w' => e = .returned (.int .u32 za) ∧ W = w') := Lib.hid fun W => one_at _ (a) (by omega) (by omega) za HZa.out W
        have HOb : Hid (∀ W : World, Calls Tryd.prog 106 #[.int .i64 (b : Nat)] W fun e w' => e = .returned (.int .u32 zb) ∧ W = w') := Lib.hid fun W => one_at _ (b) (by omega) (by omega) zb HZb.out W
        have hop : bits BinOp.or IntKind.u32 za zb = y := by rw [HZa.out, HZb.out, HY.out, u32_or_nat _ _ (by have := HPa.out; omega) (by have := HPb.out; omega)]
        have HGO : Hid (∀ W2 : World, ∀ g2 c2, W2.ownsRow (B + 1) 98 1 (.slice (some ⟨g2, 0, none⟩) (k + 1) c2) (k + 1) (sets (M) ++ [.int .u32 y]) → W1.grownBy W2 (Value.slice ua k uc).ownBlock → W2.ownsRow (B + 1) 98 1 (.slice (some ⟨g2, 0, none⟩) (k + 1) c2) (k + 1) (sets (masksF (fs.take (k + 1)))) ∧ Below (B + 1) W0 W2) := Lib.hid fun W2 g2 c2 ho2 hg2 => by
          refine ⟨?_, HB1.out.grown hg2 (by rw [HSW.out]; omega) fun y hy => (owns_lt HO1.out hy).1⟩
          rw [HMT.out, HST.out]
          rw [HY.out] at ho2
          simpa [sets] using ho2
        go_wp2_with fail
        refine wp_region_ord [0, 3] [1, 4] [2] [5, 6, 7] (by kernel_rfl) (by kernel_rfl) (fun _ _ d _ _ h => by cases d <;> exact h) ?_
        simp only [pickOps, List.filterMap_cons, List.filterMap_nil, List.getElem?_cons_succ, List.getElem?_cons_zero]
        repeat quiet_step (fail)
        simp only [wpQuiet_nil_eq]
        refine wpSegs_cons ?_
        go_wp2_with fail
        refine (HOa.out _).mono ?_
        rintro e1 w' ⟨rfl, rfl⟩
        go_wp2_with fail
        refine ⟨(Below.refl _ _).drew, ?_⟩
        simp only [wpSegs_nil_eq]
        have hD : (wr.alloc (.cells #[.int .i64 1, .int .i64 a, .int .i64 b] 169)).drew.ownsRow (B + 1) 98 1 (.slice ua k uc) k (sets (M)) := by rw [← HW1.out]; exact HO1.out
        have hsS : S + 1 = (wr.alloc (.cells #[.int .i64 1, .int .i64 a, .int .i64 b] 169)).drew.heap.size := by simp [hS]
        have HGD2 : Hid (∀ (W2 : World) (r : Option Nat), (wr.alloc (.cells #[.int .i64 1, .int .i64 a, .int .i64 b] 169)).drew.grownBy W2 r → W1.grownBy W2 r) := Lib.hid fun W2 r h => by rw [HW1.out]; exact ⟨h.os, h.tape, h.output, h.size, h.block⟩
        generalize hwv : (wr.alloc (.cells #[.int .i64 1, .int .i64 a, .int .i64 b] 169)).drew = wv at *
        have HSS := Lib.hid hsS
        have HOX := Lib.hid hD
        have hwz : wv.heap.size = S + 1 := hsS.symm
        clear hsS hD
        go_wp2_with (first | (go_at_call 106; refine (HOb.out _).mono ?_; rintro e1 w' ⟨rfl, rfl⟩) | (at_builtin; refine wpList_push_at wv rfl _ _ 94 rfl (B + 1) 98 _ (.int .u32 0) 4 Tryd.underlying94 infoV rfl (.slice ua k uc) k (sets (M)) rfl HOX.out (S + 1) HSS.out (.int .u32 y) rfl rfl (by unfold maxLen; omega) (by omega) (by rw [← HSS.out]; omega) ?_; intro g2 c2 w2 ho2 hg2))
        have HE := Lib.hid (HGO.out w2 g2 c2 ho2 (HGD2.out _ _ hg2))
        clear ho2 hg2
        go_roundw
        case rel => exact ⟨k + 1, by omega, by go_num, HE.out.1, HE.out.2⟩
        case measure => simp [intOf]; omega
      · have hg := HGD.out
        rw [goodB_2, Bool.and_eq_true] at hg
        obtain ⟨a, rfl, ha0, ha2⟩ := inB_nat hg.1 (by omega)
        obtain ⟨b, rfl, hb0, hb2⟩ := inB_nat hg.2 (by omega)
        clear hg
        have HST : Hid (stepM M (2, (a : Int), (b : Int)) = 2 ^ a ||| 2 ^ b) := Lib.hid (by simp [stepM])
        obtain ⟨y, HY⟩ : ∃ y : Int, Hid (y = ((2 ^ a ||| 2 ^ b : Nat) : Int)) := ⟨_, Lib.hid rfl⟩
        have HPa : Hid (2 ^ (a) < 32) := Lib.hid (pow_lt32 (by omega))
        obtain ⟨za, HZa⟩ : ∃ z : Int, Hid (z = ((2 ^ (a) : Nat) : Int)) := ⟨_, Lib.hid rfl⟩
        have HPb : Hid (2 ^ (b) < 32) := Lib.hid (pow_lt32 (by omega))
        obtain ⟨zb, HZb⟩ : ∃ z : Int, Hid (z = ((2 ^ (b) : Nat) : Int)) := ⟨_, Lib.hid rfl⟩
        have HOa : Hid (∀ W : World, Calls Tryd.prog 106 #[.int .i64 (a : Nat)] W fun e w' => e = .returned (.int .u32 za) ∧ W = w') := Lib.hid fun W => one_at _ (a) (by omega) (by omega) za HZa.out W
        have HOb : Hid (∀ W : World, Calls Tryd.prog 106 #[.int .i64 (b : Nat)] W fun e w' => e = .returned (.int .u32 zb) ∧ W = w') := Lib.hid fun W => one_at _ (b) (by omega) (by omega) zb HZb.out W
        have hop : bits BinOp.or IntKind.u32 za zb = y := by rw [HZa.out, HZb.out, HY.out, u32_or_nat _ _ (by have := HPa.out; omega) (by have := HPb.out; omega)]
        have HGO : Hid (∀ W2 : World, ∀ g2 c2, W2.ownsRow (B + 1) 98 1 (.slice (some ⟨g2, 0, none⟩) (k + 1) c2) (k + 1) (sets (M) ++ [.int .u32 y]) → W1.grownBy W2 (Value.slice ua k uc).ownBlock → W2.ownsRow (B + 1) 98 1 (.slice (some ⟨g2, 0, none⟩) (k + 1) c2) (k + 1) (sets (masksF (fs.take (k + 1)))) ∧ Below (B + 1) W0 W2) := Lib.hid fun W2 g2 c2 ho2 hg2 => by
          refine ⟨?_, HB1.out.grown hg2 (by rw [HSW.out]; omega) fun y hy => (owns_lt HO1.out hy).1⟩
          rw [HMT.out, HST.out]
          rw [HY.out] at ho2
          simpa [sets] using ho2
        go_wp2_with fail
        refine wp_region_ord [0, 3] [1, 4] [2] [5, 6, 7] (by kernel_rfl) (by kernel_rfl) (fun _ _ d _ _ h => by cases d <;> exact h) ?_
        simp only [pickOps, List.filterMap_cons, List.filterMap_nil, List.getElem?_cons_succ, List.getElem?_cons_zero]
        repeat quiet_step (fail)
        simp only [wpQuiet_nil_eq]
        refine wpSegs_cons ?_
        go_wp2_with fail
        refine (HOa.out _).mono ?_
        rintro e1 w' ⟨rfl, rfl⟩
        go_wp2_with fail
        refine ⟨(Below.refl _ _).drew, ?_⟩
        simp only [wpSegs_nil_eq]
        have hD : (wr.alloc (.cells #[.int .i64 2, .int .i64 a, .int .i64 b] 169)).drew.ownsRow (B + 1) 98 1 (.slice ua k uc) k (sets (M)) := by rw [← HW1.out]; exact HO1.out
        have hsS : S + 1 = (wr.alloc (.cells #[.int .i64 2, .int .i64 a, .int .i64 b] 169)).drew.heap.size := by simp [hS]
        have HGD2 : Hid (∀ (W2 : World) (r : Option Nat), (wr.alloc (.cells #[.int .i64 2, .int .i64 a, .int .i64 b] 169)).drew.grownBy W2 r → W1.grownBy W2 r) := Lib.hid fun W2 r h => by rw [HW1.out]; exact ⟨h.os, h.tape, h.output, h.size, h.block⟩
        generalize hwv : (wr.alloc (.cells #[.int .i64 2, .int .i64 a, .int .i64 b] 169)).drew = wv at *
        have HSS := Lib.hid hsS
        have HOX := Lib.hid hD
        have hwz : wv.heap.size = S + 1 := hsS.symm
        clear hsS hD
        go_wp2_with (first | (go_at_call 106; refine (HOb.out _).mono ?_; rintro e1 w' ⟨rfl, rfl⟩) | (at_builtin; refine wpList_push_at wv rfl _ _ 94 rfl (B + 1) 98 _ (.int .u32 0) 4 Tryd.underlying94 infoV rfl (.slice ua k uc) k (sets (M)) rfl HOX.out (S + 1) HSS.out (.int .u32 y) rfl rfl (by unfold maxLen; omega) (by omega) (by rw [← HSS.out]; omega) ?_; intro g2 c2 w2 ho2 hg2))
        have HE := Lib.hid (HGO.out w2 g2 c2 ho2 (HGD2.out _ _ hg2))
        clear ho2 hg2
        go_roundw
        case rel => exact ⟨k + 1, by omega, by go_num, HE.out.1, HE.out.2⟩
        case measure => simp [intOf]; omega
      · have hg := HGD.out
        rw [goodB_3, Bool.and_eq_true] at hg
        obtain ⟨a, rfl, ha0, ha2⟩ := inB_nat hg.1 (by omega)
        obtain ⟨b, rfl, hb0, hb2⟩ := inB_nat hg.2 (by omega)
        clear hg
        have HST : Hid (stepM M (3, (a : Int), (b : Int)) = 2 ^ a ||| 2 ^ (3 + b)) := Lib.hid (by simp [stepM])
        obtain ⟨y, HY⟩ : ∃ y : Int, Hid (y = ((2 ^ a ||| 2 ^ (3 + b) : Nat) : Int)) := ⟨_, Lib.hid rfl⟩
        have HPa : Hid (2 ^ (a) < 32) := Lib.hid (pow_lt32 (by omega))
        obtain ⟨za, HZa⟩ : ∃ z : Int, Hid (z = ((2 ^ (a) : Nat) : Int)) := ⟨_, Lib.hid rfl⟩
        have HPb : Hid (2 ^ (3 + b) < 32) := Lib.hid (pow_lt32 (by omega))
        obtain ⟨zb, HZb⟩ : ∃ z : Int, Hid (z = ((2 ^ (3 + b) : Nat) : Int)) := ⟨_, Lib.hid rfl⟩
        have HOa : Hid (∀ W : World, Calls Tryd.prog 106 #[.int .i64 (a : Nat)] W fun e w' => e = .returned (.int .u32 za) ∧ W = w') := Lib.hid fun W => one_at _ (a) (by omega) (by omega) za HZa.out W
        have HOb : Hid (∀ W : World, Calls Tryd.prog 106 #[.int .i64 (3 + (b : Int))] W fun e w' => e = .returned (.int .u32 zb) ∧ W = w') := Lib.hid fun W => one_at _ (3 + b) (by omega) (by omega) zb HZb.out W
        have hib : IntKind.i64.wrap ((3 : Int) + (b : Int)) = 3 + (b : Int) := IntWalk.i64_in _ (by omega)
        have hop : bits BinOp.or IntKind.u32 za zb = y := by rw [HZa.out, HZb.out, HY.out, u32_or_nat _ _ (by have := HPa.out; omega) (by have := HPb.out; omega)]
        have HGO : Hid (∀ W2 : World, ∀ g2 c2, W2.ownsRow (B + 1) 98 1 (.slice (some ⟨g2, 0, none⟩) (k + 1) c2) (k + 1) (sets (M) ++ [.int .u32 y]) → W1.grownBy W2 (Value.slice ua k uc).ownBlock → W2.ownsRow (B + 1) 98 1 (.slice (some ⟨g2, 0, none⟩) (k + 1) c2) (k + 1) (sets (masksF (fs.take (k + 1)))) ∧ Below (B + 1) W0 W2) := Lib.hid fun W2 g2 c2 ho2 hg2 => by
          refine ⟨?_, HB1.out.grown hg2 (by rw [HSW.out]; omega) fun y hy => (owns_lt HO1.out hy).1⟩
          rw [HMT.out, HST.out]
          rw [HY.out] at ho2
          simpa [sets] using ho2
        go_wp2_with fail
        refine wp_region_ord [0, 3] [1, 4, 5] [2] [6, 7, 8] (by kernel_rfl) (by kernel_rfl) (fun _ _ d _ _ h => by cases d <;> exact h) ?_
        simp only [pickOps, List.filterMap_cons, List.filterMap_nil, List.getElem?_cons_succ, List.getElem?_cons_zero]
        repeat quiet_step (fail)
        simp only [wpQuiet_nil_eq]
        refine wpSegs_cons ?_
        go_wp2_with fail
        refine (HOa.out _).mono ?_
        rintro e1 w' ⟨rfl, rfl⟩
        go_wp2_with fail
        refine ⟨(Below.refl _ _).drew, ?_⟩
        simp only [wpSegs_nil_eq]
        have hD : (wr.alloc (.cells #[.int .i64 3, .int .i64 a, .int .i64 b] 169)).drew.ownsRow (B + 1) 98 1 (.slice ua k uc) k (sets (M)) := by rw [← HW1.out]; exact HO1.out
        have hsS : S + 1 = (wr.alloc (.cells #[.int .i64 3, .int .i64 a, .int .i64 b] 169)).drew.heap.size := by simp [hS]
        have HGD2 : Hid (∀ (W2 : World) (r : Option Nat), (wr.alloc (.cells #[.int .i64 3, .int .i64 a, .int .i64 b] 169)).drew.grownBy W2 r → W1.grownBy W2 r) := Lib.hid fun W2 r h => by rw [HW1.out]; exact ⟨h.os, h.tape, h.output, h.size, h.block⟩
        generalize hwv : (wr.alloc (.cells #[.int .i64 3, .int .i64 a, .int .i64 b] 169)).drew = wv at *
        have HSS := Lib.hid hsS
        have HOX := Lib.hid hD
        have hwz : wv.heap.size = S + 1 := hsS.symm
        clear hsS hD
        go_wp2_with (first | (go_at_call 106; refine (HOb.out _).mono ?_; rintro e1 w' ⟨rfl, rfl⟩) | (at_builtin; refine wpList_push_at wv rfl _ _ 94 rfl (B + 1) 98 _ (.int .u32 0) 4 Tryd.underlying94 infoV rfl (.slice ua k uc) k (sets (M)) rfl HOX.out (S + 1) HSS.out (.int .u32 y) rfl rfl (by unfold maxLen; omega) (by omega) (by rw [← HSS.out]; omega) ?_; intro g2 c2 w2 ho2 hg2))
        have HE := Lib.hid (HGO.out w2 g2 c2 ho2 (HGD2.out _ _ hg2))
        clear ho2 hg2
        go_roundw
        case rel => exact ⟨k + 1, by omega, by go_num, HE.out.1, HE.out.2⟩
        case measure => simp [intOf]; omega
      · have hg := HGD.out
        rw [goodB_4, Bool.and_eq_true] at hg
        obtain ⟨a, rfl, ha0, ha2⟩ := inB_nat hg.1 (by omega)
        obtain rfl : Bv = 0 := by have := hg.2; simpa using this
        clear hg
        have HST : Hid (stepM M (4, (a : Int), 0) = M.getD a 0) := Lib.hid (by simp [stepM])
        obtain ⟨y, HY⟩ : ∃ y : Int, Hid (y = ((M.getD a 0 : Nat) : Int)) := ⟨_, Lib.hid rfl⟩
        have HPa : Hid (M.getD a 0 < 32) := Lib.hid (getD_lt32 HSM.out _)
        obtain ⟨za, HZa⟩ : ∃ z : Int, Hid (z = ((M.getD a 0 : Nat) : Int)) := ⟨_, Lib.hid rfl⟩
        obtain ⟨ga, hga, hca⟩ := HOC.out a (by omega)
        rw [← HZa.out, HW1.out] at hca
        have hla : (a : Int) < (k : Int) := by omega
        have hna : a < k := by omega
        subst hga
        obtain rfl : y = za := by rw [HY.out, HZa.out]
        have HGO : Hid (∀ W2 : World, ∀ g2 c2, W2.ownsRow (B + 1) 98 1 (.slice (some ⟨g2, 0, none⟩) (k + 1) c2) (k + 1) (sets (M) ++ [.int .u32 y]) → W1.grownBy W2 (Value.slice (some ⟨ga, 0, none⟩) k uc).ownBlock → W2.ownsRow (B + 1) 98 1 (.slice (some ⟨g2, 0, none⟩) (k + 1) c2) (k + 1) (sets (masksF (fs.take (k + 1)))) ∧ Below (B + 1) W0 W2) := Lib.hid fun W2 g2 c2 ho2 hg2 => by
          refine ⟨?_, HB1.out.grown hg2 (by rw [HSW.out]; omega) fun y hy => (owns_lt HO1.out hy).1⟩
          rw [HMT.out, HST.out]
          rw [HY.out] at ho2
          simpa [sets] using ho2
        have hsS : S + 1 = (wr.alloc (.cells #[.int .i64 4, .int .i64 a, .int .i64 0] 169)).heap.size := by simp [hS]
        have HSS := Lib.hid hsS
        clear hsS
        have HOX : Hid ((wr.alloc (.cells #[.int .i64 4, .int .i64 a, .int .i64 0] 169)).ownsRow (B + 1) 98 1 (.slice (some ⟨ga, 0, none⟩) k uc) k (sets (M))) := Lib.hid (by rw [← HW1.out]; exact HO1.out)
        go_wp2_with ((at_builtin; refine wpList_push_at (wr.alloc (.cells #[.int .i64 4, .int .i64 a, .int .i64 0] 169)) rfl _ _ 94 rfl (B + 1) 98 _ (.int .u32 0) 4 Tryd.underlying94 infoV rfl (.slice (some ⟨ga, 0, none⟩) k uc) k (sets (M)) rfl HOX.out (S + 1) HSS.out (.int .u32 y) rfl rfl (by unfold maxLen; omega) (by omega) (by rw [← HSS.out]; omega) ?_; intro g2 c2 w2 ho2 hg2))
        have HE := Lib.hid (HGO.out w2 g2 c2 ho2 (by rw [HW1.out]; exact hg2))
        clear ho2 hg2
        go_roundw
        case rel => exact ⟨k + 1, by omega, by go_num, HE.out.1, HE.out.2⟩
        case measure => simp [intOf]; omega
      · have hg := HGD.out
        rw [goodB_5, Bool.and_eq_true] at hg
        obtain ⟨a, rfl, ha0, ha2⟩ := inB_nat hg.1 (by omega)
        obtain ⟨b, rfl, hb0, hb2⟩ := inB_nat hg.2 (by omega)
        clear hg
        have HST : Hid (stepM M (5, (a : Int), (b : Int)) = M.getD a 0 ||| M.getD b 0) := Lib.hid (by simp [stepM])
        obtain ⟨y, HY⟩ : ∃ y : Int, Hid (y = ((M.getD a 0 ||| M.getD b 0 : Nat) : Int)) := ⟨_, Lib.hid rfl⟩
        have HPa : Hid (M.getD a 0 < 32) := Lib.hid (getD_lt32 HSM.out _)
        obtain ⟨za, HZa⟩ : ∃ z : Int, Hid (z = ((M.getD a 0 : Nat) : Int)) := ⟨_, Lib.hid rfl⟩
        obtain ⟨ga, hga, hca⟩ := HOC.out a (by omega)
        rw [← HZa.out, HW1.out] at hca
        have hla : (a : Int) < (k : Int) := by omega
        have hna : a < k := by omega
        have HPb : Hid (M.getD b 0 < 32) := Lib.hid (getD_lt32 HSM.out _)
        obtain ⟨zb, HZb⟩ : ∃ z : Int, Hid (z = ((M.getD b 0 : Nat) : Int)) := ⟨_, Lib.hid rfl⟩
        obtain ⟨gb, hgb, hcb⟩ := HOC.out b (by omega)
        rw [← HZb.out, HW1.out] at hcb
        have hlb : (b : Int) < (k : Int) := by omega
        have hnb : b < k := by omega
        subst hga
        obtain rfl : ga = gb := by simpa using hgb
        have hop : bits BinOp.or IntKind.u32 za zb = y := by rw [HZa.out, HZb.out, HY.out, u32_or_nat _ _ (by have := HPa.out; omega) (by have := HPb.out; omega)]
        have HGO : Hid (∀ W2 : World, ∀ g2 c2, W2.ownsRow (B + 1) 98 1 (.slice (some ⟨g2, 0, none⟩) (k + 1) c2) (k + 1) (sets (M) ++ [.int .u32 y]) → W1.grownBy W2 (Value.slice (some ⟨ga, 0, none⟩) k uc).ownBlock → W2.ownsRow (B + 1) 98 1 (.slice (some ⟨g2, 0, none⟩) (k + 1) c2) (k + 1) (sets (masksF (fs.take (k + 1)))) ∧ Below (B + 1) W0 W2) := Lib.hid fun W2 g2 c2 ho2 hg2 => by
          refine ⟨?_, HB1.out.grown hg2 (by rw [HSW.out]; omega) fun y hy => (owns_lt HO1.out hy).1⟩
          rw [HMT.out, HST.out]
          rw [HY.out] at ho2
          simpa [sets] using ho2
        go_wp2_with fail
        refine wp_region_ord [0, 1, 5, 6] [2, 3, 4, 7, 8, 9, 10, 11] [] [] (by kernel_rfl) (by kernel_rfl) (fun _ _ d _ _ h => by cases d <;> exact h) ?_
        simp only [pickOps, List.filterMap_cons, List.filterMap_nil, List.getElem?_cons_succ, List.getElem?_cons_zero]
        repeat quiet_step (fail)
        try simp only [wpQuiet_nil_eq]
        try simp only [wpSegs_nil_eq]
        have hD : (wr.alloc (.cells #[.int .i64 5, .int .i64 a, .int .i64 b] 169)).drew.ownsRow (B + 1) 98 1 (.slice (some ⟨ga, 0, none⟩) k uc) k (sets (M)) := by rw [← HW1.out]; exact HO1.out
        have hsS : S + 1 = (wr.alloc (.cells #[.int .i64 5, .int .i64 a, .int .i64 b] 169)).drew.heap.size := by simp [hS]
        have HGD2 : Hid (∀ (W2 : World) (r : Option Nat), (wr.alloc (.cells #[.int .i64 5, .int .i64 a, .int .i64 b] 169)).drew.grownBy W2 r → W1.grownBy W2 r) := Lib.hid fun W2 r h => by rw [HW1.out]; exact ⟨h.os, h.tape, h.output, h.size, h.block⟩
        generalize hwv : (wr.alloc (.cells #[.int .i64 5, .int .i64 a, .int .i64 b] 169)).drew = wv at *
        have HSS := Lib.hid hsS
        have HOX := Lib.hid hD
        have hwz : wv.heap.size = S + 1 := hsS.symm
        clear hsS hD
        go_wp2_with ((at_builtin; refine wpList_push_at wv rfl _ _ 94 rfl (B + 1) 98 _ (.int .u32 0) 4 Tryd.underlying94 infoV rfl (.slice (some ⟨ga, 0, none⟩) k uc) k (sets (M)) rfl HOX.out (S + 1) HSS.out (.int .u32 y) rfl rfl (by unfold maxLen; omega) (by omega) (by rw [← HSS.out]; omega) ?_; intro g2 c2 w2 ho2 hg2))
        have HE := Lib.hid (HGO.out w2 g2 c2 ho2 (HGD2.out _ _ hg2))
        clear ho2 hg2
        go_roundw
        case rel => exact ⟨k + 1, by omega, by go_num, HE.out.1, HE.out.2⟩
        case measure => simp [intOf]; omega
      · have hg := HGD.out
        rw [goodB_6, Bool.and_eq_true] at hg
        obtain ⟨a, rfl, ha0, ha2⟩ := inB_nat hg.1 (by omega)
        obtain ⟨b, rfl, hb0, hb2⟩ := inB_nat hg.2 (by omega)
        clear hg
        have HST : Hid (stepM M (6, (a : Int), (b : Int)) = M.getD a 0 ||| M.getD b 0) := Lib.hid (by simp [stepM])
        obtain ⟨y, HY⟩ : ∃ y : Int, Hid (y = ((M.getD a 0 ||| M.getD b 0 : Nat) : Int)) := ⟨_, Lib.hid rfl⟩
        have HPa : Hid (M.getD a 0 < 32) := Lib.hid (getD_lt32 HSM.out _)
        obtain ⟨za, HZa⟩ : ∃ z : Int, Hid (z = ((M.getD a 0 : Nat) : Int)) := ⟨_, Lib.hid rfl⟩
        obtain ⟨ga, hga, hca⟩ := HOC.out a (by omega)
        rw [← HZa.out, HW1.out] at hca
        have hla : (a : Int) < (k : Int) := by omega
        have hna : a < k := by omega
        have HPb : Hid (M.getD b 0 < 32) := Lib.hid (getD_lt32 HSM.out _)
        obtain ⟨zb, HZb⟩ : ∃ z : Int, Hid (z = ((M.getD b 0 : Nat) : Int)) := ⟨_, Lib.hid rfl⟩
        obtain ⟨gb, hgb, hcb⟩ := HOC.out b (by omega)
        rw [← HZb.out, HW1.out] at hcb
        have hlb : (b : Int) < (k : Int) := by omega
        have hnb : b < k := by omega
        subst hga
        obtain rfl : ga = gb := by simpa using hgb
        have hop : bits BinOp.or IntKind.u32 za zb = y := by rw [HZa.out, HZb.out, HY.out, u32_or_nat _ _ (by have := HPa.out; omega) (by have := HPb.out; omega)]
        have HGO : Hid (∀ W2 : World, ∀ g2 c2, W2.ownsRow (B + 1) 98 1 (.slice (some ⟨g2, 0, none⟩) (k + 1) c2) (k + 1) (sets (M) ++ [.int .u32 y]) → W1.grownBy W2 (Value.slice (some ⟨ga, 0, none⟩) k uc).ownBlock → W2.ownsRow (B + 1) 98 1 (.slice (some ⟨g2, 0, none⟩) (k + 1) c2) (k + 1) (sets (masksF (fs.take (k + 1)))) ∧ Below (B + 1) W0 W2) := Lib.hid fun W2 g2 c2 ho2 hg2 => by
          refine ⟨?_, HB1.out.grown hg2 (by rw [HSW.out]; omega) fun y hy => (owns_lt HO1.out hy).1⟩
          rw [HMT.out, HST.out]
          rw [HY.out] at ho2
          simpa [sets] using ho2
        go_wp2_with fail
        refine wp_region_ord [0, 1, 5, 6] [2, 3, 4, 7, 8, 9, 10, 11] [] [] (by kernel_rfl) (by kernel_rfl) (fun _ _ d _ _ h => by cases d <;> exact h) ?_
        simp only [pickOps, List.filterMap_cons, List.filterMap_nil, List.getElem?_cons_succ, List.getElem?_cons_zero]
        repeat quiet_step (fail)
        try simp only [wpQuiet_nil_eq]
        try simp only [wpSegs_nil_eq]
        have hD : (wr.alloc (.cells #[.int .i64 6, .int .i64 a, .int .i64 b] 169)).drew.ownsRow (B + 1) 98 1 (.slice (some ⟨ga, 0, none⟩) k uc) k (sets (M)) := by rw [← HW1.out]; exact HO1.out
        have hsS : S + 1 = (wr.alloc (.cells #[.int .i64 6, .int .i64 a, .int .i64 b] 169)).drew.heap.size := by simp [hS]
        have HGD2 : Hid (∀ (W2 : World) (r : Option Nat), (wr.alloc (.cells #[.int .i64 6, .int .i64 a, .int .i64 b] 169)).drew.grownBy W2 r → W1.grownBy W2 r) := Lib.hid fun W2 r h => by rw [HW1.out]; exact ⟨h.os, h.tape, h.output, h.size, h.block⟩
        generalize hwv : (wr.alloc (.cells #[.int .i64 6, .int .i64 a, .int .i64 b] 169)).drew = wv at *
        have HSS := Lib.hid hsS
        have HOX := Lib.hid hD
        have hwz : wv.heap.size = S + 1 := hsS.symm
        clear hsS hD
        go_wp2_with ((at_builtin; refine wpList_push_at wv rfl _ _ 94 rfl (B + 1) 98 _ (.int .u32 0) 4 Tryd.underlying94 infoV rfl (.slice (some ⟨ga, 0, none⟩) k uc) k (sets (M)) rfl HOX.out (S + 1) HSS.out (.int .u32 y) rfl rfl (by unfold maxLen; omega) (by omega) (by rw [← HSS.out]; omega) ?_; intro g2 c2 w2 ho2 hg2))
        have HE := Lib.hid (HGO.out w2 g2 c2 ho2 (HGD2.out _ _ hg2))
        clear ho2 hg2
        go_roundw
        case rel => exact ⟨k + 1, by omega, by go_num, HE.out.1, HE.out.2⟩
        case measure => simp [intOf]; omega
      · have hg := HGD.out
        rw [goodB_7, Bool.and_eq_true] at hg
        obtain ⟨a, rfl, ha0, ha2⟩ := inB_nat hg.1 (by omega)
        obtain ⟨b, rfl, hb0, hb2⟩ := inB_nat hg.2 (by omega)
        clear hg
        have HST : Hid (stepM M (7, (a : Int), (b : Int)) = clr (M.getD b 0) a) := Lib.hid (by simp [stepM])
        obtain ⟨y, HY⟩ : ∃ y : Int, Hid (y = ((clr (M.getD b 0) a : Nat) : Int)) := ⟨_, Lib.hid rfl⟩
        have HPa : Hid (2 ^ (a) < 32) := Lib.hid (pow_lt32 (by omega))
        obtain ⟨za, HZa⟩ : ∃ z : Int, Hid (z = ((2 ^ (a) : Nat) : Int)) := ⟨_, Lib.hid rfl⟩
        have HPb : Hid (M.getD b 0 < 32) := Lib.hid (getD_lt32 HSM.out _)
        obtain ⟨zb, HZb⟩ : ∃ z : Int, Hid (z = ((M.getD b 0 : Nat) : Int)) := ⟨_, Lib.hid rfl⟩
        obtain ⟨gb, hgb, hcb⟩ := HOC.out b (by omega)
        rw [← HZb.out, HW1.out] at hcb
        have hlb : (b : Int) < (k : Int) := by omega
        have hnb : b < k := by omega
        subst hgb
        have HOa : Hid (∀ W : World, Calls Tryd.prog 106 #[.int .i64 (a : Nat)] W fun e w' => e = .returned (.int .u32 za) ∧ W = w') := Lib.hid fun W => one_at _ (a) (by omega) (by omega) za HZa.out W
        have hop : bits BinOp.andNot IntKind.u32 zb za = y := by rw [HZa.out, HZb.out, HY.out, u32_andNot_nat _ _ (by have := HPb.out; omega) (by have := HPa.out; omega)]; rfl
        have HGO : Hid (∀ W2 : World, ∀ g2 c2, W2.ownsRow (B + 1) 98 1 (.slice (some ⟨g2, 0, none⟩) (k + 1) c2) (k + 1) (sets (M) ++ [.int .u32 y]) → W1.grownBy W2 (Value.slice (some ⟨gb, 0, none⟩) k uc).ownBlock → W2.ownsRow (B + 1) 98 1 (.slice (some ⟨g2, 0, none⟩) (k + 1) c2) (k + 1) (sets (masksF (fs.take (k + 1)))) ∧ Below (B + 1) W0 W2) := Lib.hid fun W2 g2 c2 ho2 hg2 => by
          refine ⟨?_, HB1.out.grown hg2 (by rw [HSW.out]; omega) fun y hy => (owns_lt HO1.out hy).1⟩
          rw [HMT.out, HST.out]
          rw [HY.out] at ho2
          simpa [sets] using ho2
        go_wp2_with fail
        refine wp_region_ord [0, 1, 5] [2, 3, 4, 6] [7] [8, 9] (by kernel_rfl) (by kernel_rfl) (fun _ _ d _ _ h => by cases d <;> exact h) ?_
        simp only [pickOps, List.filterMap_cons, List.filterMap_nil, List.getElem?_cons_succ, List.getElem?_cons_zero]
        repeat quiet_step (fail)
        simp only [wpQuiet_nil_eq]
        refine wpSegs_cons ?_
        go_wp2_with fail
        refine (HOa.out _).mono ?_
        rintro e1 w' ⟨rfl, rfl⟩
        go_wp2_with fail
        refine ⟨(Below.refl _ _).drew, ?_⟩
        simp only [wpSegs_nil_eq]
        have hD : (wr.alloc (.cells #[.int .i64 7, .int .i64 a, .int .i64 b] 169)).drew.ownsRow (B + 1) 98 1 (.slice (some ⟨gb, 0, none⟩) k uc) k (sets (M)) := by rw [← HW1.out]; exact HO1.out
        have hsS : S + 1 = (wr.alloc (.cells #[.int .i64 7, .int .i64 a, .int .i64 b] 169)).drew.heap.size := by simp [hS]
        have HGD2 : Hid (∀ (W2 : World) (r : Option Nat), (wr.alloc (.cells #[.int .i64 7, .int .i64 a, .int .i64 b] 169)).drew.grownBy W2 r → W1.grownBy W2 r) := Lib.hid fun W2 r h => by rw [HW1.out]; exact ⟨h.os, h.tape, h.output, h.size, h.block⟩
        generalize hwv : (wr.alloc (.cells #[.int .i64 7, .int .i64 a, .int .i64 b] 169)).drew = wv at *
        have HSS := Lib.hid hsS
        have HOX := Lib.hid hD
        have hwz : wv.heap.size = S + 1 := hsS.symm
        clear hsS hD
        go_wp2_with ((at_builtin; refine wpList_push_at wv rfl _ _ 94 rfl (B + 1) 98 _ (.int .u32 0) 4 Tryd.underlying94 infoV rfl (.slice (some ⟨gb, 0, none⟩) k uc) k (sets (M)) rfl HOX.out (S + 1) HSS.out (.int .u32 y) rfl rfl (by unfold maxLen; omega) (by omega) (by rw [← HSS.out]; omega) ?_; intro g2 c2 w2 ho2 hg2))
        have HE := Lib.hid (HGO.out w2 g2 c2 ho2 (HGD2.out _ _ hg2))
        clear ho2 hg2
        go_roundw
        case rel => exact ⟨k + 1, by omega, by go_num, HE.out.1, HE.out.2⟩
        case measure => simp [intOf]; omega
      · have hg := HGD.out
        rw [goodB_8, Bool.and_eq_true] at hg
        obtain ⟨a, rfl, ha0, ha2⟩ := inB_nat hg.1 (by omega)
        obtain ⟨b, rfl, hb0, hb2⟩ := inB_nat hg.2 (by omega)
        clear hg
        have HST : Hid (stepM M (8, (a : Int), (b : Int)) = clr (M.getD b 0) (3 + a)) := Lib.hid (by simp [stepM])
        obtain ⟨y, HY⟩ : ∃ y : Int, Hid (y = ((clr (M.getD b 0) (3 + a) : Nat) : Int)) := ⟨_, Lib.hid rfl⟩
        have HPa : Hid (2 ^ (3 + a) < 32) := Lib.hid (pow_lt32 (by omega))
        obtain ⟨za, HZa⟩ : ∃ z : Int, Hid (z = ((2 ^ (3 + a) : Nat) : Int)) := ⟨_, Lib.hid rfl⟩
        have HPb : Hid (M.getD b 0 < 32) := Lib.hid (getD_lt32 HSM.out _)
        obtain ⟨zb, HZb⟩ : ∃ z : Int, Hid (z = ((M.getD b 0 : Nat) : Int)) := ⟨_, Lib.hid rfl⟩
        obtain ⟨gb, hgb, hcb⟩ := HOC.out b (by omega)
        rw [← HZb.out, HW1.out] at hcb
        have hlb : (b : Int) < (k : Int) := by omega
        have hnb : b < k := by omega
        subst hgb
        have HOa : Hid (∀ W : World, Calls Tryd.prog 106 #[.int .i64 (3 + (a : Int))] W fun e w' => e = .returned (.int .u32 za) ∧ W = w') := Lib.hid fun W => one_at _ (3 + a) (by omega) (by omega) za HZa.out W
        have hia : IntKind.i64.wrap ((3 : Int) + (a : Int)) = 3 + (a : Int) := IntWalk.i64_in _ (by omega)
        have hop : bits BinOp.andNot IntKind.u32 zb za = y := by rw [HZa.out, HZb.out, HY.out, u32_andNot_nat _ _ (by have := HPb.out; omega) (by have := HPa.out; omega)]; rfl
        have HGO : Hid (∀ W2 : World, ∀ g2 c2, W2.ownsRow (B + 1) 98 1 (.slice (some ⟨g2, 0, none⟩) (k + 1) c2) (k + 1) (sets (M) ++ [.int .u32 y]) → W1.grownBy W2 (Value.slice (some ⟨gb, 0, none⟩) k uc).ownBlock → W2.ownsRow (B + 1) 98 1 (.slice (some ⟨g2, 0, none⟩) (k + 1) c2) (k + 1) (sets (masksF (fs.take (k + 1)))) ∧ Below (B + 1) W0 W2) := Lib.hid fun W2 g2 c2 ho2 hg2 => by
          refine ⟨?_, HB1.out.grown hg2 (by rw [HSW.out]; omega) fun y hy => (owns_lt HO1.out hy).1⟩
          rw [HMT.out, HST.out]
          rw [HY.out] at ho2
          simpa [sets] using ho2
        go_wp2_with fail
        refine wp_region_ord [0, 1, 5] [2, 3, 4, 6, 7] [8] [9, 10] (by kernel_rfl) (by kernel_rfl) (fun _ _ d _ _ h => by cases d <;> exact h) ?_
        simp only [pickOps, List.filterMap_cons, List.filterMap_nil, List.getElem?_cons_succ, List.getElem?_cons_zero]
        repeat quiet_step (fail)
        simp only [wpQuiet_nil_eq]
        refine wpSegs_cons ?_
        go_wp2_with fail
        refine (HOa.out _).mono ?_
        rintro e1 w' ⟨rfl, rfl⟩
        go_wp2_with fail
        refine ⟨(Below.refl _ _).drew, ?_⟩
        simp only [wpSegs_nil_eq]
        have hD : (wr.alloc (.cells #[.int .i64 8, .int .i64 a, .int .i64 b] 169)).drew.ownsRow (B + 1) 98 1 (.slice (some ⟨gb, 0, none⟩) k uc) k (sets (M)) := by rw [← HW1.out]; exact HO1.out
        have hsS : S + 1 = (wr.alloc (.cells #[.int .i64 8, .int .i64 a, .int .i64 b] 169)).drew.heap.size := by simp [hS]
        have HGD2 : Hid (∀ (W2 : World) (r : Option Nat), (wr.alloc (.cells #[.int .i64 8, .int .i64 a, .int .i64 b] 169)).drew.grownBy W2 r → W1.grownBy W2 r) := Lib.hid fun W2 r h => by rw [HW1.out]; exact ⟨h.os, h.tape, h.output, h.size, h.block⟩
        generalize hwv : (wr.alloc (.cells #[.int .i64 8, .int .i64 a, .int .i64 b] 169)).drew = wv at *
        have HSS := Lib.hid hsS
        have HOX := Lib.hid hD
        have hwz : wv.heap.size = S + 1 := hsS.symm
        clear hsS hD
        go_wp2_with ((at_builtin; refine wpList_push_at wv rfl _ _ 94 rfl (B + 1) 98 _ (.int .u32 0) 4 Tryd.underlying94 infoV rfl (.slice (some ⟨gb, 0, none⟩) k uc) k (sets (M)) rfl HOX.out (S + 1) HSS.out (.int .u32 y) rfl rfl (by unfold maxLen; omega) (by omega) (by rw [← HSS.out]; omega) ?_; intro g2 c2 w2 ho2 hg2))
        have HE := Lib.hid (HGO.out w2 g2 c2 ho2 (HGD2.out _ _ hg2))
        clear ho2 hg2
        go_roundw
        case rel => exact ⟨k + 1, by omega, by go_num, HE.out.1, HE.out.2⟩
        case measure => simp [intOf]; omega
    · obtain rfl : k = fs.length := by omega
      rw [List.take_length] at ho
      obtain ⟨ua, uc, rfl⟩ := owns_shape ho
      have HE := Lib.hid (And.intro ho hbw)
      clear ho hb hbw
      go_wp2_with fail
      go_ret
      exact ⟨_, rfl, by rw [hB]; exact owns_base HE.out.1 (by omega), by rw [hB]; exact HE.out.2⟩
end Go.Proofs.YtbhobmngnjfgfaaDoor
