/-
  'distances' of the program.
-/
import Derived.Test.YtehejjmmbjekgaaDoorLayP
namespace Go.Proofs.YtehejjmmbjekgaaDoor
open Go.RowKit

theorem fill_next (n k : Nat) (hk : k < n) : (List.replicate k (-1 : Int) ++ List.replicate (n - k) 0).set k (-1) = List.replicate (k + 1) (-1) ++ List.replicate (n - (k + 1)) 0 := by
  rw [List.set_append, if_neg (by simp)]
  obtain ⟨m, hm⟩ : ∃ m, n - k = m + 1 := ⟨n - k - 1, by omega⟩
  have hm2 : n - (k + 1) = m := by omega
  rw [hm, hm2, List.replicate_succ' (n := k)]
  simp [List.replicate_succ]

set_option maxHeartbeats 4000000 in
theorem distances_any (v : Value) (n : Nat) (e : Nat → Nat → Bool) (hn : n ≤ 16) (p : Nat → Bool) (s : Nat) (hs : s < n) (S : Int) (hS : S = s) (z : Int) (hz : z = (maskB n p : Nat)) (w : World) (ht : Tab w) (hr : Row w 1 v n (sets (NB n e))) :
    Calls Tryd.prog 159 #[v, .int .i64 S, .int .u32 z] w fun r w' => ∃ (u : Value) (ds : List Int) (d : Nat) (l sn : Nat → Bool), r = .returned u ∧ Hid (Lay n e p s d l sn ds ∧ maskB n l = 0 ∧ d ≤ 65537) ∧ w'.ownsRow w.heap.size 3 1 u n (ints ds) ∧ Below w.heap.size w w' := by
  obtain ⟨a, c, rfl, -, -, -⟩ := id hr
  obtain ⟨B, hB⟩ : ∃ B, w.heap.size = B := ⟨_, rfl⟩
  have hTB : 0 < B := by rw [← hB]; exact ht.lt
  have HZ := Lib.hid hz
  subst hS
  have HSE : Hid ((s : Int) = s) := Lib.hid rfl
  clear hz
  go_enter Tryd.func159, Tryd.ntmps159
  go_wp2_with (at_make; refine wpList_make _ rfl _ _ 92 rfl B 3 (.int .i64 0) 8 Tryd.underlying92 infoN rfl .i64 .i64 _ _ n rfl rfl (by omega) (by omega) (by omega) (by unfold maxLen; omega) (by omega) ?_; intro w1 ho1 hb1)
  rw [hB] at ho1 hb1
  first | rw [hB] | skip
  have ho1' : w1.ownsRow B 3 1 (.slice (some ⟨B, 0, none⟩) n n) n (ints (List.replicate 0 (-1) ++ List.replicate (n - 0) 0)) := by simpa [ints] using ho1
  clear ho1
  go_loopw [22] (fun i wr => ∃ k : Nat, k ≤ n ∧ i = .int .i64 k ∧ wr.ownsRow B 3 1 (.slice (some ⟨B, 0, none⟩) n n) n (ints (List.replicate k (-1) ++ List.replicate (n - k) 0)) ∧ Below B w wr) (fun i _ => n - (intOf i).toNat)
  case atStart => exact ⟨0, Nat.zero_le _, rfl, ho1', hb1⟩
  case round =>
    clear ho1' hb1
    obtain ⟨k, hk, rfl, ho, hb⟩ := hrel
    by_cases hlt : k < n
    · have hf := ho.frozenAt k
      have hx : wr.cell? ⟨B, k, none⟩ = some (.int .i64 0) := by
        have h0 : (List.replicate k (-1 : Int) ++ List.replicate (n - k) 0)[k]? = some 0 := by
          rw [List.getElem?_append_right (by simp), List.length_replicate, Nat.sub_self, List.getElem?_replicate, if_pos (by omega)]
        rw [ho.cellAt k (by omega), ints, List.getElem?_map, h0]
        rfl
      have hst := ho.stored k (.int .i64 (-1))
      have HST : Hid ((wr.setCell ⟨B, k, none⟩ (.int .i64 (-1))).ownsRow B 3 1 (.slice (some ⟨B, 0, none⟩) n n) n (ints (List.replicate (k + 1) (-1) ++ List.replicate (n - (k + 1)) 0))) := Lib.hid (by
        have h1 := hst.1
        rw [← fill_next n k hlt]
        simp only [ints, ← List.map_set] at h1 ⊢
        exact h1)
      have HB := Lib.hid (hb.setCell (p := ⟨B, k, none⟩) (by simp) (.int .i64 (-1)))
      clear hst ho hb
      go_wp2_with fail
      go_roundw
      case rel => exact ⟨k + 1, by omega, by go_num, HST.out, HB.out⟩
      case measure => simp [intOf]; omega
    · obtain rfl : k = n := by omega
      have hf := ho.frozenAt s
      have hx : wr.cell? ⟨B, s, none⟩ = some (.int .i64 (-1)) := by
        rw [ho.cellAt s (by omega)]
        simp [ints, hs]
      have hst := ho.stored s (.int .i64 0)
      have HL0 := Lib.hid (Lay.first (n := k) (e := e) (p := p) hs)
      have HST : Hid ((wr.setCell ⟨B, s, none⟩ (.int .i64 0)).ownsRow B 3 1 (.slice (some ⟨B, 0, none⟩) k k) k (ints ((List.replicate k (-1)).set s 0))) := Lib.hid (by
        have h1 := hst.1
        simp only [Nat.sub_self, List.replicate_zero, List.append_nil] at h1
        simp only [ints, ← List.map_set] at h1 ⊢
        exact h1)
      have HB := Lib.hid (hb.setCell (p := ⟨B, s, none⟩) (by simp) (.int .i64 0))
      obtain ⟨y0, HY0⟩ : ∃ y : Int, Hid (y = ((2 ^ s : Nat) : Int)) := ⟨_, Lib.hid rfl⟩
      obtain ⟨m0, HM0⟩ : ∃ m : Nat, Hid (m = maskB k (fun b => decide (b = s))) := ⟨_, Lib.hid rfl⟩
      have HYM : Hid (y0 = (m0 : Int)) := Lib.hid (by rw [HY0.out, HM0.out, pow_maskB hs])
      obtain ⟨w2, hw2⟩ : ∃ w2, w2 = wr.setCell ⟨B, s, none⟩ (.int .i64 0) := ⟨_, rfl⟩
      rw [← hw2] at HST HB
      have hST := HST.out
      have hB2 := HB.out
      have HS0 : Hid (m0 = maskB k (fun b => decide (b = s)) ∧ m0 = maskB k (fun b => decide (b = s)) ∧ 0 ≤ m0 + 1 ∧ (m0 ≠ 0 → 0 ≤ m0)) := Lib.hid ⟨HM0.out, HM0.out, by omega, fun _ => by omega⟩
      clear hst ho hb HST HB
      go_wp2_with fail
      rw [← hw2]
      clear hw2
      go_wp2_with fail
      refine (one_at (s : Int) s rfl (by omega) y0 HY0.out _).mono ?_
      rintro e1 w' ⟨rfl, rfl⟩
      go_wp2_with fail
      refine (one_at (s : Int) s rfl (by omega) y0 HY0.out _).mono ?_
      rintro e1 w' ⟨rfl, rfl⟩
      rw [HYM.out]
      clear hf hx
      go_wp2_with fail
      go_loopw [9, 10, 11] (fun fa la se wr => ∃ (d q m : Nat) (l sn : Nat → Bool) (ds : List Int), fa = .int .i64 ((d + 1 : Nat) : Int) ∧ la = .int .u32 (q : Nat) ∧ se = .int .u32 (m : Nat) ∧ Hid (q = maskB k l ∧ m = maskB k sn ∧ d ≤ m + 1 ∧ (q ≠ 0 → d ≤ m)) ∧ Hid (Lay k e p s d l sn ds) ∧
        wr.ownsRow B 3 1 (.slice (some ⟨B, 0, none⟩) k k) k (ints ds) ∧ Below B w wr) (fun _ la se _ => 2 * (65536 - (intOf se).toNat) + (if intOf la = 0 then 0 else 1))
      case atStart => exact ⟨0, m0, m0, _, _, _, rfl, rfl, rfl, HS0, HL0, hST, hB2⟩
      case round =>
        clear hST hB2
        obtain ⟨d, q, m, l, sn, ds, rfl, rfl, rfl, HQ, HL, ho, hb⟩ := hrel
        have hm6 : m < 65536 := by rw [HQ.out.2.1]; exact mask_lt16 hn sn
        have hdm := HQ.out.2.2.1
        have hsz := hb.size
        by_cases hq0 : q = 0
        · have hd : ((q : Int) != 0) = false := by simp [hq0]
          have HE : Hid (Lay k e p s d l sn ds ∧ maskB k l = 0 ∧ d ≤ 65537) := Lib.hid ⟨HL.out, by rw [← HQ.out.1]; exact hq0, by omega⟩
          clear hq0
          go_wp2_with fail
          go_ret
          exact ⟨_, ds, d, l, sn, rfl, HE, by rw [hB]; exact ho, by rw [hB]; exact hb⟩
        · have hd : ((q : Int) != 0) = true := by simp; exact hq0
          obtain ⟨qi, HQI⟩ : ∃ z : Int, Hid ((q : Int) = z) := ⟨_, Lib.hid rfl⟩
          obtain ⟨mi, HMI⟩ : ∃ z : Int, Hid ((m : Int) = z) := ⟨_, Lib.hid rfl⟩
          obtain ⟨di, HDI⟩ : ∃ z : Int, Hid (((d + 1 : Nat) : Int) = z) := ⟨_, Lib.hid rfl⟩
          have hdm2 : d ≤ m := HQ.out.2.2.2 hq0
          have HQ0 := Lib.hid hq0
          have HLI := Lib.hid (listB_any (n := k) (by omega) l qi (by rw [← HQI.out, HQ.out.1]) wr (ht.keep hb hTB))
          have hll := rowB_length k l
          rw [HQI.out] at hd
          rw [HQI.out, HMI.out, HDI.out]
          clear hq0
          go_wp2_with fail
          refine HLI.out.mono ?_
          rintro e1 w1 ⟨u1, rfl, hL1, hb1⟩
          obtain ⟨la, lc, rfl⟩ := owns_shape hL1
          have hRL := Row.of_owns hL1
          obtain ⟨C, hC⟩ : ∃ C, w1.heap.size = C := ⟨_, rfl⟩
          have hBC : B ≤ C := by have := hb1.size; omega
          have hb01 := hb.trans (hb1.mono (by omega))
          have ho1 := owns_below ho hb1
          have hcl : Below C w1 w1 := Below.refl _ _
          have HZ1 : Hid (0 = maskB k (nextB e ((rowB k l).take 0))) := Lib.hid (by rw [List.take_zero, nextB_nil, maskB_zero])
          clear hL1 HLI hb1 hb ho
          go_wp2_with fail
          go_loopw [12, 43] (fun t i wr => ∃ (j m' : Nat), j ≤ (rowB k l).length ∧ i = .int .i64 j ∧ t = .int .u32 m' ∧ Hid (m' = maskB k (nextB e ((rowB k l).take j))) ∧ Below C w1 wr) (fun _ i _ => (rowB k l).length - (intOf i).toNat)
          case atStart => exact ⟨0, 0, Nat.zero_le _, rfl, rfl, HZ1, hcl⟩
          case round =>
            clear hcl HZ1
            obtain ⟨j, m', hj, rfl, rfl, HM', hb⟩ := hrel
            by_cases hlt : j < (rowB k l).length
            · obtain ⟨yb, yo, y, rfl, hcy, HY⟩ := Row.intAt (Row.below hRL (hC.symm ▸ hb)) hlt
              obtain ⟨x, hx, hpx, rfl⟩ := row_at HY.out
              obtain ⟨gb, go, xx, rfl, hcx, HX⟩ := (hr.below (hB.symm ▸ (hb01.trans (hb.mono hBC)))).setAt (j := x) (by simpa using hx)
              obtain rfl : maskB k (e x) = xx := by have h := HX.out; rw [NB_at e hx] at h; exact Option.some.inj h
              obtain ⟨xi, HXI⟩ : ∃ z : Int, Hid (((maskB k (e x) : Nat) : Int) = z) := ⟨_, Lib.hid rfl⟩
              obtain ⟨z1, HZ1⟩ : ∃ z : Int, Hid ((m' : Int) = z) := ⟨_, Lib.hid rfl⟩
              obtain ⟨z5, HZ5⟩ : ∃ z : Nat, Hid (z = maskB k (nextB e ((rowB k l).take (j + 1)))) := ⟨_, Lib.hid rfl⟩
              have hb2' : bits BinOp.or IntKind.u32 z1 xi = (z5 : Int) := by
                rw [← HZ1.out, HM'.out, ← HXI.out, HZ5.out, maskB_or (by omega), take_snoc HY.out, nextB_snoc]
              rw [HXI.out] at hcx
              rw [HZ1.out]
              clear HX
              go_wp2_with fail
              go_roundw
              case rel => exact ⟨j + 1, z5, by omega, by go_num, rfl, HZ5, hb⟩
              case measure => simp [intOf]; omega
            · obtain rfl : j = (rowB k l).length := by omega
              have HM2 : Hid (m' = maskB k (nextB e (rowB k l))) := Lib.hid (by have := HM'.out; rwa [List.take_length] at this)
              have hb2 := hb01.trans (hb.mono hBC)
              have ho2 := owns_below ho1 (hC.symm ▸ hb)
              obtain ⟨z1, HZ1⟩ : ∃ z : Int, Hid ((m' : Int) = z) := ⟨_, Lib.hid rfl⟩
              obtain ⟨z2, HZ2⟩ : ∃ z : Int, Hid (z = (maskB k (fun b => nextB e (rowB k l) b && p b) : Nat)) := ⟨_, Lib.hid rfl⟩
              obtain ⟨z3, HZ3⟩ : ∃ z : Nat, Hid (z = maskB k (layN k e p l sn)) := ⟨_, Lib.hid rfl⟩
              obtain ⟨z3i, HZ3I⟩ : ∃ z : Int, Hid ((z3 : Int) = z) := ⟨_, Lib.hid rfl⟩
              obtain ⟨z4, HZ4⟩ : ∃ z : Nat, Hid (z = maskB k (fun b => sn b || layN k e p l sn b)) := ⟨_, Lib.hid rfl⟩
              have hbA : bits BinOp.and IntKind.u32 z1 z = z2 := by rw [← HZ1.out, HM2.out, HZ.out, HZ2.out, mask_and (by omega)]
              have hbN : bits BinOp.andNot IntKind.u32 z2 mi = z3i := by rw [HZ2.out, ← HMI.out, HQ.out.2.1, mask_andNot (by omega), ← HZ3I.out, HZ3.out]; rfl
              have hbO : bits BinOp.or IntKind.u32 mi z3i = (z4 : Int) := by rw [← HMI.out, HQ.out.2.1, ← HZ3I.out, HZ3.out, maskB_or (by omega), HZ4.out]
              have HLI := Lib.hid (listB_any (n := k) (by omega) (layN k e p l sn) z3i (by rw [← HZ3I.out, HZ3.out]) wr (ht.keep hb2 hTB))
              have hll2 := rowB_length k (layN k e p l sn)
              have HNX := Lib.hid HL.out.next
              have HDS : Hid (ds = setAll ds ((rowB k (layN k e p l sn)).take 0) ((d : Int) + 1)) := Lib.hid rfl
              have HLEN : Hid (ds.length = k) := Lib.hid HL.out.len
              rw [HZ1.out]
              clear hb hb01 ho1 hRL
              go_wp2_with fail
              refine HLI.out.mono ?_
              rintro e1 w5 ⟨u5, rfl, hL5, hb5⟩
              obtain ⟨la5, lc5, rfl⟩ := owns_shape hL5
              have hsz2 := hb2.size
              have hb05 := hb2.trans (hb5.mono (by omega))
              have ho5 := owns_below ho2 hb5
              have hD : B + 1 ≤ wr.heap.size := by have := (owns_lt ho2 (b := B) rfl).2; omega
              have hL5' := owns_base hL5 hD
              rw [HDS.out] at ho5
              clear hL5 HLI hb5 hb2 ho2
              go_wp2_with fail
              go_loopw [65] (fun i wr => ∃ (j : Nat), j ≤ (rowB k (layN k e p l sn)).length ∧ i = .int .i64 j ∧ wr.ownsRow B 3 1 (.slice (some ⟨B, 0, none⟩) k k) k (ints (setAll ds ((rowB k (layN k e p l sn)).take j) ((d : Int) + 1))) ∧
                wr.ownsRow (B + 1) 3 1 (.slice la5 (rowB k (layN k e p l sn)).length lc5) (rowB k (layN k e p l sn)).length (ints (rowB k (layN k e p l sn))) ∧ Below B w wr) (fun i _ => (rowB k (layN k e p l sn)).length - (intOf i).toNat)
              case atStart => exact ⟨0, Nat.zero_le _, rfl, ho5, by simpa using hL5', hb05⟩
              case round =>
                clear ho5 hL5' hb05
                obtain ⟨j, hj, rfl, ho, hL, hb⟩ := hrel
                by_cases hlt : j < (rowB k (layN k e p l sn)).length
                · obtain ⟨yb, yo, y, rfl, hcy, HY⟩ := Row.intAt (Row.of_owns hL) hlt
                  obtain ⟨x, hx, hpx, rfl⟩ := row_at HY.out
                  have hf := ho.frozenAt x
                  have hlen : (setAll ds ((rowB k (layN k e p l sn)).take j) ((d : Int) + 1)).length = k := by rw [setAll_length]; exact HLEN.out
                  obtain ⟨ov, hov⟩ : ∃ ov, wr.cell? ⟨B, x, none⟩ = some (.int .i64 ov) := by
                    have hcx := ho.cellAt x (by omega)
                    rw [ints, List.getElem?_map, List.getElem?_eq_getElem (by omega)] at hcx
                    exact ⟨_, hcx⟩
                  have hst := ho.stored x (.int .i64 di)
                  have HST : Hid ((wr.setCell ⟨B, x, none⟩ (.int .i64 di)).ownsRow B 3 1 (.slice (some ⟨B, 0, none⟩) k k) k (ints (setAll ds ((rowB k (layN k e p l sn)).take (j + 1)) ((d : Int) + 1)))) := Lib.hid (by
                    have h1 := hst.1
                    rw [take_snoc HY.out, setAll_snoc]
                    rw [← HDI.out] at h1 ⊢
                    simp only [ints, ← List.map_set] at h1 ⊢
                    simpa using h1)
                  have HLK := Lib.hid (hL.kept hst.2 (.inr fun h => by
                    have := (owns_lt hL h).1; omega))
                  have HB := Lib.hid (hb.setCell (p := ⟨B, x, none⟩) (by simp) (.int .i64 di))
                  clear hst ho hb hL
                  go_wp2_with fail
                  go_roundw
                  case rel => exact ⟨j + 1, by omega, by go_num, HST.out, HLK.out, HB.out⟩
                  case measure => simp [intOf]; omega
                · obtain rfl : j = (rowB k (layN k e p l sn)).length := by omega
                  rw [List.take_length] at ho
                  have h4 : m ≤ z4 := by rw [HZ4.out, HQ.out.2.1]; exact mask_le fun b hb => by rw [hb]; rfl
                  have h5 : z3 ≠ 0 → m < z4 := fun h => by rw [HZ4.out, HQ.out.2.1]; exact HL.out.grow (by rw [← HZ3.out]; exact h)
                  have h6 : z4 < 65536 := by rw [HZ4.out]; exact mask_lt16 hn _
                  have hdi : di = (d : Int) + 1 := by rw [← HDI.out]; omega
                  have HDI2 := Lib.hid hdi
                  have hdb : di ≤ 65537 := by omega
                  have hdb0 : 0 ≤ di := by omega
                  have HMS : Hid (2 * (65536 - z4) + (if z3 = 0 then 0 else 1) < 2 * (65536 - m) + 1) := Lib.hid (by
                    by_cases h : z3 = 0
                    · rw [if_pos h]; omega
                    · rw [if_neg h]; have := h5 h; omega)
                  have HQ2 : Hid (z3 = maskB k (layN k e p l sn) ∧ z4 = maskB k (fun b => sn b || layN k e p l sn b) ∧ d + 1 ≤ z4 + 1 ∧ (z3 ≠ 0 → d + 1 ≤ z4)) := Lib.hid ⟨HZ3.out, HZ4.out, by omega, fun h => by have := h5 h; omega⟩
                  clear hdi h5
                  go_wp2_with fail
                  go_roundw
                  case rel => exact ⟨d + 1, z3, z4, _, _, _, by rw [HDI2.out]; go_num, by rw [HZ3I.out], rfl, HQ2, HNX, ho, hb⟩
                  case measure =>
                    have h1 := HMS.out
                    have h2 : mi = (m : Int) := HMI.out.symm
                    have h3 : qi = (q : Int) := HQI.out.symm
                    have h4 : z3i = (z3 : Int) := HZ3I.out.symm
                    rw [h2, h3, h4]
                    have h5 := HQ0.out
                    simp [intOf, h5]
                    omega
end Go.Proofs.YtehejjmmbjekgaaDoor
