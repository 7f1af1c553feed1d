import Derived.Test.YtpfhflkpnjkgkaaDoorThinTJn
/-
  'l10From' of the reference: the least widths, remembered in a table.
-/

namespace Go.Proofs.YtpfhflkpnjkgkaaDoor
open Go.RowKit

/-- The table is right where it knows. -/
def KOK (n : Nat) (e : Nat → Nat → Bool) (ks : List Int) : Prop := ks.length = 2 ^ n ∧ ∀ i, i < 2 ^ n → ks.getD i 0 = -1 ∨ ks.getD i 0 = (wid n e i : Nat)
theorem KOK.start (n : Nat) (e : Nat → Nat → Bool) : KOK n e (List.replicate (2 ^ n) (-1)) := by
  refine ⟨by simp, fun i hi => .inl ?_⟩
  rw [List.getD_eq_getElem?_getD, List.getElem?_replicate, if_pos hi]
  rfl
theorem KOK.set {n : Nat} {e : Nat → Nat → Bool} {ks : List Int} (h : KOK n e ks) (S : Nat) : KOK n e (ks.set S (wid n e S : Nat)) := by
  refine ⟨by simp [h.1], fun i hi => ?_⟩
  by_cases his : S = i
  · subst his
    right
    rw [List.getD_eq_getElem?_getD, List.getElem?_set_self (by rw [h.1]; exact hi)]
    rfl
  · rw [List.getD_eq_getElem?_getD, List.getElem?_set_ne his, ← List.getD_eq_getElem?_getD]
    exact h.2 i hi
/-- The memory of the reference: who is gone, what is known. -/
structure RSt (n : Nat) (e : Nat → Nat → Bool) (B gb kb : Nat) (w : World) (S : Nat) (ks : List Int) : Prop where
  gone : w.ownsRow B 4 1 (.slice (some ⟨gb, 0, none⟩) n n) n (bools n S.testBit)
  known : w.ownsRow B 2 1 (.slice (some ⟨kb, 0, none⟩) (2 ^ n) (2 ^ n)) (2 ^ n) (ints ks)
  ok : KOK n e ks
theorem bools_at {n : Nat} {p : Nat → Bool} {i : Nat} (h : i < n) : (bools n p)[i]? = some (.bool (p i)) := by simp [bools, h]
theorem bools_off {n S v : Nat} (hv : S.testBit v = false) : (bools n (S ||| 2 ^ v).testBit).set v (.bool false) = bools n S.testBit := by
  apply List.ext_getElem (by simp)
  intro i h1 h2
  rw [List.getElem_set]
  by_cases h : v = i
  · subst h; simp [bools, hv]
  · rw [if_neg h]
    simp only [bools, List.getElem_map, List.getElem_range]
    rw [Nat.testBit_or, Nat.testBit_two_pow]
    simp [h]
section
variable {n : Nat} {e : Nat → Nat → Bool} {B gb kb : Nat} {w w' : World} {S : Nat} {ks : List Int}
theorem RSt.ne (h : RSt n e B gb kb w S ks) : gb ≠ kb := fun he => owns_unlike h.gone h.known (by decide) (b := gb) rfl (by rw [he]; rfl)
theorem RSt.lt (h : RSt n e B gb kb w S ks) : B ≤ gb ∧ gb < w.heap.size ∧ B ≤ kb ∧ kb < w.heap.size := ⟨(owns_lt h.gone (b := gb) rfl).1, (owns_lt h.gone (b := gb) rfl).2, (owns_lt h.known (b := kb) rfl).1, (owns_lt h.known (b := kb) rfl).2⟩
theorem RSt.below (h : RSt n e B gb kb w S ks) (hb : Below w.heap.size w w') : RSt n e B gb kb w' S ks := ⟨owns_below h.gone hb, owns_below h.known hb, h.ok⟩
theorem RSt.put (h : RSt n e B gb kb w S ks) {v : Nat} : RSt n e B gb kb (w.setCell ⟨gb, v, none⟩ (.bool true)) (S ||| 2 ^ v) ks := by
  have h1 := h.gone.stored v (.bool true)
  refine ⟨?_, h.known.kept h1.2 (.inr fun he => h.ne (by simpa [Value.ownBlock] using he.symm)), h.ok⟩
  have := h1.1
  rw [bools_set] at this
  rw [bools_ext (q := fun b => S.testBit b || decide (b = v)) fun b _ => by rw [Nat.testBit_or, Nat.testBit_two_pow]; congr 1; rw [decide_eq_decide]; exact ⟨fun h => h.symm, fun h => h.symm⟩]
  exact this
theorem RSt.drop {v : Nat} (h : RSt n e B gb kb w (S ||| 2 ^ v) ks) (hv : S.testBit v = false) : RSt n e B gb kb (w.setCell ⟨gb, v, none⟩ (.bool false)) S ks := by
  have h1 := h.gone.stored v (.bool false)
  refine ⟨?_, h.known.kept h1.2 (.inr fun he => h.ne (by simpa [Value.ownBlock] using he.symm)), h.ok⟩
  have := h1.1
  rwa [bools_off hv] at this
theorem RSt.know (h : RSt n e B gb kb w S ks) : RSt n e B gb kb (w.setCell ⟨kb, S, none⟩ (.int .i64 (wid n e S : Nat))) S (ks.set S (wid n e S : Nat)) := by
  have h1 := h.known.stored S (.int .i64 (wid n e S : Nat))
  refine ⟨h.gone.kept h1.2 (.inr fun he => h.ne (by simpa [Value.ownBlock] using he)), ?_, h.ok.set S⟩
  rw [ints_set]
  exact h1.1
end
abbrev Wr2 (kb gb : Nat) (w w' : World) : Prop := Wrote w w' fun k => k = kb ∨ k = gb
theorem Wr2.go {kb gb : Nat} {w w1 w2 : World} (h : Wr2 kb gb w w1) (h' : Wr2 kb gb w1 w2) : Wr2 kb gb w w2 := h.trans h' fun _ _ h => h
theorem Wr2.cell (kb gb : Nat) (w : World) {b v : Nat} (hb : b = kb ∨ b = gb) (u : Value) : Wr2 kb gb w (w.setCell ⟨b, v, none⟩ u) := (Wrote.refl w _).setCell (.inr hb) u
theorem wr2_below {kb gb : Nat} {w w' : World} (hb : Below w.heap.size w w') : Wr2 kb gb w w' := ⟨hb.os, hb.tape, hb.output, hb.size, fun k hk _ => hb.block k hk⟩
theorem Wr2.to_below {kb gb B : Nat} {w w' : World} (h : Wr2 kb gb w w') (hB : B ≤ w.heap.size) (h1 : B ≤ kb) (h2 : B ≤ gb) : Below B w w' := Wrote.below h hB fun k hk => by rcases hk with rfl | rfl <;> assumption
/-- What is left behind a call. -/
structure FromR (n : Nat) (e : Nat → Nat → Bool) (B gb kb : Nat) (w : World) (S r : Nat) (E : Ending) (w' : World) : Prop where
  ret : E = .returned (.int .i64 (r : Nat))
  st : ∃ ks', RSt n e B gb kb w' S ks'
  wr : Wr2 kb gb w w'
/-- The best so far. -/
noncomputable def bestZ (n : Nat) (e : Nat → Nat → Bool) (S v : Nat) : Int := if leftN v S = [] then -1 else ((minL ((leftN v S).map (wit n e S)) : Nat) : Int)
theorem leftN_no {v S : Nat} (h : S.testBit v = true) : leftN (v + 1) S = leftN v S := by
  unfold leftN
  rw [List.range_succ, List.filter_append]
  simp [h]
theorem leftN_yes {v S : Nat} (h : S.testBit v = false) : leftN (v + 1) S = leftN v S ++ [v] := by
  unfold leftN
  rw [List.range_succ, List.filter_append]
  simp [h]
theorem bestZ_no {n : Nat} {e : Nat → Nat → Bool} {v S : Nat} (h : S.testBit v = true) : bestZ n e S (v + 1) = bestZ n e S v := by
  unfold bestZ
  rw [leftN_no h]
theorem bestZ_ge (n : Nat) (e : Nat → Nat → Bool) (S v : Nat) : -1 ≤ bestZ n e S v ∧ bestZ n e S v ≤ 16 := by
  unfold bestZ
  split
  · omega
  · have := minL_le ((leftN v S).map (wit n e S)); omega
theorem bestZ_yes {n : Nat} (hn : n ≤ 10) {e : Nat → Nat → Bool} {v S : Nat} (h : S.testBit v = false) : bestZ n e S (v + 1) = if bestZ n e S v < 0 ∨ ((wit n e S v : Nat) : Int) < bestZ n e S v then ((wit n e S v : Nat) : Int) else bestZ n e S v := by
  have hx := wit_le hn e S v
  have h1 : bestZ n e S (v + 1) = ((min (minL ((leftN v S).map (wit n e S))) (wit n e S v) : Nat) : Int) := by
    unfold bestZ
    rw [leftN_yes h, if_neg (by simp), List.map_append, List.map_cons, List.map_nil, minL_snoc]
  rw [h1]
  unfold bestZ
  have h2 := minL_le ((leftN v S).map (wit n e S))
  by_cases hl : leftN v S = []
  · rw [if_pos hl, if_pos (.inl (by omega)), hl]
    simp [minL]
    omega
  · rw [if_neg hl]
    split <;> omega
theorem bestZ_end (n : Nat) (e : Nat → Nat → Bool) (S : Nat) : (if 0 < bestZ n e S n then bestZ n e S n else 0) = ((wid n e S : Nat) : Int) := by
  rw [wid_eq]
  unfold bestZ
  by_cases hl : leftN n S = []
  · rw [if_pos hl, if_pos hl]; simp
  · rw [if_neg hl, if_neg hl]; split <;> omega

set_option maxHeartbeats 4000000 in
set_option maxRecDepth 100000 in
theorem from_any (n : Nat) (e : Nat → Nat → Bool) (hn : n ≤ 10) (B gb kb : Nat) (a : Option Addr) (c : Nat) : ∀ k S, (leftN n S).length = k → S < 2 ^ n → ∀ (w : World) (ks : List Int), RSt n e B gb kb w S ks → (∀ W, Below B w W → RdSS (.slice a n c) (rowsB n e) W) →
    Calls Tryd.prog 33 #[.agg #[.slice a n c], .slice (some ⟨gb, 0, none⟩) n n, .slice (some ⟨kb, 0, none⟩) (2 ^ n) (2 ^ n)] w (FromR n e B gb kb w S (wid n e S)) := by
  intro k
  induction k using Nat.strongRecOn with
  | ind k ih =>
    intro S hk hS w ks h hg
    obtain ⟨C, hC⟩ : ∃ C, w.heap.size = C := ⟨_, rfl⟩
    obtain ⟨W, hW⟩ : ∃ W, W = w.alloc (.cells #[.slice a n c] 38) := ⟨_, rfl⟩
    have hbW : Below C w W := by rw [hW]; subst hC; exact below_alloc' _ _
    have VW : VC 38 C #[.slice a n c] W := by rw [hW]; exact VC.new hC
    have hzW : W.heap.size = C + 1 := by rw [hW]; simp [hC]
    have hlt := h.lt
    have HST := Lib.hid (h.below (hC ▸ hbW))
    have HWW := Lib.hid (wr2_below (kb := kb) (gb := gb) (hC ▸ hbW))
    have HG : Hid (∀ W', Below B W W' → RdSS (.slice a n c) (rowsB n e) W') := Lib.hid fun W' hW' => hg W' ((hbW.mono (by omega)).trans hW')
    have HBB : Hid (∀ W', Wr2 kb gb W W' → Below B W W') := Lib.hid fun W' hW' => hW'.to_below (by omega) hlt.2.2.1 hlt.1
    have hS16 : S < 65536 := Nat.lt_of_lt_of_le hS (Nat.pow_le_pow_right (n := 2) (by decide) (show n ≤ 16 by omega))
    have HCO := Lib.hid (l10Code_any (.slice (some ⟨gb, 0, none⟩) n n) n S (by omega) hS W (Row.of_owns HST.out.gone))
    obtain ⟨N, hN⟩ : ∃ N, 2 ^ n = N := ⟨_, rfl⟩
    have hN16 : N ≤ 1024 := by rw [← hN]; exact Nat.pow_le_pow_right (n := 2) (j := 10) (by decide) hn
    have hSN : S < N := by rw [← hN]; exact hS
    have hkx := HST.out.known.cellAt S (by omega)
    rw [ints_at (by rw [h.ok.1]; exact hS)] at hkx
    have hkv := h.ok.2 S hS
    obtain ⟨x, hx⟩ : ∃ x, ks.getD S 0 = x := ⟨_, rfl⟩
    rw [hx] at hkx hkv
    rw [hN]
    have HW := Lib.hid hW
    have HNN := Lib.hid hN
    have HIH := Lib.hid ih
    have HKK := Lib.hid hk
    rw [hN] at HIH
    clear hx hbW h hg ih hk hN
    by_cases hx0 : 0 ≤ x
    · have HX : Hid (x = ((wid n e S : Nat) : Int)) := Lib.hid (by rcases hkv with h | h; omega; exact h)
      clear hkv
      go_enter Tryd.func33, Tryd.ntmps33
      go_wp2_with fail
      rw [← hW]
      refine HCO.out.mono ?_
      rintro e1 w1 ⟨rfl, rfl⟩
      clear hW
      go_wp2_with fail
      go_ret
      exact ⟨ret_int HX.out, ⟨ks, HST.out⟩, HWW.out⟩
    · have hs0 := HST
      have hw0 : Hid (Wr2 kb gb W W) := Lib.hid (Wrote.refl _ _)
      clear hkv
      go_enter Tryd.func33, Tryd.ntmps33
      go_wp2_with fail
      rw [← hW]
      refine HCO.out.mono ?_
      rintro e1 w1 ⟨rfl, rfl⟩
      clear hW HCO
      go_wp2_with fail
      go_loopw [8, 9] (fun bs i wr => ∃ (v : Nat) (bz : Int) (ks' : List Int), v ≤ n ∧ i = .int .i64 v ∧ bs = .int .i64 bz ∧ -1 ≤ bz ∧ bz ≤ 16 ∧ Hid (bz = bestZ n e S v) ∧ Hid (RSt n e B gb kb wr S ks') ∧ Hid (Wr2 kb gb W wr)) (fun _ i _ => n - (intOf i).toNat)
      case atStart => exact ⟨0, -1, ks, Nat.zero_le _, rfl, rfl, by omega, by omega, Lib.hid rfl, hs0, hw0⟩
      case round =>
        clear hs0 hw0 hkx
        obtain ⟨v, bz, ks2, hv, rfl, rfl, hbz1, hbz2, HBZ, HSR, HWR⟩ := hrel
        have VR : VC 38 C #[.slice a n c] wr := VW.wrote HWR.out (by omega)
        have hcg := VR.cell
        by_cases hvn : v < n
        · have hvn2 := Lib.hid hvn
          go_wp2_with fail
          refine (size_any a n c _).mono ?_
          rintro e1 w2 ⟨rfl, hb2⟩
          have HS2 := Lib.hid (HSR.out.below hb2)
          have HW2 := Lib.hid (HWR.out.go (wr2_below hb2))
          have V2 := VR.upd (Upd.of_below hb2) (by omega)
          have hcg2 := V2.cell
          have hgx := HS2.out.gone.cellAt v (by omega)
          rw [bools_at hvn] at hgx
          clear hcg hb2
          cases htb : S.testBit v with
          | true =>
            rw [htb] at hgx
            have HB2 : Hid (bz = bestZ n e S (v + 1)) := Lib.hid (by rw [HBZ.out, bestZ_no htb])
            clear htb
            go_wp2_with fail
            go_roundw
            case rel => exact ⟨v + 1, bz, ks2, by omega, by go_num, rfl, hbz1, hbz2, HB2, HS2, HW2⟩
            case measure => simp [intOf]; omega
          | false =>
            rw [htb] at hgx
            have HTB := Lib.hid htb
            have HBE := Lib.hid (l10Behind_any (.slice a n c) n e (by omega) (.slice (some ⟨gb, 0, none⟩) n n) S.testBit v hvn v rfl w2 (HG.out w2 (HBB.out w2 HW2.out)) (Row.of_owns HS2.out.gone))
            obtain ⟨row, hrow⟩ : ∃ row, rowB n (behB n e S.testBit v) = row := ⟨_, rfl⟩
            obtain ⟨q, hq⟩ : ∃ q, row.length = q := ⟨_, rfl⟩
            have hbh : bhN n e S v = q := by unfold bhN; rw [hrow, hq]
            have hq10 : q ≤ 10 := by rw [← hbh]; have := bhN_le n e S v; omega
            rw [hrow] at HBE
            have hvm : v ∈ leftN n S := mem_leftN.2 ⟨hvn, htb⟩
            have hpl := leftN_put hvm
            obtain ⟨g, hgw⟩ : ∃ g, wid n e (S ||| 2 ^ v) = g := ⟨_, rfl⟩
            have hg10 : g ≤ 10 := by rw [← hgw]; exact wid_le hn e _
            obtain ⟨x1, hx1⟩ : ∃ x1, wit n e S v = x1 := ⟨_, rfl⟩
            have hx10 : x1 ≤ 10 := by rw [← hx1]; exact wit_le hn e S v
            have hxm : (if (g : Int) < (q : Int) then (q : Int) else (g : Int)) = (x1 : Int) := by
              have : x1 = max q g := by rw [← hx1]; unfold wit; rw [hbh, hgw]
              split <;> omega
            have HMX : ∀ W, Hid (Calls Tryd.prog 55 #[.int .i64 (q : Int), .int .i64 (g : Int)] W fun e w' => e = .returned (.int .i64 (x1 : Int)) ∧ W = w') := fun W => Lib.hid (by rw [← hxm]; exact max_any q g W)
            have HBY : Hid (bestZ n e S (v + 1) = if bz < 0 ∨ (x1 : Int) < bz then (x1 : Int) else bz) := Lib.hid (by rw [bestZ_yes hn htb, HBZ.out, hx1])
            have HFR : Hid (∀ (w4 : World), RSt n e B gb kb w4 (S ||| 2 ^ v) ks2 → Below B W w4 → Calls Tryd.prog 33 #[.agg #[.slice a n c], .slice (some ⟨gb, 0, none⟩) n n, .slice (some ⟨kb, 0, none⟩) N N] w4 (FromR n e B gb kb w4 (S ||| 2 ^ v) g)) := Lib.hid fun w4 h4 hb4 => by
              rw [← hgw]
              exact HIH.out _ (by have := HKK.out; omega) (S ||| 2 ^ v) rfl (by rw [← HNN.out]; exact put_lt hS hvn) w4 ks2 h4 fun W' hW' => HG.out W' (hb4.trans hW')
            clear htb hrow hbh hvm hpl hgw hx1 hxm
            go_wp2_with fail
            refine HBE.out.mono ?_
            rintro e1 w3 ⟨u3, rfl, hu3, hb3⟩
            obtain ⟨la, lc, rfl⟩ := owns_shape hu3
            rw [hq]
            have HS3 := Lib.hid (HS2.out.below hb3)
            have HW3 := Lib.hid (HW2.out.go (wr2_below hb3))
            have V3 := V2.upd (Upd.of_below hb3) (by omega)
            have hf3 := HS3.out.gone.frozenAt v
            have hg3 := HS3.out.gone.cellAt v (by omega)
            rw [bools_at hvn] at hg3
            have HS4 := Lib.hid (HS3.out.put (v := v))
            have HC4 := Lib.hid (Wr2.cell kb gb w3 (v := v) (.inr rfl) (.bool true))
            have HW4 := Lib.hid (HW3.out.go HC4.out)
            have V4 := V3.wrote HC4.out (by omega)
            have hcg4 := V4.cell
            have HF4 := Lib.hid (HFR.out _ HS4.out (HBB.out _ HW4.out))
            clear hu3 hb3 HBE hcg2 hgx hq
            go_wp2_with fail
            refine HF4.out.mono ?_
            rintro e1 w5 ⟨rfl, ⟨ks5, hst5⟩, hwr5⟩
            have HS5 := Lib.hid hst5
            have HW5 := Lib.hid (HW4.out.go hwr5)
            have hf5 := HS5.out.gone.frozenAt v
            have hg5 := HS5.out.gone.cellAt v (by omega)
            rw [bools_at hvn] at hg5
            have HS6 := Lib.hid (HS5.out.drop HTB.out)
            have HW6 := Lib.hid (HW5.out.go (Wr2.cell kb gb w5 (v := v) (.inr rfl) (.bool false)))
            clear hst5 hwr5 HF4 hcg4 hf3 hg3
            go_wp2_with fail
            refine (HMX _).out.mono ?_
            rintro e1 w' ⟨rfl, rfl⟩
            by_cases hz0 : bz < 0
            · have HBN : Hid ((x1 : Int) = bestZ n e S (v + 1)) := Lib.hid (by rw [HBY.out, if_pos (.inl hz0)])
              go_wp2_with fail
              go_roundw
              case rel => exact ⟨v + 1, (x1 : Int), ks5, by have := hvn2.out; omega, by go_num, rfl, by omega, by omega, HBN, HS6, HW6⟩
              case measure => simp [intOf]; omega
            · by_cases hz1 : (x1 : Int) < bz
              · have HBN : Hid ((x1 : Int) = bestZ n e S (v + 1)) := Lib.hid (by rw [HBY.out, if_pos (.inr hz1)])
                go_wp2_with fail
                go_roundw
                case rel => exact ⟨v + 1, (x1 : Int), ks5, by have := hvn2.out; omega, by go_num, rfl, by omega, by omega, HBN, HS6, HW6⟩
                case measure => simp [intOf]; omega
              · have HBN : Hid (bz = bestZ n e S (v + 1)) := Lib.hid (by rw [HBY.out, if_neg (by rintro (h | h); exact hz0 h; exact hz1 h)])
                go_wp2_with fail
                go_roundw
                case rel => exact ⟨v + 1, bz, ks5, by have := hvn2.out; omega, by go_num, rfl, hbz1, hbz2, HBN, HS6, HW6⟩
                case measure => simp [intOf]; omega
        · obtain rfl : v = n := by omega
          have hbe := bestZ_end v e S
          rw [← HBZ.out] at hbe
          obtain ⟨y, hy⟩ : ∃ y : Nat, wid v e S = y := ⟨_, rfl⟩
          rw [hy] at hbe
          have HMX : ∀ W, Hid (Calls Tryd.prog 55 #[.int .i64 bz, .int .i64 0] W fun e w' => e = .returned (.int .i64 (y : Int)) ∧ W = w') := fun W => Lib.hid (by rw [← hbe]; exact max_any bz 0 W)
          have HY := Lib.hid hy
          clear hbe hy
          go_wp2_with fail
          refine (size_any a v c _).mono ?_
          rintro e1 w2 ⟨rfl, hb2⟩
          have HS2 := Lib.hid (HSR.out.below hb2)
          have HW2 := Lib.hid (HWR.out.go (wr2_below hb2))
          have hf2 := HS2.out.known.frozenAt S
          have hg2 := HS2.out.known.cellAt S (by have := HNN.out; omega)
          rw [ints_at (by rw [HS2.out.ok.1]; exact hS)] at hg2
          obtain ⟨z, hz⟩ : ∃ z, ks2.getD S 0 = z := ⟨_, rfl⟩
          rw [hz] at hg2
          have hkn := HS2.out.know
          rw [HY.out] at hkn
          have HS3 := Lib.hid hkn
          have HW3 := Lib.hid (HW2.out.go (Wr2.cell kb gb w2 (v := S) (.inl rfl) (.int .i64 (y : Int))))
          have hg3 := HS3.out.known.cellAt S (by have := HNN.out; omega)
          rw [ints_at (by rw [HS3.out.ok.1]; exact hS)] at hg3
          have e3 : (ks2.set S (y : Int)).getD S 0 = (y : Int) := by
            rw [List.getD_eq_getElem?_getD, List.getElem?_set_self (by rw [HS2.out.ok.1]; exact hS)]
            rfl
          rw [e3] at hg3
          clear hb2 hcg hkn e3 hz
          go_wp2_with fail
          refine (HMX _).out.mono ?_
          rintro e1 w' ⟨rfl, rfl⟩
          go_wp2_with fail
          go_ret
          exact ⟨ret_int (by rw [HY.out]), ⟨_, HS3.out⟩, HWW.out.go HW3.out⟩
end Go.Proofs.YtpfhflkpnjkgkaaDoor
