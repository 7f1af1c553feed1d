import Derived.Test.YtpfhflkpnjkgkaaDoorAppendJn
import Derived.Test.YtpfhflkpnjkgkaaDoorThinFJn
/-
  'ThinnestFirst' of the reference; both.
-/


namespace Go.Proofs.YtpfhflkpnjkgkaaDoor
open Go.RowKit

theorem wpList_push_wh3 {P : Program} (wr : World) {ops : Array Oper} {rest : List Oper} {o : Oper} {a : Act} {Q : Exit → Act → World → Prop} (hgd : o.guard = none) (s x : Operand) (t : TypeId)
    (ho : o.op = .call { callee := .builtin .append, args := #[s, x], argTypes := #[t, t] })
    (base : Nat) (e e2 : TypeId) (z : Value) (bytes : Nat) (ht : P.underlying t = some (.slice e)) (hinfo : (P.info? e).map (fun i => (i.zero, i.size, i.bytes)) = some (some z, 1, bytes)) (hzs : z.cells.size = 1)
    (v : Value) (n : Nat) (xs : List Value) (hs : a.eval s = v) (hown : wr.ownsRow base e 1 v n xs)
    (y : Value) (hx : a.eval x = .slice (some ⟨wr.heap.size, 0, none⟩) 1 1) (hy : y.oneCell' = true)
    (h63 : n + 1 ≤ maxLen) (hbytes : (n + 1) * bytes ≤ 140737488355328) (hbase : base ≤ wr.heap.size)
    (h : ∀ g' c' w', w'.ownsRow base e 1 (.slice (some ⟨g', 0, none⟩) (n + 1) c') (n + 1) (xs ++ [y]) → wr.grownBy w' v.ownBlock → (v.ownBlock = some g' ∨ wr.heap.size ≤ g') → wpList P ops Q rest (a.put o.dst (.slice (some ⟨g', 0, none⟩) (n + 1) c')) w') :
    wpList P ops Q (o :: rest) a (wr.alloc (.cells #[y] e2)) := by
  have hlit : (wr.alloc (.cells #[y] e2)).ownsRow wr.heap.size e2 1 (.slice (some ⟨wr.heap.size, 0, none⟩) 1 1) 1 [y] := World.ownsRow_lit wr #[y] 1 (Nat.le_refl _) (by simp [maxLen]) rfl
  refine wpList_extend_where (wr.alloc (.cells #[y] e2)) hgd s x t ho base e z bytes ht hinfo hzs v n xs hs (hown.alloc _) _ 1 [y] (by omega) hx (Row.of_owns hlit) (by simp [hy]) h63 hbytes (by simp; omega) ?_
  intro g' c' w' h1 h2 h3
  refine h g' c' w' h1 ⟨h2.os, h2.tape, h2.output, ?_, fun k hk hne => ?_⟩ ?_
  · have := h2.size; simp at this; omega
  · exact (h2.block k (by simp; omega) hne).trans (Below.heap_alloc _ _ _ hk)
  · rcases h3 with h3 | h3
    · exact .inl h3
    · right; simp at h3; omega



theorem rowB_no {v : Nat} {p : Nat → Bool} (h : p v = false) : rowB (v + 1) p = rowB v p := by
  unfold rowB
  rw [List.range_succ, List.filter_append]
  simp [h]
theorem rowB_yes {v : Nat} {p : Nat → Bool} (h : p v = true) : rowB (v + 1) p = rowB v p ++ [(v : Int)] := by
  unfold rowB
  rw [List.range_succ, List.filter_append]
  simp [h]
theorem thinB_eq {n : Nat} {e : Nat → Nat → Bool} (hA : Adj n e) {v : Nat} (hv : v < n) : thinB n e v = decide ((rowB n (e v)).length ≤ wid n e 0 ∧ wid n e (0 ||| 2 ^ v) ≤ wid n e 0) := by
  unfold thinB
  rw [decide_eq_decide, thin_iff e hv, bhN_zero hA hv]

theorem RSt.grown {n : Nat} {e : Nat → Nat → Bool} {B gb kb : Nat} {w w' : World} {S : Nat} {ks : List Int} {r : Option Nat} (h : RSt n e B gb kb w S ks) (hg : w.grownBy w' r) (h1 : r ≠ some gb) (h2 : r ≠ some kb) : RSt n e B gb kb w' S ks :=
  ⟨h.gone.kept hg (.inr fun he => h1 (by rw [← he]; rfl)), h.known.kept hg (.inr fun he => h2 (by rw [← he]; rfl)), h.ok⟩
theorem owns_wr2 {w w' : World} {B gb kb : Nat} {v : Value} {m : Nat} {xs : List Value} (h : w.ownsRow B 2 1 v m xs) (hw : Wr2 kb gb w w') (h1 : v.ownBlock ≠ some gb) (h2 : v.ownBlock ≠ some kb) : w'.ownsRow B 2 1 v m xs :=
  owns_wrote h hw fun k hk hs => by rcases hs with rfl | rfl; exact h2 hk; exact h1 hk

set_option maxHeartbeats 4000000 in
set_option maxRecDepth 100000 in
theorem specThinnest (g : Value) (xss : List (List Int)) (w : World) (hr : RdSS g xss w) (rs : List Int) (h : ThinP xss rs) :
    Calls Tryd.prog 15 #[.agg #[g]] w (SRes w rs) := by
  obtain ⟨a, c, rfl⟩ := hr.shape
  obtain ⟨B, hB⟩ : ∃ B, w.heap.size = B := ⟨_, rfl⟩
  obtain ⟨W, hW⟩ : ∃ W, W = (w.alloc (.cells #[.slice a xss.length c] 38)).alloc (.cells #[] 2) := ⟨_, rfl⟩
  have u1 : Below B w W := by rw [hW]; subst hB; exact (below_alloc' _ _).alloc (by simp) _
  have VG0 : VC 38 B #[.slice a xss.length c] W := by rw [hW]; exact (VC.new hB).upd (Upd.alloc _ _) (by omega)
  have ho0 : W.ownsRow (B + 1) 2 1 (.slice (some ⟨B + 1, 0, none⟩) 0 0) 0 [] := by
    rw [hW]
    have := World.ownsRow_lit (base := B + 1) (e := 2) (size := 1) (w.alloc (.cells #[.slice a xss.length c] 38)) #[] 0 (by simp [hB]) (by simp [maxLen]) rfl
    simpa [hB] using this
  have hz0 : W.heap.size = B + 2 := by rw [hW]; simp [hB]
  have hcg := VG0.cell
  have H := Lib.hid h
  have HWA := Lib.hid (l10Wide_any (.slice a xss.length c) xss W (hr.below u1 hB))
  clear h
  go_enter Tryd.func15, Tryd.ntmps15
  go_wp2_with fail
  rw [← hW]
  clear hW
  refine HWA.out.mono ?_
  rintro e1 w1 ⟨rfl, hb1⟩
  have VG1 := VG0.upd (Upd.of_below hb1) (by omega)
  have hb := u1.trans (hb1.mono (by omega))
  have hz1 : B + 2 ≤ w1.heap.size := by have := hb1.size; omega
  have ho1 := owns_below ho0 hb1
  clear hb1 hcg u1 ho0 HWA
  have hcg := VG1.cell
  cases hw : wideB xss with
  | false =>
    have hrs : rs = [] := by
      rcases H.out with ⟨_, h⟩ | ⟨_, _, _, h, _⟩
      · exact h
      · rw [hw] at h; cases h
    subst hrs
    have HO1 := Lib.hid (owns_base ho1 (show B ≤ B + 1 by omega))
    clear hw ho1
    go_wp2_with fail
    go_ret
    exact ⟨_, rfl, by rw [hB]; simpa [ints] using HO1.out, by rw [hB]; exact hb⟩
  | true =>
    obtain ⟨e, hA, hx, hrs⟩ : ∃ e, Adj xss.length e ∧ xss = rowsB xss.length e ∧ rs = rowB xss.length (thinB xss.length e) := by
      rcases H.out with ⟨h, _⟩ | ⟨e, h1, h2, _, h3⟩
      · rw [hw] at h; cases h
      · exact ⟨e, h1, h2, h3⟩
    have hn10 : xss.length ≤ 10 := by unfold wideB at hw; simp at hw; exact hw.2
    have hn1 := hA.pos
    have HRS := Lib.hid hrs
    have HGR : Hid (∀ W', Below B w W' → RdSS (.slice a xss.length c) (rowsB xss.length e) W') := Lib.hid fun W' hb' => by
      have := hr.below hb' hB
      rwa [hx, rowsB_length] at this
    obtain ⟨n, hn⟩ : ∃ n, n = xss.length := ⟨_, rfl⟩
    rw [← hn] at HGR hn10 hn1 HRS hA hcg VG1
    clear hrs hx H hw VG0 hr hn
    have HA := Lib.hid hA
    have HTA := Lib.hid (l10Table_any a n c hn10 w1)
    go_wp2_with fail
    refine HTA.out.mono ?_
    rintro e1 w2 ⟨kb, rfl, hk2, hb2⟩
    have V2 := VG1.upd (Upd.of_below hb2) (by omega)
    have hbw2 := hb.trans (hb2.mono (by omega))
    have hz2 : B + 2 ≤ w2.heap.size := by have := hb2.size; omega
    have ho2 := owns_below ho1 hb2
    have hkb1 : w1.heap.size ≤ kb := (owns_lt hk2 (b := kb) rfl).1
    have hk2' := owns_base hk2 (show B + 1 ≤ w1.heap.size by omega)
    clear hb2 hcg ho1 HTA hk2 hb
    have hcg := V2.cell
    go_wp2_with fail
    refine (size_any a n c _).mono ?_
    rintro e1 w3 ⟨rfl, hb3⟩
    have V3 := V2.upd (Upd.of_below hb3) (by omega)
    have hbw3 := hbw2.trans (hb3.mono (by omega))
    have hz3 : B + 2 ≤ w3.heap.size := by have := hb3.size; omega
    have HO3 := Lib.hid (owns_below ho2 hb3)
    have HK3 := Lib.hid (owns_below hk2' hb3)
    have HBW3 := Lib.hid hbw3
    clear hb3 hcg ho2 hk2' hbw2 hbw3
    obtain ⟨gb, hgb⟩ : ∃ gb, w3.heap.size = gb := ⟨_, rfl⟩
    go_wp2_with (at_make; refine wpList_make _ rfl _ _ 59 rfl (B + 1) 4 (.bool false) 1 Tryd.underlying59 infoBo rfl .i64 .i64 _ _ n rfl rfl rfl rfl (by omega) (by unfold maxLen; omega) (by omega) ?_; intro w4 hg4 hb4; have V4 := V3.upd (Upd.of_below hb4) (by omega); have hcg4 := V4.cell)
    have HBW4 := Lib.hid (HBW3.out.trans (hb4.mono (by omega)))
    have hz4 : B + 2 ≤ w4.heap.size := by have := hb4.size; omega
    have HO4 := Lib.hid (owns_below HO3.out hb4)
    rw [bools_none, hgb] at hg4
    have hbo : bools n (fun _ => false) = bools n (Nat.testBit 0) := bools_ext fun b _ => by rw [Nat.zero_testBit]
    rw [hbo] at hg4
    have HS4 : Hid (RSt n e (B + 1) gb kb w4 0 (List.replicate (2 ^ n) (-1))) := Lib.hid ⟨hg4, owns_below HK3.out hb4, KOK.start n e⟩
    clear hb4 hg4 hbo V3
    have hcg := V4.cell
    have hl0 : (leftN n 0).length = n := by
      unfold leftN
      rw [List.filter_eq_self.2 (fun x _ => by rw [Nat.zero_testBit]; rfl), List.length_range]
    have HG2 : Hid (∀ W', Below (B + 1) w4 W' → RdSS (.slice a n c) (rowsB n e) W') := Lib.hid fun W' hW' => HGR.out W' (HBW4.out.trans (hW'.mono (by omega)))
    have HFR := Lib.hid (from_any n e hn10 (B + 1) gb kb a c n 0 hl0 (Nat.two_pow_pos n) w4 _ HS4.out HG2.out)
    obtain ⟨y, hy⟩ : ∃ y, wid n e 0 = y := ⟨_, rfl⟩
    have hy10 : y ≤ 10 := by rw [← hy]; exact wid_le hn10 e 0
    rw [hy] at HFR
    have HY := Lib.hid hy
    clear hl0 hy
    (try rw [hgb])
    refine HFR.out.mono ?_
    rintro e1 w5 ⟨rfl, ⟨ks5, hst5⟩, hwr5⟩
    have hgB : B + 2 ≤ gb := by omega
    have hkB : B + 2 ≤ kb := by omega
    have hs5 : Hid (RSt n e (B + 1) gb kb w5 0 ks5) := Lib.hid hst5
    have hv5 : Hid (VC 38 B #[.slice a n c] w5) := Lib.hid (V4.wrote hwr5 (by omega))
    have hb5 : Hid (Below B w w5) := Lib.hid (HBW4.out.trans (hwr5.to_below (by omega) (by omega) (by omega)))
    have ho5 : Hid (w5.ownsRow (B + 1) 2 1 (.slice (some ⟨B + 1, 0, none⟩) 0 0) (rowB 0 (thinB n e)).length (ints (rowB 0 (thinB n e)))) := Lib.hid (owns_wr2 HO4.out hwr5 (by simp [Value.ownBlock]; omega) (by simp [Value.ownBlock]; omega))
    have hn5 : Hid ((Value.slice (some ⟨B + 1, 0, none⟩) 0 0).ownBlock ≠ some kb) := Lib.hid (by simp [Value.ownBlock]; omega)
    have HHG := Lib.hid hgb
    clear hst5 hwr5 HFR hcg hcg4 V4 HG2 hgb
    go_wp2_with fail
    go_loopw [3, 7] (fun uo i wr => ∃ (v : Nat) (ks : List Int), v ≤ n ∧ i = .int .i64 v ∧ Hid (wr.ownsRow (B + 1) 2 1 uo (rowB v (thinB n e)).length (ints (rowB v (thinB n e)))) ∧ Hid (uo.ownBlock ≠ some kb) ∧ Hid (RSt n e (B + 1) gb kb wr 0 ks) ∧ Hid (VC 38 B #[.slice a n c] wr) ∧ Hid (Below B w wr)) (fun _ i _ => n - (intOf i).toNat)
    case atStart => exact ⟨0, ks5, Nat.zero_le _, rfl, ho5, hn5, hs5, hv5, hb5⟩
    case round =>
      clear ho5 hn5 hs5 hv5 hb5
      obtain ⟨v, ks, hv, rfl, HO, HN, HS, HV, HB⟩ := hrel
      have hcg := HV.out.cell
      by_cases hvn : v < n
      · obtain ⟨oa, oc, rfl⟩ := owns_shape HO.out
        have hzr : B + 2 ≤ wr.heap.size := by have := HS.out.lt; omega
        have hm10 : (rowB v (thinB n e)).length ≤ 10 := by have := rowB_length v (thinB n e); omega
        obtain ⟨m, hm⟩ : ∃ m, (rowB v (thinB n e)).length = m := ⟨_, rfl⟩
        rw [hm] at HO HN hm10
        rw [hm]
        have HM := Lib.hid hm
        have HVN := Lib.hid hvn
        clear hm
        go_wp2_with fail
        refine (size_any a n c _).mono ?_
        rintro e1 w6 ⟨rfl, hb6⟩
        have HS6 := Lib.hid (HS.out.below hb6)
        have HV6 := Lib.hid (HV.out.upd (Upd.of_below hb6) (by omega))
        have HB6 := Lib.hid (HB.out.trans (hb6.mono (by omega)))
        have HO6 := Lib.hid (owns_below HO.out hb6)
        have hog : (Value.slice oa m oc).ownBlock ≠ some gb := owns_unlike HS6.out.gone HO6.out (by decide) rfl
        have HOG := Lib.hid hog
        have hf6 := HS6.out.gone.frozenAt v
        have hx6 := HS6.out.gone.cellAt v (by omega)
        rw [bools_at hvn] at hx6
        have HS7 := Lib.hid (HS6.out.put (v := v))
        have HC7 := Lib.hid (Wr2.cell kb gb w6 (v := v) (.inr rfl) (.bool true))
        have HV7 := Lib.hid (HV6.out.wrote HC7.out (by omega))
        have hz6 : B + 2 ≤ w6.heap.size := by have := HS6.out.lt; omega
        have HB7 := Lib.hid (HB6.out.trans (HC7.out.to_below (by omega) (by omega) (by omega)))
        have HO7 := Lib.hid (owns_wr2 HO6.out HC7.out HOG.out HN.out)
        have hcg7 := HV7.out.cell
        obtain ⟨vs, hG⟩ := (HGR.out _ HB7.out).ex
        obtain ⟨rb, ro, ru, rcs, hae, hcr, hrow, -, HCS⟩ := hG.rowAt (k := v) (by simpa using hvn)
        subst hae
        have hcs : rcs = ints (rowB n (e v)) := by
          have h := HCS.out
          rw [List.getElem?_map, rowsB_at e hvn] at h
          exact (Option.some.inj h).symm
        subst hcs
        obtain ⟨ra, rc, rfl, -, -, -⟩ := id hrow
        rw [ints_length] at hcr
        obtain ⟨q, hq⟩ : ∃ q, (rowB n (e v)).length = q := ⟨_, rfl⟩
        rw [hq] at hcr
        have hq10 : q ≤ 10 := by rw [← hq]; have := rowB_length n (e v); omega
        have hte := thinB_eq HA.out hvn
        rw [hq, HY.out] at hte
        obtain ⟨g, hgw⟩ : ∃ g, wid n e (0 ||| 2 ^ v) = g := ⟨_, rfl⟩
        have hg10 : g ≤ 10 := by rw [← hgw]; exact wid_le hn10 e _
        rw [hgw] at hte
        have HTE := Lib.hid hte
        have HFR : Hid (Calls Tryd.prog 33 #[.agg #[.slice (some ⟨rb, ro, none⟩) n c], .slice (some ⟨gb, 0, none⟩) n n, .slice (some ⟨kb, 0, none⟩) (2 ^ n) (2 ^ n)] (w6.setCell ⟨gb, v, none⟩ (.bool true)) (FromR n e (B + 1) gb kb (w6.setCell ⟨gb, v, none⟩ (.bool true)) (0 ||| 2 ^ v) g)) := Lib.hid (by
          rw [← hgw]
          exact from_any n e hn10 (B + 1) gb kb _ c _ (0 ||| 2 ^ v) rfl (put_lt (Nat.two_pow_pos n) hvn) _ ks HS7.out fun W' hW' => HGR.out W' (HB7.out.trans (hW'.mono (by omega))))
        clear hb6 hG hrow hq hte hgw hog HCS hcg
        by_cases hqy : q ≤ y
        · have hqi : ((q : Int) ≤ (y : Int)) := by omega
          go_wp2_with fail
          refine HFR.out.mono ?_
          rintro e1 w9 ⟨rfl, ⟨ks9, hst9⟩, hwr9⟩
          have HS9 := Lib.hid hst9
          have HV9 := Lib.hid (HV7.out.wrote hwr9 (by omega))
          have HB9 := Lib.hid (HB7.out.trans (hwr9.to_below (by simp; omega) (by omega) (by omega)))
          have HO9 := Lib.hid (owns_wr2 HO7.out hwr9 HOG.out HN.out)
          have hz9 : B + 2 ≤ w9.heap.size := by have := HS9.out.lt; omega
          clear hst9 hwr9 HFR hcg7 hcr hf6 hx6
          by_cases hgy : g ≤ y
          · have hgi : ((g : Int) ≤ (y : Int)) := by omega
            have HT : Hid (thinB n e v = true) := Lib.hid (by rw [HTE.out]; simp; omega)
            go_wp2_with (at_builtin; refine wpList_push_wh3 w9 rfl _ _ 24 rfl (B + 1) 2 _ _ 8 Tryd.underlying24 infoI rfl (.slice oa m oc) m (ints (rowB v (thinB n e))) rfl HO9.out (.int .i64 (v : Int)) rfl rfl (by unfold maxLen; omega) (by omega) (by omega) ?_; intro g5 d5 wa hoa hga hwa; have HOA := Lib.hid hoa; have HSA := Lib.hid (HS9.out.grown hga HOG.out HN.out); have HVA := Lib.hid (HV9.out.grown hga fun h => (by have := (owns_lt HO9.out h).1; omega)); have HBA := Lib.hid (HB9.out.grown hga (by omega) fun y hy => (by have := (owns_lt HO9.out hy).1; omega)); have HWA := Lib.hid hwa; have hfa := HSA.out.gone.frozenAt v; have hxa := HSA.out.gone.cellAt v (by omega); rw [bools_at hvn] at hxa; clear hoa hga hwa)
            have HS8 := Lib.hid (HSA.out.drop (Nat.zero_testBit v))
            have HC8 := Lib.hid (Wr2.cell kb gb wa (v := v) (.inr rfl) (.bool false))
            have hza : B + 2 ≤ wa.heap.size := by have := HSA.out.lt; omega
            have hkne : (Value.slice (some ⟨g5, 0, none⟩) (m + 1) d5).ownBlock ≠ some kb := fun h => by
              have hg5 : g5 = kb := by simpa [Value.ownBlock] using h
              rcases HWA.out with h1 | h1
              · exact HN.out (by rw [h1, hg5])
              · have := HS9.out.lt; omega
            have HNA := Lib.hid hkne
            have hgne : (Value.slice (some ⟨g5, 0, none⟩) (m + 1) d5).ownBlock ≠ some gb := owns_unlike HSA.out.gone HOA.out (by decide) rfl
            have HV8 := Lib.hid (HVA.out.wrote HC8.out (by omega))
            have HB8 := Lib.hid (HBA.out.trans (HC8.out.to_below (by omega) (by omega) (by omega)))
            have HO8 := Lib.hid (owns_wr2 HOA.out HC8.out hgne HNA.out)
            have HOX : Hid ((wa.setCell ⟨gb, v, none⟩ (.bool false)).ownsRow (B + 1) 2 1 (.slice (some ⟨g5, 0, none⟩) (m + 1) d5) (rowB (v + 1) (thinB n e)).length (ints (rowB (v + 1) (thinB n e)))) := Lib.hid (by
              rw [rowB_yes HT.out, ints_snoc, List.length_append, HM.out]
              exact HO8.out)
            clear hkne hgne
            go_wp2_with fail
            go_roundw
            case rel => exact ⟨v + 1, ks9, by have := HVN.out; omega, by go_num, HOX, HNA, HS8, HV8, HB8⟩
            case measure => simp [intOf]; omega
          · have hgi : ¬ ((g : Int) ≤ (y : Int)) := by omega
            have HT : Hid (thinB n e v = false) := Lib.hid (by rw [HTE.out]; simp; omega)
            have hf7 := HS9.out.gone.frozenAt v
            have hx7 := HS9.out.gone.cellAt v (by omega)
            rw [bools_at hvn] at hx7
            have HS8 := Lib.hid (HS9.out.drop (Nat.zero_testBit v))
            have HC8 := Lib.hid (Wr2.cell kb gb w9 (v := v) (.inr rfl) (.bool false))
            have HV8 := Lib.hid (HV9.out.wrote HC8.out (by omega))
            have HB8 := Lib.hid (HB9.out.trans (HC8.out.to_below (by omega) (by omega) (by omega)))
            have HO8 := Lib.hid (owns_wr2 HO9.out HC8.out HOG.out HN.out)
            have HOX : Hid ((w9.setCell ⟨gb, v, none⟩ (.bool false)).ownsRow (B + 1) 2 1 (.slice oa m oc) (rowB (v + 1) (thinB n e)).length (ints (rowB (v + 1) (thinB n e)))) := Lib.hid (by rw [rowB_no HT.out, HM.out]; exact HO8.out)
            go_wp2_with fail
            go_roundw
            case rel => exact ⟨v + 1, ks9, by omega, by go_num, HOX, HN, HS8, HV8, HB8⟩
            case measure => simp [intOf]; omega
        · have hqi : ¬ ((q : Int) ≤ (y : Int)) := by omega
          have HT : Hid (thinB n e v = false) := Lib.hid (by rw [HTE.out]; simp; omega)
          have hf7 := HS7.out.gone.frozenAt v
          have hx7 := HS7.out.gone.cellAt v (by omega)
          rw [bools_at hvn] at hx7
          have HS8 := Lib.hid (HS7.out.drop (Nat.zero_testBit v))
          have HC8 := Lib.hid (Wr2.cell kb gb (w6.setCell ⟨gb, v, none⟩ (.bool true)) (v := v) (.inr rfl) (.bool false))
          have HV8 := Lib.hid (HV7.out.wrote HC8.out (by omega))
          have HB8 := Lib.hid (HB7.out.trans (HC8.out.to_below (by simp; omega) (by omega) (by omega)))
          have HO8 := Lib.hid (owns_wr2 HO7.out HC8.out HOG.out HN.out)
          have HO9 : Hid (((w6.setCell ⟨gb, v, none⟩ (.bool true)).setCell ⟨gb, v, none⟩ (.bool false)).ownsRow (B + 1) 2 1 (.slice oa m oc) (rowB (v + 1) (thinB n e)).length (ints (rowB (v + 1) (thinB n e)))) := Lib.hid (by rw [rowB_no HT.out, HM.out]; exact HO8.out)
          go_wp2_with fail
          go_roundw
          case rel => exact ⟨v + 1, ks, by omega, by go_num, HO9, HN, HS8, HV8, HB8⟩
          case measure => simp [intOf]; omega
      · obtain rfl : v = n := by omega
        go_wp2_with fail
        refine (size_any a v c _).mono ?_
        rintro e1 w6 ⟨rfl, hb6⟩
        have hzr : B + 2 ≤ wr.heap.size := by have := HS.out.lt; omega
        have HB6 := Lib.hid (HB.out.trans (hb6.mono (by omega)))
        have HO6 := Lib.hid (owns_base (owns_below HO.out hb6) (show B ≤ B + 1 by omega))
        clear hb6 hcg
        go_wp2_with fail
        go_ret
        exact ⟨_, rfl, by rw [hB, HRS.out]; exact HO6.out, by rw [hB]; exact HB6.out⟩

theorem both_ThinnestFirst (xss : List (List Int)) : ∃ rs : List Int, 1 + rs.length ≤ 1000000000 ∧
    (∀ (w : World) (g : Value), Tab w → RdSS g xss w → Calls Tryd.prog 15 #[.agg #[g]] w (SRes w rs)) ∧
    (∀ (w : World) (g : Value), Tab w → RdSS g xss w → Calls Tryd.prog 17 #[.agg #[g]] w (SRes w rs)) := by
  have key : ∃ rs : List Int, 1 + rs.length ≤ 1000000000 ∧ ThinP xss rs := by
    cases hw : wideB xss with
    | false => exact ⟨[], by simp, .inl ⟨hw, rfl⟩⟩
    | true =>
      have h1 := hw
      unfold wideB at h1
      simp only [Bool.and_eq_true, decide_eq_true_eq] at h1
      obtain ⟨e, hA, hx⟩ := (okB_iff xss).1 h1.1
      have hl := rowB_length xss.length (thinB xss.length e)
      exact ⟨_, by omega, .inr ⟨e, hA, hx, hw, rfl⟩⟩
  obtain ⟨rs, hl, hP⟩ := key
  exact ⟨rs, hl, fun w g _ hr => specThinnest g xss w hr rs hP, fun w g ht hr => implThinnest g xss w ht hr rs hP⟩
end Go.Proofs.YtpfhflkpnjkgkaaDoor
