/-
  'l3Part', 'l3Parts', 'PartsOf' of the reference; both.
-/
import Derived.Test.YtcjbobponlpkaaaDoorDist
namespace Go.Proofs.YtcjbobponlpkaaaDoor
open Go.RowKit

set_option maxHeartbeats 1000000 in
theorem l3Part_any (g : Value) (n : Nat) (e : Nat → Nat → Bool) (hn : n ≤ 16) (v2 : Value) (p : Nat → Bool) (s : Nat) (hs : s < n) (hps : p s = true) (S : Int) (hS : S = s) (w : World) (hr : RdSS g (rowsB n e) w) (hp : RdS v2 (rowB n p) w) :
    Calls Tryd.prog 114 #[.agg #[g], .int .i64 S, v2] w (SRes w (rowB n (wayB n e p s))) := by
  obtain ⟨a, c, rfl⟩ := hr.shape
  rw [rowsB_length] at hr ⊢
  subst hS
  obtain ⟨B, hB⟩ : ∃ B, w.heap.size = B := ⟨_, rfl⟩
  have u1 : Below B w (w.alloc (.cells #[.slice a n c] 28)) := by subst hB; exact below_alloc' _ _
  have VG0 : VC 28 B #[.slice a n c] (w.alloc (.cells #[.slice a n c] 28)) := VC.new hB
  have hz0 : (w.alloc (.cells #[.slice a n c] 28)).heap.size = B + 1 := by simp [hB]
  have HF := Lib.hid (l3From_any (.slice a n c) n e hn v2 p s hs hps s rfl _ (hr.below u1 hB) (RdS.below hp u1 hB))
  have hcg := VG0.cell
  go_enter Tryd.func114, Tryd.ntmps114
  go_wp2_with fail
  refine HF.out.mono ?_
  rintro e1 w1 ⟨u, ds, rfl, hdl, hmark, ho, hb1⟩
  obtain ⟨da, dc, rfl⟩ := owns_shape ho
  have hb := u1.trans (hb1.mono (by omega))
  have hzz := hb1.size
  have HM := Lib.hid hmark
  have hRD := Row.of_owns ho
  have ho2 := World.ownsRow_lit (base := B + 1) (e := 2) (size := 1) w1 #[] 0 (by omega) (by simp [maxLen]) rfl
  obtain ⟨C, hC⟩ : ∃ C, w1.heap.size = C := ⟨_, rfl⟩
  have hb2 : Below C w1 (w1.alloc (.cells #[] 2)) := by rw [← hC]; exact below_alloc' _ _
  have hz2 : (w1.alloc (.cells #[] 2)).heap.size = C + 1 := by simp [hC]
  rw [hdl] at hRD ⊢
  have HDL := Lib.hid hdl
  rw [hC] at ho2
  have ho3 : (w1.alloc (.cells #[] 2)).ownsRow C 2 1 (.slice (some ⟨C, 0, none⟩) 0 0) 0 [] := by
    rw [← hC]; exact World.ownsRow_lit w1 #[] 0 (Nat.le_refl _) (by simp [maxLen]) rfl
  clear hdl hmark ho hb1 HF hcg ho2
  go_wp2_with fail
  generalize w1.alloc (.cells #[] 2) = W at *
  go_loopw [8, 9] (fun u i wr => ∃ (j m : Nat), j ≤ n ∧ m ≤ j ∧ i = .int .i64 j ∧ Hid ((upTo j (wayB n e p s)).length = m) ∧ wr.ownsRow C 2 1 u m (ints (upTo j (wayB n e p s))) ∧ Below C w1 wr) (fun _ i _ => n - (intOf i).toNat)
  case atStart => exact ⟨0, 0, Nat.zero_le _, Nat.le_refl _, rfl, Lib.hid rfl, by simpa [ints, upTo] using ho3, hb2⟩
  case round =>
    clear ho3 hb2
    obtain ⟨j, m, hj, hm, rfl, HMM, ho, hb'⟩ := hrel
    have hsz := hb'.size
    have hRr := Row.below hRD (hC.symm ▸ hb')
    by_cases hlt : j < n
    · obtain ⟨yb, yo, y, rfl, hcy, HY⟩ := Row.intAt (xs := ds) (j := j) hRr (by have := HDL.out; omega)
      have hy : decide (0 ≤ y) = wayB n e p s j := by
        rw [← HM.out j hlt]
        simp [List.getD, HY.out]
      cases hway : wayB n e p s j with
      | true =>
        have hd : (0 : Int) ≤ y := by rw [hway] at hy; simpa using hy
        have HS := Lib.hid (upTo_yes (p := wayB n e p s) hway)
        clear hway hy
        go_wp2_with (at_builtin; refine wpList_push _ rfl _ _ 25 rfl C 2 _ _ 8 Tryd.underlying25 infoI rfl _ _ _ rfl ho _ rfl rfl (by unfold maxLen; omega) (by omega) (by omega) ?_; intro g' c' w2 ho2 hg)
        go_roundw
        case rel => exact ⟨j + 1, m + 1, by omega, by omega, by go_num, Lib.hid (by rw [HS.out, List.length_append, HMM.out]; rfl), by rw [HS.out]; simpa [ints] using ho2, hb'.grown hg (by omega) fun b hb' => (owns_lt ho hb').1⟩
        case measure => simp [intOf]; omega
      | false =>
        have hd : ¬ (0 : Int) ≤ y := by rw [hway] at hy; simpa using hy
        have HS := Lib.hid (upTo_no (p := wayB n e p s) hway)
        clear hway hy
        go_wp2_with fail
        go_roundw
        case rel => exact ⟨j + 1, m, by omega, by omega, by go_num, Lib.hid (by rw [HS.out]; exact HMM.out), by rw [HS.out]; exact ho, hb'⟩
        case measure => simp [intOf]; omega
    · obtain rfl : j = n := by omega
      have HE : Hid ((rowB j (wayB j e p s)).length = m) := Lib.hid HMM.out
      go_wp2_with fail
      go_ret
      exact ⟨_, rfl, by rw [hB, HE.out]; exact owns_base ho (by omega), by rw [hB]; exact hb.trans (hb'.mono (by omega))⟩

theorem OwnG.kept {w w' : World} {base : Nat} {e1 e2 : TypeId} {v : Value} {vs : List Value} {css : List (List Value)} {r : Option Nat} (h : OwnG w base e1 e2 v vs css) (hg : w.grownBy w' r) (h1 : ∀ k, v.ownBlock = some k → r ≠ some k) (h2 : ∀ u ∈ vs, ∀ k, u.ownBlock = some k → r ≠ some k) : OwnG w' base e1 e2 v vs css := by
  refine ⟨h.len, h.outer.kept hg ?_, fun i u cs hu hc => (h.rows i u cs hu hc).kept hg ?_, h.apart, h.unlike⟩
  · cases hv : v.ownBlock with
    | none => exact .inl rfl
    | some k => exact .inr fun e => h1 k hv e.symm
  · cases hv : u.ownBlock with
    | none => exact .inl rfl
    | some k => exact .inr fun e => h2 u (List.mem_of_getElem? hu) k hv e.symm

set_option maxHeartbeats 4000000 in
theorem l3Parts_any (g : Value) (n : Nat) (e : Nat → Nat → Bool) (hn : n ≤ 16) (v2 : Value) (p : Nat → Bool) (w : World) (hr : RdSS g (rowsB n e) w) (hp : RdS v2 (rowB n p) w) :
    Calls Tryd.prog 67 #[.agg #[g], v2] w (SSRes w ((partsTo n e p n).map (rowB n))) := by
  obtain ⟨a, c, rfl⟩ := hr.shape
  obtain ⟨a2, c2, rfl, -, -, -⟩ := id hp
  rw [rowsB_length] at hr ⊢
  have hpl := rowB_length n p
  obtain ⟨B, hB⟩ : ∃ B, w.heap.size = B := ⟨_, rfl⟩
  obtain ⟨W0, hW0⟩ : ∃ W0, W0 = w.alloc (.cells #[.slice a n c] 28) := ⟨_, rfl⟩
  obtain ⟨W1, hW1⟩ : ∃ W1, W1 = W0.alloc (.cells #[] 25) := ⟨_, rfl⟩
  obtain ⟨W2, hW2⟩ : ∃ W2, W2 = W1.alloc (.cells #[] 2) := ⟨_, rfl⟩
  have hz0 : W0.heap.size = B + 1 := by simp [hW0, hB]
  have hz1 : W1.heap.size = B + 2 := by simp [hW1, hz0]
  have hz2 : W2.heap.size = B + 3 := by simp [hW2, hz1]
  have u0 : Below B w W0 := by rw [hW0, ← hB]; exact below_alloc' _ _
  have VG0 : VC 28 B #[.slice a n c] W0 := by rw [hW0]; exact VC.new hB
  have u1 : Below (B + 1) W0 W1 := by rw [hW1, ← hz0]; exact below_alloc' _ _
  have u2 : Below (B + 2) W1 W2 := by rw [hW2, ← hz1]; exact below_alloc' _ _
  have u02 : Below (B + 1) W0 W2 := u1.trans (u2.mono (by omega))
  have ho1 : W1.ownsRow (B + 1) 25 1 (.slice (some ⟨B + 1, 0, none⟩) 0 0) 0 [] := by
    rw [hW1, ← hz0]
    exact World.ownsRow_lit W0 #[] 0 (Nat.le_refl _) (by simp [maxLen]) rfl
  have hG1 : OwnG W2 (B + 1) 25 2 (.slice (some ⟨B + 1, 0, none⟩) 0 0) [] [] := OwnG.nil _ _ (by decide) (owns_below ho1 (hz1.symm ▸ u2))
  have ho2 : W2.ownsRow (B + 2) 2 1 (.slice (some ⟨B + 2, 0, none⟩) 0 0) 0 [] := by
    rw [hW2, ← hz1]
    exact World.ownsRow_lit W1 #[] 0 (Nat.le_refl _) (by simp [maxLen]) rfl
  have HD0 : Hid (∀ b, b < n → ([] : List Int).contains (b : Int) = doneB n e p 0 b) := Lib.hid fun b _ => by simp [doneB]
  clear u1 u2 ho1
  go_enter Tryd.func67, Tryd.ntmps67
  go_wp2_with fail
  rw [← hW0, ← hW1, ← hW2]
  clear hW0 hW1 hW2
  have hbW : Below (B + 1) W2 W2 := Below.refl _ _
  go_loopw [5, 6, 7] (fun out dn i wr => ∃ (k J : Nat) (vs : List Value) (ds : List Int), k ≤ (rowB n p).length ∧ i = .int .i64 k ∧ J ≤ n ∧ vs.length ≤ J ∧ ds.length ≤ 16 * J ∧ Hid (Past n p k J) ∧ Hid (∀ b, b < n → ds.contains (b : Int) = doneB n e p J b) ∧ (∀ u ∈ vs, ∀ k, u.ownBlock = some k → dn.ownBlock ≠ some k) ∧ OwnG wr (B + 1) 25 2 out vs (((partsTo n e p J).map (rowB n)).map ints) ∧ wr.ownsRow (B + 1) 2 1 dn ds.length (ints ds) ∧ Below (B + 1) W2 wr) (fun _ _ i _ => (rowB n p).length - (intOf i).toNat)
  case atStart => exact ⟨0, 0, [], [], Nat.zero_le _, rfl, Nat.zero_le _, Nat.le_refl _, Nat.zero_le _, Lib.hid (Past.start n p), HD0, fun u hu => (by cases hu), hG1, by simpa [ints] using owns_base ho2 (by omega : B + 1 ≤ B + 2), hbW⟩
  case round =>
    clear hG1 ho2 hbW HD0
    obtain ⟨k, J, vs, ds, hk, rfl, hJn, hvl, hdl, HP, HDS, hdj, hG, ho, hb⟩ := hrel
    have HDJ := Lib.hid hdj
    clear hdj
    have hsz := hb.size
    have hbw := u0.trans ((u02.trans hb).mono (by omega))
    have VGr := VG0.belowAt (u02.trans hb) (by omega)
    have hcg := VGr.cell
    obtain ⟨da, dc, rfl⟩ := owns_shape ho
    by_cases hlt : k < (rowB n p).length
    · have hpr := RdS.below hp hbw hB
      obtain ⟨yb, yo, y, rfl, hcy, HY⟩ := Row.intAt hpr hlt
      obtain ⟨q, hqn, hpq, rfl⟩ := row_at HY.out
      obtain ⟨hyes, hno⟩ := parts_next (e := e) HP.out HY.out
      have HPN := Lib.hid (HP.out.next HY.out).2.2
      have hJq := (HP.out.next HY.out).1
      have HH := Lib.hid (has_any (.slice da ds.length dc) ds q wr (Row.of_owns ho))
      rw [HDS.out q hqn] at HH
      cases hd : doneB n e p J q with
      | true =>
        obtain ⟨h1, h2⟩ := hyes hd
        have HDS2 : Hid (∀ b, b < n → ds.contains (b : Int) = doneB n e p (q + 1) b) := Lib.hid fun b hb => by rw [HDS.out b hb, h2]
        have H1 := Lib.hid h1
        rw [hd] at HH
        clear hd hyes hno h1 h2
        go_wp2_with fail
        refine HH.out.mono ?_
        rintro e1 w' ⟨rfl, rfl⟩
        go_wp2_with fail
        go_roundw
        case rel => exact ⟨k + 1, q + 1, vs, ds, by omega, by go_num, by omega, by omega, by omega, HPN, HDS2, HDJ.out, by rw [H1.out]; exact hG, ho, hb⟩
        case measure => simp [intOf]; omega
      | false =>
        obtain ⟨h1, h2⟩ := hno hd
        have H1 := Lib.hid h1
        have H2 := Lib.hid h2
        rw [hd] at HH
        have HRE := Lib.hid (l3Part_any (.slice a n c) n e hn (.slice (some ⟨yb, yo, none⟩) (rowB n p).length c2) p q hqn hpq q rfl wr.drew ((hr.below hbw hB).below (below_drewN' wr 1) rfl) (Row.below hpr (below_drewN' wr 1)))
        obtain ⟨xs, HXS⟩ : ∃ xs, Hid (rowB n (wayB n e p q) = xs) := ⟨_, Lib.hid rfl⟩
        rw [HXS.out] at HRE
        have hxl : xs.length ≤ n := by rw [← HXS.out]; exact rowB_length _ _
        have hxp : 0 < xs.length := by
          have : (q : Int) ∈ xs := by rw [← HXS.out]; exact nat_mem_rowB.2 ⟨hqn, wayB_iff.2 .here⟩
          exact List.length_pos_of_mem this
        clear hd hyes hno h1 h2
        go_wp2_with fail
        refine HH.out.mono ?_
        rintro e1 w' ⟨rfl, rfl⟩
        go_wp2_with fail
        refine wp_region_ord [1, 2, 3, 5] [0, 4] [] [6, 7] (by kernel_rfl) (by kernel_rfl) (fun _ _ d _ _ h => by cases d <;> exact h) ?_
        simp only [pickOps, List.filterMap_cons, List.filterMap_nil, List.getElem?_cons_succ, List.getElem?_cons_zero]
        repeat quiet_step (fail)
        simp only [wpQuiet_nil_eq, wpSegs_nil_eq]
        go_wp2_with fail
        refine HRE.out.mono ?_
        rintro e1 w1 ⟨u1, rfl, hL1, hb1⟩
        obtain ⟨la, lc, rfl⟩ := owns_shape hL1
        have hbr : Below wr.heap.size wr w1 := below_drew hb1
        have hz1' : wr.heap.size ≤ w1.heap.size := hbr.size
        have ho1 := owns_below ho hbr
        have hbs := run_buildOne (P := Tryd.prog) w1 22 25 _ (.slice la xs.length lc) _ Tryd.underlying22 infoR rfl rfl
        have hGo := (hG.below hbr).outer
        have HPUSH : Hid (∀ g2 c3 w2, w2.ownsRow (B + 1) 25 1 (.slice (some ⟨g2, 0, none⟩) (vs.length + 1) c3) (vs.length + 1) (vs ++ [.slice la xs.length lc]) → w1.grownBy w2 u5.ownBlock →
            OwnG w2 (B + 1) 25 2 (.slice (some ⟨g2, 0, none⟩) (vs.length + 1) c3) (vs ++ [.slice la xs.length lc]) (((partsTo n e p (q + 1)).map (rowB n)).map ints) ∧
            w2.ownsRow (B + 1) 2 1 (.slice da ds.length dc) ds.length (ints ds) ∧ Row w2 1 (.slice la xs.length lc) xs.length (ints xs) ∧ Below (B + 1) W2 w2 ∧ w1.heap.size ≤ w2.heap.size ∧
            (∀ u ∈ vs ++ [.slice la xs.length lc], ∀ k, u.ownBlock = some k → (Value.slice da ds.length dc).ownBlock ≠ some k ∧ k < w1.heap.size)) := Lib.hid fun g2 c3 w2 ho2 hg2 => by
          have hlt2 : ∀ b, u5.ownBlock = some b → B + 1 ≤ b := fun b hb => (owns_lt hG.outer hb).1
          have keep : ∀ (v : Value) (m : Nat) (zs : List Value) (base : Nat), w1.ownsRow base 2 1 v m zs → w2.ownsRow base 2 1 v m zs := fun v m zs base h => h.kept hg2 (by
            cases hv : v.ownBlock with
            | none => exact .inl rfl
            | some b => exact .inr fun e => owns_unlike hGo h (by decide) e.symm hv)
          refine ⟨?_, keep _ _ _ _ ho1, Row.of_owns (keep _ _ _ _ hL1), (hb.trans (hbr.mono (by omega))).grown hg2 (by omega) hlt2, hg2.size, fun u hu k huk => ?_⟩
          · have hG2 := hG.push (cs := ints xs) hbr (by simpa using hL1) (Nat.le_refl _) (by omega) ho2 hg2
            rw [H1.out, List.map_append, List.map_append]
            simp only [List.map_cons, List.map_nil, HXS.out]
            exact hG2
          · rcases List.mem_append.1 hu with hu | hu
            · exact ⟨HDJ.out u hu k huk, by have := (hG.lt (.inr ⟨u, hu, huk⟩)).2; omega⟩
            · rw [List.mem_singleton] at hu
              subst hu
              have h1 := owns_lt hL1 huk
              have h3 : wr.heap.size ≤ k := h1.1
              exact ⟨fun h => by have := owns_lt ho h; omega, h1.2⟩
        clear HRE HH hcg hcy ho hbw hb1 hL1 hb ho1
        go_wp2_with (first
          | (at_builtin; refine wpList_push _ rfl (.tmp 31) _ 22 rfl (B + 1) 25 _ _ 24 Tryd.underlying22 infoR rfl _ _ _ rfl hGo _ rfl rfl (by unfold maxLen; omega) (by omega) (by omega) ?_; intro g2 c3 w2 ho2 hg2; have HPP := Lib.hid (HPUSH.out g2 c3 w2 ho2 hg2); have hz3' := HPP.out.2.2.2.2.1; clear ho2 hg2 hGo)
          | (at_builtin; refine wpList_extend_where _ rfl (.tmp 35) _ 25 rfl (B + 1) 2 _ 8 Tryd.underlying25 infoI rfl (.slice da ds.length dc) ds.length (ints ds) rfl HPP.out.2.1 (.slice la xs.length lc) xs.length (ints xs) hxp rfl HPP.out.2.2.1 (ints_one _) (by unfold maxLen; omega) (by omega) (by omega) ?_; intro g4 c4 w4 ho4 hg4 hwh))
        have hG4 := HPP.out.1.kept hg4 (fun k hk h => owns_unlike HPP.out.1.outer HPP.out.2.1 (by decide) hk h) (fun u hu k hk => ((HPP.out.2.2.2.2.2 u hu k hk).1))
        have hdj4 : ∀ u ∈ vs ++ [.slice la xs.length lc], ∀ k, u.ownBlock = some k → (Value.slice (some ⟨g4, 0, none⟩) (ds.length + xs.length) c4).ownBlock ≠ some k := fun u hu k hk h => by
          simp [Value.ownBlock] at h
          subst h
          obtain ⟨h1, h2⟩ := HPP.out.2.2.2.2.2 u hu _ hk
          rcases hwh with hwh | hwh
          · exact h1 hwh
          · omega
        have HDS2 : Hid (∀ b, b < n → (ds ++ xs).contains (b : Int) = doneB n e p (q + 1) b) := Lib.hid fun b hb => by
          have h1 : (ds ++ xs).contains (b : Int) = (ds.contains (b : Int) || xs.contains (b : Int)) := by
            rw [Bool.eq_iff_iff]; simp
          rw [h1, HDS.out b hb, H2.out, ← HXS.out, contains_rowB, decide_eq_true hb, Bool.true_and]
        have hb4 : Below (B + 1) W2 w4 := HPP.out.2.2.2.1.grown hg4 (by omega) (fun b hb' => (owns_lt HPP.out.2.1 hb').1)
        have ho5 : w4.ownsRow (B + 1) 2 1 (.slice (some ⟨g4, 0, none⟩) (ds.length + xs.length) c4) (ds ++ xs).length (ints (ds ++ xs)) := by simpa [ints] using ho4
        clear HPUSH hG hbr ho4 hg4 hwh
        go_wp2_with fail
        go_roundw
        case rel => exact ⟨k + 1, q + 1, vs ++ [.slice la xs.length lc], ds ++ xs, by omega, by go_num, by omega, by simp; omega, by simp; omega, HPN, HDS2, hdj4, hG4, ho5, hb4⟩
        case measure => simp [intOf]; omega
    · obtain rfl : k = (rowB n p).length := by omega
      have HA := Lib.hid (parts_all (e := e) hJn HP.out)
      obtain ⟨ua, uc, rfl⟩ := owns_shape hG.outer
      go_wp2_with fail
      go_ret
      exact ⟨_, vs, rfl, by rw [hB, HA.out]; exact hG.rebase (by omega), by rw [hB]; exact hbw⟩

theorem total_le {xss : List (List Int)} {k : Nat} (h : ∀ xs ∈ xss, xs.length ≤ k) : total xss ≤ k * xss.length := by
  induction xss with
  | nil => simp [total]
  | cons x l ih =>
    have h1 := ih fun xs hx => h xs (by simp [hx])
    have h2 := h x (by simp)
    simp only [total, List.map_cons, List.sum_cons, List.length_cons] at *
    rw [Nat.mul_add, Nat.mul_one]
    omega

set_option maxHeartbeats 1000000 in
theorem specParts (g : Value) (xss : List (List Int)) (w : World) (hr : RdSS g xss w) (rss : List (List Int)) (h : PartsP xss rss) :
    Calls Tryd.prog 27 #[.agg #[g]] w (SSRes w rss) := by
  obtain ⟨a, c, rfl⟩ := hr.shape
  obtain ⟨B, hB⟩ : ∃ B, w.heap.size = B := ⟨_, rfl⟩
  have u1 : Below B w (w.alloc (.cells #[.slice a xss.length c] 28)) := by subst hB; exact below_alloc' _ _
  have VG0 : VC 28 B #[.slice a xss.length c] (w.alloc (.cells #[.slice a xss.length c] 28)) := VC.new hB
  have hz0 : (w.alloc (.cells #[.slice a xss.length c] 28)).heap.size = B + 1 := by simp [hB]
  have H := Lib.hid h
  have hcg := VG0.cell
  clear h
  go_enter Tryd.func27, Tryd.ntmps27
  go_wp2_with fail
  generalize w.alloc (.cells #[.slice a xss.length c] 28) = W at *
  refine (specOk _ xss W (hr.below u1 hB)).mono ?_
  rintro e1 w1 ⟨rfl, hb1⟩
  have VG1 := VG0.upd (Upd.of_below hb1) (by omega)
  have hb := u1.trans (hb1.mono (by omega))
  have hz1 : B + 1 ≤ w1.heap.size := by have := hb1.size; omega
  clear hb1 hcg u1
  have hcg := VG1.cell
  cases hok : okB xss with
  | false =>
    obtain rfl : rss = [] := by
      rcases H.out with ⟨_, h⟩ | ⟨e, hA, hx, _⟩
      · exact h
      · rw [hx, okB_adj hA] at hok; cases hok
    have ho0 := World.ownsRow_lit (base := B) (e := 25) (size := 1) w1 #[] 0 (by omega) (by simp [maxLen]) rfl
    have HG := Lib.hid (OwnG.nil (e1 := 25) (e2 := 2) _ _ (by decide) ho0)
    clear hok
    go_wp2_with fail
    go_ret
    exact ⟨_, [], rfl, by rw [hB]; exact HG.out, by rw [hB]; exact hb.alloc (by omega) _⟩
  | true =>
    obtain ⟨e, hA, hx, hrs⟩ : ∃ e, Adj xss.length e ∧ xss = rowsB xss.length e ∧ rss = (partsTo xss.length e (allB xss.length) xss.length).map (rowB xss.length) := by
      rcases H.out with ⟨h, _⟩ | h
      · rw [hok] at h; cases h
      · exact h
    have hn16 := hA.le
    have HRS := Lib.hid hrs
    have HGR : Hid (∀ W', Below B w W' → RdSS (.slice a xss.length c) (rowsB xss.length e) W') := Lib.hid fun W' hb' => by
      have := hr.below hb' hB
      rwa [hx, rowsB_length] at this
    have HEL : Hid ((rowB xss.length (allB xss.length)).length = xss.length) := Lib.hid (by rw [← allN_allB]; simp)
    clear hok hx hrs H hA
    go_wp2_with fail
    refine wp_region_ord [] [0, 1] [2, 3] [4, 5] (by kernel_rfl) (by kernel_rfl) (fun _ _ d _ _ h => by cases d <;> exact h) ?_
    simp only [pickOps, List.filterMap_cons, List.filterMap_nil, List.getElem?_cons_succ, List.getElem?_cons_zero]
    repeat quiet_step (fail)
    simp only [wpQuiet_nil_eq]
    refine wpSegs_cons ?_
    go_wp2_with fail
    refine (size_any a xss.length c w1.drew).mono ?_
    rintro e1 w2 ⟨rfl, hb2⟩
    have HB2 := Lib.hid (below_drew hb2)
    clear hb2 hcg
    go_wp2_with fail
    refine ⟨HB2.out, ?_⟩
    refine wpSegs_cons ?_
    go_wp2_with fail
    refine (all_any xss.length (by omega) w2).mono ?_
    rintro e1 w3 ⟨ul, rfl, hL, hb3⟩
    rw [allN_allB, HEL.out] at hL
    obtain ⟨la, lc, rfl⟩ := owns_shape hL
    have HB3 := Lib.hid (HB2.out.trans (hb3.mono HB2.out.size))
    have hbw3 := hb.trans (HB3.out.mono (by omega))
    have hRL := Row.of_owns hL
    have HP := Lib.hid (l3Parts_any (.slice a xss.length c) xss.length e hn16 (.slice la xss.length lc) (allB xss.length) w3 (HGR.out _ hbw3) (by unfold RdS; rw [HEL.out]; exact hRL))
    rw [← HRS.out] at HP
    have hz3 : B ≤ w3.heap.size := by have := HB3.out.size; omega
    clear hL hb3 hRL
    go_wp2_with fail
    refine ⟨HB3.out, ?_⟩
    simp only [wpSegs_nil_eq]
    go_wp2_with fail
    refine HP.out.mono ?_
    rintro e1 w4 ⟨u4, vs, rfl, hG, hb4⟩
    have hbf := hbw3.trans (hb4.mono hz3)
    have HG := Lib.hid (hG.rebase hz3)
    obtain ⟨ua, uc, rfl⟩ := owns_shape hG.outer
    clear hb4 hG HP
    go_wp2_with fail
    go_ret
    exact ⟨_, vs, rfl, by rw [hB]; exact HG.out, by rw [hB]; exact hbf⟩

theorem both_PartsOf (xss : List (List Int)) : ∃ rss : List (List Int), 1 + total rss ≤ 1000000000 ∧ rss.length ≤ 1000000000 ∧
    (∀ (w : World) (g : Value), Tab w → RdSS g xss w → Calls Tryd.prog 27 #[.agg #[g]] w (SSRes w rss)) ∧
    (∀ (w : World) (g : Value), Tab w → RdSS g xss w → Calls Tryd.prog 28 #[.agg #[g]] w (SSRes w rss)) := by
  cases hok : okB xss with
  | true =>
    obtain ⟨e, hA, hx⟩ := (okB_iff xss).1 hok
    have hn := hA.le
    have hl := partsTo_length (n := xss.length) (e := e) (p := allB xss.length) xss.length
    have ht := total_le (xss := (partsTo xss.length e (allB xss.length) xss.length).map (rowB xss.length)) (k := 16) fun xs hxs => by
      obtain ⟨q, _, rfl⟩ := List.mem_map.1 hxs
      have := rowB_length xss.length q
      omega
    rw [List.length_map] at ht
    have hP : PartsP xss _ := .inr ⟨e, hA, hx, rfl⟩
    exact ⟨_, by omega, by rw [List.length_map]; omega, fun w g _ hr => specParts g xss w hr _ hP, fun w g ht hr => implParts g xss w ht hr _ hP⟩
  | false => exact ⟨[], by simp [total], by simp, fun w g _ hr => specParts g xss w hr _ (.inl ⟨hok, rfl⟩), fun w g ht hr => implParts g xss w ht hr _ (.inl ⟨hok, rfl⟩)⟩
end Go.Proofs.YtcjbobponlpkaaaDoor
