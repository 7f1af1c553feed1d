import Derived.Test.YtpfhflkpnjkgkaaCardCertNumbersJn05
import Derived.Test.YtpfhflkpnjkgkaaGq05
import Derived.Test.YtpfhflkpnjkgkaaGq10
/-
  'l16All', 'l19Without', 'l16Parts' of the reference.
-/



namespace Go.Proofs.Ytpfhflkpnjkgkaa
open Go.RowKit

theorem allN_allB (n : Nat) : (List.range n).map (fun (i : Nat) => (i : Int)) = rowB n (allB n) := by
  rw [← rowB_all]
  exact rowB_ext fun i hi => by simp [allB, hi]
def upTo (j : Nat) (p : Nat → Bool) : List Int := ((List.range j).filter p).map fun (i : Nat) => (i : Int)
theorem upTo_yes {p : Nat → Bool} {j : Nat} (h : p j = true) : upTo (j + 1) p = upTo j p ++ [(j : Int)] := by simp [upTo, List.range_succ, List.filter_append, h]
theorem upTo_no {p : Nat → Bool} {j : Nat} (h : p j = false) : upTo (j + 1) p = upTo j p := by simp [upTo, List.range_succ, List.filter_append, h]

set_option maxHeartbeats 1000000 in
theorem l16All_any (g : Value) (xss : List (List Int)) (hn : xss.length ≤ 1000) (w : World) (hr : RdSS g xss w) :
    Calls Try.prog 39 #[.agg #[g]] w (SRes w (rowB xss.length (allB xss.length))) := by
  obtain ⟨a, c, rfl⟩ := hr.shape
  obtain ⟨B, hB⟩ : ∃ B, w.heap.size = B := ⟨_, rfl⟩
  have u1 : Below B w (w.alloc (.cells #[.slice a xss.length c] 42)) := by subst hB; exact below_alloc' _ _
  have VG0 : VC 42 B #[.slice a xss.length c] (w.alloc (.cells #[.slice a xss.length c] 42)) := VC.new hB
  have hz0 : (w.alloc (.cells #[.slice a xss.length c] 42)).heap.size = B + 1 := by simp [hB]
  have ho0 := World.ownsRow_lit (base := B + 1) (e := 2) (size := 1) (w.alloc (.cells #[.slice a xss.length c] 42)) #[] 0 (by omega) (by simp [maxLen]) rfl
  rw [hz0] at ho0
  have u2 : Below B w ((w.alloc (.cells #[.slice a xss.length c] 42)).alloc (.cells #[] 2)) := u1.alloc (by omega) _
  have VG1 := VG0.upd (Upd.alloc _ (.cells #[] 2)) (by omega)
  have hz1 : ((w.alloc (.cells #[.slice a xss.length c] 42)).alloc (.cells #[] 2)).heap.size = B + 2 := by simp [hB]
  go_enter Try.func39, Try.ntmps39
  go_wp2_with fail
  generalize (w.alloc (.cells #[.slice a xss.length c] 42)).alloc (.cells #[] 2) = W at *
  have hbW : Below (B + 1) W W := Below.refl _ _
  go_loopw [3, 4] (fun u i wr => ∃ j : Nat, j ≤ xss.length ∧ i = .int .i64 j ∧ wr.ownsRow (B + 1) 2 1 u j (ints ((List.range j).map fun (i : Nat) => (i : Int))) ∧ Below (B + 1) W wr) (fun _ i _ => xss.length - (intOf i).toNat)
  case atStart => exact ⟨0, Nat.zero_le _, rfl, by simpa [ints] using ho0, hbW⟩
  case round =>
    clear ho0 hbW
    obtain ⟨j, hj, rfl, ho, hb⟩ := hrel
    have hsz := hb.size
    have hcg := (VG1.belowAt hb (by omega)).cell
    by_cases hlt : j < xss.length
    · go_wp2_with (at_builtin; refine wpList_push _ rfl _ _ 26 rfl (B + 1) 2 _ _ 8 Try.underlying26 infoI rfl _ _ _ rfl ho _ rfl rfl (by unfold maxLen; omega) (by omega) (by omega) ?_; intro g' c' w2 ho2 hg)
      go_roundw
      case rel => exact ⟨j + 1, by omega, by go_num, by rw [List.range_succ, List.map_append]; simpa [ints] using ho2, hb.grown hg (by omega) fun b hb' => (owns_lt ho hb').1⟩
      case measure => simp [intOf]; omega
    · obtain rfl : j = xss.length := by omega
      rw [allN_allB] at ho
      have HEL : Hid ((rowB xss.length (allB xss.length)).length = xss.length) := Lib.hid (by rw [← allN_allB]; simp)
      go_wp2_with fail
      go_ret
      exact ⟨_, rfl, by rw [hB, HEL.out]; exact owns_base ho (by omega), by rw [hB]; exact u2.trans (hb.mono (by omega))⟩

/-! ### The parts -/
theorem parts_next {n : Nat} {e : Nat → Nat → Bool} {p : Nat → Bool} {k J y : Nat} (hJ : Past n p k J) (hk : (rowB n p)[k]? = some (y : Int)) :
    (doneB n e p J y = true → partsTo n e p (y + 1) = partsTo n e p J ∧ ∀ b, doneB n e p (y + 1) b = doneB n e p J b) ∧
    (doneB n e p J y = false → partsTo n e p (y + 1) = partsTo n e p J ++ [wayB n e p y] ∧ ∀ b, doneB n e p (y + 1) b = (doneB n e p J b || wayB n e p y b)) := by
  obtain ⟨h1, h2, _⟩ := hJ.next hk
  obtain ⟨y', hyn, hpy, e1⟩ := row_at hk
  obtain rfl : y = y' := by omega
  obtain ⟨g1, g2⟩ := jumpLeft (n := n) (e := e) (p := p) h1 fun i hi1 hi2 => by unfold leftB; rw [h2 i hi1 hi2]; rfl
  constructor
  · intro hd
    have hl : leftB n e p y y = false := by unfold leftB; rw [g2, hd, hpy]; rfl
    exact ⟨(partsTo_no hl).trans g1, fun b => (doneB_no hl b).trans (g2 b)⟩
  · intro hd
    have hl : leftB n e p y y = true := by unfold leftB; rw [g2, hd, hpy]; rfl
    refine ⟨by rw [partsTo_yes hl, g1], fun b => ?_⟩
    rw [doneB_succ, g2, hpy, Bool.true_and]
theorem parts_all {n : Nat} {e : Nat → Nat → Bool} {p : Nat → Bool} {J : Nat} (hJn : J ≤ n) (hJ : Past n p (rowB n p).length J) : partsTo n e p n = partsTo n e p J :=
  (jumpLeft hJn fun i h1 h2 => by unfold leftB; rw [hJ.done i h1 h2]; rfl).1

set_option maxHeartbeats 4000000 in
theorem l16Parts_any (g : Value) (n : Nat) (e : Nat → Nat → Bool) (hn : n ≤ 16) (v2 : Value) (p : Nat → Bool) (w : World) (hr : RdSS g (rowsB n e) w) (hp : RdS v2 (rowB n p) w) :
    Calls Try.prog 51 #[.agg #[g], v2, .bool false] w (SSRes w ((partsTo n e p n).map (rowB n))) := by
  obtain ⟨a, c, rfl⟩ := hr.shape
  obtain ⟨a2, c2, rfl, -, -, -⟩ := id hp
  rw [rowsB_length] at hr ⊢
  have hpl := rowB_length n p
  obtain ⟨B, hB⟩ : ∃ B, w.heap.size = B := ⟨_, rfl⟩
  obtain ⟨W0, hW0⟩ : ∃ W0, W0 = w.alloc (.cells #[.slice a n c] 42) := ⟨_, rfl⟩
  obtain ⟨W1, hW1⟩ : ∃ W1, W1 = W0.alloc (.cells #[] 26) := ⟨_, rfl⟩
  obtain ⟨W2, hW2⟩ : ∃ W2, W2 = W1.alloc (.cells #[] 2) := ⟨_, rfl⟩
  have hz0 : W0.heap.size = B + 1 := by simp [hW0, hB]
  have hz1 : W1.heap.size = B + 2 := by simp [hW1, hz0]
  have hz2 : W2.heap.size = B + 3 := by simp [hW2, hz1]
  have u0 : Below B w W0 := by rw [hW0, ← hB]; exact below_alloc' _ _
  have VG0 : VC 42 B #[.slice a n c] W0 := by rw [hW0]; exact VC.new hB
  have u1 : Below (B + 1) W0 W1 := by rw [hW1, ← hz0]; exact below_alloc' _ _
  have u2 : Below (B + 2) W1 W2 := by rw [hW2, ← hz1]; exact below_alloc' _ _
  have u02 : Below (B + 1) W0 W2 := u1.trans (u2.mono (by omega))
  have ho1 : W1.ownsRow (B + 1) 26 1 (.slice (some ⟨B + 1, 0, none⟩) 0 0) 0 [] := by
    rw [hW1, ← hz0]
    exact World.ownsRow_lit W0 #[] 0 (Nat.le_refl _) (by simp [maxLen]) rfl
  have hG1 : OwnG W2 (B + 1) 26 2 (.slice (some ⟨B + 1, 0, none⟩) 0 0) [] [] := OwnG.nil _ _ (by decide) (owns_below ho1 (hz1.symm ▸ u2))
  have ho2 : W2.ownsRow (B + 2) 2 1 (.slice (some ⟨B + 2, 0, none⟩) 0 0) 0 [] := by
    rw [hW2, ← hz1]
    exact World.ownsRow_lit W1 #[] 0 (Nat.le_refl _) (by simp [maxLen]) rfl
  have HD0 : Hid ([] = rowB n (doneB n e p 0)) := Lib.hid (by rw [rowB_ext (q := fun _ => false) fun i _ => by simp [doneB]]; simp [rowB])
  clear u1 u2 ho1
  go_enter Try.func51, Try.ntmps51
  go_wp2_with fail
  rw [← hW0, ← hW1, ← hW2]
  clear hW0 hW1 hW2
  have hbW : Below (B + 1) W2 W2 := Below.refl _ _
  go_loopw [7, 8, 9] (fun out dn i wr => ∃ (k J : Nat) (vs : List Value) (ds : List Int), k ≤ (rowB n p).length ∧ i = .int .i64 k ∧ J ≤ n ∧ vs.length ≤ J ∧ ds.length ≤ n ∧ Hid (Past n p k J) ∧ Hid (ds = rowB n (doneB n e p J)) ∧ OwnG wr (B + 1) 26 2 out vs (((partsTo n e p J).map (rowB n)).map ints) ∧ wr.ownsRow (B + 1) 2 1 dn ds.length (ints ds) ∧ Below (B + 1) W2 wr) (fun _ _ i _ => (rowB n p).length - (intOf i).toNat)
  case atStart => exact ⟨0, 0, [], [], Nat.zero_le _, rfl, Nat.zero_le _, Nat.le_refl _, Nat.zero_le _, Lib.hid (Past.start n p), HD0, hG1, by simpa [ints] using owns_base ho2 (by omega : B + 1 ≤ B + 2), hbW⟩
  case round =>
    clear hG1 ho2 hbW HD0
    obtain ⟨k, J, vs, ds, hk, rfl, hJn, hvl, hdl, HP, HDS, hG, ho, hb⟩ := hrel
    have hsz := hb.size
    have hbw := u0.trans ((u02.trans hb).mono (by omega))
    have VGr := VG0.belowAt (u02.trans hb) (by omega)
    have hcg := VGr.cell
    obtain ⟨da, dc, rfl⟩ := owns_shape ho
    by_cases hlt : k < (rowB n p).length
    · have hpr := RdS.below hp hbw hB
      obtain ⟨yb, yo, y, rfl, hcy, HY⟩ := Row.intAt hpr hlt
      obtain ⟨q, hqn, hpq, rfl⟩ := row_at HY.out
      obtain ⟨hyes, hno⟩ := parts_next (e := e) HP.out HY.out
      have HPN := Lib.hid (HP.out.next HY.out).2.2
      have hJq := (HP.out.next HY.out).1
      have HH := Lib.hid (has_any (.slice da ds.length dc) ds q wr (Row.of_owns ho))
      rw [show ds.contains (q : Int) = doneB n e p J q by rw [HDS.out, contains_rowB, decide_eq_true hqn, Bool.true_and]] at HH
      cases hd : doneB n e p J q with
      | true =>
        obtain ⟨h1, h2⟩ := hyes hd
        have HDS2 : Hid (ds = rowB n (doneB n e p (q + 1))) := Lib.hid (by rw [HDS.out]; exact rowB_ext fun i _ => (h2 i).symm)
        have H1 := Lib.hid h1
        rw [hd] at HH
        clear hd hyes hno h1 h2
        go_wp2_with fail
        refine HH.out.mono ?_
        rintro e1 w' ⟨rfl, rfl⟩
        go_wp2_with fail
        go_roundw
        case rel => exact ⟨k + 1, q + 1, vs, ds, by omega, by go_num, by omega, by omega, hdl, HPN, HDS2, by rw [H1.out]; exact hG, ho, hb⟩
        case measure => simp [intOf]; omega
      | false =>
        obtain ⟨h1, h2⟩ := hno hd
        have H1 := Lib.hid h1
        have H2 := Lib.hid h2
        rw [hd] at HH
        have HRE := Lib.hid (l16Reach_any (.slice a n c) n e hn (.slice (some ⟨yb, yo, none⟩) (rowB n p).length c2) p q hqn q rfl wr.drew ((hr.below hbw hB).below (below_drewN' wr 1) rfl) (Row.below hpr (below_drewN' wr 1)))
        obtain ⟨xs, HXS⟩ : ∃ xs, Hid (rowB n (wayB n e p q) = xs) := ⟨_, Lib.hid rfl⟩
        rw [HXS.out] at HRE
        have hxl : xs.length ≤ n := by rw [← HXS.out]; exact rowB_length _ _
        clear hd hyes hno h1 h2
        go_wp2_with fail
        refine HH.out.mono ?_
        rintro e1 w' ⟨rfl, rfl⟩
        go_wp2_with fail
        refine wp_region_ord [1, 2, 3, 4, 6] [0, 5] [] [7, 8] (by kernel_rfl) (by kernel_rfl) (fun _ _ d _ _ h => by cases d <;> exact h) ?_
        simp only [pickOps, List.filterMap_cons, List.filterMap_nil, List.getElem?_cons_succ, List.getElem?_cons_zero]
        repeat quiet_step (fail)
        simp only [wpQuiet_nil_eq, wpSegs_nil_eq]
        go_wp2_with fail
        refine HRE.out.mono ?_
        rintro e1 w1 ⟨u1, rfl, hL1, hb1⟩
        obtain ⟨la, lc, rfl⟩ := owns_shape hL1
        have hb1' := below_drew hb1
        have hRL := Row.of_owns hL1
        have hz1' : wr.heap.size ≤ w1.heap.size := hb1'.size
        have ho1 := owns_below ho hb1'
        obtain ⟨C, hC⟩ : ∃ C, w1.heap.size = C := ⟨_, rfl⟩
        have hcl : Below C w1 w1 := Below.refl _ _
        have HDa : Hid (ds = rowB n (fun b => doneB n e p J b || inL (xs.take 0) b)) := Lib.hid (by rw [HDS.out]; exact rowB_ext fun i _ => by rw [List.take_zero, inL_nil, Bool.or_false])
        clear HRE hb1 HH hcg hcy
        go_wp2_with fail
        generalize wr = w9 at *
        go_loopw [8, 11] (fun dn i wr' => ∃ (m : Nat) (ds' : List Int), m ≤ xs.length ∧ i = .int .i64 m ∧ ds'.length ≤ n ∧ Hid (ds' = rowB n (fun b => doneB n e p J b || inL (xs.take m) b)) ∧ wr'.ownsRow (B + 1) 2 1 dn ds'.length (ints ds') ∧ Below C w1 wr') (fun _ i _ => xs.length - (intOf i).toNat)
        case atStart => exact ⟨0, ds, Nat.zero_le _, rfl, hdl, HDa, ho1, hcl⟩
        case round =>
          clear hcl ho1 HDa
          obtain ⟨m, ds', hm, rfl, hdl', HDS', ho', hb'⟩ := hrel
          have hsz' := hb'.size
          obtain ⟨va, vc, rfl⟩ := owns_shape ho'
          have hRr := Row.below hRL (hC.symm ▸ hb')
          by_cases hlm : m < xs.length
          · obtain ⟨xb, xo, x, rfl, hcx, HX⟩ := Row.intAt hRr hlm
            obtain ⟨t, htn, HTE⟩ : ∃ t : Nat, t < n ∧ Hid (x = t) := by
              have h := HX.out
              rw [← HXS.out] at h
              obtain ⟨t, h1, _, h3⟩ := row_at h
              exact ⟨t, h1, Lib.hid h3⟩
            have HIN := Lib.hid (into_any (.slice va ds'.length vc) ds' x wr (Row.of_owns ho') (by omega))
            obtain ⟨ds2, HD2⟩ : ∃ l, Hid (into ds' x = l) := ⟨_, Lib.hid rfl⟩
            rw [HD2.out] at HIN
            have HE : Hid (ds2 = rowB n (fun b => doneB n e p J b || inL (xs.take (m + 1)) b)) := Lib.hid (by
              have hx := HX.out
              rw [HTE.out] at hx
              rw [← HD2.out, HDS'.out, HTE.out, into_rowB (by omega) _ htn, inL_take_succ hx]
              exact rowB_ext fun i _ => by rw [Bool.or_assoc])
            have hdl2 : ds2.length ≤ n := by rw [HE.out]; exact rowB_length _ _
            go_wp2_with fail
            refine HIN.out.mono ?_
            rintro e1 w3 ⟨u3, rfl, hu3, hb3⟩
            have ho3 : w3.ownsRow (B + 1) 2 1 u3 ds2.length (ints ds2) := by
              rcases hu3 with ⟨rfl, hos⟩ | ho3
              · rw [hos]; exact owns_below ho' hb3
              · exact owns_base ho3 (by omega)
            have hb4 := hb'.trans (hb3.mono (by omega))
            clear hu3 hb3 ho' hb' HIN
            go_wp2_with fail
            go_roundw
            case rel => exact ⟨m + 1, ds2, by omega, by go_num, hdl2, HE, ho3, hb4⟩
            case measure => simp [intOf]; omega
          · obtain rfl : m = xs.length := by omega
            have HE : Hid (ds' = rowB n (doneB n e p (q + 1))) := Lib.hid (by
              rw [HDS'.out, List.take_length]
              refine rowB_ext fun i hi => ?_
              rw [H2.out, ← HXS.out, inL_rowB hi])
            have hbs := run_buildOne (P := Try.prog) wr 32 26 _ (.slice la xs.length lc) _ Try.underlying32 infoR rfl rfl
            have hbr : Below w9.heap.size w9 wr := hb1'.trans (hb'.mono (by omega))
            have hlt2 : ∀ b, u7.ownBlock = some b → B + 1 ≤ b := fun b hb => (owns_lt hG.outer hb).1
            have hun : ∀ b, (Value.slice va ds'.length vc).ownBlock = some b → u7.ownBlock ≠ some b := fun b hbb h => owns_unlike (hG.below hbr).outer ho' (by decide) h hbb
            go_wp2_with (at_builtin; refine wpList_push _ rfl _ _ 32 rfl (B + 1) 26 _ _ 24 Try.underlying32 infoR rfl _ _ _ rfl (hG.below hbr).outer _ rfl rfl (by unfold maxLen; omega) (by omega) (by omega) ?_; intro g2 c3 w2 ho2 hg2)
            have hG2 := hG.push (cs := ints xs) hbr (by simpa using owns_below hL1 (hC.symm ▸ hb')) (by exact Nat.le_refl _) (by omega) ho2 hg2
            have hb2 : Below (B + 1) W2 w2 := (hb.trans (hbr.mono (by omega))).grown hg2 (by omega) hlt2
            have ho5 : w2.ownsRow (B + 1) 2 1 (.slice va ds'.length vc) ds'.length (ints ds') := by
              refine ho'.kept hg2 ?_
              cases hv : (Value.slice va ds'.length vc).ownBlock with
              | none => exact .inl rfl
              | some b => exact .inr fun h => hun b hv h.symm
            clear hbs hG ho2 hg2 ho' hb' hbr hun hb1' ho hb hL1 hlt2
            go_wp2_with fail
            go_roundw
            case rel =>
              refine ⟨k + 1, q + 1, vs ++ [.slice la xs.length lc], ds', by omega, by go_num, by omega, by simp; omega, hdl', HPN, HE, ?_, ho5, hb2⟩
              rw [H1.out, List.map_append, List.map_append]
              simp only [List.map_cons, List.map_nil, HXS.out]
              exact hG2
            case measure => simp [intOf]; omega
    · obtain rfl : k = (rowB n p).length := by omega
      have HA := Lib.hid (parts_all (e := e) hJn HP.out)
      obtain ⟨ua, uc, rfl⟩ := owns_shape hG.outer
      go_wp2_with fail
      go_ret
      exact ⟨_, vs, rfl, by rw [hB, HA.out]; exact hG.rebase (by omega), by rw [hB]; exact hbw⟩
end Go.Proofs.Ytpfhflkpnjkgkaa
/-
  'l16Reach', 'l16Parts' of the reference, turned: in the complement.
-/

namespace Go.Proofs.Ytpfhflkpnjkgkaa
open Go.RowKit

/-- The complement. -/
def tur (e : Nat → Nat → Bool) (a b : Nat) : Bool := decide (b ≠ a) && !e a b
theorem tur_adj {n : Nat} {e : Nat → Nat → Bool} (h : Adj n e) : Adj n (tur e) :=
  ⟨h.pos, h.le, fun u _ => by unfold tur; simp, fun u v hu hv => by
    unfold tur
    rw [h.sym u v hu hv]
    congr 1
    rw [decide_eq_decide]
    exact ⟨fun h e => h e.symm, fun h e => h e.symm⟩⟩

set_option maxHeartbeats 4000000 in
theorem l16Reach_t (g : Value) (n : Nat) (e : Nat → Nat → Bool) (hn : n ≤ 16) (v2 : Value) (p : Nat → Bool) (s : Nat) (hs : s < n) (S : Int) (hS : S = s) (w : World) (hr : RdSS g (rowsB n e) w) (hp : RdS v2 (rowB n p) w) :
    Calls Try.prog 58 #[.agg #[g], v2, .int .i64 S, .bool true] w (SRes w (rowB n (wayB n (tur e) p s))) := by
  obtain ⟨a, c, rfl⟩ := hr.shape
  obtain ⟨a2, c2, rfl, -, -, -⟩ := id hp
  rw [rowsB_length] at hr ⊢
  have hpl := rowB_length n p
  subst hS
  obtain ⟨B, hB⟩ : ∃ B, w.heap.size = B := ⟨_, rfl⟩
  obtain ⟨W0, hW0⟩ : ∃ W0, W0 = w.alloc (.cells #[.slice a n c] 42) := ⟨_, rfl⟩
  obtain ⟨W1, hW1⟩ : ∃ W1, W1 = W0.alloc (.cells #[.int .i64 s] 2) := ⟨_, rfl⟩
  obtain ⟨W2, hW2⟩ : ∃ W2, W2 = W1.alloc (.cells #[.int .i64 s] 2) := ⟨_, rfl⟩
  have hz0 : W0.heap.size = B + 1 := by simp [hW0, hB]
  have hz1 : W1.heap.size = B + 2 := by simp [hW1, hz0]
  have hz2 : W2.heap.size = B + 3 := by simp [hW2, hz1]
  have u0 : Below B w W0 := by rw [hW0, ← hB]; exact below_alloc' _ _
  have VG0 : VC 42 B #[.slice a n c] W0 := by rw [hW0]; exact VC.new hB
  have u1 : Below (B + 1) W0 W1 := by rw [hW1, ← hz0]; exact below_alloc' _ _
  have u2 : Below (B + 2) W1 W2 := by rw [hW2, ← hz1]; exact below_alloc' _ _
  have u02 : Below (B + 1) W0 W2 := u1.trans (u2.mono (by omega))
  have ho1 : W1.ownsRow (B + 1) 2 1 (.slice (some ⟨B + 1, 0, none⟩) 1 1) 1 (natInts [s]) := by
    rw [hW1, ← hz0]
    exact World.ownsRow_lit W0 #[.int .i64 s] 1 (Nat.le_refl _) (by simp [maxLen]) rfl
  have ho2 : W2.ownsRow (B + 1) 2 1 (.slice (some ⟨B + 1, 0, none⟩) 1 1) 1 (natInts [s]) := owns_below ho1 (hz1.symm ▸ u2)
  have hq2' : W2.ownsRow (B + 2) 2 1 (.slice (some ⟨B + 2, 0, none⟩) 1 1) 1 (natInts [s]) := by
    rw [hW2, ← hz1]
    exact World.ownsRow_lit W1 #[.int .i64 s] 1 (Nat.le_refl _) (by simp [maxLen]) rfl
  have hq2 : Qu W2 (B + 1) 2 (.slice (some ⟨B + 2, 0, none⟩) 1 1) (natInts [s]) := Qu.of_owns (cs := natInts [s]) (owns_base hq2' (by omega))
  have hrs : rowB n (fun b => decide (b = s)) = [(s : Int)] := by
    rw [← nums_maskB (by omega : n ≤ 32), ← pow_maskB hs]
    have hs0 : into (nums 0) s = nums (0 ||| 2 ^ s) := into_nums 0 s (by omega)
    rw [Nat.zero_or] at hs0
    rw [← hs0]
    simp [nums, bitsOf_zero, into]
  clear hq2' u1 u2 ho1
  go_enter Try.func58, Try.ntmps58
  go_wp2_with fail
  rw [← hW0, ← hW1, ← hW2]
  clear hW0 hW1 hW2
  have hbW : Below (B + 1) W2 W2 := Below.refl _ _
  go_loopw [9, 10] (fun u td wr => ∃ (os : List Int) (T : List Nat) (o : Nat → Bool), Hid (os = rowB n o) ∧ os.length ≤ n ∧ T.length ≤ os.length ∧ Hid (Bfs n (tur e) p s o T) ∧ u.ownBlock ≠ td.ownBlock ∧ wr.ownsRow (B + 1) 2 1 u os.length (ints os) ∧ Qu wr (B + 1) 2 td (natInts T) ∧ Below (B + 1) W2 wr) (fun u td _ => slLen td + (n - slLen u))
  case atStart => exact ⟨[(s : Int)], [s], _, Lib.hid hrs.symm, by simp; omega, by simp, Lib.hid (Bfs.first hs), by simp [Value.ownBlock], ho2, hq2, hbW⟩
  case round =>
    clear ho2 hq2 hbW
    obtain ⟨os, T, o, HOS, hol, hTl, HI, hne, ho, hq, hb⟩ := hrel
    have hsz := hb.size
    have hbw := u0.trans ((u02.trans hb).mono (by omega))
    have VGr := VG0.belowAt (u02.trans hb) (by omega)
    have hcg := VGr.cell
    cases T with
    | nil =>
      have HD : Hid (os = rowB n (wayB n (tur e) p s)) := Lib.hid (by rw [HOS.out, HI.out.done])
      obtain ⟨qg, qo, qc, rfl⟩ := hq.shape
      obtain ⟨ua, uc, rfl⟩ := owns_shape ho
      go_wp2_with fail
      go_ret
      rw [← HD.out]
      exact ⟨_, rfl, by rw [hB]; exact owns_base ho (by omega), by rw [hB]; exact hbw⟩
    | cons x T1 =>
      obtain ⟨qg, qo, qc, rfl⟩ := hq.shape
      have hcx := hq.cells 0 (.int .i64 x) (by simp [natInts, ints])
      rw [Addr.add_lit, Nat.add_zero] at hcx
      obtain ⟨to, tc, htail, hq1⟩ := qtail_nat hq
      have hsl := run_tail1 (P := Try.prog) wr 26 2 _ _ Try.underlying26 infoI (some ⟨qg, qo, none⟩) T1.length qc
      rw [natInts_length] at htail hne
      rw [show T1.length + 1 = (x :: T1).length from rfl, htail] at hsl
      rw [natInts_length]
      rw [List.length_cons] at hsl hne ⊢
      have hTl2 : T1.length + 1 ≤ os.length := by simpa using hTl
      have hT16 : T1.length + 1 ≤ n := by omega
      clear hTl
      have hxn : x < n := (HI.out.ways x (HI.out.todo x (by simp))).1
      have HE := Lib.hid HI.out.enter
      obtain ⟨ua, uc, rfl⟩ := owns_shape ho
      have hne1 : (Value.slice ua os.length uc).ownBlock ≠ (Value.slice (some ⟨qg, to, none⟩) T1.length tc).ownBlock := hne
      clear htail hne hq HI hbw
      go_wp2_with fail
      clear hsl hcx hcg VGr
      go_loopw [9, 10, 12] (fun u td i wr => ∃ (j : Nat) (os' : List Int) (T' : List Nat) (o' : Nat → Bool), j ≤ (rowB n p).length ∧ i = .int .i64 j ∧ Hid (os' = rowB n o') ∧ os'.length ≤ n ∧ T'.length + os.length = T1.length + os'.length ∧ Hid (Bfs2 n (tur e) p s x j o' T') ∧ u.ownBlock ≠ td.ownBlock ∧ wr.ownsRow (B + 1) 2 1 u os'.length (ints os') ∧ Qu wr (B + 1) 2 td (natInts T') ∧ Below (B + 1) W2 wr) (fun _ _ i _ => (rowB n p).length - (intOf i).toNat)
      case atStart => exact ⟨0, os, T1, o, Nat.zero_le _, rfl, HOS, hol, rfl, HE, hne1, ho, hq1, hb⟩
      case round =>
        clear hne1 ho hq1 hb HE HOS hsz
        obtain ⟨j, os', T', o', hj, rfl, HOS, hol', hcnt, HI, hne, ho, hq, hb⟩ := hrel
        have hsz := hb.size
        have hbw := u0.trans ((u02.trans hb).mono (by omega))
        have VGr := VG0.belowAt (u02.trans hb) (by omega)
        have hcg := VGr.cell
        obtain ⟨kg, ko, kc, rfl⟩ := hq.shape
        obtain ⟨va, vc, rfl⟩ := owns_shape ho
        rw [natInts_length] at hne hq ⊢
        by_cases hlt : j < (rowB n p).length
        · obtain ⟨yb, yo, y, rfl, hcy, HY⟩ := Row.intAt (RdS.below hp hbw hB) hlt
          obtain ⟨q, hqn, hpq, rfl⟩ := row_at HY.out
          obtain ⟨vsr, hGx⟩ := (hr.below hbw hB).ex
          obtain ⟨rb, ro, r, xs, rfl, hc, hxr, -, HXX⟩ := hGx.intsAt (k := x) (by simpa using hxn)
          obtain rfl : rowB n (e x) = xs := by have h := HXX.out; rw [rowsB_at e hxn] at h; exact Option.some.inj h
          have HH1 := Lib.hid (has_any r (rowB n (e x)) q wr hxr)
          have HH2 := Lib.hid (has_any (.slice va os'.length vc) os' q wr (Row.of_owns ho))
          rw [contains_rowB, decide_eq_true hqn, Bool.true_and] at HH1
          rw [show os'.contains (q : Int) = o' q by rw [HOS.out, contains_rowB, decide_eq_true hqn, Bool.true_and]] at HH2
          obtain ⟨b1, HB1⟩ : ∃ b, Hid (e x q = b) := ⟨_, Lib.hid rfl⟩
          obtain ⟨b2, HB2⟩ : ∃ b, Hid (o' q = b) := ⟨_, Lib.hid rfl⟩
          rw [HB1.out] at HH1
          rw [HB2.out] at HH2
          clear hGx HXX hxr
          by_cases hqx : q = x
          · have hd : ((q : Int) != (x : Int)) = false := by simp [hqx]
            have HSK := Lib.hid (HI.out.skip HY.out (fun _ => by rw [hqx]; exact HI.out.at_))
            clear hqx
            go_wp2_with fail
            go_roundw
            case rel => exact ⟨j + 1, os', T', o', by omega, by go_num, HOS, hol', hcnt, HSK, hne, ho, hq, hb⟩
            case measure => simp [intOf]; omega
          · have hd : ((q : Int) != (x : Int)) = true := by rw [bne_iff_ne]; omega
            have HQX := Lib.hid hqx
            clear hqx
            cases b1 with
            | true =>
              have HSK := Lib.hid (HI.out.skip HY.out (fun h => by unfold tur at h; rw [HB1.out] at h; simp at h))
              go_wp2_with fail
              refine HH1.out.mono ?_
              rintro e1 w' ⟨rfl, rfl⟩
              go_wp2_with fail
              go_roundw
              case rel => exact ⟨j + 1, os', T', o', by omega, by go_num, HOS, hol', hcnt, HSK, hne, ho, hq, hb⟩
              case measure => simp [intOf]; omega
            | false =>
              cases b2 with
              | true =>
                have HSK := Lib.hid (HI.out.skip HY.out (fun _ => HB2.out))
                go_wp2_with fail
                refine HH1.out.mono ?_
                rintro e1 w' ⟨rfl, rfl⟩
                go_wp2_with fail
                refine HH2.out.mono ?_
                rintro e1 w' ⟨rfl, rfl⟩
                go_wp2_with fail
                go_roundw
                case rel => exact ⟨j + 1, os', T', o', by omega, by go_num, HOS, hol', hcnt, HSK, hne, ho, hq, hb⟩
                case measure => simp [intOf]; omega
              | false =>
                have HPU := Lib.hid (HI.out.put HY.out (by unfold tur; rw [HB1.out]; simp; exact HQX.out))
                have HIN := Lib.hid (into_any (.slice va os'.length vc) os' q wr (Row.of_owns ho) (by omega))
                obtain ⟨os2, HO2⟩ : ∃ os2, Hid (into os' q = os2) := ⟨_, Lib.hid rfl⟩
                rw [HO2.out] at HIN
                have HE : Hid (os2 = rowB n (fun b => o' b || decide (b = q))) := Lib.hid (by rw [← HO2.out, HOS.out, into_rowB (by omega) _ hqn])
                have hol2 : os2.length = os'.length + 1 := by rw [HE.out, HOS.out]; exact rowB_put_length HB2.out hqn
                have hol3 : os2.length ≤ n := by rw [HE.out]; exact rowB_length _ _
                have hT' : T'.length ≤ n := by omega
                have hos2 : os2 ≠ os' := fun h => by rw [h] at hol2; omega
                have HNE := Lib.hid hos2
                have HOL2 := Lib.hid hol2
                clear hos2 hol2
                go_wp2_with fail
                refine HH1.out.mono ?_
                rintro e1 w' ⟨rfl, rfl⟩
                go_wp2_with fail
                refine HH2.out.mono ?_
                rintro e1 w' ⟨rfl, rfl⟩
                go_wp2_with fail
                refine HIN.out.mono ?_
                rintro e1 w3 ⟨u3, rfl, hu3, hb3⟩
                have ho3 : w3.ownsRow wr.heap.size 2 1 u3 os2.length (ints os2) := by
                  rcases hu3 with ⟨_, h⟩ | ho3
                  · exact (HNE.out h).elim
                  · exact ho3
                obtain ⟨wa, wc, rfl⟩ := owns_shape ho3
                have hb4 := hb.trans (hb3.mono (by omega))
                have hq3 := hq.below hb3
                have hz3 := hb3.size
                have hkb : kg < wr.heap.size := (hq.lt rfl).2
                clear hu3 hb3 HIN ho hq hb hbw hcg VGr hcy hc
                go_wp2_with (at_builtin; refine wpList_qpush _ rfl _ _ 26 rfl (B + 1) 2 _ _ 8 Try.underlying26 infoI rfl (.slice (some ⟨kg, ko, none⟩) T'.length kc) T'.length (natInts T') rfl (natInts_length _) hq3 _ rfl rfl (by unfold maxLen; omega) (by omega) (by omega) ?_; intro g' o4 c' w4 hq4 hg hwh)
                have hne4 : (Value.slice wa os2.length wc).ownBlock ≠ (Value.slice (some ⟨g', o4, none⟩) (T'.length + 1) c').ownBlock := fun h => by
                  obtain ⟨h1, h2⟩ := owns_lt ho3 (b := g') (by rw [h]; rfl)
                  rcases hwh with hwh | hwh
                  · simp [Value.ownBlock] at hwh; omega
                  · omega
                have ho4 : w4.ownsRow (B + 1) 2 1 (.slice wa os2.length wc) os2.length (ints os2) := owns_base (ho3.kept hg (.inr fun h => by
                  have := owns_lt ho3 (b := kg) (by rw [h]; rfl)
                  omega)) (by omega)
                have hb5 := hb4.grown hg (by omega) (fun b hb' => (hq3.lt hb').1)
                have hq5 : Qu w4 (B + 1) 2 (.slice (some ⟨g', o4, none⟩) (T'.length + 1) c') (natInts (T' ++ [q])) := by simpa [natInts, ints] using hq4
                clear hq4 hg hwh hq3 ho3 hb4
                go_wp2_with fail
                go_roundw
                case rel => exact ⟨j + 1, os2, T' ++ [q], _, by omega, by go_num, HE, hol3, by have := HOL2.out; simp; omega, HPU, hne4, ho4, hq5, hb5⟩
                case measure => simp [intOf]; omega
        · obtain rfl : j = (rowB n p).length := by omega
          have HL := Lib.hid HI.out.leave
          go_wp2_with fail
          go_roundw
          case rel => exact ⟨os', T', o', HOS, hol', by omega, HL, hne, ho, hq, hb⟩
          case measure => simp [slLen]; omega

set_option maxHeartbeats 4000000 in
theorem l16Parts_t (g : Value) (n : Nat) (e : Nat → Nat → Bool) (hn : n ≤ 16) (v2 : Value) (p : Nat → Bool) (w : World) (hr : RdSS g (rowsB n e) w) (hp : RdS v2 (rowB n p) w) :
    Calls Try.prog 51 #[.agg #[g], v2, .bool true] w (SSRes w ((partsTo n (tur e) p n).map (rowB n))) := by
  obtain ⟨a, c, rfl⟩ := hr.shape
  obtain ⟨a2, c2, rfl, -, -, -⟩ := id hp
  rw [rowsB_length] at hr ⊢
  have hpl := rowB_length n p
  obtain ⟨B, hB⟩ : ∃ B, w.heap.size = B := ⟨_, rfl⟩
  obtain ⟨W0, hW0⟩ : ∃ W0, W0 = w.alloc (.cells #[.slice a n c] 42) := ⟨_, rfl⟩
  obtain ⟨W1, hW1⟩ : ∃ W1, W1 = W0.alloc (.cells #[] 26) := ⟨_, rfl⟩
  obtain ⟨W2, hW2⟩ : ∃ W2, W2 = W1.alloc (.cells #[] 2) := ⟨_, rfl⟩
  have hz0 : W0.heap.size = B + 1 := by simp [hW0, hB]
  have hz1 : W1.heap.size = B + 2 := by simp [hW1, hz0]
  have hz2 : W2.heap.size = B + 3 := by simp [hW2, hz1]
  have u0 : Below B w W0 := by rw [hW0, ← hB]; exact below_alloc' _ _
  have VG0 : VC 42 B #[.slice a n c] W0 := by rw [hW0]; exact VC.new hB
  have u1 : Below (B + 1) W0 W1 := by rw [hW1, ← hz0]; exact below_alloc' _ _
  have u2 : Below (B + 2) W1 W2 := by rw [hW2, ← hz1]; exact below_alloc' _ _
  have u02 : Below (B + 1) W0 W2 := u1.trans (u2.mono (by omega))
  have ho1 : W1.ownsRow (B + 1) 26 1 (.slice (some ⟨B + 1, 0, none⟩) 0 0) 0 [] := by
    rw [hW1, ← hz0]
    exact World.ownsRow_lit W0 #[] 0 (Nat.le_refl _) (by simp [maxLen]) rfl
  have hG1 : OwnG W2 (B + 1) 26 2 (.slice (some ⟨B + 1, 0, none⟩) 0 0) [] [] := OwnG.nil _ _ (by decide) (owns_below ho1 (hz1.symm ▸ u2))
  have ho2 : W2.ownsRow (B + 2) 2 1 (.slice (some ⟨B + 2, 0, none⟩) 0 0) 0 [] := by
    rw [hW2, ← hz1]
    exact World.ownsRow_lit W1 #[] 0 (Nat.le_refl _) (by simp [maxLen]) rfl
  have HD0 : Hid ([] = rowB n (doneB n (tur e) p 0)) := Lib.hid (by rw [rowB_ext (q := fun _ => false) fun i _ => by simp [doneB]]; simp [rowB])
  clear u1 u2 ho1
  go_enter Try.func51, Try.ntmps51
  go_wp2_with fail
  rw [← hW0, ← hW1, ← hW2]
  clear hW0 hW1 hW2
  have hbW : Below (B + 1) W2 W2 := Below.refl _ _
  go_loopw [7, 8, 9] (fun out dn i wr => ∃ (k J : Nat) (vs : List Value) (ds : List Int), k ≤ (rowB n p).length ∧ i = .int .i64 k ∧ J ≤ n ∧ vs.length ≤ J ∧ ds.length ≤ n ∧ Hid (Past n p k J) ∧ Hid (ds = rowB n (doneB n (tur e) p J)) ∧ OwnG wr (B + 1) 26 2 out vs (((partsTo n (tur e) p J).map (rowB n)).map ints) ∧ wr.ownsRow (B + 1) 2 1 dn ds.length (ints ds) ∧ Below (B + 1) W2 wr) (fun _ _ i _ => (rowB n p).length - (intOf i).toNat)
  case atStart => exact ⟨0, 0, [], [], Nat.zero_le _, rfl, Nat.zero_le _, Nat.le_refl _, Nat.zero_le _, Lib.hid (Past.start n p), HD0, hG1, by simpa [ints] using owns_base ho2 (by omega : B + 1 ≤ B + 2), hbW⟩
  case round =>
    clear hG1 ho2 hbW HD0
    obtain ⟨k, J, vs, ds, hk, rfl, hJn, hvl, hdl, HP, HDS, hG, ho, hb⟩ := hrel
    have hsz := hb.size
    have hbw := u0.trans ((u02.trans hb).mono (by omega))
    have VGr := VG0.belowAt (u02.trans hb) (by omega)
    have hcg := VGr.cell
    obtain ⟨da, dc, rfl⟩ := owns_shape ho
    by_cases hlt : k < (rowB n p).length
    · have hpr := RdS.below hp hbw hB
      obtain ⟨yb, yo, y, rfl, hcy, HY⟩ := Row.intAt hpr hlt
      obtain ⟨q, hqn, hpq, rfl⟩ := row_at HY.out
      obtain ⟨hyes, hno⟩ := parts_next (e := tur e) HP.out HY.out
      have HPN := Lib.hid (HP.out.next HY.out).2.2
      have hJq := (HP.out.next HY.out).1
      have HH := Lib.hid (has_any (.slice da ds.length dc) ds q wr (Row.of_owns ho))
      rw [show ds.contains (q : Int) = doneB n (tur e) p J q by rw [HDS.out, contains_rowB, decide_eq_true hqn, Bool.true_and]] at HH
      cases hd : doneB n (tur e) p J q with
      | true =>
        obtain ⟨h1, h2⟩ := hyes hd
        have HDS2 : Hid (ds = rowB n (doneB n (tur e) p (q + 1))) := Lib.hid (by rw [HDS.out]; exact rowB_ext fun i _ => (h2 i).symm)
        have H1 := Lib.hid h1
        rw [hd] at HH
        clear hd hyes hno h1 h2
        go_wp2_with fail
        refine HH.out.mono ?_
        rintro e1 w' ⟨rfl, rfl⟩
        go_wp2_with fail
        go_roundw
        case rel => exact ⟨k + 1, q + 1, vs, ds, by omega, by go_num, by omega, by omega, hdl, HPN, HDS2, by rw [H1.out]; exact hG, ho, hb⟩
        case measure => simp [intOf]; omega
      | false =>
        obtain ⟨h1, h2⟩ := hno hd
        have H1 := Lib.hid h1
        have H2 := Lib.hid h2
        rw [hd] at HH
        have HRE := Lib.hid (l16Reach_t (.slice a n c) n e hn (.slice (some ⟨yb, yo, none⟩) (rowB n p).length c2) p q hqn q rfl wr.drew ((hr.below hbw hB).below (below_drewN' wr 1) rfl) (Row.below hpr (below_drewN' wr 1)))
        obtain ⟨xs, HXS⟩ : ∃ xs, Hid (rowB n (wayB n (tur e) p q) = xs) := ⟨_, Lib.hid rfl⟩
        rw [HXS.out] at HRE
        have hxl : xs.length ≤ n := by rw [← HXS.out]; exact rowB_length _ _
        clear hd hyes hno h1 h2
        go_wp2_with fail
        refine HH.out.mono ?_
        rintro e1 w' ⟨rfl, rfl⟩
        go_wp2_with fail
        refine wp_region_ord [1, 2, 3, 4, 6] [0, 5] [] [7, 8] (by kernel_rfl) (by kernel_rfl) (fun _ _ d _ _ h => by cases d <;> exact h) ?_
        simp only [pickOps, List.filterMap_cons, List.filterMap_nil, List.getElem?_cons_succ, List.getElem?_cons_zero]
        repeat quiet_step (fail)
        simp only [wpQuiet_nil_eq, wpSegs_nil_eq]
        go_wp2_with fail
        refine HRE.out.mono ?_
        rintro e1 w1 ⟨u1, rfl, hL1, hb1⟩
        obtain ⟨la, lc, rfl⟩ := owns_shape hL1
        have hb1' := below_drew hb1
        have hRL := Row.of_owns hL1
        have hz1' : wr.heap.size ≤ w1.heap.size := hb1'.size
        have ho1 := owns_below ho hb1'
        obtain ⟨C, hC⟩ : ∃ C, w1.heap.size = C := ⟨_, rfl⟩
        have hcl : Below C w1 w1 := Below.refl _ _
        have HDa : Hid (ds = rowB n (fun b => doneB n (tur e) p J b || inL (xs.take 0) b)) := Lib.hid (by rw [HDS.out]; exact rowB_ext fun i _ => by rw [List.take_zero, inL_nil, Bool.or_false])
        clear HRE hb1 HH hcg hcy
        go_wp2_with fail
        generalize wr = w9 at *
        go_loopw [8, 11] (fun dn i wr' => ∃ (m : Nat) (ds' : List Int), m ≤ xs.length ∧ i = .int .i64 m ∧ ds'.length ≤ n ∧ Hid (ds' = rowB n (fun b => doneB n (tur e) p J b || inL (xs.take m) b)) ∧ wr'.ownsRow (B + 1) 2 1 dn ds'.length (ints ds') ∧ Below C w1 wr') (fun _ i _ => xs.length - (intOf i).toNat)
        case atStart => exact ⟨0, ds, Nat.zero_le _, rfl, hdl, HDa, ho1, hcl⟩
        case round =>
          clear hcl ho1 HDa
          obtain ⟨m, ds', hm, rfl, hdl', HDS', ho', hb'⟩ := hrel
          have hsz' := hb'.size
          obtain ⟨va, vc, rfl⟩ := owns_shape ho'
          have hRr := Row.below hRL (hC.symm ▸ hb')
          by_cases hlm : m < xs.length
          · obtain ⟨xb, xo, x, rfl, hcx, HX⟩ := Row.intAt hRr hlm
            obtain ⟨t, htn, HTE⟩ : ∃ t : Nat, t < n ∧ Hid (x = t) := by
              have h := HX.out
              rw [← HXS.out] at h
              obtain ⟨t, h1, _, h3⟩ := row_at h
              exact ⟨t, h1, Lib.hid h3⟩
            have HIN := Lib.hid (into_any (.slice va ds'.length vc) ds' x wr (Row.of_owns ho') (by omega))
            obtain ⟨ds2, HD2⟩ : ∃ l, Hid (into ds' x = l) := ⟨_, Lib.hid rfl⟩
            rw [HD2.out] at HIN
            have HE : Hid (ds2 = rowB n (fun b => doneB n (tur e) p J b || inL (xs.take (m + 1)) b)) := Lib.hid (by
              have hx := HX.out
              rw [HTE.out] at hx
              rw [← HD2.out, HDS'.out, HTE.out, into_rowB (by omega) _ htn, inL_take_succ hx]
              exact rowB_ext fun i _ => by rw [Bool.or_assoc])
            have hdl2 : ds2.length ≤ n := by rw [HE.out]; exact rowB_length _ _
            go_wp2_with fail
            refine HIN.out.mono ?_
            rintro e1 w3 ⟨u3, rfl, hu3, hb3⟩
            have ho3 : w3.ownsRow (B + 1) 2 1 u3 ds2.length (ints ds2) := by
              rcases hu3 with ⟨rfl, hos⟩ | ho3
              · rw [hos]; exact owns_below ho' hb3
              · exact owns_base ho3 (by omega)
            have hb4 := hb'.trans (hb3.mono (by omega))
            clear hu3 hb3 ho' hb' HIN
            go_wp2_with fail
            go_roundw
            case rel => exact ⟨m + 1, ds2, by omega, by go_num, hdl2, HE, ho3, hb4⟩
            case measure => simp [intOf]; omega
          · obtain rfl : m = xs.length := by omega
            have HE : Hid (ds' = rowB n (doneB n (tur e) p (q + 1))) := Lib.hid (by
              rw [HDS'.out, List.take_length]
              refine rowB_ext fun i hi => ?_
              rw [H2.out, ← HXS.out, inL_rowB hi])
            have hbs := run_buildOne (P := Try.prog) wr 32 26 _ (.slice la xs.length lc) _ Try.underlying32 infoR rfl rfl
            have hbr : Below w9.heap.size w9 wr := hb1'.trans (hb'.mono (by omega))
            have hlt2 : ∀ b, u7.ownBlock = some b → B + 1 ≤ b := fun b hb => (owns_lt hG.outer hb).1
            have hun : ∀ b, (Value.slice va ds'.length vc).ownBlock = some b → u7.ownBlock ≠ some b := fun b hbb h => owns_unlike (hG.below hbr).outer ho' (by decide) h hbb
            go_wp2_with (at_builtin; refine wpList_push _ rfl _ _ 32 rfl (B + 1) 26 _ _ 24 Try.underlying32 infoR rfl _ _ _ rfl (hG.below hbr).outer _ rfl rfl (by unfold maxLen; omega) (by omega) (by omega) ?_; intro g2 c3 w2 ho2 hg2)
            have hG2 := hG.push (cs := ints xs) hbr (by simpa using owns_below hL1 (hC.symm ▸ hb')) (by exact Nat.le_refl _) (by omega) ho2 hg2
            have hb2 : Below (B + 1) W2 w2 := (hb.trans (hbr.mono (by omega))).grown hg2 (by omega) hlt2
            have ho5 : w2.ownsRow (B + 1) 2 1 (.slice va ds'.length vc) ds'.length (ints ds') := by
              refine ho'.kept hg2 ?_
              cases hv : (Value.slice va ds'.length vc).ownBlock with
              | none => exact .inl rfl
              | some b => exact .inr fun h => hun b hv h.symm
            clear hbs hG ho2 hg2 ho' hb' hbr hun hb1' ho hb hL1 hlt2
            go_wp2_with fail
            go_roundw
            case rel =>
              refine ⟨k + 1, q + 1, vs ++ [.slice la xs.length lc], ds', by omega, by go_num, by omega, by simp; omega, hdl', HPN, HE, ?_, ho5, hb2⟩
              rw [H1.out, List.map_append, List.map_append]
              simp only [List.map_cons, List.map_nil, HXS.out]
              exact hG2
            case measure => simp [intOf]; omega
    · obtain rfl : k = (rowB n p).length := by omega
      have HA := Lib.hid (parts_all (e := tur e) hJn HP.out)
      obtain ⟨ua, uc, rfl⟩ := owns_shape hG.outer
      go_wp2_with fail
      go_ret
      exact ⟨_, vs, rfl, by rw [hB, HA.out]; exact hG.rebase (by omega), by rw [hB]; exact hbw⟩
end Go.Proofs.Ytpfhflkpnjkgkaa
