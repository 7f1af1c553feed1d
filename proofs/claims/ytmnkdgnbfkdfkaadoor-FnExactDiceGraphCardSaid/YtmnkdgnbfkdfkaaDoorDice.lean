/-
  'DiceGraph' of the reference and of the program.
-/
import Derived.Test.YtmnkdgnbfkdfkaaDoorPath
namespace Go.Proofs.YtmnkdgnbfkdfkaaDoor
open Go.RowKit

/-- The next number drawn. -/
def diceN (s : Nat) : Nat := (s * 48271 + 11) % 999999937
theorem diceN_lt (s : Nat) : diceN s < 999999937 := Nat.mod_lt _ (by omega)
def diceS (l v : Nat) (st : Nat × List Nat) (u : Nat) : Nat × List Nat := (diceN st.1, if diceN st.1 % 100 < l then joinS st.2 u v else st.2)
def diceR (l v k : Nat) (st : Nat × List Nat) : Nat × List Nat := (List.range k).foldl (diceS l v) st
def diceM (n l s k : Nat) : Nat × List Nat := (List.range k).foldl (fun st v => diceR l v v st) (s, List.replicate n 0)
theorem diceR_succ (l v k : Nat) (st : Nat × List Nat) : diceR l v (k + 1) st = diceS l v (diceR l v k st) k := by simp [diceR, List.range_succ]
theorem diceM_succ (n l s k : Nat) : diceM n l s (k + 1) = diceR l k k (diceM n l s k) := by simp [diceM, List.range_succ]
@[simp] theorem diceS_length (l v : Nat) (st : Nat × List Nat) (u : Nat) : (diceS l v st u).2.length = st.2.length := by unfold diceS; dsimp only; split <;> simp
@[simp] theorem diceR_length (l v k : Nat) (st : Nat × List Nat) : (diceR l v k st).2.length = st.2.length := by
  induction k with
  | zero => simp [diceR]
  | succ k ih => rw [diceR_succ]; simp [ih]
@[simp] theorem diceM_length (n l s k : Nat) : (diceM n l s k).2.length = n := by
  induction k with
  | zero => simp [diceM]
  | succ k ih => rw [diceM_succ]; simp [ih]
theorem diceR_lt (l v k : Nat) (st : Nat × List Nat) (h : st.1 < 999999937) : (diceR l v k st).1 < 999999937 := by
  cases k with
  | zero => simpa [diceR] using h
  | succ k => rw [diceR_succ]; exact diceN_lt _
theorem diceM_lt (n l s k : Nat) (h : s < 999999937) : (diceM n l s k).1 < 999999937 := by
  induction k with
  | zero => simpa [diceM] using h
  | succ k ih => rw [diceM_succ]; exact diceR_lt _ _ _ _ ih

/-- The first number, from the seed. -/
theorem seed_nat (seed : Int) : ∃ s : Nat, s < 999999937 ∧ ∃ r : Int, Int.tmod seed 999999937 = r ∧ -999999937 < r ∧ r < 999999937 ∧ (r < 0 → (s : Int) = r + 999999937) ∧ (¬ r < 0 → (s : Int) = r) := by
  have h1 := Int.tmod_lt_of_pos seed (show (0 : Int) < 999999937 by omega)
  have h2 := Int.lt_tmod_of_pos seed (show (0 : Int) < 999999937 by omega)
  by_cases h : Int.tmod seed 999999937 < 0
  · obtain ⟨s, hs⟩ := Int.eq_ofNat_of_zero_le (show 0 ≤ Int.tmod seed 999999937 + 999999937 by omega)
    exact ⟨s, by omega, _, rfl, by omega, by omega, fun _ => by omega, fun h' => absurd h h'⟩
  · obtain ⟨s, hs⟩ := Int.eq_ofNat_of_zero_le (show 0 ≤ Int.tmod seed 999999937 by omega)
    exact ⟨s, by omega, _, rfl, by omega, by omega, fun h' => absurd h' h, fun _ => by omega⟩

theorem seed_again (r : Int) (s : Nat) (hs : s < 999999937) (h1 : -999999937 < r) (h2 : r < 999999937) (hneg : r < 0 → (s : Int) = r + 999999937) (hpos : ¬ r < 0 → (s : Int) = r) : Int.tmod (r + 999999937) 999999937 = (s : Int) := by
  rw [Int.tmod_eq_emod_of_nonneg (by omega)]
  omega

set_option maxHeartbeats 1000000 in
theorem specDice_yes (seed r : Int) (s n l : Nat) (hs : s < 999999937) (hr : Int.tmod seed 999999937 = r) (hr1 : -999999937 < r) (hr2 : r < 999999937) (hneg : r < 0 → (s : Int) = r + 999999937) (hpos : ¬ r < 0 → (s : Int) = r)
    (h1 : 1 ≤ n) (h2 : n ≤ 16) (hl : l ≤ 100) (w : World) :
    Calls Tryd.prog 26 #[.int .i64 seed, .int .i64 n, .int .i64 l] w (GRes w (rowsOf (diceM n l s n).2) true) := by
  have hin : decide ((0 : Int) ≤ l ∧ (l : Int) ≤ 100) = true := by simp; omega
  obtain ⟨B, hBe⟩ : ∃ B, w.heap.size = B := ⟨_, rfl⟩
  have hR0 : GC (w.alloc (.cells #[.slice none 0 0] 28)) B (.slice none 0 0) := by subst hBe; exact GC.new _ _
  go_enter Tryd.func26, Tryd.ntmps26
  go_wp2_with fail
  refine (of_yes n h1 h2 _).mono ?_
  rintro e w1 ⟨u, vs, rfl, hG, hb1⟩
  obtain ⟨ga, gc, rfl⟩ := owns_shape hG.outer
  have hvl : vs.length = n := by rw [hG.len]; simp
  rw [hvl] at hG ⊢
  have hS := SG.ofRes (ms := (diceM n l s 1).2) hBe hR0 hG hb1 (by simp)
  obtain ⟨C, hCe⟩ : ∃ C, w1.heap.size = C := ⟨_, rfl⟩
  rw [hCe] at hS
  clear hG hb1 hvl hR0
  go_wp2_with fail
  refine (l1In_any _ _ _ _).mono ?_
  rintro e w' ⟨rfl, rfl⟩
  rw [hin]
  go_wp2_with fail
  all_goals
    first | rw [show decide (r < 0) = true by simp; omega] | rw [show decide (r < 0) = false by simp; omega]
    go_loopw [11, 10] (fun iv nw wr => ∃ (k : Nat) (vs : List Value), 1 ≤ k ∧ k ≤ n ∧ iv = .int .i64 (k : Int) ∧ nw = .int .i64 ((diceM n l s k).1 : Int) ∧ SG w B C ga n gc vs (diceM n l s k).2 wr) (fun iv _ _ => n - (intOf iv).toNat)
    case atStart =>
      refine ⟨1, vs, by omega, by omega, rfl, ?_, hS⟩
      have : ((diceM n l s 1).1 : Int) = s := by simp [diceM, diceR]
      rw [this]
      first | rw [hneg (by omega)] | rw [hpos (by omega)]
    case round =>
      obtain ⟨k, vs', hk1, hk, rfl, rfl, hS⟩ := hrel
      by_cases hlt : k < n
      · go_wp2_with fail
        go_loopw [12, 10] (fun iv nw wr => ∃ (u : Nat) (vs : List Value), u ≤ k ∧ iv = .int .i64 (u : Int) ∧ nw = .int .i64 ((diceR l k u (diceM n l s k)).1 : Int) ∧ SG w B C ga n gc vs (diceR l k u (diceM n l s k)).2 wr) (fun iv _ _ => k - (intOf iv).toNat)
        case atStart => exact ⟨0, vs', by omega, rfl, rfl, hS⟩
        case round =>
          obtain ⟨u, vs2, hu, rfl, rfl, hS⟩ := hrel
          by_cases hlu : u < k
          · have htl := diceR_lt l k u _ (diceM_lt n l s k hs)
            have hnext := diceR_succ l k u (diceM n l s k)
            generalize diceR l k u (diceM n l s k) = st at *
            obtain ⟨t, ms⟩ := st
            dsimp only at htl hS
            obtain ⟨d, hd⟩ : ∃ d : Nat, diceN t = d := ⟨_, rfl⟩
            have hd1 : Int.tmod ((t : Int) * 48271 + 11) 999999937 = (d : Int) := by rw [← hd]; rfl
            obtain ⟨m, hm⟩ : ∃ m : Nat, d % 100 = m := ⟨_, rfl⟩
            have hm1 : Int.tmod (d : Int) 100 = (m : Int) := by rw [← hm]; rfl
            have hdl : d < 999999937 := by rw [← hd]; exact diceN_lt _
            have hml : m < 100 := by rw [← hm]; exact Nat.mod_lt _ (by omega)
            have hcC := hS.var.cell
            have hfC := hS.var.free
            simp only [diceS, hd, hm] at hnext
            have HN := Lib.hid hnext
            clear hnext hd hm
            by_cases hml2 : m < l
            · go_wp2_with fail
              refine (hS.link u k _ _ (by omega) (by omega) (by omega) (by omega) (by omega)).mono ?_
              rintro e w2 ⟨rfl, vs4, hS4⟩
              have hcC4 := hS4.var.cell
              have hfC4 := hS4.var.free
              go_wp2_with fail
              go_roundw
              case rel => exact ⟨u + 1, vs4, by omega, by go_num, by rw [HN.out], by rw [HN.out, if_pos hml2]; exact hS4.store⟩
              case measure => simp [intOf]; omega
            · go_wp2_with fail
              go_roundw
              case rel => exact ⟨u + 1, vs2, by omega, by go_num, by rw [HN.out], by rw [HN.out, if_neg hml2]; exact hS⟩
              case measure => simp [intOf]; omega
          · obtain rfl : u = k := by omega
            go_wp2_with fail
            go_roundw
            case rel => exact ⟨u + 1, vs2, by omega, by omega, by go_num, by rw [diceM_succ], by rw [diceM_succ]; exact hS⟩
            case measure => simp [intOf]; omega
      · have hcC := hS.var.cell
        have hcR := hS.res.cell
        have hfR := hS.res.free
        have hfin := hS.done hBe true
        have hce := (hS.res.set (.slice ga n gc)).cell
        obtain rfl : k = n := by omega
        have HF := Lib.hid hfin
        have HCE := Lib.hid hce
        clear hfin hce
        go_wp2_with fail
        refine bodyPost_ret (v := .tuple #[.agg #[.slice ga k gc], .bool true]) (by simp [results, Tryd.results26, go_sem, HCE.out]) rfl ?_
        exact HF.out

theorem specDice_no (seed n l : Int) (h : ¬ ((1 ≤ n ∧ n ≤ 16) ∧ (0 ≤ l ∧ l ≤ 100))) (w : World) :
    Calls Tryd.prog 26 #[.int .i64 seed, .int .i64 n, .int .i64 l] w (GRes w [] false) := by
  by_cases hp : 1 ≤ n ∧ n ≤ 16
  · obtain ⟨k, rfl⟩ := Int.eq_ofNat_of_zero_le (show 0 ≤ n by omega)
    have h1 : 1 ≤ k := by omega
    have h2 : k ≤ 16 := by omega
    have hin : decide (0 ≤ l ∧ l ≤ 100) = false := by
      have : ¬ (0 ≤ l ∧ l ≤ 100) := fun h' => h ⟨hp, h'⟩
      simpa using this
    clear h hp
    go_enter Tryd.func26, Tryd.ntmps26
    go_wp2_with fail
    refine (of_yes k h1 h2 _).mono ?_
    rintro e w1 ⟨u, vs, rfl, hG, hb1⟩
    obtain ⟨a, c, rfl⟩ := owns_shape hG.outer
    have hR0 := GC.new w (.slice none 0 0)
    have hR := (hR0.below hb1).alloc (.cells #[.slice a vs.length c] 28)
    have hb : Below w.heap.size w (w1.alloc (.cells #[.slice a vs.length c] 28)) := ((below_alloc _ _).trans (hb1.mono (by simp))).alloc (by have := hb1.size; simp at this; omega) _
    have hcR := hR.cell
    have hfR := hR.free
    have HCE := Lib.hid (hR.set (.slice none 0 0)).cell
    clear hG hb1
    go_wp2_with fail
    refine (l1In_any _ _ _ _).mono ?_
    rintro e w' ⟨rfl, rfl⟩
    rw [hin]
    go_wp2_with fail
    refine bodyPost_ret (v := .tuple #[.agg #[.slice none 0 0], .bool false]) (by simp [results, Tryd.results26, go_sem, HCE.out]) rfl ?_
    exact GRes.nothing _ _ (hb.setCell (by simp) _)
  · have H := Lib.hid hp
    clear hp h
    go_enter Tryd.func26, Tryd.ntmps26
    go_wp2_with fail
    refine (of_no n H.out _).mono ?_
    rintro e w1 ⟨u, vs, rfl, hG, hb1⟩
    obtain ⟨a, c, rfl⟩ := owns_shape hG.outer
    have hR0 := GC.new w (.slice none 0 0)
    have hR := (hR0.below hb1).alloc (.cells #[.slice a vs.length c] 28)
    have hb : Below w.heap.size w (w1.alloc (.cells #[.slice a vs.length c] 28)) := ((below_alloc _ _).trans (hb1.mono (by simp))).alloc (by have := hb1.size; simp at this; omega) _
    have hcR := hR.cell
    have hfR := hR.free
    have HCE := Lib.hid (hR.set (.slice none 0 0)).cell
    clear hG hb1
    go_wp2_with fail
    refine bodyPost_ret (v := .tuple #[.agg #[.slice none 0 0], .bool false]) (by simp [results, Tryd.results26, go_sem, HCE.out]) rfl ?_
    exact GRes.nothing _ _ (hb.setCell (by simp) _)

theorem implDice_no (seed n l : Int) (h : ¬ ((1 ≤ n ∧ n ≤ 16) ∧ (0 ≤ l ∧ l ≤ 100))) (w : World) :
    Calls Tryd.prog 27 #[.int .i64 seed, .int .i64 n, .int .i64 l] w (GRes w [] false) := by
  by_cases hp : 1 ≤ n ∧ n ≤ 16
  · have hin : decide (1 ≤ n ∧ n ≤ 16) = true := by simpa using hp
    have hin2 : decide (0 ≤ l ∧ l ≤ 100) = false := by
      have : ¬ (0 ≤ l ∧ l ≤ 100) := fun h' => h ⟨hp, h'⟩
      simpa using this
    clear h hp
    go_enter Tryd.func27, Tryd.ntmps27
    go_wp2_with fail
    refine (inRange_any _ _ _ _).mono ?_
    rintro e w' ⟨rfl, rfl⟩
    rw [hin]
    go_wp2_with fail
    refine (inRange_any _ _ _ _).mono ?_
    rintro e w' ⟨rfl, rfl⟩
    rw [hin2]
    go_wp2_with fail
    refine bodyPost_ret (v := .tuple #[.agg #[.slice none 0 0], .bool false]) (by simp [results, Tryd.results27, go_sem]) rfl ?_
    exact GRes.nothing _ _ (below_alloc _ _)
  · have hin : decide (1 ≤ n ∧ n ≤ 16) = false := by simpa using hp
    clear h hp
    go_enter Tryd.func27, Tryd.ntmps27
    go_wp2_with fail
    refine (inRange_any _ _ _ _).mono ?_
    rintro e w' ⟨rfl, rfl⟩
    rw [hin]
    go_wp2_with fail
    refine bodyPost_ret (v := .tuple #[.agg #[.slice none 0 0], .bool false]) (by simp [results, Tryd.results27, go_sem]) rfl ?_
    exact GRes.nothing _ _ (below_alloc _ _)

set_option maxHeartbeats 1000000 in
theorem implDice_yes (seed r : Int) (s n l : Nat) (hs : s < 999999937) (hr : Int.tmod seed 999999937 = r) (hr1 : -999999937 < r) (hr2 : r < 999999937) (hq : Int.tmod (r + 999999937) 999999937 = (s : Int))
    (h1 : 1 ≤ n) (h2 : n ≤ 16) (hl : l ≤ 100) (w : World) (ht : Tab w) :
    Calls Tryd.prog 27 #[.int .i64 seed, .int .i64 n, .int .i64 l] w (GRes w (rowsOf (diceM n l s n).2) true) := by
  have hin : decide ((1 : Int) ≤ n ∧ (n : Int) ≤ 16) = true := by simp; omega
  have hin2 : decide ((0 : Int) ≤ l ∧ (l : Int) ≤ 100) = true := by simp; omega
  obtain ⟨B, hBe⟩ : ∃ B, w.heap.size = B := ⟨_, rfl⟩
  have hR0 : GC (w.alloc (.cells #[.slice none 0 0] 28)) B (.slice none 0 0) := by subst hBe; exact GC.new _ _
  have hba : Below B w (w.alloc (.cells #[.slice none 0 0] 28)) := by subst hBe; exact below_alloc _ _
  have ht1 := ht.alloc (.cells #[.slice none 0 0] 28)
  go_enter Tryd.func27, Tryd.ntmps27
  go_wp2_with fail
  refine (inRange_any _ _ _ _).mono ?_
  rintro e w' ⟨rfl, rfl⟩
  rw [hin]
  go_wp2_with fail
  refine (inRange_any _ _ _ _).mono ?_
  rintro e w' ⟨rfl, rfl⟩
  rw [hin2]
  obtain ⟨W1, hW1⟩ : ∃ W, w.alloc (.cells #[.slice none 0 0] 28) = W := ⟨_, rfl⟩
  obtain ⟨B1, hB1⟩ : ∃ B, W1.heap.size = B := ⟨_, rfl⟩
  rw [hW1] at hR0 hba ht1 ⊢
  go_wp2_with (at_make; refine wpList_make _ rfl _ _ 43 rfl W1.heap.size 53 (.int .u32 0) 4 Tryd.underlying43 infoV rfl .i64 .i64 _ _ n rfl rfl (by omega) (by omega) (by omega) (by unfold maxLen; omega) (by simp) ?_; intro w1 ho1 hb1)
  have hN := NS.made ho1 hb1 (Nat.le_refl _) (Below.refl _ _)
  clear ho1 hb1
  simp only [hB1] at hN
  go_wp2_with fail
  go_loopw [29, 8] (fun iv nw wr => ∃ k : Nat, k ≤ n ∧ iv = .int .i64 (k : Int) ∧ nw = .int .i64 ((diceM n l s k).1 : Int) ∧ NS B1 W1 (.slice (some ⟨B1, 0, none⟩) n n) (diceM n l s k).2 wr) (fun iv _ _ => n - (intOf iv).toNat)
  case atStart => exact ⟨0, by omega, rfl, rfl, hN⟩
  case round =>
    obtain ⟨k, hk, rfl, rfl, hN⟩ := hrel
    by_cases hlt : k < n
    · go_wp2_with fail
      go_loopw [33, 8] (fun iv nw wr => ∃ (u : Nat), u ≤ k ∧ iv = .int .i64 (u : Int) ∧ nw = .int .i64 ((diceR l k u (diceM n l s k)).1 : Int) ∧ NS B1 W1 (.slice (some ⟨B1, 0, none⟩) n n) (diceR l k u (diceM n l s k)).2 wr) (fun iv _ _ => k - (intOf iv).toNat)
      case atStart => exact ⟨0, by omega, rfl, rfl, hN⟩
      case round =>
        obtain ⟨u, hu, rfl, rfl, hN⟩ := hrel
        by_cases hlu : u < k
        · have htl := diceR_lt l k u _ (diceM_lt n l s k hs)
          have hnext := diceR_succ l k u (diceM n l s k)
          have hlen : (diceR l k u (diceM n l s k)).2.length = n := by simp
          generalize diceR l k u (diceM n l s k) = st at *
          obtain ⟨t, ms⟩ := st
          dsimp only at htl hN hlen
          obtain ⟨d, hd⟩ : ∃ d : Nat, diceN t = d := ⟨_, rfl⟩
          have hd1 : Int.tmod (48271 * (t : Int) + 11) 999999937 = (d : Int) := by rw [← hd, Int.mul_comm]; rfl
          obtain ⟨m, hm⟩ : ∃ m : Nat, d % 100 = m := ⟨_, rfl⟩
          have hm1 : Int.tmod (d : Int) 100 = (m : Int) := by rw [← hm]; rfl
          have hdl : d < 999999937 := by rw [← hd]; exact diceN_lt _
          have hml : m < 100 := by rw [← hm]; exact Nat.mod_lt _ (by omega)
          have hNB : B1 ≤ wr.heap.size := by have := hN.bel.size; omega
          simp only [diceS, hd, hm] at hnext
          have HN := Lib.hid hnext
          clear hnext hd hm
          by_cases hml2 : m < l
          · go_wp2_with fail
            refine (hN.join hNB u k _ _ (by omega) (by omega) (by omega) (by omega) (by omega)).mono ?_
            rintro e w2 ⟨rfl, hN2, -⟩
            go_wp2_with fail
            go_roundw
            case rel => exact ⟨u + 1, by omega, by go_num, by rw [HN.out], by rw [HN.out, if_pos hml2]; exact hN2⟩
            case measure => simp [intOf]; omega
          · go_wp2_with fail
            go_roundw
            case rel => exact ⟨u + 1, by omega, by go_num, by rw [HN.out], by rw [HN.out, if_neg hml2]; exact hN⟩
            case measure => simp [intOf]; omega
        · obtain rfl : u = k := by omega
          go_wp2_with fail
          go_roundw
          case rel => exact ⟨u + 1, by omega, by go_num, by rw [diceM_succ], by rw [diceM_succ]; exact hN⟩
          case measure => simp [intOf]; omega
    · obtain rfl : k = n := by omega
      have hR1 := hR0.belowAt hN.bel (by subst hB1; exact hR0.lt)
      have hb1 : Below B w wr := hba.trans (hN.bel.mono (by have := hR0.lt; omega))
      go_wp2_with fail
      refine (hN.graph ht1 (by subst hB1; exact ht1.lt) (by simp; omega)).mono ?_
      rintro e w2 ⟨u, vs, rfl, hG, hb2⟩
      obtain ⟨ua, uc, rfl⟩ := owns_shape hG.outer
      have hR2 := hR1.below hb2
      have hcR := hR2.cell
      have hfR := hR2.free
      have HF := Lib.hid (GRes.stored hBe hR1 hb1 hG hb2 true)
      have HCE := Lib.hid (hR2.set (.slice ua vs.length uc)).cell
      clear hb2 hb1
      go_wp2_with fail
      refine bodyPost_ret (v := .tuple #[.agg #[.slice ua vs.length uc], .bool true]) (by simp [results, Tryd.results27, go_sem, HCE.out]) rfl ?_
      exact HF.out
end Go.Proofs.YtmnkdgnbfkdfkaaDoor
