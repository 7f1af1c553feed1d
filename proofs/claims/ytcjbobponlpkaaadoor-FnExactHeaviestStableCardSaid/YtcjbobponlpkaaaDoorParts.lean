/-
  The program's 'partsOf' and 'results'.
-/
import Derived.Test.YtcjbobponlpkaaaDoorReach
namespace Go.Proofs.YtcjbobponlpkaaaDoor
open Go.RowKit

/-- The parts of a set as masks. -/
noncomputable def partsM (n : Nat) (e : Nat → Nat → Bool) (p : Nat → Bool) (j : Nat) : List Nat := (partsTo n e p j).map (maskB n)
theorem partsM_length (n : Nat) (e : Nat → Nat → Bool) (p : Nat → Bool) (j : Nat) : (partsM n e p j).length = (partsTo n e p j).length := by simp [partsM]
theorem sets_snoc (ms : List Nat) (x : Nat) : sets (ms ++ [x]) = sets ms ++ [.int .u32 (x : Nat)] := by simp [sets]

/-- The least one of what is left: the next part. -/
theorem parts_step {n : Nat} {e : Nat → Nat → Bool} {p : Nat → Bool} (hn : n ≤ 16) (hA : Adj n e) (hpn : ∀ b, p b = true → b < n) {J m : Nat} (hm : m = maskB n (leftB n e p J)) (h0 : m ≠ 0) :
    low m < n ∧ wayB n e (leftB n e p J) (low m) = wayB n e p (low m) ∧ partsTo n e p (low m + 1) = partsTo n e p J ++ [wayB n e p (low m)] ∧ (∀ b, leftB n e p (low m + 1) b = (leftB n e p J b && !wayB n e p (low m) b)) ∧ leftB n e p J (low m) = true := by
  have hm32 : m < 2 ^ 32 := by rw [two32, hm]; exact maskB_small (by omega) _
  obtain ⟨_, h2, h3⟩ := low_spec h0 hm32
  generalize low m = l at *
  rw [hm, testBit_maskB, Bool.and_eq_true, decide_eq_true_eq] at h2
  have hlow : ∀ i, J ≤ i → i < l → leftB n e p J i = false := fun i _ hi => by
    have := h3 i hi
    rw [hm, testBit_maskB] at this
    simpa [show i < n by omega] using this
  have hJl := (leftB_ge h2.2).1
  obtain ⟨g1, g2⟩ := jumpLeft hJl hlow
  have e1 := leftB_of_done g2
  have hl : leftB n e p l l = true := by rw [e1]; exact h2.2
  refine ⟨h2.1, ?_, ?_, fun b => ?_, h2.2⟩
  · rw [← e1]; exact wayB_left hA hpn hl
  · rw [partsTo_yes hl, g1]
  · rw [leftB_yes hl, e1]
theorem parts_end {n : Nat} {e : Nat → Nat → Bool} {p : Nat → Bool} {J : Nat} (hJ : J ≤ n) (h : maskB n (leftB n e p J) = 0) : partsTo n e p n = partsTo n e p J :=
  (jumpLeft hJ fun i _ hi => maskB_eq_zero.1 h i hi).1
theorem mask_less {n : Nat} {o o' : Nat → Bool} {l : Nat} (hl : l < n) (h0 : o l = true) (h1 : o' l = false) (h : ∀ b, o' b = true → o b = true) : maskB n o' < maskB n o := by
  refine Nat.lt_of_le_of_ne (mask_le h) fun he => ?_
  have := mask_eq_iff.1 he l hl
  rw [h0, h1] at this
  cases this

set_option maxHeartbeats 2000000 in
theorem partsOf_any (v : Value) (n : Nat) (e : Nat → Nat → Bool) (hn : n ≤ 16) (hA : Adj n e) (p : Nat → Bool) (hpn : ∀ b, p b = true → b < n) (z : Int) (hz : z = (maskB n p : Nat)) (w : World) (ht : Tab w) (hr : Row w 1 v n (sets (NB n e))) :
    Calls Tryd.prog 72 #[v, .int .u32 z] w fun r w' => ∃ u, r = .returned u ∧ w'.ownsRow w.heap.size 53 1 u (partsM n e p n).length (sets (partsM n e p n)) ∧ Below w.heap.size w w' := by
  obtain ⟨a, c, rfl, -, -, -⟩ := id hr
  obtain ⟨B, hB⟩ : ∃ B, w.heap.size = B := ⟨_, rfl⟩
  have hTB : 0 < B := by rw [← hB]; exact ht.lt
  obtain ⟨m0, HM0⟩ : ∃ m : Nat, Hid (m = maskB n (leftB n e p 0)) := ⟨_, Lib.hid rfl⟩
  obtain rfl : z = (m0 : Int) := by rw [hz, HM0.out, leftB_zero]
  have HA := Lib.hid (And.intro hA hpn)
  clear hz hA hpn
  have ho0 : (w.alloc (.cells #[] 53)).ownsRow B 53 1 (.slice (some ⟨B, 0, none⟩) 0 0) 0 [] := by subst hB; exact World.ownsRow_lit w #[] 0 (Nat.le_refl _) (by simp [maxLen]) rfl
  have hb0 : Below B w (w.alloc (.cells #[] 53)) := by subst hB; exact (Below.refl _ _).alloc (Nat.le_refl _) _
  go_enter Tryd.func72, Tryd.ntmps72
  go_wp2_with fail
  go_loopw [1, 5] (fun t u wr => ∃ (m J : Nat) (L : List Nat), t = .int .u32 m ∧ J ≤ n ∧ L.length ≤ J ∧ Hid (m = maskB n (leftB n e p J)) ∧ Hid (L = partsM n e p J) ∧ wr.ownsRow B 53 1 u L.length (sets L) ∧ Below B w wr) (fun t _ _ => (intOf t).toNat)
  case atStart => exact ⟨m0, 0, [], rfl, Nat.zero_le _, Nat.le_refl _, HM0, Lib.hid rfl, ho0, hb0⟩
  case round =>
    clear ho0 hb0
    obtain ⟨m, J, L, rfl, hJ, hL, HM, HL, ho, hb⟩ := hrel
    have hsz := hb.size
    have hm32 : m < 4294967296 := by rw [HM.out]; exact maskB_small (by omega) _
    by_cases h0 : m = 0
    · have hd : ((m : Int) != 0) = false := by simp [h0]
      have HF : Hid (L = partsM n e p n) := Lib.hid (by
        rw [HL.out]
        unfold partsM
        rw [parts_end hJ (by rw [← HM.out]; exact h0)])
      clear h0
      go_wp2_with fail
      go_ret
      rw [← HF.out]
      exact ⟨_, rfl, by rw [hB]; exact ho, by rw [hB]; exact hb⟩
    · have hd : ((m : Int) != 0) = true := by simpa using h0
      obtain ⟨hln, hway, hparts, hleft, hll⟩ := parts_step hn HA.out.1 HA.out.2 HM.out h0
      have HLE := Lib.hid (least_any m h0 hm32 wr (ht.keep hb hTB))
      obtain ⟨l, hl⟩ : ∃ l, low m = l := ⟨_, rfl⟩
      rw [hl] at hln hway hparts hleft HLE hll
      obtain ⟨mi, HMI⟩ : ∃ z : Int, Hid ((m : Int) = z) := ⟨_, Lib.hid rfl⟩
      have HRE := Lib.hid (reach_any (.slice a n c) n e hn (leftB n e p J) l hln l rfl mi (by rw [← HMI.out, HM.out]) wr (ht.keep hb hTB) (hr.below (hB.symm ▸ hb)))
      rw [hway] at HRE
      obtain ⟨y, HY⟩ : ∃ y : Nat, Hid (y = maskB n (wayB n e p l)) := ⟨_, Lib.hid rfl⟩
      rw [← HY.out] at HRE
      obtain ⟨m2, HM2⟩ : ∃ y : Nat, Hid (y = maskB n (leftB n e p (l + 1))) := ⟨_, Lib.hid rfl⟩
      have HLT : Hid (m2 < m) := Lib.hid (by
        rw [HM2.out, HM.out]
        exact mask_less hln hll (by rw [hleft, wayB_iff.2 Way.here]; simp) fun b hb => by rw [hleft, Bool.and_eq_true] at hb; exact hb.1)
      have hbo : bits BinOp.andNot IntKind.u32 mi (y : Int) = (m2 : Int) := by
        rw [← HMI.out, HM.out, HY.out, HM2.out, mask_andNot (by omega)]
        congr 1
        exact maskB_ext fun i _ => (hleft i).symm
      have HL2 : Hid (L ++ [y] = partsM n e p (l + 1)) := Lib.hid (by
        rw [HL.out, HY.out]
        unfold partsM
        rw [hparts, List.map_append]
        rfl)
      have hJl : J ≤ l := (leftB_ge hll).1
      have hlen : L.length + 1 ≤ l + 1 := by omega
      rw [HMI.out] at hd HLE ⊢
      clear hway hparts hleft hll hl h0
      go_wp2_with fail
      refine HLE.out.mono ?_
      rintro e1 w' ⟨rfl, rfl⟩
      go_wp2_with fail
      refine HRE.out.mono ?_
      rintro e1 w1 ⟨rfl, hb1⟩
      have hb01 := hb.trans (hb1.mono (by omega))
      have ho1 := owns_below ho hb1
      have hsz1 := hb1.size
      clear HRE HLE hb ho hb1
      go_wp2_with (at_builtin; refine wpList_push _ rfl _ _ 55 rfl B 53 _ _ 4 Tryd.underlying55 infoV rfl _ _ _ rfl ho1 _ rfl rfl (by unfold maxLen; omega) (by omega) (by omega) ?_; intro g' c' w2 ho2 hg)
      go_roundw
      case rel => exact ⟨m2, l + 1, L ++ [y], rfl, by omega, by simp; omega, HM2, HL2, by rw [sets_snoc]; simpa using ho2, hb01.grown hg (by omega) fun b hb' => (owns_lt ho1 hb').1⟩
      case measure => rw [← HMI.out]; have := HLT.out; simp [intOf]; omega

set_option maxHeartbeats 1000000 in
theorem results_any (v : Value) (ms : List Nat) (hs : Small ms) (hn : ms.length ≤ 1000000) (w : World) (ht : Tab w) (hr : Row w 1 v ms.length (sets ms)) :
    Calls Tryd.prog 71 #[v] w (SSRes w (rowsOf ms)) := by
  obtain ⟨a, c, rfl, h1, h2, -⟩ := id hr
  obtain ⟨B, hB⟩ : ∃ B, w.heap.size = B := ⟨_, rfl⟩
  have hTB : 0 < B := by rw [← hB]; exact ht.lt
  have ho0 : (w.alloc (.cells #[] 25)).ownsRow B 25 1 (.slice (some ⟨B, 0, none⟩) 0 0) 0 [] := by subst hB; exact World.ownsRow_lit w #[] 0 (Nat.le_refl _) (by simp [maxLen]) rfl
  have hb0 : Below B w (w.alloc (.cells #[] 25)) := by subst hB; exact (Below.refl _ _).alloc (Nat.le_refl _) _
  have hG0 : OwnG (w.alloc (.cells #[] 25)) B 25 2 (.slice (some ⟨B, 0, none⟩) 0 0) [] [] := OwnG.nil _ _ (by decide) ho0
  go_enter Tryd.func71, Tryd.ntmps71
  go_wp2_with fail
  go_loopw [3, 9] (fun u i wr => ∃ (k : Nat) (vs : List Value), k ≤ ms.length ∧ i = .int .i64 k ∧ OwnG wr B 25 2 u vs ((rowsOf (ms.take k)).map ints) ∧ Below B w wr) (fun _ i _ => ms.length - (intOf i).toNat)
  case atStart => exact ⟨0, [], Nat.zero_le _, rfl, hG0, hb0⟩
  case round =>
    clear hb0 ho0 hG0
    obtain ⟨k, vs, hk, rfl, hG, hb⟩ := hrel
    have hsz := hb.size
    have hlen := hG.len
    have hlk : vs.length ≤ k := by rw [hlen]; simp [rowsOf]; omega
    have HL := Lib.hid hlen
    clear hlen
    by_cases hlt : k < ms.length
    · obtain ⟨b, o, x, rfl, hc, HX⟩ := (hr.below (hB.symm ▸ hb)).setAt hlt
      have hxs : x < 4294967296 := hs x (List.mem_of_getElem? HX.out)
      have HNU := Lib.hid (numbers_any x hxs wr (ht.keep hb hTB))
      go_wp2_with fail
      refine HNU.out.mono ?_
      rintro e w1 ⟨v', rfl, ho1, hb1⟩
      obtain ⟨ga, gc, rfl⟩ := owns_shape ho1
      have hbs := run_buildOne (P := Tryd.prog) w1 22 25 _ (.slice ga (nums x).length gc) _ Tryd.underlying22 infoR rfl rfl
      have hsz1 := hb1.size
      have hlt2 : ∀ b, u3.ownBlock = some b → B ≤ b := fun b hb => (owns_lt hG.outer hb).1
      go_wp2_with (at_builtin; refine wpList_push _ rfl _ _ 22 rfl B 25 _ _ 24 Tryd.underlying22 infoR rfl _ _ _ rfl (hG.below hb1).outer _ rfl rfl (by unfold maxLen; omega) (by omega) (by omega) ?_; intro g2 c2 w2 ho2 hg2)
      have hG2 := hG.push (cs := ints (nums x)) hb1 (by simpa using ho1) (Nat.le_refl _) (by omega) ho2 hg2
      have hb2 : Below B w w2 := (hb.trans (hb1.mono (by omega))).grown hg2 (by omega) hlt2
      clear hG ho2 hg2 hc hb hb1 ho1 hlt2 hbs HNU
      go_wp2_with fail
      go_roundw
      case rel =>
        refine ⟨k + 1, vs ++ [.slice ga (nums x).length gc], by omega, by go_num, ?_, hb2⟩
        rw [take_snoc HX.out]
        simpa [rowsOf] using hG2
      case measure => simp [intOf]; omega
    · obtain rfl : k = ms.length := by omega
      rw [List.take_length] at hG
      obtain ⟨ua, uc, rfl⟩ := owns_shape hG.outer
      go_wp2_with fail
      go_ret
      exact ⟨_, vs, rfl, by rw [hB]; exact hG, by rw [hB]; exact hb⟩
end Go.Proofs.YtcjbobponlpkaaaDoor
