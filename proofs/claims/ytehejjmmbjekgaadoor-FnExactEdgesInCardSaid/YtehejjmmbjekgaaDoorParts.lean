/-
  The program's 'partsOf' and 'results'.
-/
import Derived.Test.YtehejjmmbjekgaaDoorReach
namespace Go.Proofs.YtehejjmmbjekgaaDoor
open Go.RowKit

/-- The parts of a set as masks. -/
noncomputable def partsM (n : Nat) (e : Nat → Nat → Bool) (p : Nat → Bool) (j : Nat) : List Nat := (partsTo n e p j).map (maskB n)
theorem partsM_length (n : Nat) (e : Nat → Nat → Bool) (p : Nat → Bool) (j : Nat) : (partsM n e p j).length = (partsTo n e p j).length := by simp [partsM]
theorem sets_snoc (ms : List Nat) (x : Nat) : sets (ms ++ [x]) = sets ms ++ [.int .u32 (x : Nat)] := by simp [sets]

/-- The least one of what is left: the next part. -/
theorem parts_step {n : Nat} {e : Nat → Nat → Bool} {p : Nat → Bool} (hn : n ≤ 16) (hA : Adj n e) (hpn : ∀ b, p b = true → b < n) {J m : Nat} (hm : m = maskB n (leftB n e p J)) (h0 : m ≠ 0) :
    low m < n ∧ wayB n e (leftB n e p J) (low m) = wayB n e p (low m) ∧ partsTo n e p (low m + 1) = partsTo n e p J ++ [wayB n e p (low m)] ∧ (∀ b, leftB n e p (low m + 1) b = (leftB n e p J b && !wayB n e p (low m) b)) ∧ leftB n e p J (low m) = true := by
  have hm32 : m < 2 ^ 32 := by rw [two32, hm]; exact maskB_small (by omega) _
  obtain ⟨_, h2, h3⟩ := low_spec h0 hm32
  generalize low m = l at *
  rw [hm, testBit_maskB, Bool.and_eq_true, decide_eq_true_eq] at h2
  have hlow : ∀ i, J ≤ i → i < l → leftB n e p J i = false := fun i _ hi => by
    have := h3 i hi
    rw [hm, testBit_maskB] at this
    simpa [show i < n by omega] using this
  have hJl := (leftB_ge h2.2).1
  obtain ⟨g1, g2⟩ := jumpLeft hJl hlow
  have e1 := leftB_of_done g2
  have hl : leftB n e p l l = true := by rw [e1]; exact h2.2
  refine ⟨h2.1, ?_, ?_, fun b => ?_, h2.2⟩
  · rw [← e1]; exact wayB_left hA hpn hl
  · rw [partsTo_yes hl, g1]
  · rw [leftB_yes hl, e1]
theorem parts_end {n : Nat} {e : Nat → Nat → Bool} {p : Nat → Bool} {J : Nat} (hJ : J ≤ n) (h : maskB n (leftB n e p J) = 0) : partsTo n e p n = partsTo n e p J :=
  (jumpLeft hJ fun i _ hi => maskB_eq_zero.1 h i hi).1
theorem mask_less {n : Nat} {o o' : Nat → Bool} {l : Nat} (hl : l < n) (h0 : o l = true) (h1 : o' l = false) (h : ∀ b, o' b = true → o b = true) : maskB n o' < maskB n o := by
  refine Nat.lt_of_le_of_ne (mask_le h) fun he => ?_
  have := mask_eq_iff.1 he l hl
  rw [h0, h1] at this
  cases this

set_option maxHeartbeats 1000000 in
theorem results_any (v : Value) (ms : List Nat) (hs : Small ms) (hn : ms.length ≤ 1000000) (w : World) (ht : Tab w) (hr : Row w 1 v ms.length (sets ms)) :
    Calls Tryd.prog 89 #[v] w (SSRes w (rowsOf ms)) := by
  obtain ⟨a, c, rfl, h1, h2, -⟩ := id hr
  obtain ⟨B, hB⟩ : ∃ B, w.heap.size = B := ⟨_, rfl⟩
  have hTB : 0 < B := by rw [← hB]; exact ht.lt
  have ho0 : (w.alloc (.cells #[] 38)).ownsRow B 38 1 (.slice (some ⟨B, 0, none⟩) 0 0) 0 [] := by subst hB; exact World.ownsRow_lit w #[] 0 (Nat.le_refl _) (by simp [maxLen]) rfl
  have hb0 : Below B w (w.alloc (.cells #[] 38)) := by subst hB; exact (Below.refl _ _).alloc (Nat.le_refl _) _
  have hG0 : OwnG (w.alloc (.cells #[] 38)) B 38 2 (.slice (some ⟨B, 0, none⟩) 0 0) [] [] := OwnG.nil _ _ (by decide) ho0
  go_enter Tryd.func89, Tryd.ntmps89
  go_wp2_with fail
  go_loopw [3, 9] (fun u i wr => ∃ (k : Nat) (vs : List Value), k ≤ ms.length ∧ i = .int .i64 k ∧ OwnG wr B 38 2 u vs ((rowsOf (ms.take k)).map ints) ∧ Below B w wr) (fun _ i _ => ms.length - (intOf i).toNat)
  case atStart => exact ⟨0, [], Nat.zero_le _, rfl, hG0, hb0⟩
  case round =>
    clear hb0 ho0 hG0
    obtain ⟨k, vs, hk, rfl, hG, hb⟩ := hrel
    have hsz := hb.size
    have hlen := hG.len
    have hlk : vs.length ≤ k := by rw [hlen]; simp [rowsOf]; omega
    have HL := Lib.hid hlen
    clear hlen
    by_cases hlt : k < ms.length
    · obtain ⟨b, o, x, rfl, hc, HX⟩ := (hr.below (hB.symm ▸ hb)).setAt hlt
      have hxs : x < 4294967296 := hs x (List.mem_of_getElem? HX.out)
      have HNU := Lib.hid (numbers_any x hxs wr (ht.keep hb hTB))
      go_wp2_with fail
      refine HNU.out.mono ?_
      rintro e w1 ⟨v', rfl, ho1, hb1⟩
      obtain ⟨ga, gc, rfl⟩ := owns_shape ho1
      have hbs := run_buildOne (P := Tryd.prog) w1 22 38 _ (.slice ga (nums x).length gc) _ Tryd.underlying22 infoR rfl rfl
      have hsz1 := hb1.size
      have hlt2 : ∀ b, u3.ownBlock = some b → B ≤ b := fun b hb => (owns_lt hG.outer hb).1
      go_wp2_with (at_builtin; refine wpList_push _ rfl _ _ 22 rfl B 38 _ _ 24 Tryd.underlying22 infoR rfl _ _ _ rfl (hG.below hb1).outer _ rfl rfl (by unfold maxLen; omega) (by omega) (by omega) ?_; intro g2 c2 w2 ho2 hg2)
      have hG2 := hG.push (cs := ints (nums x)) hb1 (by simpa using ho1) (Nat.le_refl _) (by omega) ho2 hg2
      have hb2 : Below B w w2 := (hb.trans (hb1.mono (by omega))).grown hg2 (by omega) hlt2
      clear hG ho2 hg2 hc hb hb1 ho1 hlt2 hbs HNU
      go_wp2_with fail
      go_roundw
      case rel =>
        refine ⟨k + 1, vs ++ [.slice ga (nums x).length gc], by omega, by go_num, ?_, hb2⟩
        rw [take_snoc HX.out]
        simpa [rowsOf] using hG2
      case measure => simp [intOf]; omega
    · obtain rfl : k = ms.length := by omega
      rw [List.take_length] at hG
      obtain ⟨ua, uc, rfl⟩ := owns_shape hG.outer
      go_wp2_with fail
      go_ret
      exact ⟨_, vs, rfl, by rw [hB]; exact hG, by rw [hB]; exact hb⟩
end Go.Proofs.YtehejjmmbjekgaaDoor
