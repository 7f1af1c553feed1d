/-
  For every int64 argument the law of 'DiceGraph' returns true: the program's answer is the reference's, in memory of its own. Condition: the table of math/bits reads as the program's text lays it (tied by the card).
-/
import Derived.Test.YtmnkdgnbfkdfkaaDoorTab
import Derived.Test.YtmnkdgnbfkdfkaaDoorLawDiceGraph
namespace Go.Proofs.YtmnkdgnbfkdfkaaDoor
open Go.ChangeShapes Go.WideShapes Go.ChangeAt Go.WideElems Go.RowKit

theorem diceGraph_law (n1 n2 n3 : Int) (w : World) (ht : Tab w) :
    Calls Tryd.prog 9 #[.int .i64 n1, .int .i64 n2, .int .i64 n3] w fun e w' => e = .returned (.bool true) ∧ Below w.heap.size w w' := by
  by_cases h : (1 ≤ n2 ∧ n2 ≤ 16) ∧ (0 ≤ n3 ∧ n3 ≤ 100)
  · obtain ⟨⟨ha, ha2⟩, ⟨hb, hb2⟩⟩ := h
    obtain ⟨n, rfl⟩ := Int.eq_ofNat_of_zero_le (show 0 ≤ n2 by omega)
    obtain ⟨l, rfl⟩ := Int.eq_ofNat_of_zero_le (show 0 ≤ n3 by omega)
    obtain ⟨s, hs, r, hr, hr1, hr2, hneg, hpos⟩ := seed_nat n1
    have hq := seed_again r s hs hr1 hr2 hneg hpos
    refine diceGraph_core n1 _ _ (rowsOf (diceM n l s n).2) true ?_ (by simp; omega) (fun w _ => specDice_yes n1 r s n l hs hr hr1 hr2 hneg hpos (by omega) (by omega) (by omega) w) (fun w ht => implDice_yes n1 r s n l hs hr hr1 hr2 hq (by omega) (by omega) (by omega) w ht) w ht
    have := total_rowsOf (diceM n l s n).2
    simp only [diceM_length] at this
    unfold total
    omega
  · exact diceGraph_core n1 n2 n3 [] false (by simp [total]) (by simp) (fun w _ => specDice_no n1 n2 n3 h w) (fun w _ => implDice_no n1 n2 n3 h w) w ht

set_option maxRecDepth 100000 in
theorem diceGraphLifted (os : Os) (started : os.Started) (H : Type) (enc : TypeId × Value → H) :
    ReturnsInHanded {} Tryd.checked os 9 .any (fun w args => (Rows.fnExactDiceGraphSpec.pre enc Tryd.prog Tryd.f9 [] false w args ∧ laidMetH Tryd.prog laidT w) ∧ sizedMet enc Tryd.prog Tryd.f9 (OpenSpec.ofChange Rows.fnExactDiceGraphSpec) false w args)
      (Rows.fnExactDiceGraphSpec.post enc Tryd.prog Tryd.f9 false true false false) := by
  refine returnsInHanded_of_change_and (C := Tryd.checked) (X := fun w _ => laidMetH Tryd.prog laidT w) (fun _ _ _ hh h => h.of_heap hh) own started (by kernel_rfl) Tryd.func9
    (ChangeSpec.witness_shaped (enc := enc) (C := Tryd.checked) (os := os) (X := fun w _ => laidMetH Tryd.prog laidT w) false (World.doorLaid Tryd.prog 400 os) #[.int .i64 0, .int .i64 0, .int .i64 0] 8 rfl (World.shaped_of_RefB (by kernel_rfl) (by kernel_rfl)) (by kernel_rfl) (by kernel_rfl) (by kernel_rfl) (door_met os _)) ?_
  intro W base args ds gs before hval0 hW _ _ hL _
  have hval : ∀ (j : Nat) t v, Tryd.f9.params[j]? = some t → args[j]? = some v → Value.okWide Tryd.prog W .any base t v := hval0
  have hW' := hW
  obtain ⟨p, q, hA0, hV, rfl, hfz, hnd⟩ := hW
  have hA : DataW.TrodAll enc Tryd.prog W 0 (fun _ => true) true Tryd.f9.params.toList args.toList ds p := hA0
  rw [Tryd.params9] at hA hval
  obtain ⟨v0, v1, v2, d0, d1, d2, p0, p1, p2, rfl, rfl, rfl, h0, h1, h2⟩ := trodAll_three hA
  obtain ⟨rfl, rfl⟩ := trodVars_none hV
  obtain ⟨n1, rfl, rfl, rfl, wn1⟩ := open_int Tryd.underlying2 (hval 0 2 v0 rfl rfl) h0
  obtain ⟨n2, rfl, rfl, rfl, wn2⟩ := open_int Tryd.underlying2 (hval 1 2 v1 rfl rfl) h1
  obtain ⟨n3, rfl, rfl, rfl, wn3⟩ := open_int Tryd.underlying2 (hval 2 2 v2 rfl rfl) h2
  clear hA0 hval0
  simp only [List.append_nil] at hW'
  refine (diceGraph_law n1 n2 n3 W (of_laid hL)).mono fun e W' ⟨he, bel⟩ => ?_
  subst he
  exact ⟨_, rfl, _, _, _, [], _, [], hW', trodAll_mk1 (shut_bool Tryd.underlying4 _), trodAll_mk3 (shut_int Tryd.underlying2 wn1) (shut_int Tryd.underlying2 wn2) (shut_int Tryd.underlying2 wn3), rfl, bel.frame _, fun h => by cases h⟩

theorem diceGraph_holds : Rows.FnExactDiceGraphSaid :=
  OpenClaim.holds_of_wide 9 Tryd.f9 rfl rfl rfl rfl rfl rfl rfl ⟨rfl, rfl, rfl, rfl, rfl⟩ rfl rfl rfl rfl rfl (by kernel_rfl) Tryd.func9 (by kernel_rfl)
    (of_decide_eq_true (by kernel_rfl)) (by unfold Func.isWrapper; first | (rw [if_pos (by decide +kernel)]; kernel_rfl) | (rw [if_neg (by decide +kernel)]; exact ⟨rfl, rfl⟩))
    (fun os started H enc _ => diceGraphLifted os started H enc)

theorem diceGraph_card : Rows.FnExactDiceGraphCardSaid :=
  Claim7.holds_tied_plain_at .later [] [.data] true _ false
    diceGraph_holds (fun _ h => by cases h) (by kernel_rfl) (fun _ h => by cases h) fnExactDiceGraph_row_tie rfl ⟨rfl, rfl⟩ (by kernel_rfl) rfl
    (fun f fn hf hfn => by
      obtain rfl : f = 9 := Option.some.inj ((show Tryd.prog.funcNamed "loop.example/g00871/laws.FnExactDiceGraph" = some 9 by kernel_rfl).symm.trans hf) |>.symm
      obtain rfl : fn = Tryd.f9 := (Option.some.inj (Tryd.func9.symm.trans hfn)).symm
      exact ⟨by kernel_rfl, fun j t ht => by
        rw [Tryd.params9] at ht
        have hm : t ∈ [2] := by simpa using Array.mem_of_getElem? ht
        have hall : ([2].all fun u => !Tryd.prog.wantsStandIn u) = true := by kernel_rfl
        exact (show Tryd.prog.wantsStandIn t = false by simpa using List.all_eq_true.1 hall t hm)⟩)
    (by kernel_rfl)
#print axioms diceGraph_card
end Go.Proofs.YtmnkdgnbfkdfkaaDoor
