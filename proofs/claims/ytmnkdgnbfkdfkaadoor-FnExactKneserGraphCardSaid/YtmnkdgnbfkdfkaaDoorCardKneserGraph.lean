/-
  For every int64 argument the law of 'KneserGraph' returns true: the program's answer is the reference's, in memory of its own. Condition: the table of math/bits reads as the program's text lays it (tied by the card).
-/
import Derived.Test.YtmnkdgnbfkdfkaaDoorTab
import Derived.Test.YtmnkdgnbfkdfkaaDoorLawKneserGraph
namespace Go.Proofs.YtmnkdgnbfkdfkaaDoor
open Go.ChangeShapes Go.WideShapes Go.ChangeAt Go.WideElems Go.RowKit

theorem kneserGraph_law (n : Int) (w : World) (ht : Tab w) :
    Calls Tryd.prog 10 #[.int .i64 n] w fun e w' => e = .returned (.bool true) ∧ Below w.heap.size w w' := by
  by_cases h : 4 ≤ n ∧ n ≤ 6
  · obtain ⟨k, rfl⟩ := Int.eq_ofNat_of_zero_le (show 0 ≤ n by omega)
    have hl : 4 ≤ k := by omega
    have hk : k ≤ 6 := by omega
    have hm := prs_small k hl hk
    refine kneserGraph_core _ (rowsOf (jM ((prs k).map maskP) (prs k).length (prs k).length)) true ?_ (by simp; omega) (fun w _ => by rw [← kneser_same k hl hk]; exact specKneser_yes k hl hk w) (fun w ht => implKneser_yes k hl hk w ht) w ht
    have := total_rowsOf (jM ((prs k).map maskP) (prs k).length (prs k).length)
    simp only [jM_length] at this
    unfold total
    omega
  · exact kneserGraph_core n [] false (by simp [total]) (by simp) (fun w _ => specKneser_no n h w) (fun w _ => implKneser_no n h w) w ht

set_option maxRecDepth 100000 in
theorem kneserGraphLifted (os : Os) (started : os.Started) (H : Type) (enc : TypeId × Value → H) :
    ReturnsInHanded {} Tryd.checked os 10 .any (fun w args => (Rows.fnExactKneserGraphSpec.pre enc Tryd.prog Tryd.f10 [] false w args ∧ laidMetH Tryd.prog laidT w) ∧ sizedMet enc Tryd.prog Tryd.f10 (OpenSpec.ofChange Rows.fnExactKneserGraphSpec) false w args)
      (Rows.fnExactKneserGraphSpec.post enc Tryd.prog Tryd.f10 false true false false) := by
  refine returnsInHanded_of_change_and (C := Tryd.checked) (X := fun w _ => laidMetH Tryd.prog laidT w) (fun _ _ _ hh h => h.of_heap hh) own started (by kernel_rfl) Tryd.func10
    (ChangeSpec.witness_shaped (enc := enc) (C := Tryd.checked) (os := os) (X := fun w _ => laidMetH Tryd.prog laidT w) false (World.doorLaid Tryd.prog 400 os) #[.int .i64 0] 8 rfl (World.shaped_of_RefB (by kernel_rfl) (by kernel_rfl)) (by kernel_rfl) (by kernel_rfl) (by kernel_rfl) (door_met os _)) ?_
  intro W base args ds gs before hval0 hW _ _ hL _
  have hval : ∀ (j : Nat) t v, Tryd.f10.params[j]? = some t → args[j]? = some v → Value.okWide Tryd.prog W .any base t v := hval0
  have hW' := hW
  obtain ⟨p, q, hA0, hV, rfl, hfz, hnd⟩ := hW
  have hA : DataW.TrodAll enc Tryd.prog W 0 (fun _ => true) true Tryd.f10.params.toList args.toList ds p := hA0
  rw [Tryd.params10] at hA hval
  obtain ⟨v0, d0, rfl, rfl, h0⟩ := trodAll_one hA
  obtain ⟨rfl, rfl⟩ := trodVars_none hV
  obtain ⟨n, rfl, rfl, rfl, wn⟩ := open_int Tryd.underlying2 (hval 0 2 v0 rfl rfl) h0
  clear hA0 hval0
  simp only [List.append_nil] at hW'
  refine (kneserGraph_law n W (of_laid hL)).mono fun e W' ⟨he, bel⟩ => ?_
  subst he
  exact ⟨_, rfl, _, _, _, [], _, [], hW', trodAll_mk1 (shut_bool Tryd.underlying4 _), trodAll_mk1 (shut_int Tryd.underlying2 wn), rfl, bel.frame _, fun h => by cases h⟩

theorem kneserGraph_holds : Rows.FnExactKneserGraphSaid :=
  OpenClaim.holds_of_wide 10 Tryd.f10 rfl rfl rfl rfl rfl rfl rfl ⟨rfl, rfl, rfl, rfl, rfl⟩ rfl rfl rfl rfl rfl (by kernel_rfl) Tryd.func10 (by kernel_rfl)
    (of_decide_eq_true (by kernel_rfl)) (by unfold Func.isWrapper; first | (rw [if_pos (by decide +kernel)]; kernel_rfl) | (rw [if_neg (by decide +kernel)]; exact ⟨rfl, rfl⟩))
    (fun os started H enc _ => kneserGraphLifted os started H enc)

theorem kneserGraph_card : Rows.FnExactKneserGraphCardSaid :=
  Claim7.holds_tied_plain_at .later [] [.data] true _ false
    kneserGraph_holds (fun _ h => by cases h) (by kernel_rfl) (fun _ h => by cases h) fnExactKneserGraph_row_tie rfl ⟨rfl, rfl⟩ (by kernel_rfl) rfl
    (fun f fn hf hfn => by
      obtain rfl : f = 10 := Option.some.inj ((show Tryd.prog.funcNamed "loop.example/g00871/laws.FnExactKneserGraph" = some 10 by kernel_rfl).symm.trans hf) |>.symm
      obtain rfl : fn = Tryd.f10 := (Option.some.inj (Tryd.func10.symm.trans hfn)).symm
      exact ⟨by kernel_rfl, fun j t ht => by
        rw [Tryd.params10] at ht
        have hm : t ∈ [2] := by simpa using Array.mem_of_getElem? ht
        have hall : ([2].all fun u => !Tryd.prog.wantsStandIn u) = true := by kernel_rfl
        exact (show Tryd.prog.wantsStandIn t = false by simpa using List.all_eq_true.1 hall t hm)⟩)
    (by kernel_rfl)
#print axioms kneserGraph_card
end Go.Proofs.YtmnkdgnbfkdfkaaDoor
