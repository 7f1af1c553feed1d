/-
  For every argument the law of 'IntervalsOk' returns true: the program's answer is the reference's, in memory of its own, and it leaves its arguments as they were. Condition: the table of math/bits reads as the program's text lays it (tied by the card).
-/
import Derived.Test.YtehejjmmbjekgaaDoorTab
import Derived.Test.YtehejjmmbjekgaaDoorArgs2
import Derived.Test.YtehejjmmbjekgaaDoorLawIntervalsOk
import Derived.Test.YtehejjmmbjekgaaDoorIvOk
import Derived.Test.YtehejjmmbjekgaaDoorIvA
namespace Go.Proofs.YtehejjmmbjekgaaDoor
open Go.ChangeShapes Go.WideShapes Go.ChangeAt Go.WideElems Go.RowKit

theorem lawIntervalsOk (v0 : Value) (xss0 : List (List Int)) (v1 : Value) (ls1 : List (Int × Int)) (w : World) (ht : Tab w) (hr0 : RdSS v0 xss0 w) (hr1 : RdV v1 ls1 w) :
    Calls Tryd.prog 10 #[.agg #[v0], v1] w fun e w' => e = .returned (.bool true) ∧ Below w.heap.size w w' := by
  obtain ⟨d0, hs, hi⟩ := both_IntervalsOk xss0 ls1
  exact coreIntervalsOk v0 xss0 v1 ls1 d0  hs hi w ht hr0 hr1

set_option maxHeartbeats 1600000 in
set_option maxRecDepth 100000 in
theorem intervalsOkLifted (os : Os) (started : os.Started) (H : Type) (enc : TypeId × Value → H) :
    ReturnsInHanded {} Tryd.checked os 10 .any (fun w args => (Rows.fnExactIntervalsOkSpec.pre enc Tryd.prog Tryd.f10 [] false w args ∧ laidMetH Tryd.prog laidT w) ∧ sizedMet enc Tryd.prog Tryd.f10 (OpenSpec.ofChange Rows.fnExactIntervalsOkSpec) false w args)
      (Rows.fnExactIntervalsOkSpec.post enc Tryd.prog Tryd.f10 false true false false) := by
  refine returnsInHanded_of_change_and (C := Tryd.checked) (X := fun w _ => laidMetH Tryd.prog laidT w) (fun _ _ _ hh h => h.of_heap hh) own started (by kernel_rfl) Tryd.func10
    (ChangeSpec.witness_shaped (enc := enc) (C := Tryd.checked) (os := os) (X := fun w _ => laidMetH Tryd.prog laidT w) false (World.doorLaid Tryd.prog 400 os) #[.agg #[.slice none 0 0], .slice none 0 0] 8 rfl (World.shaped_of_RefB (by kernel_rfl) (by kernel_rfl)) (by kernel_rfl) (by kernel_rfl) (by kernel_rfl) (door_met os _)) ?_
  intro W base args ds gs before hval0 hW _ _ hL _
  have hval : ∀ (j : Nat) t v, Tryd.f10.params[j]? = some t → args[j]? = some v → Value.okWide Tryd.prog W .any base t v := hval0
  have hW' := hW
  obtain ⟨p, q, hA0, hV, rfl, hfz, hnd⟩ := hW
  have hA : DataW.TrodAll enc Tryd.prog W 0 (fun _ => true) true Tryd.f10.params.toList args.toList ds p := hA0
  rw [Tryd.params10] at hA hval
  obtain ⟨v0, v1, d0, d1, p0, p1, rfl, rfl, rfl, h0, h1⟩ := trodAll_two hA
  obtain ⟨rfl, rfl⟩ := trodVars_none hV
  have lt0 : ∀ x ∈ p0, x.block < W.heap.size := by obtain ⟨m, hm⟩ := h0; exact DataW.trod_lt m _ _ _ hm
  obtain ⟨u0, xss0, rfl, hr0⟩ := graphArg (hval 0 49 v0 rfl rfl) h0
  have lt1 : ∀ x ∈ p1, x.block < W.heap.size := by obtain ⟨m, hm⟩ := h1; exact DataW.trod_lt m _ _ _ hm
  obtain ⟨ls1, hr1⟩ := ivArg (hval 1 29 v1 rfl rfl) h1
  clear hA0 hval0
  try simp only [List.append_nil] at hW'
  try simp only [List.nil_append] at hW'
  try simp only [List.append_assoc] at hW'
  refine (lawIntervalsOk _ xss0 _ ls1 W (of_laid hL) hr0 hr1).mono fun e W' ⟨he, bel⟩ => ?_
  subst he
  have key := trodAll_mk2 (Below.trod (by kernel_rfl) (by kernel_rfl) (of_decide_eq_true (by kernel_rfl)) h0 bel lt0) (Below.trod (by kernel_rfl) (by kernel_rfl) (of_decide_eq_true (by kernel_rfl)) h1 bel lt1)
  try simp only [List.append_nil] at key
  try simp only [List.nil_append] at key
  try simp only [List.append_assoc] at key
  exact ⟨_, rfl, _, _, _, [], _, [], hW', trodAll_mk1 (shut_bool Tryd.underlying4 _), key, rfl, bel.frame _, fun h => by cases h⟩

theorem intervalsOk_holds : Rows.FnExactIntervalsOkSaid :=
  OpenClaim.holds_of_wide 10 Tryd.f10 rfl rfl rfl rfl rfl rfl rfl ⟨rfl, rfl, rfl, rfl, rfl⟩ rfl rfl rfl rfl rfl (by kernel_rfl) Tryd.func10 (by kernel_rfl)
    (of_decide_eq_true (by kernel_rfl)) (by unfold Func.isWrapper; first | (rw [if_pos (by decide +kernel)]; kernel_rfl) | (rw [if_neg (by decide +kernel)]; exact ⟨rfl, rfl⟩))
    (fun os started H enc _ => intervalsOkLifted os started H enc)

theorem intervalsOk_card : Rows.FnExactIntervalsOkCardSaid :=
  Claim7.holds_tied_plain_at .later [] [.data] true _ false
    intervalsOk_holds (fun _ h => by cases h) (by kernel_rfl) (fun _ h => by cases h) fnExactIntervalsOk_row_tie rfl ⟨rfl, rfl⟩ (by kernel_rfl) rfl
    (fun f fn hf hfn => by
      obtain rfl : f = 10 := Option.some.inj ((show Tryd.prog.funcNamed "loop.example/g00871/laws.FnExactIntervalsOk" = some 10 by kernel_rfl).symm.trans hf) |>.symm
      obtain rfl : fn = Tryd.f10 := (Option.some.inj (Tryd.func10.symm.trans hfn)).symm
      exact ⟨by kernel_rfl, fun j t ht => by
        rw [Tryd.params10] at ht
        have hm : t ∈ [49, 29] := by simpa using Array.mem_of_getElem? ht
        have hall : ([49, 29].all fun u => !Tryd.prog.wantsStandIn u) = true := by kernel_rfl
        exact (show Tryd.prog.wantsStandIn t = false by simpa using List.all_eq_true.1 hall t hm)⟩)
    (by kernel_rfl)
#print axioms intervalsOk_card
end Go.Proofs.YtehejjmmbjekgaaDoor
