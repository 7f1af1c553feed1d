/-
  The law of 'NewStore' returns true for every argument.
-/
import Derived.Test.YtecjgpokfdpekaaLawNewStore
import Derived.Lib.SmallJoins
import Derived.Test.YtecjgpokfdpekaaArgs2
import Derived.Test.YtecjgpokfdpekaaRows
import Derived.Test.YtecjgpokfdpekaaChecked
import Derived.Test.YtecjgpokfdpekaaStore
namespace Go.Proofs.Ytecjgpokfdpekaa
open Go.ChangeShapes Go.WideShapes Go.ChangeAt Go.RowKit Go.Joins
open Go.ChangeMaps (open_string shut_string)

theorem lawNewStore (v0 : Value) (xss0 : List (List Int)) (w : World) (hr0 : RdSS v0 xss0 w) :
    Calls Try.prog 3 #[.agg #[v0]] w fun e w' => e = .returned (.bool true) ∧ Below w.heap.size w w' := by
  obtain ⟨d0, d1, k0, m0, hs, hi⟩ := both_NewStore xss0
  exact coreNewStore v0 xss0 d0 d1 k0 m0 hs hi w hr0

theorem newStoreOwn : ownKnob Try.prog.godebug = none := by kernel_rfl

set_option maxHeartbeats 1600000 in
set_option maxRecDepth 100000 in
theorem newStoreLifted (os : Os) (started : os.Started) (H : Type) (enc : TypeId × Value → H) :
    ReturnsInHanded {} Try.checked os 3 .any (Rows.fnExactNewStoreSpec.pre6 enc Try.prog Try.f3 Rows.fnExactNewStoreRow.domain false) (Rows.fnExactNewStoreSpec.post enc Try.prog Try.f3 false true false false) := by
  refine returnsInHanded_of_change (C := Try.checked) newStoreOwn started (by kernel_rfl) Try.func3
    (ChangeSpec.witness6 (enc := enc) (C := Try.checked) false ⟨#[], #[.agg #[.slice none 0 0]], []⟩ 8 (by kernel_rfl) (by kernel_rfl) (by kernel_rfl) (by kernel_rfl)) ?_
  intro W base args ds gs before hval0 hW hcnd _
  have hval : ∀ (j : Nat) t v, Try.f3.params[j]? = some t → args[j]? = some v → Value.okWide Try.prog W .any base t v := hval0
  have hW' := hW
  obtain ⟨p, q, hA0, hV, rfl, hfz, hnd⟩ := hW
  have hA : DataW.TrodAll enc Try.prog W 0 (fun _ => true) true Try.f3.params.toList args.toList ds p := hA0
  rw [Try.params3] at hA hval
  obtain ⟨v0, d0, rfl, rfl, h0⟩ := trodAll_one hA
  obtain ⟨rfl, rfl⟩ := trodVars_none hV
  have lt0 : ∀ x ∈ p, x.block < W.heap.size := by obtain ⟨m, hm⟩ := h0; exact DataW.trod_lt m _ _ _ hm
  obtain ⟨u0, xss0, rfl, hr0⟩ := graphArg (hval 0 24 v0 rfl rfl) h0
  clear hA0 hval0
  refine (lawNewStore _ xss0 W hr0).mono fun e W' ⟨he, bel⟩ => ?_
  subst he
  exact ⟨_, rfl, _, _, _, [], _, [], hW', trodAll_mk1 (shut_bool Try.underlying4 _), trodAll_mk1 (Below.trod (by kernel_rfl) (by kernel_rfl) (of_decide_eq_true (by kernel_rfl)) h0 bel lt0), rfl, bel.frame _, fun h => by cases h⟩

theorem newStore_said : Rows.FnExactNewStoreSaid :=
  OpenClaim.holds_of_wide 3 Try.f3 rfl rfl rfl rfl rfl rfl rfl ⟨rfl, rfl, rfl, rfl, rfl⟩ rfl rfl rfl rfl rfl (by kernel_rfl) Try.func3 (by kernel_rfl)
    (of_decide_eq_true (by kernel_rfl)) (by unfold Func.isWrapper; first | (rw [if_pos (by decide +kernel)]; kernel_rfl) | (rw [if_neg (by decide +kernel)]; exact ⟨rfl, rfl⟩))
    (fun os started H enc _ => newStoreLifted os started H enc)
#print axioms newStore_said
end Go.Proofs.Ytecjgpokfdpekaa
