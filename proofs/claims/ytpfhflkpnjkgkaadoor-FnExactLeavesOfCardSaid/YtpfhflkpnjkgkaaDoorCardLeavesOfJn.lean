import Derived.Test.YtpfhflkpnjkgkaaDoorArgs2Jn
import Derived.Test.YtpfhflkpnjkgkaaDoorLawLeavesOfJn
import Derived.Test.YtpfhflkpnjkgkaaDoorLeafBJn
import Derived.Test.YtpfhflkpnjkgkaaDoorTabJn
/-
  For every argument the law of 'LeavesOf' returns true: the program's answer is the reference's, in memory of its own, and it leaves its arguments as they were. Condition: the table of math/bits reads as the program's text lays it (tied by the card).
-/




namespace Go.Proofs.YtpfhflkpnjkgkaaDoor
open Go.ChangeShapes Go.WideShapes Go.ChangeAt Go.WideElems Go.RowKit

theorem lawLeavesOf (v0 : Value) (ps0 : List PartD) (n1 : Int) (w : World) (ht : Tab w) (hr0 : RdP v0 ps0 w) :
    Calls Tryd.prog 3 #[v0, .int .i64 n1] w fun e w' => e = .returned (.bool true) ∧ Below w.heap.size w w' := by
  obtain ⟨d0, k0, hs, hi⟩ := both_LeavesOf ps0 n1
  exact coreLeavesOf v0 ps0 n1 d0 k0 hs hi w ht hr0

set_option maxHeartbeats 1600000 in
set_option maxRecDepth 100000 in
theorem leavesOfLifted (os : Os) (started : os.Started) (H : Type) (enc : TypeId × Value → H) :
    ReturnsInHanded {} Tryd.checked os 3 .any (fun w args => (Rows.fnExactLeavesOfSpec.pre enc Tryd.prog Tryd.f3 [] false w args ∧ laidMetH Tryd.prog laidT w) ∧ sizedMet enc Tryd.prog Tryd.f3 (OpenSpec.ofChange Rows.fnExactLeavesOfSpec) false w args)
      (Rows.fnExactLeavesOfSpec.post enc Tryd.prog Tryd.f3 false true false false) := by
  refine returnsInHanded_of_change_and (C := Tryd.checked) (X := fun w _ => laidMetH Tryd.prog laidT w) (fun _ _ _ hh h => h.of_heap hh) own started (by kernel_rfl) Tryd.func3
    (ChangeSpec.witness_shaped (enc := enc) (C := Tryd.checked) (os := os) (X := fun w _ => laidMetH Tryd.prog laidT w) false (World.doorLaid Tryd.prog 400 os) #[.slice none 0 0, .int .i64 0] 8 rfl (World.shaped_of_RefB (by kernel_rfl) (by kernel_rfl)) (by kernel_rfl) (by kernel_rfl) (by kernel_rfl) (door_met os _)) ?_
  intro W base args ds gs before hval0 hW _ _ hL _
  have hval : ∀ (j : Nat) t v, Tryd.f3.params[j]? = some t → args[j]? = some v → Value.okWide Tryd.prog W .any base t v := hval0
  have hW' := hW
  obtain ⟨p, q, hA0, hV, rfl, hfz, hnd⟩ := hW
  have hA : DataW.TrodAll enc Tryd.prog W 0 (fun _ => true) true Tryd.f3.params.toList args.toList ds p := hA0
  rw [Tryd.params3] at hA hval
  obtain ⟨v0, v1, d0, d1, p0, p1, rfl, rfl, rfl, h0, h1⟩ := trodAll_two hA
  obtain ⟨rfl, rfl⟩ := trodVars_none hV
  have lt0 : ∀ x ∈ p0, x.block < W.heap.size := by obtain ⟨m, hm⟩ := h0; exact DataW.trod_lt m _ _ _ hm
  obtain ⟨ps0, hr0⟩ := partArg (hval 0 22 v0 rfl rfl) h0
  obtain ⟨n1, rfl, rfl, rfl, wn1⟩ := open_int Tryd.underlying2 (hval 1 2 v1 rfl rfl) h1
  clear hA0 hval0
  try simp only [List.append_nil] at hW'
  try simp only [List.nil_append] at hW'
  try simp only [List.append_assoc] at hW'
  refine (lawLeavesOf _ ps0 n1 W (of_laid hL) hr0).mono fun e W' ⟨he, bel⟩ => ?_
  subst he
  have key := trodAll_mk2 (Below.trod (by kernel_rfl) (by kernel_rfl) (of_decide_eq_true (by kernel_rfl)) h0 bel lt0) (shut_int Tryd.underlying2 wn1)
  try simp only [List.append_nil] at key
  try simp only [List.nil_append] at key
  try simp only [List.append_assoc] at key
  exact ⟨_, rfl, _, _, _, [], _, [], hW', trodAll_mk1 (shut_bool Tryd.underlying4 _), key, rfl, bel.frame _, fun h => by cases h⟩

theorem leavesOf_holds : Rows.FnExactLeavesOfSaid :=
  OpenClaim.holds_of_wide 3 Tryd.f3 rfl rfl rfl rfl rfl rfl rfl ⟨rfl, rfl, rfl, rfl, rfl⟩ rfl rfl rfl rfl rfl (by kernel_rfl) Tryd.func3 (by kernel_rfl)
    (of_decide_eq_true (by kernel_rfl)) (by unfold Func.isWrapper; first | (rw [if_pos (by decide +kernel)]; kernel_rfl) | (rw [if_neg (by decide +kernel)]; exact ⟨rfl, rfl⟩))
    (fun os started H enc _ => leavesOfLifted os started H enc)

theorem leavesOf_card : Rows.FnExactLeavesOfCardSaid :=
  Claim7.holds_tied_plain_at .later [] [.data] true _ false
    leavesOf_holds (fun _ h => by cases h) (by kernel_rfl) (fun _ h => by cases h) fnExactLeavesOf_row_tie rfl ⟨rfl, rfl⟩ (by kernel_rfl) rfl
    (fun f fn hf hfn => by
      obtain rfl : f = 3 := Option.some.inj ((show Tryd.prog.funcNamed "loop.example/g00871/laws.FnExactLeavesOf" = some 3 by kernel_rfl).symm.trans hf) |>.symm
      obtain rfl : fn = Tryd.f3 := (Option.some.inj (Tryd.func3.symm.trans hfn)).symm
      exact ⟨by kernel_rfl, fun j t ht => by
        rw [Tryd.params3] at ht
        have hm : t ∈ [22, 2] := by simpa using Array.mem_of_getElem? ht
        have hall : ([22, 2].all fun u => !Tryd.prog.wantsStandIn u) = true := by kernel_rfl
        exact (show Tryd.prog.wantsStandIn t = false by simpa using List.all_eq_true.1 hall t hm)⟩)
    (by kernel_rfl)
#print axioms leavesOf_card
end Go.Proofs.YtpfhflkpnjkgkaaDoor
