/-
  For every argument the law of 'SaysText' returns true: the program's text is the reference's. Condition: the listed variables (the names of the classes, three tables of the library's) read as the program's text lays them (tied by the card).
-/
import Derived.Test.YtbhobmngnjfgfaaDoorTabM
import Derived.Test.YtbhobmngnjfgfaaDoorArgs2
namespace Go.Proofs.YtbhobmngnjfgfaaDoor
open Go.ChangeShapes Go.WideShapes Go.ChangeAt Go.WideElems Go.RowKit Go.Joins

set_option maxHeartbeats 1000000 in
theorem toSays_el (x y z : Int) (w : World) :
    Calls Tryd.prog 13 #[.agg #[.int .i64 x, .int .i64 y, .int .i64 z]] w fun e w' => e = .returned (.agg #[.int .i64 x, .int .i64 y, .int .i64 z]) ∧ Below w.heap.size w w' := by
  obtain ⟨B, hB⟩ : ∃ B, w.heap.size = B := ⟨_, rfl⟩
  obtain ⟨W0, hW0⟩ : ∃ W0, W0 = ((w.alloc (.cells #[.int .i64 x, .int .i64 y, .int .i64 z] 23)).alloc (.cells #[.int .i64 0, .int .i64 0, .int .i64 0] 25)).alloc (.cells #[.int .i64 0, .int .i64 0, .int .i64 0] 25) := ⟨_, rfl⟩
  have u0 : Below B w W0 := by rw [hW0, ← hB]; exact (((Below.refl _ _).alloc (Nat.le_refl _) _).alloc (by simp) _).alloc (by simp; omega) _
  go_enter Tryd.func13, Tryd.ntmps13
  go_wp2_with fail
  obtain ⟨W1, hW1⟩ : ∃ W1, W1 = ((w.alloc (.cells #[.int .i64 x, .int .i64 y, .int .i64 z] 23)).alloc (.cells #[.int .i64 x, .int .i64 y, .int .i64 z] 25)).alloc (.cells #[.int .i64 x, .int .i64 y, .int .i64 z] 25) := ⟨_, rfl⟩
  have hb : Below B w W1 := by rw [hW1]; exact (((Below.refl _ _ : Below B w w).alloc (by omega) _).alloc (by simp; omega) _).alloc (by simp; omega) _
  have VX : VC 25 (B + 1) #[.int .i64 x, .int .i64 y, .int .i64 z] W1 := by rw [hW1]; exact (VC.new (by simp [hB])).upd (Upd.alloc _ _) (by omega)
  rw [← hW1]
  have c0 : W1.cell? ⟨B + 1, 0, none⟩ = some (.int .i64 x) := by unfold VC at VX; simp [World.cell?, VX]
  have c1 : W1.cell? ⟨B + 1, 1, none⟩ = some (.int .i64 y) := by unfold VC at VX; simp [World.cell?, VX]
  have c2 : W1.cell? ⟨B + 1, 2, none⟩ = some (.int .i64 z) := by unfold VC at VX; simp [World.cell?, VX]
  refine bodyPost_ret (v := .agg #[.int .i64 x, .int .i64 y, .int .i64 z]) (by simp [results, Tryd.results13, go_sem, c0, c1, c2]) rfl ?_
  exact ⟨rfl, by rw [hB]; exact hb⟩

set_option maxHeartbeats 1000000 in
theorem saysText_law (C Y N : Int) (h0 : -9223372036854775808 ≤ N) (h1 : N ≤ 9223372036854775807) (w : World) (hp : P10 w) (hcn : CN w) :
    Calls Tryd.prog 3 #[.agg #[.int .i64 C, .int .i64 Y, .int .i64 N]] w fun e w' => e = .returned (.bool true) ∧ Below w.heap.size w w' := by
  have hd : ∀ z : ByteArray, (z.toList != z.toList) = false := fun z => by simp
  obtain ⟨B, hB⟩ : ∃ B, w.heap.size = B := ⟨_, rfl⟩
  have hPB : 1 < B := by
    rw [← hB]
    have h := Lib.TabIs.cell hp gPow 0 (by decide +kernel)
    exact World.block_lt_of_cell? w _ h
  obtain ⟨W0, hW0⟩ : ∃ W0, W0 = w.alloc (.cells #[.int .i64 C, .int .i64 Y, .int .i64 N] 23) := ⟨_, rfl⟩
  have u0 : Below B w W0 := by rw [hW0, ← hB]; exact below_alloc' _ _
  have V : VC 23 B #[.int .i64 C, .int .i64 Y, .int .i64 N] W0 := by rw [hW0]; exact VC.new hB
  have hz0 : W0.heap.size = B + 1 := by rw [hW0]; simp [hB]
  have c0 : W0.cell? ⟨B, 0, none⟩ = some (.int .i64 C) := by unfold VC at V; simp [World.cell?, V]
  have c1 : W0.cell? ⟨B, 1, none⟩ = some (.int .i64 Y) := by unfold VC at V; simp [World.cell?, V]
  have c2 : W0.cell? ⟨B, 2, none⟩ = some (.int .i64 N) := by unfold VC at V; simp [World.cell?, V]
  have CI : Hid (∀ W, Below B w W → Calls Tryd.prog 14 #[.agg #[.int .i64 C, .int .i64 Y, .int .i64 N]] W fun e w' => e = .returned (.string (sayT C Y N)) ∧ Below W.heap.size W w') := Lib.hid fun W hW => implSaysText C Y N h0 h1 W (hp.keep hW hPB) (hcn.keep hW hB)
  have CS : Hid (∀ W, Calls Tryd.prog 12 #[.agg #[.int .i64 C, .int .i64 Y, .int .i64 N]] W fun e w' => e = .returned (.string (sayT C Y N)) ∧ Below W.heap.size W w') := Lib.hid fun W => specSaysText C Y N h0 h1 W
  generalize sayT C Y N = S at *
  rw [hW0] at c0 c1 c2
  go_enter Tryd.func3, Tryd.ntmps3
  go_wp2_with fail
  rw [← hW0] at c0 c1 c2 ⊢
  clear hW0
  refine (toSays_el C Y N _).mono ?_
  rintro e w1 ⟨rfl, hb1⟩
  have hb1' := u0.trans (hb1.mono (by omega))
  have V1 := V.belowAt hb1 (by omega)
  have hs1 : B + 1 ≤ w1.heap.size := by have := hb1.size; omega
  clear c0 c1 c2 V hb1 u0
  go_wp2_with fail
  refine (CS.out w1).mono ?_
  rintro e w2 ⟨rfl, hb2⟩
  have hb2' := hb1'.trans (hb2.mono (by omega))
  have V2 := V1.belowAt hb2 (by omega)
  have hs2 : B + 1 ≤ w2.heap.size := by have := hb2.size; omega
  have c0 : w2.cell? ⟨B, 0, none⟩ = some (.int .i64 C) := by unfold VC at V2; simp [World.cell?, V2]
  have c1 : w2.cell? ⟨B, 1, none⟩ = some (.int .i64 Y) := by unfold VC at V2; simp [World.cell?, V2]
  have c2 : w2.cell? ⟨B, 2, none⟩ = some (.int .i64 N) := by unfold VC at V2; simp [World.cell?, V2]
  clear V1 hb2 hb1' CS
  go_wp2_with fail
  refine (toSays_el C Y N _).mono ?_
  rintro e w3 ⟨rfl, hb3⟩
  have hb3' := hb2'.trans (hb3.mono (by omega))
  have hs3 : B + 1 ≤ w3.heap.size := by have := hb3.size; omega
  have CIx := Lib.hid (CI.out w3 hb3')
  clear c0 c1 c2 V2 hb3 hb2' CI
  go_wp2_with fail
  refine CIx.out.mono ?_
  rintro e w4 ⟨rfl, hb4⟩
  have hb4' := hb3'.trans (hb4.mono (by omega))
  clear hb4 hb3' CIx
  go_wp2_with fail
  go_ret
  exact ⟨rfl, by rw [hB]; exact hb4'⟩

set_option maxHeartbeats 1600000 in
set_option maxRecDepth 100000 in
theorem saysTextLifted (os : Os) (started : os.Started) (H : Type) (enc : TypeId × Value → H) :
    ReturnsInHanded {} Tryd.checked os 3 .any (fun w args => (Rows.fnExactSaysTextSpec.pre enc Tryd.prog Tryd.f3 [] false w args ∧ laidMetH Tryd.prog laid4 w) ∧ sizedMet enc Tryd.prog Tryd.f3 (OpenSpec.ofChange Rows.fnExactSaysTextSpec) false w args)
      (Rows.fnExactSaysTextSpec.post enc Tryd.prog Tryd.f3 false true false false) := by
  refine returnsInHanded_of_change_and (C := Tryd.checked) (X := fun w _ => laidMetH Tryd.prog laid4 w) (fun _ _ _ hh h => h.of_heap hh) own started (by kernel_rfl) Tryd.func3
    (ChangeSpec.witness_shaped (enc := enc) (C := Tryd.checked) (os := os) (X := fun w _ => laidMetH Tryd.prog laid4 w) false (World.doorLaid Tryd.prog 400 os) #[.agg #[.int .i64 0, .int .i64 0, .int .i64 0]] 8 rfl (World.shaped_of_RefB (by kernel_rfl) (by kernel_rfl)) (by kernel_rfl) (by kernel_rfl) (by kernel_rfl) (door_met4 os _)) ?_
  intro W base args ds gs before hval0 hW _ _ hL _
  have hval : ∀ (j : Nat) t v, Tryd.f3.params[j]? = some t → args[j]? = some v → Value.okWide Tryd.prog W .any base t v := hval0
  have hW' := hW
  obtain ⟨p, q, hA0, hV0, rfl, hfz, hnd⟩ := hW
  have hA : DataW.TrodAll enc Tryd.prog W 0 (fun _ => true) true Tryd.f3.params.toList args.toList ds p := hA0
  have hV : DataW.TrodVars enc Tryd.prog W (fun _ => true) ["loop.example/g00871/impl.classNames"] gs q := hV0
  rw [Tryd.params3] at hA hval
  obtain ⟨v0, d0, rfl, rfl, h0⟩ := trodAll_one hA
  obtain ⟨g, t, cs, fuel, d, p', rfl, hg, ht, hvar, hd, rfl⟩ := trodVars_one hV
  obtain rfl := Option.some.inj (gNames.symm.trans hg)
  obtain rfl := Option.some.inj (tNames.symm.trans ht)
  have lt0 : ∀ x ∈ p, x.block < W.heap.size := by obtain ⟨m, hm⟩ := h0; exact DataW.trod_lt m _ _ _ hm
  have h0' := h0
  obtain ⟨u0, u1, u2, y0, y1, y2, n, rfl, -, -, e0, e1, e2⟩ := open_agg3 Tryd.underlying23 (by kernel_rfl) (by kernel_rfl) (hval 0 23 v0 rfl rfl) h0'
  have g0 : DataW.trod enc Tryd.prog W 0 (fun _ => true) true n 2 [u0] = some y0 := e0
  have g1 : DataW.trod enc Tryd.prog W 0 (fun _ => true) true n 2 [u1] = some y1 := e1
  have g2 : DataW.trod enc Tryd.prog W 0 (fun _ => true) true n 2 [u2] = some y2 := e2
  obtain ⟨C, eC, _, _⟩ := DataW.trod_int Tryd.underlying2 g0
  obtain rfl : u0 = .int .i64 C := by simpa using eC
  obtain ⟨Y, eY, _, _⟩ := DataW.trod_int Tryd.underlying2 g1
  obtain rfl : u1 = .int .i64 Y := by simpa using eY
  obtain ⟨N, eN, _, wN⟩ := DataW.trod_int Tryd.underlying2 g2
  obtain rfl : u2 = .int .i64 N := by simpa using eN
  have hN := bounds_i64 wN
  clear hA0 hV0 hval0
  have hltv : ∀ x ∈ p', x.block < W.heap.size := fun x hx => hW'.lt x (List.mem_append_right _ (List.mem_append_right _ hx))
  obtain ⟨hcn, hp10⟩ := of_laid4 hL
  have hlt : 0 < W.heap.size := by
    obtain ⟨v, h1, _⟩ := hcn
    exact World.block_lt_of_cell? W _ h1
  refine (saysText_law C Y N hN.1 hN.2 W hp10 hcn).mono fun e W' ⟨he, bel⟩ => ?_
  subst he
  exact ⟨_, rfl, _, _, _, [], _, _, hW', trodAll_mk1 (shut_bool Tryd.underlying4 _), trodAll_mk1 (Below.trod (by kernel_rfl) (by kernel_rfl) (of_decide_eq_true (by kernel_rfl)) h0 bel lt0), names_after hlt hvar hd hltv bel, bel.frame _, fun h => by cases h⟩

theorem saysText_holds : Rows.FnExactSaysTextSaid :=
  OpenClaim.holds_of_wide 3 Tryd.f3 rfl rfl rfl rfl rfl rfl rfl ⟨rfl, rfl, rfl, rfl, rfl⟩ rfl rfl rfl rfl rfl (by kernel_rfl) Tryd.func3 (by kernel_rfl)
    (of_decide_eq_true (by kernel_rfl)) (by unfold Func.isWrapper; first | (rw [if_pos (by decide +kernel)]; kernel_rfl) | (rw [if_neg (by decide +kernel)]; exact ⟨rfl, rfl⟩))
    (fun os started H enc _ => saysTextLifted os started H enc)

theorem saysText_card : Rows.FnExactSaysTextCardSaid :=
  Claim7.holds_tied_plain_at .later [] [.data, .data, .data, .widerDeep] true _ false
    saysText_holds (fun _ h => by cases h) (by kernel_rfl) (fun _ h => by cases h) fnExactSaysText_row_tie rfl ⟨rfl, rfl⟩ (by kernel_rfl) rfl
    (fun f fn hf hfn => by
      obtain rfl : f = 3 := Option.some.inj ((show Tryd.prog.funcNamed "loop.example/g00871/laws.FnExactSaysText" = some 3 by kernel_rfl).symm.trans hf) |>.symm
      obtain rfl : fn = Tryd.f3 := (Option.some.inj (Tryd.func3.symm.trans hfn)).symm
      exact ⟨by kernel_rfl, fun j t ht => by
        rw [Tryd.params3] at ht
        have hm : t ∈ [23] := by simpa using Array.mem_of_getElem? ht
        have hall : ([23].all fun u => !Tryd.prog.wantsStandIn u) = true := by kernel_rfl
        exact (show Tryd.prog.wantsStandIn t = false by simpa using List.all_eq_true.1 hall t hm)⟩)
    (by kernel_rfl)
#print axioms saysText_card
end Go.Proofs.YtbhobmngnjfgfaaDoor
