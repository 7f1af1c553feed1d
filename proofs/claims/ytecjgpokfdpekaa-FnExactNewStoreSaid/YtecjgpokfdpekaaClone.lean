/-
  'slices.Clone', 'cloneGraph', 'NewStore' of the program and of the reference; the kind Store.
-/
import Derived.Test.YtecjgpokfdpekaaNetsOf
import Derived.Test.YtecjgpokfdpekaaKinds
import Derived.Lib.SliceRun
namespace Go.Proofs.Ytecjgpokfdpekaa
open Go.RowKit

set_option maxHeartbeats 1000000 in
theorem clone_any (v : Value) (xs : List Int) (w : World) (hr : RdS v xs w) (hn : xs.length ≤ 1000000) :
    Calls Try.prog 53 #[v] w fun e w' => ∃ u, e = .returned u ∧ w'.ownsRow w.heap.size 2 1 u xs.length (ints xs) ∧ Below w.heap.size w w' := by
  obtain ⟨a, c, rfl, h1, h2, h3, h4, h5⟩ := id hr
  cases a with
  | none =>
    have hc0 : c = 0 := h4 rfl
    have hx : xs = [] := List.length_eq_zero_iff.1 (by omega)
    subst hx
    subst hc0
    have hnil := Lib.run_eql_slice_nil (P := Try.prog) w 43 2 none 0 0 0 0 Try.underlying43
    clear h1 h2 h3 h4 h5
    simp only [List.length_nil]
    go_enter Try.func53, Try.ntmps53
    go_wp2_with fail
    go_ret
    exact ⟨_, rfl, World.ownsRow_nil _ _ _ 1, Below.refl _ _⟩
  | some p =>
    have h0 := World.ownsRow_lit (base := w.heap.size) (e := 2) (size := 1) w #[] 0 (Nat.le_refl _) (by simp [maxLen]) rfl
    have hr2 := Row.alloc (show Row w 1 (.slice (some p) xs.length c) xs.length (ints xs) from hr) (.cells #[] 2)
    have H1 : Hid (∀ u ∈ ints xs, u.oneCell' = true) := Lib.hid fun u hu => by
      unfold ints at hu
      obtain ⟨x, _, rfl⟩ := List.mem_map.1 hu
      rfl
    have HB := Lib.hid (below_alloc' w (.cells #[] 2))
    obtain ⟨S, hS⟩ : ∃ S, w.heap.size = S := ⟨_, rfl⟩
    rw [hS] at h0
    have hnil := Lib.run_eql_slice_nil (P := Try.prog) w 43 2 (some p) xs.length c 0 0 Try.underlying43
    clear h1 h2 h3 h4 h5 hr
    go_enter Try.func53, Try.ntmps53
    go_wp2_with (at_builtin; refine wpList_extend _ rfl _ _ 43 rfl S 2 _ 8 Try.underlying43 infoI rfl (.slice (some ⟨S, 0, none⟩) 0 0) 0 [] rfl h0 (.slice (some p) xs.length c) xs.length (ints xs) rfl hr2 H1.out (by unfold maxLen; omega) (by omega) (by simp; omega) ?_; intro a' c' w1 ho1 hg1)
    go_ret
    have hB2 := HB.out.grown hg1 HB.out.size (fun y hy => by simp [Value.ownBlock] at hy; omega)
    exact ⟨_, rfl, by first | simpa using ho1 | (rw [hS]; simpa using ho1), by first | exact hB2 | (rw [hS] at hB2; exact hB2) | (rw [hS]; exact hB2)⟩

set_option maxHeartbeats 2000000 in
theorem cloneGraph_any (v : Value) (xss : List (List Int)) (hn : xss.length ≤ 1000) (hs : ∀ xs ∈ xss, xs.length ≤ 1000000) (w : World) (hr : RdSS v xss w) :
    Calls Try.prog 34 #[.agg #[v]] w (G1Res w xss) := by
  obtain ⟨vs, hG⟩ := hr.ex
  have e1 : vs.length = xss.length := by simpa using hG.len
  obtain ⟨a, c, rfl, -, -, -⟩ := id hG.outer
  rw [e1] at hG ⊢
  clear e1 hr
  obtain ⟨B, hB⟩ : ∃ B, w.heap.size = B := ⟨_, rfl⟩
  have HS := Lib.hid hs
  clear hs
  have u1 := below_alloc' w (.cells #[.slice a xss.length c] 26)
  have u2 := u1.alloc (by simp) (.cells #[.slice none 0 0] 26)
  have u3 := u2.alloc (by simp; omega) (.cells #[.slice none 0 0] 26)
  have VA : VC 26 B #[.slice a xss.length c] (w.alloc (.cells #[.slice a xss.length c] 26)) := VC.new hB
  have VA2 := VA.upd (Upd.alloc _ (.cells #[.slice none 0 0] 26)) (by omega)
  have VA3 := VA2.upd (Upd.alloc _ (.cells #[.slice none 0 0] 26)) (by omega)
  have VR : VC 26 (B + 1) #[.slice none 0 0] ((w.alloc (.cells #[.slice a xss.length c] 26)).alloc (.cells #[.slice none 0 0] 26)) := VC.new (by simp [hB])
  have VR3 := VR.upd (Upd.alloc _ (.cells #[.slice none 0 0] 26)) (by omega)
  have VO3 : VC 26 (B + 2) #[.slice none 0 0] (((w.alloc (.cells #[.slice a xss.length c] 26)).alloc (.cells #[.slice none 0 0] 26)).alloc (.cells #[.slice none 0 0] 26)) := VC.new (by simp [hB])
  have hcO := VO3.cell
  have hfO := VO3.free
  clear VA VA2 VR u1 u2
  have hO0 : OwnG (((w.alloc (.cells #[.slice a xss.length c] 26)).alloc (.cells #[.slice none 0 0] 26)).alloc (.cells #[.slice none 0 0] 26)) (B + 3) 43 2 (.slice none 0 0) [] [] := OwnG.nil _ _ (by decide) (World.ownsRow_nil _ _ _ 1)
  rw [hB] at u3
  have hsz3 : (((w.alloc (.cells #[.slice a xss.length c] 26)).alloc (.cells #[.slice none 0 0] 26)).alloc (.cells #[.slice none 0 0] 26)).heap.size = B + 3 := by simp [hB]
  go_enter Try.func34, Try.ntmps34
  go_wp2_with fail
  go_loopw [10] (fun i wr => ∃ (k : Nat) (u : Value) (us : List Value), k ≤ xss.length ∧ i = .int .i64 k ∧ VC 26 B #[.slice a xss.length c] wr ∧ VC 26 (B + 1) #[.slice none 0 0] wr ∧ VC 26 (B + 2) #[u] wr ∧
      OwnG wr (B + 3) 43 2 u us ((xss.take k).map ints) ∧ Below B w wr) (fun i _ => xss.length - (intOf i).toNat)
  case atStart => exact ⟨0, .slice none 0 0, [], Nat.zero_le _, rfl, VA3, VR3, VO3, hO0, u3⟩
  case round =>
    clear hcO hfO hO0 hsz3 VA3 VR3 VO3 u3
    obtain ⟨k, u, us, hk, rfl, VA, VR, VO, hO, hb⟩ := hrel
    have hcA := VA.cell
    have hcO := VO.cell
    have hlO := VO.lt
    have hul : us.length = k := by rw [hO.len]; simp; omega
    have HUL := Lib.hid hul
    clear hul
    by_cases hlt : k < xss.length
    · have hGr := hG.below (hB.symm ▸ hb)
      obtain ⟨rb, ro, r, xs, rfl, hc, hx, -, HX⟩ := hGr.intsAt hlt
      have hxl : xs.length ≤ 1000000 := HS.out xs (List.mem_of_getElem? HX.out)
      go_wp2_with fail
      refine wp_region_ord [0, 2] [1] [3, 4] [5, 6, 7] (by kernel_rfl) (by kernel_rfl) (fun _ _ d _ _ h => by cases d <;> exact h) ?_
      simp only [pickOps, List.filterMap_cons, List.filterMap_nil, List.getElem?_cons_succ, List.getElem?_cons_zero]
      repeat quiet_step (fail)
      refine wpSegs_cons ?_
      go_wp2_with fail
      refine (clone_any r xs wr.drew hx (by omega)).mono ?_
      rintro e w1 ⟨v', rfl, ho1, hb1⟩
      have hb1' := below_drew hb1
      obtain ⟨ga, gc, rfl⟩ := owns_shape ho1
      have HB1 := Lib.hid hb1'
      clear hb1 hb1'
      go_wp2_with fail
      refine ⟨HB1.out, ?_⟩
      refine wpSegs_cons ?_
      have hbs := run_buildOne (P := Try.prog) w1 22 43 _ (.slice ga xs.length gc) _ Try.underlying22 infoR rfl rfl
      go_wp2_with fail
      clear hbs
      have hb1' := HB1.out
      refine ⟨hb1'.alloc hb1'.size _, wpSegs_nil ?_⟩
      refine wpList_push _ rfl _ _ 22 rfl (B + 3) 43 _ _ 24 Try.underlying22 infoR rfl _ _ _ rfl (hO.below hb1').outer _ rfl rfl (by have := HUL.out; unfold maxLen; omega) (by have := HUL.out; omega) (by have := hb1'.size; omega) ?_
      intro g2 c2 w2 ho2 hg2
      have hlt2 : ∀ y, u.ownBlock = some y → B + 3 ≤ y := fun y hy => (owns_lt hO.outer hy).1
      have VA2 := (VA.upd (Upd.of_below hb1') (by omega)).grown hg2 (fun e => by have := hlt2 _ e; omega)
      have VR2 := (VR.upd (Upd.of_below hb1') (by omega)).grown hg2 (fun e => by have := hlt2 _ e; omega)
      have VO2 := (VO.upd (Upd.of_below hb1') (by omega)).grown hg2 (fun e => by have := hlt2 _ e; omega)
      have hcO2 := VO2.cell
      have hfO2 := VO2.free
      have hO2 := hO.push (cs := ints xs) hb1' (by simpa using ho1) (Nat.le_refl _) (by omega) ho2 hg2
      have hb2 : Below B w w2 := (hb.trans (hb1'.mono (by omega))).grown hg2 (by have := hb1'.size; omega) (fun y hy => by have := hlt2 y hy; omega)
      clear hO ho2 hg2 VA VR VO hcA hcO hc hx hb hb1' ho1 hlt2 hGr
      go_wp2_with fail
      go_roundw
      case rel =>
        refine ⟨k + 1, .slice (some ⟨g2, 0, none⟩) (us.length + 1) c2, us ++ [.slice ga xs.length gc], by omega, by go_num, VA2.other (by first | omega | (simp; done) | (simp; omega)) _, VR2.other (by first | omega | (simp; done) | (simp; omega)) _, VO2.set _, ?_, hb2.setCell (by first | omega | (simp; done) | (simp; omega)) _⟩
        rw [take_snoc HX.out, List.map_append]
        exact hO2.other (by simp) _
      case measure => simp [intOf]; omega
    · obtain ⟨ua, uc, rfl⟩ := owns_shape hO.outer
      have hcR := VR.cell
      have hfR := VR.free
      go_wp2_with fail
      have hce := (VR.set (.slice ua us.length uc)).cell
      refine bodyPost_ret (v := .agg #[.slice ua us.length uc]) (by simp [results, Try.results34, go_sem, hce]) rfl ?_
      rw [List.take_of_length_le (by omega)] at hO
      exact ⟨_, us, rfl, by rw [hB]; exact (hO.other (by first | omega | (simp; done) | (simp; omega)) _).rebase (by omega), by rw [hB]; exact hb.setCell (by first | omega | (simp; done) | (simp; omega)) _⟩
end Go.Proofs.Ytecjgpokfdpekaa
