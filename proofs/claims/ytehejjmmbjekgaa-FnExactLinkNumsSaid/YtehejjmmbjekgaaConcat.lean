/-
  'slices.Concat', 'joinedNums' of the program; LinkNums and TripleNums of both.
-/
import Derived.Test.YtehejjmmbjekgaaJoined
import Derived.Test.YtehejjmmbjekgaaKinds
import Derived.Shelf.Spec.SlicesGrow
namespace Go.Proofs
open Go.Shelf
def Try.growI_ren : Go.Shelf.Ren := ⟨fun | 4 => 37 | n => n, fun | 22 => 24 | 25 => 2 | 3 => 3 | 4 => 4 | 9 => 9 | 20 => 20 | 0 => 0 | n => n, fun | n => n⟩
theorem Try.growI : Go.Proofs.Lays8.n4 Try.prog Try.growI_ren := {
  mixed := by kernel_rfl
  f4 := ⟨Try.f37.name, by decide, Try.func37.trans (congrArg some (by kernel_rfl))⟩
  t0 := Try.underlying0
  a0 := Try.isAgg0
  z0 := Try.sizeOf0
  v0 := Try.zeroValue0
  t3 := Try.underlying3
  a3 := Try.isAgg3
  z3 := Try.sizeOf3
  v3 := Try.zeroValue3
  t4 := Try.underlying4
  a4 := Try.isAgg4
  z4 := Try.sizeOf4
  v4 := Try.zeroValue4
  t9 := Try.underlying9
  a9 := Try.isAgg9
  z9 := Try.sizeOf9
  v9 := Try.zeroValue9
  t20 := Try.underlying20
  a20 := Try.isAgg20
  z20 := Try.sizeOf20
  v20 := Try.zeroValue20
  t22 := Try.underlying24
  a22 := Try.isAgg24
  z22 := Try.sizeOf24
  v22 := Try.zeroValue24 }
end Go.Proofs
namespace Go.Proofs.Ytehejjmmbjekgaa
open Go.RowKit Go.Shelf Go.Lib

/-- A row of room for n numbers. -/
theorem grow_any (n : Nat) (hn : n ≤ 1000) (w : World) :
    Calls Try.prog 37 #[.slice none 0 0, .int .i64 n] w fun e w' => ∃ u, e = .returned u ∧ w'.ownsRow w.heap.size 2 1 u 0 (ints []) ∧ Below w.heap.size w w' := by
  by_cases h0 : n = 0
  · subst h0
    refine (Any8.slices_Grow_room Try.growI none 0 0 0 w (by omega) (by omega) (by omega) (by omega)).mono ?_
    rintro e w' ⟨rfl, rfl⟩
    exact ⟨_, rfl, World.ownsRow_nil _ _ _ 1, Below.refl _ _⟩
  · obtain ⟨i0, hi, hz, hsz, hby⟩ := info_parts infoI
    refine (Any8.slices_Grow_grow Try.growI i0 (.int .i64 0) hi hz (by rw [hsz]; omega) none 0 0 n [] w (by omega) (by omega) (by rw [hby]; omega) (by omega) (by simp) (fun _ => rfl) (fun a h => by cases h)).mono ?_
    rintro e w' ⟨rfl, rfl⟩
    have hcm : grownCap w (0 + n) 0 2 ≤ maxLen := grownCap_le_maxLen w (0 + n) 0 2 (by unfold maxLen; omega)
    have hge : 0 + n ≤ grownCap w (0 + n) 0 2 := grownCap_ge w (0 + n) 0 2
    refine ⟨_, rfl, ?_, ((Below.refl _ _ : Below w.heap.size w w).drew).alloc (Nat.le_refl _) _⟩
    refine World.ownsRow_made w.drew _ _ (Nat.le_refl _) hcm ?_
    have hz1 : (Value.int .i64 0).cells.size = 1 := rfl
    have ht : Try.growI_ren.t 25 = 2 := by kernel_rfl
    simp only [Array.size_append, List.size_toArray, size_zeroCells, hz1, List.length_nil, ht]
    omega

theorem flatten_snoc {xss : List (List Int)} {j : Nat} {xs : List Int} (h : xss[j]? = some xs) : (xss.take (j + 1)).flatten = (xss.take j).flatten ++ xs := by
  rw [take_snoc h, List.flatten_append]; simp

set_option maxHeartbeats 2000000 in
theorem concat_any (v : Value) (vs : List Value) (xss : List (List Int)) (h16 : xss.length ≤ 16) (h3 : ∀ xs ∈ xss, xs.length ≤ 3) (w : World) (hr : RdG w v vs (xss.map ints)) :
    Calls Try.prog 34 #[v] w fun e w' => ∃ u, e = .returned u ∧ w'.ownsRow w.heap.size 2 1 u xss.flatten.length (ints xss.flatten) ∧ Below w.heap.size w w' := by
  have e1 : vs.length = xss.length := by simpa using hr.len
  obtain ⟨a, c, rfl, -, -, -⟩ := id hr.outer
  rw [e1] at hr ⊢
  clear e1
  have H3 := Lib.hid h3
  clear h3
  obtain ⟨B, hB⟩ : ∃ B, w.heap.size = B := ⟨_, rfl⟩
  go_enter Try.func34, Try.ntmps34
  go_wp2_with fail
  go_loopw [3, 11] (fun s i wr => ∃ j m : Nat, j ≤ xss.length ∧ i = .int .i64 j ∧ s = .int .i64 m ∧ m ≤ 3 * j ∧ Hid (m = (xss.take j).flatten.length) ∧ w = wr) (fun _ i _ => xss.length - (intOf i).toNat)
  case atStart => exact ⟨0, 0, Nat.zero_le _, rfl, rfl, Nat.zero_le _, Lib.hid (by simp), rfl⟩
  case round =>
    obtain ⟨j, m, hj, rfl, rfl, hm, HM, rfl⟩ := hrel
    by_cases hlt : j < xss.length
    · obtain ⟨b, o, u, xs, rfl, hc, hu, -, HX⟩ := hr.intsAt hlt
      obtain ⟨ua, uc, rfl, -, -, -⟩ := id hu
      have hx3 := H3.out xs (List.mem_of_getElem? HX.out)
      have HM2 : Hid (m + xs.length = (xss.take (j + 1)).flatten.length) := Lib.hid (by rw [flatten_snoc HX.out, List.length_append, HM.out])
      clear hu
      go_wp2_with fail
      go_roundw
      case rel => exact ⟨j + 1, m + xs.length, by omega, by go_num, by go_num, by omega, HM2, by first | rfl | trivial⟩
      case measure => simp [intOf]; omega
    · obtain rfl : j = xss.length := by omega
      have HML : Hid (m = xss.flatten.length) := Lib.hid (by have := HM.out; rwa [List.take_length] at this)
      have HG := Lib.hid (grow_any m (by omega) w)
      go_wp2_with fail
      refine HG.out.mono ?_
      rintro e w1 ⟨u0, rfl, ho, hb⟩
      rw [hB] at ho hb
      have ho0 : w1.ownsRow B 2 1 u0 (xss.take 0).flatten.length (ints (xss.take 0).flatten) := by simpa using ho
      clear ho HG
      go_wp2_with fail
      go_loopw [6, 27] (fun u i wr => ∃ j : Nat, j ≤ xss.length ∧ i = .int .i64 j ∧ Hid ((xss.take j).flatten.length ≤ 3 * j) ∧ wr.ownsRow B 2 1 u (xss.take j).flatten.length (ints (xss.take j).flatten) ∧ Below B w wr) (fun _ i _ => xss.length - (intOf i).toNat)
      case atStart => exact ⟨0, Nat.zero_le _, rfl, Lib.hid (by simp), ho0, hb⟩
      case round =>
        clear ho0 hb
        obtain ⟨j, hj, rfl, HL, ho, hb⟩ := hrel
        have hsz := hb.size
        by_cases hlt : j < xss.length
        · obtain ⟨b, o, u, xs, rfl, hc, hu, -, HX⟩ := (hr.below (hB.symm ▸ hb)).intsAt hlt
          obtain ⟨ua, uc, rfl, -, -, -⟩ := id hu
          have hx3 := H3.out xs (List.mem_of_getElem? HX.out)
          obtain ⟨oa, oc, rfl⟩ := owns_shape ho
          obtain ⟨n, hn⟩ : ∃ n, (xss.take j).flatten.length = n := ⟨_, rfl⟩
          have hn48 : n ≤ 48 := by have := HL.out; omega
          have HN := Lib.hid hn
          rw [hn] at ho ⊢
          have hlt2 : ∀ y, (Value.slice oa n oc).ownBlock = some y → B ≤ y := fun y hy => (owns_lt ho hy).1
          have HF := Lib.hid (flatten_snoc HX.out)
          have HL2 : Hid ((xss.take (j + 1)).flatten.length ≤ 3 * (j + 1)) := Lib.hid (by rw [HF.out, List.length_append, hn]; have := HL.out; omega)
          clear hn
          go_wp2_with (at_builtin; refine wpList_extend wr rfl _ _ 24 rfl B 2 _ 8 Try.underlying24 infoI rfl (.slice oa n oc) n _ rfl ho (.slice ua xs.length uc) xs.length _ rfl hu (ints_one xs) (by unfold maxLen; omega) (by omega) (by omega) ?_; intro a2 c2 w2 ho2 hg2)
          have hb2 := hb.trans (below_of_grown hg2 (by omega) hlt2)
          have HO : Hid (w2.ownsRow B 2 1 (.slice a2 (n + xs.length) c2) (xss.take (j + 1)).flatten.length (ints (xss.take (j + 1)).flatten)) := Lib.hid (by
            rw [HF.out, List.length_append, HN.out]
            simpa [ints] using ho2)
          clear ho2 hg2 hb ho hlt2
          go_roundw
          case rel => exact ⟨j + 1, by omega, by go_num, HL2, HO.out, hb2⟩
          case measure => simp [intOf]; omega
        · obtain rfl : j = xss.length := by omega
          rw [List.take_length] at ho
          go_wp2_with fail
          go_ret
          exact ⟨_, rfl, by rw [hB]; exact ho, by rw [hB]; exact hb⟩

set_option maxHeartbeats 1000000 in
theorem joined_any (v : Value) (xss : List (List Int)) (k : Nat) (hk : k ≤ 3) (w : World) (hr : RdSS v xss w) :
    Calls Try.prog 26 #[v, .int .i64 k] w (SRes w (flat xss k)) := by
  obtain ⟨vs, hG⟩ := hr.ex
  have e1 : vs.length = xss.length := by simpa using hG.len
  obtain ⟨a, c, rfl, -, -, -⟩ := id hG.outer
  have hl := hG.outer.len
  unfold maxLen at hl
  rw [e1] at hG hl ⊢
  have hmf : ∀ (fn : Fn) (first cap : Array Value) (w : World), (Instr.makeFunc fn first cap).run Try.prog w = .ok (.func fn first cap) w := fun _ _ _ _ => rfl
  obtain ⟨B, hB⟩ : ∃ B, w.heap.size = B := ⟨_, rfl⟩
  obtain ⟨W0, hW0⟩ : ∃ W0, W0 = w.alloc (.cells #[.int .i64 k] 3) := ⟨_, rfl⟩
  have u0 : Below B w W0 := by rw [hW0, ← hB]; exact below_alloc' _ _
  have hz0 : W0.heap.size = B + 1 := by rw [hW0]; simp [hB]
  have VK : VC 3 B #[.int .i64 k] W0 := by rw [hW0]; exact VC.new hB
  have hck := VK.cell
  have hG0 := hG.below (hB.symm ▸ u0)
  by_cases hlen : 16 < xss.length
  · have hd : (16 : Int) < xss.length := by omega
    have HF : Hid (flat xss k = []) := Lib.hid (if_neg (by omega))
    clear hlen
    go_enter Try.func26, Try.ntmps26
    go_wp2_with fail
    go_ret
    exact ⟨_, rfl, by rw [HF.out]; exact World.ownsRow_nil _ _ _ 1, by rw [← hW0, hB]; exact u0⟩
  have hd : ¬ (16 : Int) < xss.length := by omega
  have HC := Lib.hid (containsBad (.slice a xss.length c) vs xss k B W0 hG0 (by omega) hck)
  obtain ⟨q, hq⟩ : ∃ q, (xss.any fun xs => xs.length != k) = q := ⟨_, rfl⟩
  rw [hq] at HC
  have HQ := Lib.hid hq
  clear hq hG
  go_enter Try.func26, Try.ntmps26
  go_wp2_with fail
  rw [← hW0]
  clear hW0
  refine HC.out.mono ?_
  rintro e w1 ⟨rfl, n, rfl⟩
  cases q with
  | true =>
    have HF : Hid (flat xss k = []) := Lib.hid (if_neg fun h => by
      obtain ⟨xs, hx, hne⟩ := List.any_eq_true.1 HQ.out
      have := h.2 xs hx
      simp [this] at hne)
    have hb1 : Below B w (W0.drewN n) := u0.trans ((show Below W0.heap.size W0 (W0.drewN n) from ⟨rfl, rfl, rfl, Nat.le_refl _, fun _ _ => rfl⟩).mono (by omega))
    go_wp2_with fail
    go_ret
    exact ⟨_, rfl, by rw [HF.out]; exact World.ownsRow_nil _ _ _ 1, by rw [hB]; exact hb1⟩
  | false =>
    have hall : ∀ xs ∈ xss, xs.length = k := fun xs hx => by
      have := List.any_eq_false.1 HQ.out xs hx
      simpa using this
    have HF : Hid (flat xss k = xss.flatten) := Lib.hid (if_pos ⟨by omega, hall⟩)
    have hbd : Below W0.heap.size W0 (W0.drewN n) := ⟨rfl, rfl, rfl, Nat.le_refl _, fun _ _ => rfl⟩
    have hb1 : Below B w (W0.drewN n) := u0.trans (hbd.mono (by omega))
    have HCC := Lib.hid (concat_any (.slice a xss.length c) vs xss (by omega) (fun xs hx => by have := hall xs hx; omega) (W0.drewN n) (hG0.below hbd))
    clear hall
    go_wp2_with fail
    refine HCC.out.mono ?_
    rintro e w2 ⟨u, rfl, ho, hb2⟩
    have hz1 : (W0.drewN n).heap.size = B + 1 := hz0
    have hb3 := hb1.trans (hb2.mono (by rw [hz1]; omega))
    rw [hz1] at ho
    clear hb2 HCC
    go_wp2_with fail
    go_ret
    exact ⟨_, rfl, by rw [HF.out, hB]; exact owns_base ho (by omega), by rw [hB]; exact hb3⟩

theorem flat_small (xss : List (List Int)) (k : Nat) (hk : k ≤ 3) : (flat xss k).length ≤ 48 := by
  unfold flat
  split
  · rename_i h
    rw [← flat_len xss k h.2]
    have : k * xss.length ≤ 3 * 16 := Nat.mul_le_mul hk h.1
    omega
  · simp

theorem both_LinkNums (xss : List (List Int)) : ∃ rs : List Int, 1 + rs.length ≤ 1000000000 ∧
    (∀ (w : World) (v : Value), RdSS v xss w → Calls Try.prog 7 #[v] w (SRes w rs)) ∧
    (∀ (w : World) (v : Value), RdSS v xss w → Calls Try.prog 9 #[v] w (SRes w rs)) := by
  refine ⟨flat xss 2, by have := flat_small xss 2 (by omega); omega, fun w v hr => ?_, fun w v hr => ?_⟩
  · obtain ⟨vs, hG⟩ := hr.ex
    obtain ⟨a, c, rfl⟩ := hr.shape
    have HC := Lib.hid (specFlat (.slice a xss.length c) vs xss 2 (by omega) w hG)
    go_enter Try.func7, Try.ntmps7
    go_wp2_with fail
    refine HC.out.mono ?_
    rintro e w1 ⟨u, rfl, ho, hb⟩
    have HB := Lib.hid hb
    clear hb
    go_wp2_with fail
    go_ret
    exact ⟨_, rfl, ho, HB.out⟩
  · obtain ⟨a, c, rfl⟩ := hr.shape
    have HC := Lib.hid (joined_any (.slice a xss.length c) xss 2 (by omega) w hr)
    go_enter Try.func9, Try.ntmps9
    go_wp2_with fail
    refine HC.out.mono ?_
    rintro e w1 ⟨u, rfl, ho, hb⟩
    have HB := Lib.hid hb
    clear hb
    go_wp2_with fail
    go_ret
    exact ⟨_, rfl, ho, HB.out⟩
theorem both_TripleNums (xss : List (List Int)) : ∃ rs : List Int, 1 + rs.length ≤ 1000000000 ∧
    (∀ (w : World) (v : Value), RdSS v xss w → Calls Try.prog 15 #[v] w (SRes w rs)) ∧
    (∀ (w : World) (v : Value), RdSS v xss w → Calls Try.prog 16 #[v] w (SRes w rs)) := by
  refine ⟨flat xss 3, by have := flat_small xss 3 (by omega); omega, fun w v hr => ?_, fun w v hr => ?_⟩
  · obtain ⟨vs, hG⟩ := hr.ex
    obtain ⟨a, c, rfl⟩ := hr.shape
    have HC := Lib.hid (specFlat (.slice a xss.length c) vs xss 3 (by omega) w hG)
    go_enter Try.func15, Try.ntmps15
    go_wp2_with fail
    refine HC.out.mono ?_
    rintro e w1 ⟨u, rfl, ho, hb⟩
    have HB := Lib.hid hb
    clear hb
    go_wp2_with fail
    go_ret
    exact ⟨_, rfl, ho, HB.out⟩
  · obtain ⟨a, c, rfl⟩ := hr.shape
    have HC := Lib.hid (joined_any (.slice a xss.length c) xss 3 (by omega) w hr)
    go_enter Try.func16, Try.ntmps16
    go_wp2_with fail
    refine HC.out.mono ?_
    rintro e w1 ⟨u, rfl, ho, hb⟩
    have HB := Lib.hid hb
    clear hb
    go_wp2_with fail
    go_ret
    exact ⟨_, rfl, ho, HB.out⟩

end Go.Proofs.Ytehejjmmbjekgaa
