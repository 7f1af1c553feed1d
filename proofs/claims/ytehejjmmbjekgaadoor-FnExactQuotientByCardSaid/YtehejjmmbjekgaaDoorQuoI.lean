/-
  'areJoined', 'slices.Contains' of sets, 'modelMasks' of the program.
-/
import Derived.Test.YtehejjmmbjekgaaDoorFindAj
import Derived.Test.YtehejjmmbjekgaaDoorQuoP
import Derived.Test.YtehejjmmbjekgaaDoorVertex
namespace Go.Proofs.YtehejjmmbjekgaaDoor
open Go.RowKit

/-- Has v a neighbour in a set? -/
def touch (n : Nat) (e : Nat → Nat → Bool) (p : Nat → Bool) (v : Nat) : Bool := decide (maskB n (fun u => e v u && p u) ≠ 0)
theorem touch_iff {n : Nat} {e : Nat → Nat → Bool} {p : Nat → Bool} {v : Nat} : touch n e p v = true ↔ ∃ u, u < n ∧ e v u = true ∧ p u = true := by
  unfold touch
  rw [decide_eq_true_eq, ne_eq, maskB_eq_zero]
  constructor
  · intro h
    apply Classical.byContradiction
    intro hn
    refine h fun u hu => ?_
    cases h1 : e v u <;> cases h2 : p u <;> first | rfl | exact (hn ⟨u, hu, h1, h2⟩).elim
  · rintro ⟨u, hu, h1, h2⟩ h
    have := h u hu
    rw [h1, h2] at this
    cases this

theorem touch_any (n : Nat) (e : Nat → Nat → Bool) (s p : Nat → Bool) : ((rowB n s).any fun x => touch n e p x.toNat) = touchB n e s p := by
  rw [Bool.eq_iff_iff, touchB_iff, List.any_eq_true]
  constructor
  · rintro ⟨x, hx, h⟩
    obtain ⟨u, hu, hs, rfl⟩ := mem_rowB.1 hx
    obtain ⟨v, hv, he, hp⟩ := touch_iff.1 h
    exact ⟨u, v, hu, hv, he, hs, hp⟩
  · rintro ⟨u, v, hu, hv, he, hs, hp⟩
    exact ⟨(u : Int), nat_mem_rowB.2 ⟨hu, hs⟩, touch_iff.2 ⟨v, hv, he, hp⟩⟩

set_option maxHeartbeats 1000000 in
theorem joined1_any (n : Nat) (e : Nat → Nat → Bool) (hn : n ≤ 16) (p : Nat → Bool) (v : Value) (A Z : Nat) (q : Nat) (hq : q < n) (x : Int) (hx : x = q) (z : Int) (hz : z = (maskB n p : Nat)) (W : World) (hA : VC 94 A #[v] W) (hZ : VC 116 Z #[.int .u32 z] W) (hr : Row W 1 v n (sets (NB n e))) :
    Calls Tryd.prog 137 #[.int .i64 x, .pointer (some ⟨A, 0, none⟩), .pointer (some ⟨Z, 0, none⟩)] W fun r W' => r = .returned (.bool (touch n e p q)) ∧ Below W.heap.size W W' := by
  subst hx
  obtain ⟨a, c, rfl, -, -, -⟩ := id hr
  obtain ⟨gb, go, x, rfl, hcx, HX⟩ := hr.setAt (j := q) (by simpa using hq)
  obtain rfl : maskB n (e q) = x := by have h := HX.out; rw [NB_at e hq] at h; exact Option.some.inj h
  obtain ⟨xi, HXI⟩ : ∃ z : Int, Hid (((maskB n (e q) : Nat) : Int) = z) := ⟨_, Lib.hid rfl⟩
  obtain ⟨k, HK⟩ : ∃ z : Nat, Hid (z = maskB n (fun u => e q u && p u)) := ⟨_, Lib.hid rfl⟩
  have hba : bits BinOp.and IntKind.u32 xi z = (k : Int) := by rw [← HXI.out, hz, HK.out, mask_and (by omega)]
  have HT : Hid (touch n e p q = ((k : Int) != 0)) := Lib.hid (by unfold touch; rw [← HK.out, Bool.eq_iff_iff]; simp)
  have hca := hA.cell
  have hcz := hZ.cell
  rw [HXI.out] at hcx
  clear HX hz
  go_enter Tryd.func137, Tryd.ntmps137
  go_wp2_with fail
  refine wp_region_ord [1] [0, 2, 3, 4, 5, 6, 7] [] [] (by kernel_rfl) (by kernel_rfl) (fun _ _ d _ _ h => by cases d <;> exact h) ?_
  simp only [pickOps, List.filterMap_cons, List.filterMap_nil, List.getElem?_cons_succ, List.getElem?_cons_zero]
  repeat quiet_step (fail)
  simp only [wpQuiet_nil_eq, wpSegs_nil_eq]
  go_wp2_with fail
  go_ret
  exact ⟨ret_bool HT.out.symm, below_drewN' W 1⟩

set_option maxHeartbeats 1000000 in
theorem areJoined_any (v : Value) (n : Nat) (e : Nat → Nat → Bool) (hn : n ≤ 16) (s p : Nat → Bool) (y z : Int) (hy : y = (maskB n s : Nat)) (hz : z = (maskB n p : Nat)) (b : Bool) (hb : touchB n e s p = b) (w : World) (ht : Tab w) (hr : Row w 1 v n (sets (NB n e))) :
    Calls Tryd.prog 97 #[v, .int .u32 y, .int .u32 z] w fun r w' => r = .returned (.bool b) ∧ Below w.heap.size w w' := by
  have hmf : ∀ (fn : Fn) (first cap : Array Value) (w : World), (Instr.makeFunc fn first cap).run Tryd.prog w = .ok (.func fn first cap) w := fun _ _ _ _ => rfl
  obtain ⟨a, c, rfl, -, -, -⟩ := id hr
  obtain ⟨B, hB⟩ : ∃ B, w.heap.size = B := ⟨_, rfl⟩
  have hTB : 0 < B := by rw [← hB]; exact ht.lt
  obtain ⟨W0, hW0⟩ : ∃ W0, W0 = w.alloc (.cells #[.slice a n c] 94) := ⟨_, rfl⟩
  obtain ⟨W1, hW1⟩ : ∃ W1, W1 = W0.alloc (.cells #[.int .u32 z] 116) := ⟨_, rfl⟩
  have hz0 : W0.heap.size = B + 1 := by simp [hW0, hB]
  have hz1 : W1.heap.size = B + 2 := by simp [hW1, hz0]
  have u0 : Below B w W0 := by rw [hW0, ← hB]; exact below_alloc' _ _
  have u1 : Below B w W1 := by rw [hW1]; exact u0.alloc (by omega) _
  have VA0 : VC 94 B #[.slice a n c] W0 := by rw [hW0]; exact VC.new hB
  have VA1 : VC 94 B #[.slice a n c] W1 := by rw [hW1]; exact VA0.upd (Upd.alloc _ _) (by omega)
  have VZ1 : VC 116 (B + 1) #[.int .u32 z] W1 := by rw [hW1]; exact VC.new hz0
  have hcz := VZ1.cell
  have HLI := Lib.hid (listB_any (n := n) (by omega) s y hy W1 (ht.keep u1 hTB))
  have HZ := Lib.hid hz
  have HBB := Lib.hid (touch_any n e s p)
  rw [hb] at HBB
  clear hz hy hb u0 VA0
  go_enter Tryd.func97, Tryd.ntmps97
  go_wp2_with fail
  rw [← hW0, ← hW1]
  clear hW0 hW1
  refine HLI.out.mono ?_
  rintro e1' w2 ⟨u2, rfl, hL2, hb2⟩
  obtain ⟨la, lc, rfl⟩ := owns_shape hL2
  have hb02 := u1.trans (hb2.mono (by omega))
  have VA2 := VA1.belowAt hb2 (by omega)
  have VZ2 := VZ1.belowAt hb2 (by omega)
  have hzz := hb2.size
  have HC := Lib.hid (contF_any_aj B (B + 1) (fun x => touch n e p x.toNat) (.slice la (rowB n s).length lc) (rowB n s) w2 (Row.of_owns hL2) (fun x hx W hbW => by
    obtain ⟨q, hq, _, rfl⟩ := mem_rowB.1 hx
    have := joined1_any n e hn p (.slice a n c) B (B + 1) q hq (q : Int) rfl z HZ.out W (VA2.belowAt hbW (by omega)) (VZ2.belowAt hbW (by omega)) (hr.below (hB.symm ▸ (hb02.trans (hbW.mono (by omega)))))
    rw [Int.toNat_natCast]
    exact this))
  clear HLI hL2 hb2 hcz
  go_wp2_with fail
  refine HC.out.mono ?_
  rintro e2 w3 ⟨rfl, hb3⟩
  go_wp2_with fail
  go_ret
  exact ⟨ret_bool HBB.out, by rw [hB]; exact hb02.trans (hb3.mono (by omega))⟩


/-- slices.Contains over sets: is the empty one there? -/
theorem idxV_any (v : Value) (ms : List Nat) (w : World) (hr : Row w 1 v ms.length (sets ms)) :
    Calls Tryd.prog 135 #[v, .int .u32 0] w fun e w' => ∃ r, e = .returned (.int .i64 r) ∧ decide (0 ≤ r) = ms.contains 0 ∧ r ≤ 9223372036854775807 ∧ w = w' := by
  have hl := hr.len
  unfold maxLen at hl
  obtain ⟨a, c, rfl, -, -, -⟩ := id hr
  go_enter Tryd.func135, Tryd.ntmps135
  go_wp2_with fail
  go_loopw [8] (fun i wr => ∃ k : Nat, k ≤ ms.length ∧ i = .int .i64 k ∧ Hid ((ms.take k).contains 0 = false) ∧ w = wr) (fun i _ => ms.length - (intOf i).toNat)
  case atStart => exact ⟨0, Nat.zero_le _, rfl, Lib.hid (by simp), rfl⟩
  case round =>
    obtain ⟨k, hk, rfl, HN, rfl⟩ := hrel
    by_cases hlt : k < ms.length
    · obtain ⟨b, o, y, rfl, hc, HY⟩ := Row.setAt hr hlt
      by_cases hxy : y = 0
      · have hd : ((0 : Int) == (y : Int)) = true := by simp [hxy]
        have HXY := Lib.hid hxy
        clear hxy
        go_wp2_with fail
        go_ret
        have hin : ms.contains 0 = true := by
          have h1 := List.mem_of_getElem? HY.out
          rw [HXY.out] at h1
          simpa using h1
        exact ⟨_, rfl, by rw [hin]; simp, by omega, rfl⟩
      · have hd : ((0 : Int) == (y : Int)) = false := by rw [beq_eq_false_iff_ne]; omega
        have HN1 : Hid ((ms.take (k + 1)).contains 0 = false) := Lib.hid (by
          have h1 := HN.out
          rw [take_snoc HY.out]
          simp only [List.contains_eq_mem, decide_eq_false_iff_not, List.mem_append, List.mem_singleton] at h1 ⊢
          rintro (h | h)
          · exact h1 h
          · exact hxy h.symm)
        go_wp2_with fail
        go_roundw
        case rel => exact ⟨k + 1, by omega, by go_num, HN1, by trivial⟩
        case measure => simp [intOf]; omega
    · go_wp2_with fail
      go_ret
      have hin : ms.contains 0 = false := by
        have h1 := HN.out
        rwa [show k = ms.length by omega, List.take_length] at h1
      exact ⟨_, rfl, by rw [hin]; simp, by omega, rfl⟩
theorem contV_any (v : Value) (ms : List Nat) (w : World) (hr : Row w 1 v ms.length (sets ms)) (b : Bool) (hb : ms.contains 0 = b) :
    Calls Tryd.prog 95 #[v, .int .u32 0] w fun e w' => e = .returned (.bool b) ∧ w = w' := by
  obtain ⟨a, c, rfl, -, -, -⟩ := id hr
  go_enter Tryd.func95, Tryd.ntmps95
  go_wp2_with fail
  refine (idxV_any _ ms _ hr).mono ?_
  rintro e w' ⟨r, rfl, hd, -, rfl⟩
  have HD := Lib.hid (hd.trans hb)
  clear hd
  go_wp2_with fail
  go_ret
  exact ⟨ret_bool HD.out, rfl⟩

/-! ### The sets of a model -/
def MS (n : Nat) (mss : List (List Int)) : List Nat := mss.map fun s => maskB n (inL s)
@[simp] theorem MS_length (n : Nat) (mss : List (List Int)) : (MS n mss).length = mss.length := by simp [MS]
theorem MS_at {n : Nat} {mss : List (List Int)} {k : Nat} {s : List Int} (h : mss[k]? = some s) : (MS n mss)[k]? = some (maskB n (inL s)) := by simp [MS, h]
theorem MS_zero {n : Nat} {mss : List (List Int)} (h : Good n mss mss.length) : (MS n mss).contains 0 = true ↔ ∃ s ∈ mss, s = [] := by
  simp only [List.contains_eq_mem, decide_eq_true_eq]
  unfold MS
  rw [List.mem_map]
  constructor
  · rintro ⟨s, hs, h0⟩
    refine ⟨s, hs, ?_⟩
    obtain ⟨j, hj⟩ := List.getElem?_of_mem hs
    have hp := h.at hj
    rw [maskB_eq_zero] at h0
    cases s with
    | nil => rfl
    | cons x l =>
      have hx := hp.1 x (by simp)
      have := h0 x.toNat (by omega)
      unfold inL at this
      rw [decide_eq_false_iff_not] at this
      exact (this (by rw [Int.toNat_of_nonneg hx.1]; simp)).elim
  · rintro ⟨s, hs, rfl⟩
    exact ⟨[], hs, maskB_eq_zero.2 fun i _ => by simp [inL]⟩
theorem apart_mask {n : Nat} {s : List Int} {o : Nat → Bool} (hs : SetP n s) : maskB n (fun i => inL s i && o i) = 0 ↔ ∀ v, inL s v = true → o v = false := by
  rw [maskB_eq_zero]
  constructor
  · intro h v hv
    have hvn : v < n := by
      unfold inL at hv
      rw [decide_eq_true_eq] at hv
      have := (hs.1 _ hv).2
      omega
    have := h v hvn
    rw [hv, Bool.true_and] at this
    exact this
  · intro h i _
    cases hi : inL s i with
    | false => rfl
    | true => rw [h i hi]; rfl
end Go.Proofs.YtehejjmmbjekgaaDoor
