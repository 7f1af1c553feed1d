/-
  'l31Flat' of the reference; 'joinedNums' of the program.
-/
import Derived.Test.YtehejjmmbjekgaaLawsC
import Derived.Test.YtehejjmmbjekgaaSpecA
namespace Go.Proofs.Ytehejjmmbjekgaa
open Go.RowKit

/-- Lists of k numbers each, in one list; none: where a list is of another length, or there are too many. -/
def flat (xss : List (List Int)) (k : Nat) : List Int := if xss.length ≤ 16 ∧ ∀ xs ∈ xss, xs.length = k then xss.flatten else []

theorem flat_len (xss : List (List Int)) (k : Nat) (h : ∀ xs ∈ xss, xs.length = k) : k * xss.length = xss.flatten.length := by
  induction xss with
  | nil => simp
  | cons x l ih =>
    simp only [List.length_cons, List.flatten_cons, List.length_append, Nat.mul_succ]
    rw [ih (fun xs h' => h xs (List.mem_cons_of_mem _ h')), h x (List.mem_cons_self ..)]
    omega

set_option maxHeartbeats 1000000 in
theorem specFlat (v : Value) (vs : List Value) (xss : List (List Int)) (k : Nat) (hk : k ≤ 3) (w : World) (hr : RdG w v vs (xss.map ints)) :
    Calls Try.prog 24 #[v, .int .i64 k] w fun e w' => ∃ u, e = .returned u ∧ w'.ownsRow w.heap.size 2 1 u (flat xss k).length (ints (flat xss k)) ∧ Below w.heap.size w w' := by
  have hl := hr.outer.len
  unfold maxLen at hl
  have e1 : vs.length = xss.length := by simpa using hr.len
  obtain ⟨a, c, rfl, -, -, -⟩ := id hr.outer
  rw [e1] at hr hl ⊢
  clear e1
  obtain ⟨B, hB⟩ : ∃ B, w.heap.size = B := ⟨_, rfl⟩
  have ho0 : (w.alloc (.cells #[] 2)).ownsRow B 2 1 (.slice (some ⟨B, 0, none⟩) 0 0) 0 [] := by subst hB; exact World.ownsRow_lit w #[] 0 (Nat.le_refl _) (by simp [maxLen]) rfl
  have hb0 : Below B w (w.alloc (.cells #[] 2)) := by subst hB; exact (Below.refl _ _).alloc (Nat.le_refl _) _
  by_cases hlen : 16 < xss.length
  · have hf : flat xss k = [] := if_neg (by omega)
    rw [hf]
    go_enter Try.func24, Try.ntmps24
    go_wp2_with fail
    go_ret
    exact ⟨_, rfl, by simpa [hB, ints] using ho0, by rw [hB]; exact hb0⟩
  · go_enter Try.func24, Try.ntmps24
    go_wp2_with fail
    go_loopw [6, 5] (fun i u wr => ∃ j : Nat, j ≤ xss.length ∧ i = .int .i64 j ∧ Hid (∀ xs ∈ xss.take j, xs.length = k) ∧ wr.ownsRow B 2 1 u (k * j) (ints (xss.take j).flatten) ∧ Below B w wr) (fun i _ _ => xss.length - (intOf i).toNat)
    case atStart => exact ⟨0, Nat.zero_le _, rfl, Lib.hid (by simp), by simpa [ints] using ho0, hb0⟩
    case round =>
      obtain ⟨j, hj, rfl, HA, ho, hb⟩ := hrel
      have hsz := hb.size
      by_cases hlt : j < xss.length
      · obtain ⟨b, o, u, xs, rfl, hc, hu, -, HX⟩ := (hr.below (hB.symm ▸ hb)).intsAt hlt
        by_cases hxk : xs.length = k
        · have hd : ((xs.length : Int) != (k : Int)) = false := by simp [hxk]
          have HK := Lib.hid hxk
          obtain ⟨m, hm⟩ : ∃ m, k * j = m := ⟨_, rfl⟩
          have hm3 : m ≤ 3 * 16 := by rw [← hm]; exact Nat.mul_le_mul hk (by omega)
          rw [hm] at ho
          have hk2 : k * (j + 1) = m + xs.length := by rw [Nat.mul_succ, hm, hxk]
          have hxl : xs.length ≤ 3 := by omega
          have HK2 := Lib.hid hk2
          clear hxk hm hk2
          obtain ⟨oa, oc, rfl⟩ := owns_shape ho
          obtain ⟨ua, uc, rfl, -, -, -⟩ := id hu
          have hlt2 : ∀ y, (Value.slice oa m oc).ownBlock = some y → B ≤ y := fun y hy => (owns_lt ho hy).1
          go_wp2_with (at_builtin; refine wpList_extend wr rfl _ _ 24 rfl B 2 _ 8 Try.underlying24 infoI rfl _ m _ rfl ho _ xs.length _ rfl hu (ints_one xs) (by unfold maxLen; omega) (by omega) (by omega) ?_; intro a2 c2 w2 ho2 hg2)
          go_roundw
          case rel => exact ⟨j + 1, by omega, by go_num, Lib.hid (by rw [take_snoc HX.out]; intro ys hys; rcases List.mem_append.1 hys with h | h; (· exact HA.out ys h); rw [List.mem_singleton.1 h]; exact HK.out), by rw [HK2.out, take_snoc HX.out, List.flatten_append]; simpa [ints] using ho2, hb.trans (below_of_grown hg2 (by omega) hlt2)⟩
          case measure => simp [intOf]; omega
        · have hd : ((xs.length : Int) != (k : Int)) = true := by simp; omega
          have hf : flat xss k = [] := if_neg fun h => hxk (h.2 xs (List.mem_of_getElem? HX.out))
          have HF := Lib.hid hf
          clear hxk hf
          have ho1 : (wr.alloc (.cells #[] 2)).ownsRow B 2 1 (.slice (some ⟨wr.heap.size, 0, none⟩) 0 0) 0 [] := World.ownsRow_lit wr #[] 0 (by omega) (by simp [maxLen]) rfl
          obtain ⟨ua, uc, rfl, -, -, -⟩ := id hu
          go_wp2_with fail
          go_ret
          exact ⟨_, rfl, by rw [HF.out]; simpa [hB, ints] using ho1, by rw [hB]; exact hb.alloc (by omega) _⟩
      · obtain rfl : j = xss.length := by omega
        have hf : flat xss k = xss.flatten := if_pos ⟨by omega, by have := HA.out; rwa [List.take_length] at this⟩
        have hfl : k * xss.length = xss.flatten.length := flat_len xss k (by have hA := HA.out; rwa [List.take_length] at hA)
        rw [List.take_length, hfl] at ho
        have HF := Lib.hid hf
        clear hf hfl
        go_wp2_with fail
        go_ret
        exact ⟨_, rfl, by rw [hB, HF.out]; exact ho, by rw [hB]; exact hb⟩
end Go.Proofs.Ytehejjmmbjekgaa
