import Derived.Test.YtpfhflkpnjkgkaaCardCertNumbersJn00
import Derived.Test.YtpfhflkpnjkgkaaCardCertNumbersJn13
import Derived.Test.YtpfhflkpnjkgkaaGq01
import Derived.Test.YtpfhflkpnjkgkaaGq02
/-
  'SameCert' of two equal certificates.
-/


namespace Go.Proofs.Ytpfhflkpnjkgkaa
open Go.RowKit

set_option maxHeartbeats 4000000 in
theorem sameCert_any (u : Value) (xs : List Int) (w : World) (hr : RdS u xs w) :
    Calls Try.prog 18 #[.agg #[.int .i64 1, u, .slice none 0 0], .agg #[.int .i64 1, u, .slice none 0 0]] w (BRes w true) := by
  obtain ⟨a, c, rfl, -, -, -⟩ := id hr
  obtain ⟨B, hB⟩ : ∃ B, w.heap.size = B := ⟨_, rfl⟩
  obtain ⟨W1, hW1⟩ : ∃ W, W = w.alloc (.cells #[.int .i64 1, .slice a xs.length c, .slice none 0 0] 37) := ⟨_, rfl⟩
  obtain ⟨W2, hW2⟩ : ∃ W, W = W1.alloc (.cells #[.int .i64 1, .slice a xs.length c, .slice none 0 0] 37) := ⟨_, rfl⟩
  have b1 : Below B w W1 := by rw [hW1, ← hB]; exact below_alloc' _ _
  have hz1 : W1.heap.size = B + 1 := by rw [hW1]; simp [hB]
  have b2 : Below (B + 1) W1 W2 := by rw [hW2, ← hz1]; exact below_alloc' _ _
  have V1 : VC 37 B #[.int .i64 1, .slice a xs.length c, .slice none 0 0] W2 := VC.belowAt (by rw [hW1]; exact VC.new hB) b2 (by omega)
  have V2 : VC 37 (B + 1) #[.int .i64 1, .slice a xs.length c, .slice none 0 0] W2 := by rw [hW2]; exact VC.new hz1
  have hbW : Below B w W2 := b1.trans (b2.mono (by omega))
  have hr2 : RdS (.slice a xs.length c) xs W2 := hr.below hbW hB
  have p0 := V1.getAt (i := 0) rfl
  have p1 := V1.getAt (i := 1) rfl
  have p2 := V1.getAt (i := 2) rfl
  have q0 := V2.getAt (i := 0) rfl
  have q1 := V2.getAt (i := 1) rfl
  have q2 := V2.getAt (i := 2) rfl
  have HEQ := Lib.hid (equalI_any (.slice a xs.length c) (.slice a xs.length c) xs xs W2 hr2 hr2)
  go_enter Try.func18, Try.ntmps18
  go_wp2_with fail
  try rw [← hW1]
  try rw [← hW2]
  refine HEQ.out.mono ?_
  rintro e w3 ⟨rfl, hb3⟩
  have hz2 : B + 2 ≤ W2.heap.size := by rw [hW2]; simp [hz1]
  have V13 := V1.belowAt hb3 (by omega)
  have V23 := V2.belowAt hb3 (by omega)
  have p23 := V13.getAt (i := 2) rfl
  have q23 := V23.getAt (i := 2) rfl
  have hb03 := hbW.trans (hb3.mono (by omega))
  have hnil : RdSS (.slice none 0 0) [] w3 := ⟨[], ⟨rfl, Row.of_owns (World.ownsRow_nil w3 0 26 1), fun i u cs h1 _ => by simp at h1⟩⟩
  have HEF := Lib.hid (equalFunc_any (.slice none 0 0) (.slice none 0 0) [] [] w3 hnil hnil true (by simp))
  have HB := Lib.hid hb03
  have hxx : decide (xs = xs) = true := by simp
  clear p0 p1 p2 q0 q1 q2 V1 V2 b1 b2 hbW hr2 hb3 V13 V23 hb03 hnil hz2
  go_wp2_with fail
  refine HEF.out.mono ?_
  rintro e w4 ⟨rfl, hb4⟩
  have HE := Lib.hid (HB.out.trans (hb4.mono (by have := HB.out.size; omega)))
  clear hb4
  go_wp2_with fail
  go_ret
  exact ⟨rfl, by rw [hB]; exact HE.out⟩
end Go.Proofs.Ytpfhflkpnjkgkaa
/-
  'l31Flat' of the reference; 'joinedNums' of the program.
-/


namespace Go.Proofs.Ytpfhflkpnjkgkaa
open Go.RowKit

/-- Lists of k numbers each, in one list; none: where a list is of another length, or there are too many. -/
def flat (xss : List (List Int)) (k : Nat) : List Int := if xss.length ≤ 16 ∧ ∀ xs ∈ xss, xs.length = k then xss.flatten else []

theorem flat_len (xss : List (List Int)) (k : Nat) (h : ∀ xs ∈ xss, xs.length = k) : k * xss.length = xss.flatten.length := by
  induction xss with
  | nil => simp
  | cons x l ih =>
    simp only [List.length_cons, List.flatten_cons, List.length_append, Nat.mul_succ]
    rw [ih (fun xs h' => h xs (List.mem_cons_of_mem _ h')), h x (List.mem_cons_self ..)]
    omega

set_option maxHeartbeats 1000000 in
theorem specFlat (v : Value) (vs : List Value) (xss : List (List Int)) (k : Nat) (hk : k ≤ 3) (w : World) (hr : RdG w v vs (xss.map ints)) :
    Calls Try.prog 34 #[v, .int .i64 k] w fun e w' => ∃ u, e = .returned u ∧ w'.ownsRow w.heap.size 2 1 u (flat xss k).length (ints (flat xss k)) ∧ Below w.heap.size w w' := by
  have hl := hr.outer.len
  unfold maxLen at hl
  have e1 : vs.length = xss.length := by simpa using hr.len
  obtain ⟨a, c, rfl, -, -, -⟩ := id hr.outer
  rw [e1] at hr hl ⊢
  clear e1
  obtain ⟨B, hB⟩ : ∃ B, w.heap.size = B := ⟨_, rfl⟩
  have ho0 : (w.alloc (.cells #[] 2)).ownsRow B 2 1 (.slice (some ⟨B, 0, none⟩) 0 0) 0 [] := by subst hB; exact World.ownsRow_lit w #[] 0 (Nat.le_refl _) (by simp [maxLen]) rfl
  have hb0 : Below B w (w.alloc (.cells #[] 2)) := by subst hB; exact (Below.refl _ _).alloc (Nat.le_refl _) _
  by_cases hlen : 16 < xss.length
  · have hf : flat xss k = [] := if_neg (by omega)
    rw [hf]
    go_enter Try.func34, Try.ntmps34
    go_wp2_with fail
    go_ret
    exact ⟨_, rfl, by simpa [hB, ints] using ho0, by rw [hB]; exact hb0⟩
  · go_enter Try.func34, Try.ntmps34
    go_wp2_with fail
    go_loopw [6, 5] (fun i u wr => ∃ j : Nat, j ≤ xss.length ∧ i = .int .i64 j ∧ Hid (∀ xs ∈ xss.take j, xs.length = k) ∧ wr.ownsRow B 2 1 u (k * j) (ints (xss.take j).flatten) ∧ Below B w wr) (fun i _ _ => xss.length - (intOf i).toNat)
    case atStart => exact ⟨0, Nat.zero_le _, rfl, Lib.hid (by simp), by simpa [ints] using ho0, hb0⟩
    case round =>
      obtain ⟨j, hj, rfl, HA, ho, hb⟩ := hrel
      have hsz := hb.size
      by_cases hlt : j < xss.length
      · obtain ⟨b, o, u, xs, rfl, hc, hu, -, HX⟩ := (hr.below (hB.symm ▸ hb)).intsAt hlt
        by_cases hxk : xs.length = k
        · have hd : ((xs.length : Int) != (k : Int)) = false := by simp [hxk]
          have HK := Lib.hid hxk
          obtain ⟨m, hm⟩ : ∃ m, k * j = m := ⟨_, rfl⟩
          have hm3 : m ≤ 3 * 16 := by rw [← hm]; exact Nat.mul_le_mul hk (by omega)
          rw [hm] at ho
          have hk2 : k * (j + 1) = m + xs.length := by rw [Nat.mul_succ, hm, hxk]
          have hxl : xs.length ≤ 3 := by omega
          have HK2 := Lib.hid hk2
          clear hxk hm hk2
          obtain ⟨oa, oc, rfl⟩ := owns_shape ho
          obtain ⟨ua, uc, rfl, -, -, -⟩ := id hu
          have hlt2 : ∀ y, (Value.slice oa m oc).ownBlock = some y → B ≤ y := fun y hy => (owns_lt ho hy).1
          go_wp2_with (at_builtin; refine wpList_extend wr rfl _ _ 26 rfl B 2 _ 8 Try.underlying26 infoI rfl _ m _ rfl ho _ xs.length _ rfl hu (ints_one xs) (by unfold maxLen; omega) (by omega) (by omega) ?_; intro a2 c2 w2 ho2 hg2)
          go_roundw
          case rel => exact ⟨j + 1, by omega, by go_num, Lib.hid (by rw [take_snoc HX.out]; intro ys hys; rcases List.mem_append.1 hys with h | h; (· exact HA.out ys h); rw [List.mem_singleton.1 h]; exact HK.out), by rw [HK2.out, take_snoc HX.out, List.flatten_append]; simpa [ints] using ho2, hb.trans (below_of_grown hg2 (by omega) hlt2)⟩
          case measure => simp [intOf]; omega
        · have hd : ((xs.length : Int) != (k : Int)) = true := by simp; omega
          have hf : flat xss k = [] := if_neg fun h => hxk (h.2 xs (List.mem_of_getElem? HX.out))
          have HF := Lib.hid hf
          clear hxk hf
          have ho1 : (wr.alloc (.cells #[] 2)).ownsRow B 2 1 (.slice (some ⟨wr.heap.size, 0, none⟩) 0 0) 0 [] := World.ownsRow_lit wr #[] 0 (by omega) (by simp [maxLen]) rfl
          obtain ⟨ua, uc, rfl, -, -, -⟩ := id hu
          go_wp2_with fail
          go_ret
          exact ⟨_, rfl, by rw [HF.out]; simpa [hB, ints] using ho1, by rw [hB]; exact hb.alloc (by omega) _⟩
      · obtain rfl : j = xss.length := by omega
        have hf : flat xss k = xss.flatten := if_pos ⟨by omega, by have := HA.out; rwa [List.take_length] at this⟩
        have hfl : k * xss.length = xss.flatten.length := flat_len xss k (by have hA := HA.out; rwa [List.take_length] at hA)
        rw [List.take_length, hfl] at ho
        have HF := Lib.hid hf
        clear hf hfl
        go_wp2_with fail
        go_ret
        exact ⟨_, rfl, by rw [hB, HF.out]; exact ho, by rw [hB]; exact hb⟩
end Go.Proofs.Ytpfhflkpnjkgkaa
