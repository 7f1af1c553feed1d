/-
  The reference's base: 'l1In', 'l1Copy', 'l1Into', 'l1Empty', 'l1Link'.
-/
import Derived.Test.YtcjbobponlpkaaaDoorNets
namespace Go.Proofs.YtcjbobponlpkaaaDoor
open Go.RowKit

theorem l1In_any (n lo hi : Int) (w : World) :
    Calls Tryd.prog 78 #[.int .i64 n, .int .i64 lo, .int .i64 hi] w fun e w' => e = .returned (.bool (decide (lo ≤ n ∧ n ≤ hi))) ∧ w = w' := by
  go_enter Tryd.func78, Tryd.ntmps78
  go_wp2
  all_goals go_ret
  all_goals exact ⟨ret_bool (by rw [Bool.eq_iff_iff]; simp; try omega), rfl⟩

theorem ints_one (xs : List Int) : ∀ u ∈ ints xs, u.oneCell' = true := ints_oneCell _ _

set_option maxHeartbeats 400000 in
theorem copy_any (v : Value) (xs : List Int) (w : World) (hr : Row w 1 v xs.length (ints xs)) (hn : xs.length ≤ 1000000000) :
    Calls Tryd.prog 118 #[v] w fun e w' => ∃ v', e = .returned v' ∧ w'.ownsRow w.heap.size 2 1 v' xs.length (ints xs) ∧ Below w.heap.size w w' := by
  obtain ⟨a, cap, rfl, -, -, -⟩ := id hr
  have h0 := World.ownsRow_lit (base := w.heap.size) (e := 2) (size := 1) w #[] 0 (Nat.le_refl _) (by simp [maxLen]) rfl
  go_enter Tryd.func118, Tryd.ntmps118
  go_wp2_with (at_builtin; refine wpList_extend _ rfl _ _ 25 rfl w.heap.size 2 _ 8 Tryd.underlying25 infoI rfl (.slice (some ⟨w.heap.size, 0, none⟩) 0 0) 0 [] rfl h0 (.slice a xs.length cap) xs.length (ints xs) rfl (hr.alloc _) (ints_one _) (by unfold maxLen; omega) (by omega) (by simp) ?_; intro a' c' w1 ho hg)
  go_ret
  refine ⟨_, rfl, by simpa using ho, ((Below.refl _ _).alloc (Nat.le_refl _) _).grown hg (by simp) (by simp [Value.ownBlock])⟩

/-- With one more, rising: what 'l1Into' returns. -/
def into : List Int → Int → List Int
  | [], n => [n]
  | x :: r, n => if x < n then x :: into r n else if x = n then x :: r else n :: x :: r
theorem into_take {xs : List Int} {n : Int} {k : Nat} (hk : k ≤ xs.length) (h : ∀ j x, j < k → xs[j]? = some x → x < n) : into xs n = xs.take k ++ into (xs.drop k) n := by
  induction k generalizing xs with
  | zero => simp
  | succ k ih =>
    cases xs with
    | nil => simp at hk
    | cons x r =>
      have h0 := h 0 x (by omega) (by simp)
      rw [into, if_pos h0, ih (xs := r) (by simpa using hk) (fun j y hj hy => h (j + 1) y (by omega) (by simpa using hy))]
      simp
theorem into_length (xs : List Int) (n : Int) : (into xs n).length ≤ xs.length + 1 := by
  induction xs with
  | nil => simp [into]
  | cons x r ih =>
    unfold into
    split
    · simp; omega
    · split <;> simp

set_option maxHeartbeats 1000000 in
theorem into_any (v : Value) (xs : List Int) (n : Int) (w : World) (hr : Row w 1 v xs.length (ints xs)) (hn : xs.length ≤ 1000000) :
    Calls Tryd.prog 110 #[v, .int .i64 n] w fun e w' => ∃ v', e = .returned v' ∧
      ((v' = v ∧ into xs n = xs) ∨ w'.ownsRow w.heap.size 2 1 v' (into xs n).length (ints (into xs n))) ∧ Below w.heap.size w w' := by
  obtain ⟨a, cap, rfl, hcap, hmax, -⟩ := id hr
  unfold maxLen at hmax
  go_enter Tryd.func110, Tryd.ntmps110
  go_wp2_with fail
  go_loop [5] (fun i => ∃ k : Nat, k ≤ xs.length ∧ i = .int .i64 k ∧ ∀ j x, j < k → xs[j]? = some x → x < n) (fun i => xs.length - (intOf i).toNat)
  case atStart => exact ⟨0, Nat.zero_le _, rfl, fun j x hj => (by omega)⟩
  case round =>
    obtain ⟨k, hk, rfl, hlow⟩ := hrel
    have HL := Lib.hid hlow
    clear hlow
    by_cases hlt : k < xs.length
    · obtain ⟨b, o, x, rfl, hc, HX⟩ := hr.intAt hlt
      have hd : xs.drop k = x :: xs.drop (k + 1) := by
        have h1 := HX.out
        obtain ⟨h2, rfl⟩ := List.getElem?_eq_some_iff.1 h1
        exact List.drop_eq_getElem_cons h2
      have HD := Lib.hid hd
      clear hd
      by_cases hxn : x < n
      · go_wp2_with fail
        go_round
        case rel =>
          refine ⟨k + 1, by omega, by go_num, fun j y hj hy => ?_⟩
          by_cases e : j = k
          · subst e; have := HX.out; rw [hy] at this; have := Option.some.inj this; omega
          · exact HL.out j y (by omega) hy
        case measure => simp [intOf]; omega
      · have hI := into_take (n := n) hk HL.out
        by_cases hxe : x = n
        · have he : (x == n) = true := by simp [hxe]
          have hI2 : into xs n = xs := by rw [hI, HD.out, into, if_neg hxn, if_pos hxe, ← HD.out, List.take_append_drop]
          have HI := Lib.hid hI2
          clear hI hI2 hxe
          go_wp2_with fail
          go_ret
          exact ⟨_, rfl, .inl ⟨rfl, HI.out⟩, Below.refl _ _⟩
        · have he : (x == n) = false := by simpa using hxe
          have hI2 : into xs n = xs.take k ++ [n] ++ xs.drop k := by rw [hI, HD.out, into, if_neg hxn, if_neg hxe]; simp
          have HI := Lib.hid hI2
          clear hI hI2 hxe
          have hrt : Row w 1 (.slice (some ⟨b, o, none⟩) k cap) (xs.take k).length (ints (xs.take k)) := by
            have := hr.take hk
            rw [show (ints xs).take k = ints (xs.take k) by simp [ints]] at this
            rw [show (xs.take k).length = k by simp; omega]
            exact this
          by_cases hck : cap = k
          · omega
          · have hrd := hr.drop hk hck
            rw [show (ints xs).drop k = ints (xs.drop k) by simp [ints], Option.map_some, Addr.add_lit] at hrd
            go_wp2_with fail
            refine (copy_any _ (xs.take k) w hrt (by simp; omega)).mono ?_
            rintro e w1 ⟨v1, rfl, ho1, hb1⟩
            have hlk : (xs.take k).length = k := by simp; omega
            rw [hlk] at ho1
            clear hlk
            have hsz := hb1.size
            go_wp2_with (first
              | (at_builtin; refine wpList_push _ rfl _ _ 25 rfl w.heap.size 2 _ _ 8 Tryd.underlying25 infoI rfl _ _ _ rfl ho1 _ rfl rfl (by unfold maxLen; omega) (by omega) hsz ?_; intro g' c' w2 ho2 hg2; have hb2 := hb1.grown hg2 hsz (fun q hq => (owns_lt ho1 hq).1); have hrd2 := hrd.below hb2; have hsz2 := hb2.size)
              | (at_builtin; refine wpList_extend _ rfl _ _ 25 rfl w.heap.size 2 _ 8 Tryd.underlying25 infoI rfl (.slice (some ⟨g', 0, none⟩) (k + 1) c') (k + 1) _ rfl ho2 (.slice (some ⟨b, o + k, none⟩) (xs.length - k) (cap - k)) (xs.length - k) _ rfl hrd2 (ints_one _) (by unfold maxLen; omega) (by omega) hsz2 ?_; intro a3 c3 w3 ho3 hg3))
            go_ret
            refine ⟨_, rfl, .inr ?_, hb2.grown hg3 hsz2 (fun q hq => (owns_lt ho2 (by simpa [Value.ownBlock] using hq)).1)⟩
            rw [HI.out]
            have e1 : (xs.take k ++ [n] ++ xs.drop k).length = k + 1 + (xs.length - k) := by simp; omega
            rw [e1]
            simpa [ints] using ho3
    · have hke : k = xs.length := by omega
      subst hke
      have hI : into xs n = xs ++ [n] := by
        have := into_take (n := n) (Nat.le_refl xs.length) HL.out
        simpa [into] using this
      have HI := Lib.hid hI
      clear hI
      have hl0 : (ints xs).length = xs.length := ints_length xs
      by_cases hck : cap = xs.length
      · subst hck
        have hrd := hr.drop_all (Nat.le_refl _) rfl
        rw [Nat.sub_self, List.drop_of_length_le (by omega)] at hrd
        clear hl0
        go_wp2_with fail
        refine (copy_any _ xs w hr (by omega)).mono ?_
        rintro e w1 ⟨v1, rfl, ho1, hb1⟩
        have hsz := hb1.size
        go_wp2_with (first
          | (at_builtin; refine wpList_push _ rfl _ _ 25 rfl w.heap.size 2 _ _ 8 Tryd.underlying25 infoI rfl _ _ _ rfl ho1 _ rfl rfl (by unfold maxLen; omega) (by omega) hsz ?_; intro g' c' w2 ho2 hg2; have hb2 := hb1.grown hg2 hsz (fun q hq => (owns_lt ho1 hq).1); have hrd2 := hrd.below hb2; have hsz2 := hb2.size)
          | (at_builtin; refine wpList_extend _ rfl _ _ 25 rfl w.heap.size 2 _ 8 Tryd.underlying25 infoI rfl (.slice (some ⟨g', 0, none⟩) (xs.length + 1) c') (xs.length + 1) _ rfl ho2 (.slice a 0 0) (0) _ rfl hrd2 (by simp) (by unfold maxLen; omega) (by omega) hsz2 ?_; intro a3 c3 w3 ho3 hg3))
        go_ret
        refine ⟨_, rfl, .inr ?_, hb2.grown hg3 hsz2 (fun q hq => (owns_lt ho2 (by simpa [Value.ownBlock] using hq)).1)⟩
        rw [HI.out]
        simpa [ints] using ho3
      · have hrd := hr.drop (Nat.le_refl _) hck
        rw [Nat.sub_self, List.drop_of_length_le (by omega)] at hrd
        clear hl0
        go_wp2_with fail
        refine (copy_any _ xs w hr (by omega)).mono ?_
        rintro e w1 ⟨v1, rfl, ho1, hb1⟩
        have hsz := hb1.size
        go_wp2_with (first
          | (at_builtin; refine wpList_push _ rfl _ _ 25 rfl w.heap.size 2 _ _ 8 Tryd.underlying25 infoI rfl _ _ _ rfl ho1 _ rfl rfl (by unfold maxLen; omega) (by omega) hsz ?_; intro g' c' w2 ho2 hg2; have hb2 := hb1.grown hg2 hsz (fun q hq => (owns_lt ho1 hq).1); have hrd2 := hrd.below hb2; have hsz2 := hb2.size)
          | (at_builtin; refine wpList_extend _ rfl _ _ 25 rfl w.heap.size 2 _ 8 Tryd.underlying25 infoI rfl (.slice (some ⟨g', 0, none⟩) (xs.length + 1) c') (xs.length + 1) _ rfl ho2 (.slice (Option.map (fun x => x.add xs.length) a) 0 (cap - xs.length)) (0) _ rfl hrd2 (by simp) (by unfold maxLen; omega) (by omega) hsz2 ?_; intro a3 c3 w3 ho3 hg3))
        go_ret
        refine ⟨_, rfl, .inr ?_, hb2.grown hg3 hsz2 (fun q hq => (owns_lt ho2 (by simpa [Value.ownBlock] using hq)).1)⟩
        rw [HI.out]
        simpa [ints] using ho3
/-- Both are neighbours: what 'l1Link' does to the rows. -/
def link (xss : List (List Int)) (u v : Nat) : List (List Int) :=
  let yss := xss.set u (into (xss.getD u []) v)
  yss.set v (into (yss.getD v []) u)
@[simp] theorem link_length (xss : List (List Int)) (u v : Nat) : (link xss u v).length = xss.length := by simp [link]

/-- A value that is one slice in a struct: what a call that makes a graph leaves. -/
def GRes (w : World) (rows : List (List Int)) (ok : Bool) (e : Ending) (w' : World) : Prop :=
  ∃ u vs, e = .returned (.tuple #[.agg #[u], .bool ok]) ∧ OwnG w' w.heap.size 25 2 u vs (rows.map ints) ∧ Below w.heap.size w w'

end Go.Proofs.YtcjbobponlpkaaaDoor
