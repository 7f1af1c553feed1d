import Derived.Deep.QuietTactic
import Derived.BigQuiet
import Derived.Test.YtpfhflkpnjkgkaaGq01
/-
  The reference's base: 'l1In', 'l1Copy', 'l1Into', 'l1Empty', 'l1Link'.
-/

namespace Go.Proofs.Ytpfhflkpnjkgkaa
open Go.RowKit

theorem l1In_any (n lo hi : Int) (w : World) :
    Calls Try.prog 30 #[.int .i64 n, .int .i64 lo, .int .i64 hi] w fun e w' => e = .returned (.bool (decide (lo ≤ n ∧ n ≤ hi))) ∧ w = w' := by
  go_enter Try.func30, Try.ntmps30
  go_wp2
  all_goals go_ret
  all_goals exact ⟨ret_bool (by rw [Bool.eq_iff_iff]; simp; try omega), rfl⟩

theorem ints_one (xs : List Int) : ∀ u ∈ ints xs, u.oneCell' = true := ints_oneCell _ _

set_option maxHeartbeats 400000 in
theorem copy_any (v : Value) (xs : List Int) (w : World) (hr : Row w 1 v xs.length (ints xs)) (hn : xs.length ≤ 1000000000) :
    Calls Try.prog 31 #[v] w fun e w' => ∃ v', e = .returned v' ∧ w'.ownsRow w.heap.size 2 1 v' xs.length (ints xs) ∧ Below w.heap.size w w' := by
  obtain ⟨a, cap, rfl, -, -, -⟩ := id hr
  have h0 := World.ownsRow_lit (base := w.heap.size) (e := 2) (size := 1) w #[] 0 (Nat.le_refl _) (by simp [maxLen]) rfl
  go_enter Try.func31, Try.ntmps31
  go_wp2_with (at_builtin; refine wpList_extend _ rfl _ _ 26 rfl w.heap.size 2 _ 8 Try.underlying26 infoI rfl (.slice (some ⟨w.heap.size, 0, none⟩) 0 0) 0 [] rfl h0 (.slice a xs.length cap) xs.length (ints xs) rfl (hr.alloc _) (ints_one _) (by unfold maxLen; omega) (by omega) (by simp) ?_; intro a' c' w1 ho hg)
  go_ret
  refine ⟨_, rfl, by simpa using ho, ((Below.refl _ _).alloc (Nat.le_refl _) _).grown hg (by simp) (by simp [Value.ownBlock])⟩

/-- With one more, rising: what 'l1Into' returns. -/
def into : List Int → Int → List Int
  | [], n => [n]
  | x :: r, n => if x < n then x :: into r n else if x = n then x :: r else n :: x :: r
theorem into_take {xs : List Int} {n : Int} {k : Nat} (hk : k ≤ xs.length) (h : ∀ j x, j < k → xs[j]? = some x → x < n) : into xs n = xs.take k ++ into (xs.drop k) n := by
  induction k generalizing xs with
  | zero => simp
  | succ k ih =>
    cases xs with
    | nil => simp at hk
    | cons x r =>
      have h0 := h 0 x (by omega) (by simp)
      rw [into, if_pos h0, ih (xs := r) (by simpa using hk) (fun j y hj hy => h (j + 1) y (by omega) (by simpa using hy))]
      simp
theorem into_length (xs : List Int) (n : Int) : (into xs n).length ≤ xs.length + 1 := by
  induction xs with
  | nil => simp [into]
  | cons x r ih =>
    unfold into
    split
    · simp; omega
    · split <;> simp

set_option maxHeartbeats 1000000 in
theorem into_any (v : Value) (xs : List Int) (n : Int) (w : World) (hr : Row w 1 v xs.length (ints xs)) (hn : xs.length ≤ 1000000) :
    Calls Try.prog 59 #[v, .int .i64 n] w fun e w' => ∃ v', e = .returned v' ∧
      ((v' = v ∧ into xs n = xs) ∨ w'.ownsRow w.heap.size 2 1 v' (into xs n).length (ints (into xs n))) ∧ Below w.heap.size w w' := by
  obtain ⟨a, cap, rfl, hcap, hmax, -⟩ := id hr
  unfold maxLen at hmax
  go_enter Try.func59, Try.ntmps59
  go_wp2_with fail
  go_loop [5] (fun i => ∃ k : Nat, k ≤ xs.length ∧ i = .int .i64 k ∧ ∀ j x, j < k → xs[j]? = some x → x < n) (fun i => xs.length - (intOf i).toNat)
  case atStart => exact ⟨0, Nat.zero_le _, rfl, fun j x hj => (by omega)⟩
  case round =>
    obtain ⟨k, hk, rfl, hlow⟩ := hrel
    have HL := Lib.hid hlow
    clear hlow
    by_cases hlt : k < xs.length
    · obtain ⟨b, o, x, rfl, hc, HX⟩ := hr.intAt hlt
      have hd : xs.drop k = x :: xs.drop (k + 1) := by
        have h1 := HX.out
        obtain ⟨h2, rfl⟩ := List.getElem?_eq_some_iff.1 h1
        exact List.drop_eq_getElem_cons h2
      have HD := Lib.hid hd
      clear hd
      by_cases hxn : x < n
      · go_wp2_with fail
        go_round
        case rel =>
          refine ⟨k + 1, by omega, by go_num, fun j y hj hy => ?_⟩
          by_cases e : j = k
          · subst e; have := HX.out; rw [hy] at this; have := Option.some.inj this; omega
          · exact HL.out j y (by omega) hy
        case measure => simp [intOf]; omega
      · have hI := into_take (n := n) hk HL.out
        by_cases hxe : x = n
        · have he : (x == n) = true := by simp [hxe]
          have hI2 : into xs n = xs := by rw [hI, HD.out, into, if_neg hxn, if_pos hxe, ← HD.out, List.take_append_drop]
          have HI := Lib.hid hI2
          clear hI hI2 hxe
          go_wp2_with fail
          go_ret
          exact ⟨_, rfl, .inl ⟨rfl, HI.out⟩, Below.refl _ _⟩
        · have he : (x == n) = false := by simpa using hxe
          have hI2 : into xs n = xs.take k ++ [n] ++ xs.drop k := by rw [hI, HD.out, into, if_neg hxn, if_neg hxe]; simp
          have HI := Lib.hid hI2
          clear hI hI2 hxe
          have hrt : Row w 1 (.slice (some ⟨b, o, none⟩) k cap) (xs.take k).length (ints (xs.take k)) := by
            have := hr.take hk
            rw [show (ints xs).take k = ints (xs.take k) by simp [ints]] at this
            rw [show (xs.take k).length = k by simp; omega]
            exact this
          by_cases hck : cap = k
          · omega
          · have hrd := hr.drop hk hck
            rw [show (ints xs).drop k = ints (xs.drop k) by simp [ints], Option.map_some, Addr.add_lit] at hrd
            go_wp2_with fail
            refine (copy_any _ (xs.take k) w hrt (by simp; omega)).mono ?_
            rintro e w1 ⟨v1, rfl, ho1, hb1⟩
            have hlk : (xs.take k).length = k := by simp; omega
            rw [hlk] at ho1
            clear hlk
            have hsz := hb1.size
            go_wp2_with (first
              | (at_builtin; refine wpList_push _ rfl _ _ 26 rfl w.heap.size 2 _ _ 8 Try.underlying26 infoI rfl _ _ _ rfl ho1 _ rfl rfl (by unfold maxLen; omega) (by omega) hsz ?_; intro g' c' w2 ho2 hg2; have hb2 := hb1.grown hg2 hsz (fun q hq => (owns_lt ho1 hq).1); have hrd2 := hrd.below hb2; have hsz2 := hb2.size)
              | (at_builtin; refine wpList_extend _ rfl _ _ 26 rfl w.heap.size 2 _ 8 Try.underlying26 infoI rfl (.slice (some ⟨g', 0, none⟩) (k + 1) c') (k + 1) _ rfl ho2 (.slice (some ⟨b, o + k, none⟩) (xs.length - k) (cap - k)) (xs.length - k) _ rfl hrd2 (ints_one _) (by unfold maxLen; omega) (by omega) hsz2 ?_; intro a3 c3 w3 ho3 hg3))
            go_ret
            refine ⟨_, rfl, .inr ?_, hb2.grown hg3 hsz2 (fun q hq => (owns_lt ho2 (by simpa [Value.ownBlock] using hq)).1)⟩
            rw [HI.out]
            have e1 : (xs.take k ++ [n] ++ xs.drop k).length = k + 1 + (xs.length - k) := by simp; omega
            rw [e1]
            simpa [ints] using ho3
    · have hke : k = xs.length := by omega
      subst hke
      have hI : into xs n = xs ++ [n] := by
        have := into_take (n := n) (Nat.le_refl xs.length) HL.out
        simpa [into] using this
      have HI := Lib.hid hI
      clear hI
      have hl0 : (ints xs).length = xs.length := ints_length xs
      by_cases hck : cap = xs.length
      · subst hck
        have hrd := hr.drop_all (Nat.le_refl _) rfl
        rw [Nat.sub_self, List.drop_of_length_le (by omega)] at hrd
        clear hl0
        go_wp2_with fail
        refine (copy_any _ xs w hr (by omega)).mono ?_
        rintro e w1 ⟨v1, rfl, ho1, hb1⟩
        have hsz := hb1.size
        go_wp2_with (first
          | (at_builtin; refine wpList_push _ rfl _ _ 26 rfl w.heap.size 2 _ _ 8 Try.underlying26 infoI rfl _ _ _ rfl ho1 _ rfl rfl (by unfold maxLen; omega) (by omega) hsz ?_; intro g' c' w2 ho2 hg2; have hb2 := hb1.grown hg2 hsz (fun q hq => (owns_lt ho1 hq).1); have hrd2 := hrd.below hb2; have hsz2 := hb2.size)
          | (at_builtin; refine wpList_extend _ rfl _ _ 26 rfl w.heap.size 2 _ 8 Try.underlying26 infoI rfl (.slice (some ⟨g', 0, none⟩) (xs.length + 1) c') (xs.length + 1) _ rfl ho2 (.slice a 0 0) (0) _ rfl hrd2 (by simp) (by unfold maxLen; omega) (by omega) hsz2 ?_; intro a3 c3 w3 ho3 hg3))
        go_ret
        refine ⟨_, rfl, .inr ?_, hb2.grown hg3 hsz2 (fun q hq => (owns_lt ho2 (by simpa [Value.ownBlock] using hq)).1)⟩
        rw [HI.out]
        simpa [ints] using ho3
      · have hrd := hr.drop (Nat.le_refl _) hck
        rw [Nat.sub_self, List.drop_of_length_le (by omega)] at hrd
        clear hl0
        go_wp2_with fail
        refine (copy_any _ xs w hr (by omega)).mono ?_
        rintro e w1 ⟨v1, rfl, ho1, hb1⟩
        have hsz := hb1.size
        go_wp2_with (first
          | (at_builtin; refine wpList_push _ rfl _ _ 26 rfl w.heap.size 2 _ _ 8 Try.underlying26 infoI rfl _ _ _ rfl ho1 _ rfl rfl (by unfold maxLen; omega) (by omega) hsz ?_; intro g' c' w2 ho2 hg2; have hb2 := hb1.grown hg2 hsz (fun q hq => (owns_lt ho1 hq).1); have hrd2 := hrd.below hb2; have hsz2 := hb2.size)
          | (at_builtin; refine wpList_extend _ rfl _ _ 26 rfl w.heap.size 2 _ 8 Try.underlying26 infoI rfl (.slice (some ⟨g', 0, none⟩) (xs.length + 1) c') (xs.length + 1) _ rfl ho2 (.slice (Option.map (fun x => x.add xs.length) a) 0 (cap - xs.length)) (0) _ rfl hrd2 (by simp) (by unfold maxLen; omega) (by omega) hsz2 ?_; intro a3 c3 w3 ho3 hg3))
        go_ret
        refine ⟨_, rfl, .inr ?_, hb2.grown hg3 hsz2 (fun q hq => (owns_lt ho2 (by simpa [Value.ownBlock] using hq)).1)⟩
        rw [HI.out]
        simpa [ints] using ho3
/-- Both are neighbours: what 'l1Link' does to the rows. -/
def link (xss : List (List Int)) (u v : Nat) : List (List Int) :=
  let yss := xss.set u (into (xss.getD u []) v)
  yss.set v (into (yss.getD v []) u)
@[simp] theorem link_length (xss : List (List Int)) (u v : Nat) : (link xss u v).length = xss.length := by simp [link]

set_option maxHeartbeats 1000000 in
theorem link_any (base : Nat) (v : Value) (vs0 : List Value) (xss0 : List (List Int)) (i j : Nat) (w : World) (hi : i < xss0.length) (hj : j < xss0.length) (hb : ∀ xs ∈ xss0, xs.length < 1000) (hm : xss0.length ≤ 1000000)
    (hbase : base ≤ w.heap.size) (h : OwnG w base 26 2 v vs0 (xss0.map ints)) :
    Calls Try.prog 60 #[.agg #[v], .int .i64 i, .int .i64 j] w fun e w' => ∃ vs', e = .returned (.agg #[v]) ∧
      OwnG w' base 26 2 v vs' ((link xss0 i j).map ints) ∧ Wrote w w' (fun b => v.ownBlock = some b) := by
  obtain ⟨n, hn⟩ : ∃ n, xss0.length = n := ⟨_, rfl⟩
  have hvl : vs0.length = n := by rw [h.len]; simpa using hn
  obtain ⟨g, cap, rfl⟩ := owns_head h.outer (by omega)
  rw [hvl] at h ⊢
  clear hvl
  rw [hn] at hi hj hm
  obtain ⟨B, hBe⟩ : ∃ B, w.heap.size = B := ⟨_, rfl⟩
  have hgB : g < w.heap.size := (owns_lt h.outer rfl).2
  have h0 : OwnG ((w.alloc (.cells #[.slice (some ⟨g, 0, none⟩) n cap] 42)).alloc (.cells #[.slice none 0 0] 42)) base 26 2 (.slice (some ⟨g, 0, none⟩) n cap) vs0 (xss0.map ints) :=
    h.below (((Below.refl _ _).alloc (Nat.le_refl _) _).alloc (by simp) _)
  have hB0 : ((w.alloc (.cells #[.slice (some ⟨g, 0, none⟩) n cap] 42)).alloc (.cells #[.slice none 0 0] 42)).heap[B]? = some (.cells #[.slice (some ⟨g, 0, none⟩) n cap] 42 (0, 0)) := by
    subst hBe; rw [Below.heap_alloc _ _ _ (by simp)]; exact heap_alloc_new w _
  have hR0 : ∃ q, ((w.alloc (.cells #[.slice (some ⟨g, 0, none⟩) n cap] 42)).alloc (.cells #[.slice none 0 0] 42)).heap[B + 1]? = some (.cells #[q] 42 (0, 0)) := by
    subst hBe; exact ⟨.slice none 0 0, by have := heap_alloc_new (w.alloc (.cells #[.slice (some ⟨g, 0, none⟩) n cap] 42)) (.cells #[.slice none 0 0] 42); simpa using this⟩
  have hW0 : Wrote w ((w.alloc (.cells #[.slice (some ⟨g, 0, none⟩) n cap] 42)).alloc (.cells #[.slice none 0 0] 42)) (fun b => some g = some b) :=
    (Wrote.of_below (((Below.refl w.heap.size w).alloc (Nat.le_refl _) (.cells #[.slice (some ⟨g, 0, none⟩) n cap] 42)).alloc (by simp) (.cells #[.slice none 0 0] 42))).mono (fun k hk hk' => (by omega : False).elim)
  have hbase0 : base ≤ ((w.alloc (.cells #[.slice (some ⟨g, 0, none⟩) n cap] 42)).alloc (.cells #[.slice none 0 0] 42)).heap.size := by simp; omega
  have hn0 := hn
  have hb0 : ∀ xs ∈ xss0, xs.length ≤ 1000 := fun xs hx => by have := hb xs hx; omega
  have HN := Lib.hid hn
  have HBE := Lib.hid hBe
  go_enter Try.func60, Try.ntmps60
  go_wp2_with fail
  generalize ((w.alloc (.cells #[.slice (some ⟨g, 0, none⟩) n cap] 42)).alloc (.cells #[.slice none 0 0] 42)) = W at *
  have hcB := cell_of_one hB0
  have hfB := free_of_one hB0
  obtain ⟨b0, o0, r0, xs0, e0, hc0, hr0, HU0, HX0⟩ := h0.rd.intsAt (k := i) (by omega)
  obtain ⟨rfl, rfl⟩ : g = b0 ∧ 0 = o0 := by simpa using e0
  clear e0
  rw [Nat.zero_add] at hc0
  have hxl0 : xs0.length ≤ 1000 := hb0 xs0 (List.mem_of_getElem? HX0.out)
  refine wp_region_ord [0, 2, 3, 5, 8] [1, 4, 6, 7] [9] [10, 11] (by kernel_rfl) (by kernel_rfl) (fun _ _ d _ _ h => by cases d <;> exact h) ?_
  simp only [pickOps, List.filterMap_cons, List.filterMap_nil, List.getElem?_cons_succ, List.getElem?_cons_zero]
  repeat quiet_step (fail)
  simp only [wpQuiet_nil_eq, wpSegs_cons_eq]
  go_wp2_with fail
  refine (into_any r0 xs0 j W.drew hr0 (by omega)).mono ?_
  rintro e w1 ⟨v1, rfl, hv1, hb1⟩
  have hbel := below_drew hb1
  have hvn : vs0.length = n := by rw [h0.len]; simpa using hn0
  have hcell := (h0.below hbel).outer
  rw [hvn] at hcell
  have hf : w1.frozen? ⟨g, i, none⟩ = false := hcell.frozenAt i
  have hc1 : w1.cell? ⟨g, i, none⟩ = some r0 := (hbel.cell (p := ⟨g, i, none⟩) (block_lt hc0)).trans hc0
  have hst := hcell.stored i v1
  have hB1 : w1.heap[B]? = some (.cells #[.slice (some ⟨g, 0, none⟩) n cap] 42 (0, 0)) := (hbel.block _ (lt_of_block hB0)).trans hB0
  obtain ⟨q, hR0⟩ := hR0
  have hR1 : w1.heap[B + 1]? = some (.cells #[q] 42 (0, 0)) := (hbel.block _ (lt_of_block hR0)).trans hR0
  have hv1s : ∃ a c, v1 = .slice a (into xs0 j).length c := by
    rcases hv1 with ⟨rfl, hI⟩ | ho
    · rw [hI]; obtain ⟨a, c, rfl, -⟩ := hr0; exact ⟨a, c, rfl⟩
    · exact owns_shape ho
  obtain ⟨a1, c1, rfl⟩ := hv1s
  have hG : OwnG (w1.setCell ⟨g, i, none⟩ (.slice a1 (into xs0 j).length c1)) base 26 2 (.slice (some ⟨g, 0, none⟩) n cap) (vs0.set i (.slice a1 (into xs0 j).length c1)) ((xss0.set i (into xs0 j)).map ints) := by
    have := OwnG.set (w2 := w1.setCell ⟨g, i, none⟩ (.slice a1 (into xs0 j).length c1)) (u := .slice a1 (into xs0 j).length c1) (cs := ints (into xs0 j)) i h0 hbel ?_ ?_ (by rw [hvn]; exact hst.1) (by simpa [Value.ownBlock] using hst.2)
    · rw [show (xss0.set i (into xs0 j)).map ints = (xss0.map ints).set i (ints (into xs0 j)) by simp [List.map_set]]
      exact this
    · rcases hv1 with ⟨he, hI⟩ | ho
      · rw [he, hI]
        have := owns_below (h0.rows i r0 (ints xs0) HU0.out (by have := HX0.out; simp [this])) hbel
        exact this
      · refine owns_base (by simpa using ho) ?_
        exact hbase0
    · rcases hv1 with ⟨he, hI⟩ | ho
      · left; rw [he]; exact HU0.out
      · right; intro k hk; exact (owns_lt ho hk).1
  have hW : Wrote W (w1.setCell ⟨g, i, none⟩ (.slice a1 (into xs0 j).length c1)) (fun b => some g = some b) :=
    (Wrote.of_below hbel |>.mono (fun k hk hk' => (by omega : False).elim)).trans (Wrote.of_grown hst.2) (fun _ _ h => h)
  have hB2 : (w1.setCell ⟨g, i, none⟩ (.slice a1 (into xs0 j).length c1)).heap[B]? = some (.cells #[.slice (some ⟨g, 0, none⟩) n cap] 42 (0, 0)) := by rw [Below.heap_setCell _ _ _ _ (by simp; omega)]; exact hB1
  have hR2 : (w1.setCell ⟨g, i, none⟩ (.slice a1 (into xs0 j).length c1)).heap[B + 1]? = some (.cells #[q] 42 (0, 0)) := by rw [Below.heap_setCell _ _ _ _ (by simp; omega)]; exact hR1
  have hn1 : (xss0.set i (into xs0 j)).length = n := by simpa using hn0
  have hb1' : ∀ xs ∈ xss0.set i (into xs0 j), xs.length ≤ 1000 := by
    intro xs hx
    rcases List.mem_or_eq_of_mem_set hx with hx | rfl
    · have := hb xs hx; omega
    · have := into_length xs0 j; have := hb xs0 (List.mem_of_getElem? HX0.out); omega
  have hD0 : xss0.getD i [] = xs0 := by have := HX0.out; simp [List.getD, this]
  have hbase1 : base ≤ (w1.setCell ⟨g, i, none⟩ (.slice a1 (into xs0 j).length c1)).heap.size := by have := hbel.size; simp; omega
  have HD0 := Lib.hid hD0
  clear hb0 hD0 hb1 hcell hvn hst hR1 hR0 hv1 hc0 hr0 h0 hB0 hbase0
  have HBEL := Lib.hid hbel
  have hcB1 := cell_of_one hB1
  clear hbel
  go_wp2_with fail
  refine ⟨HBEL.out, ?_⟩
  simp only [wpSegs_nil_eq]
  go_wp2_with fail
  have h1 := hG
  have hR1 : ∃ q, (w1.setCell ⟨g, i, none⟩ (.slice a1 (into xs0 j).length c1)).heap[B + 1]? = some (.cells #[q] 42 (0, 0)) := ⟨q, hR2⟩
  have hW1 := hW0.trans hW (fun _ _ h => h)
  have hb1 := hb1'
  clear hG hb1' hcB hfB hW hW0 hf hc1 hcB1 hB1 hR2 HBEL
  generalize World.setCell w1 ⟨g, i, none⟩ (.slice a1 (into xs0 j).length c1) = W1 at *
  have hB1 := hB2
  clear hB2
  have hcB := cell_of_one hB1
  have hfB := free_of_one hB1
  obtain ⟨vs1, hvs1⟩ : ∃ vs1, vs0.set i (.slice a1 (into xs0 j).length c1) = vs1 := ⟨_, rfl⟩
  rw [hvs1] at h1
  clear hvs1
  obtain ⟨xss1, hx1⟩ : ∃ xss1, xss0.set i (into xs0 j) = xss1 := ⟨_, rfl⟩
  rw [hx1] at h1 hn1 hb1
  have HXS := Lib.hid hx1
  clear hx1
  obtain ⟨b1, o1, r1, xs1, e1, hc1, hr1, HU1, HX1⟩ := h1.rd.intsAt (k := j) (by omega)
  obtain ⟨rfl, rfl⟩ : g = b1 ∧ 0 = o1 := by simpa using e1
  clear e1
  rw [Nat.zero_add] at hc1
  have hxl1 : xs1.length ≤ 1000 := hb1 xs1 (List.mem_of_getElem? HX1.out)
  refine wp_region_ord [0, 2, 3, 5, 8] [1, 4, 6, 7] [9] [10, 11] (by kernel_rfl) (by kernel_rfl) (fun _ _ d _ _ h => by cases d <;> exact h) ?_
  simp only [pickOps, List.filterMap_cons, List.filterMap_nil, List.getElem?_cons_succ, List.getElem?_cons_zero]
  repeat quiet_step (fail)
  simp only [wpQuiet_nil_eq, wpSegs_cons_eq]
  go_wp2_with fail
  refine (into_any r1 xs1 i W1.drew hr1 (by omega)).mono ?_
  rintro e w1 ⟨v1, rfl, hv1, hb1⟩
  have hbel := below_drew hb1
  have hvn : vs1.length = n := by rw [h1.len]; simpa using hn1
  have hcell := (h1.below hbel).outer
  rw [hvn] at hcell
  have hf : w1.frozen? ⟨g, j, none⟩ = false := hcell.frozenAt j
  have hc1 : w1.cell? ⟨g, j, none⟩ = some r1 := (hbel.cell (p := ⟨g, j, none⟩) (block_lt hc1)).trans hc1
  have hst := hcell.stored j v1
  have hB1 : w1.heap[B]? = some (.cells #[.slice (some ⟨g, 0, none⟩) n cap] 42 (0, 0)) := (hbel.block _ (lt_of_block hB1)).trans hB1
  obtain ⟨q, hR0⟩ := hR1
  have hR1 : w1.heap[B + 1]? = some (.cells #[q] 42 (0, 0)) := (hbel.block _ (lt_of_block hR0)).trans hR0
  have hv1s : ∃ a c, v1 = .slice a (into xs1 i).length c := by
    rcases hv1 with ⟨rfl, hI⟩ | ho
    · rw [hI]; obtain ⟨a, c, rfl, -⟩ := hr1; exact ⟨a, c, rfl⟩
    · exact owns_shape ho
  obtain ⟨a1, c1, rfl⟩ := hv1s
  have hG : OwnG (w1.setCell ⟨g, j, none⟩ (.slice a1 (into xs1 i).length c1)) base 26 2 (.slice (some ⟨g, 0, none⟩) n cap) (vs1.set j (.slice a1 (into xs1 i).length c1)) ((xss1.set j (into xs1 i)).map ints) := by
    have := OwnG.set (w2 := w1.setCell ⟨g, j, none⟩ (.slice a1 (into xs1 i).length c1)) (u := .slice a1 (into xs1 i).length c1) (cs := ints (into xs1 i)) j h1 hbel ?_ ?_ (by rw [hvn]; exact hst.1) (by simpa [Value.ownBlock] using hst.2)
    · rw [show (xss1.set j (into xs1 i)).map ints = (xss1.map ints).set j (ints (into xs1 i)) by simp [List.map_set]]
      exact this
    · rcases hv1 with ⟨he, hI⟩ | ho
      · rw [he, hI]
        have := owns_below (h1.rows j r1 (ints xs1) HU1.out (by have := HX1.out; simp [this])) hbel
        exact this
      · refine owns_base (by simpa using ho) ?_
        exact hbase1
    · rcases hv1 with ⟨he, hI⟩ | ho
      · left; rw [he]; exact HU1.out
      · right; intro k hk; exact (owns_lt ho hk).1
  have hW : Wrote W1 (w1.setCell ⟨g, j, none⟩ (.slice a1 (into xs1 i).length c1)) (fun b => some g = some b) :=
    (Wrote.of_below hbel |>.mono (fun k hk hk' => (by omega : False).elim)).trans (Wrote.of_grown hst.2) (fun _ _ h => h)
  have hB2 : (w1.setCell ⟨g, j, none⟩ (.slice a1 (into xs1 i).length c1)).heap[B]? = some (.cells #[.slice (some ⟨g, 0, none⟩) n cap] 42 (0, 0)) := by rw [Below.heap_setCell _ _ _ _ (by simp; omega)]; exact hB1
  have hR2 : (w1.setCell ⟨g, j, none⟩ (.slice a1 (into xs1 i).length c1)).heap[B + 1]? = some (.cells #[q] 42 (0, 0)) := by rw [Below.heap_setCell _ _ _ _ (by simp; omega)]; exact hR1
  have hD1 : xss1.getD j [] = xs1 := by have := HX1.out; simp [List.getD, this]
  have HD1 := Lib.hid hD1
  clear hD1 hb1 hcell hvn hst hR1 hR0 hc1 hr1 h1 hbase1
  have hW2 := hW1.trans hW (fun _ _ h => h)
  have hcell2 : w1.cell? ⟨g, j, none⟩ = some r1 := (hbel.cell (p := ⟨g, j, none⟩) (block_lt ‹_›)).trans ‹_›
  have HBEL := Lib.hid hbel
  have hcB1 := cell_of_one hB1
  have hcB2 := cell_of_one hB2
  have hcR2 := cell_of_one hR2
  have hfR2 := free_of_one hR2
  clear hbel
  go_wp2_with fail
  refine ⟨HBEL.out, ?_⟩
  simp only [wpSegs_nil_eq]
  go_wp2_with fail
  have hce := cell_of_one (one_setCell (u := .slice (some ⟨g, 0, none⟩) n cap) hR2)
  refine bodyPost_ret (v := .agg #[.slice (some ⟨g, 0, none⟩) n cap]) (by simp [results, Try.results60, go_sem, hce]) rfl ?_
  refine ⟨vs1.set j (.slice a1 (into xs1 i).length c1), rfl, ?_, ?_⟩
  · have e : link xss0 i j = xss1.set j (into xs1 i) := by
      unfold link
      simp only [HD0.out, HXS.out, HD1.out]
    rw [e]
    exact hG.unlike_setCell hR2 (by decide) (by decide) _
  · exact (hW2.setCell (.inl (by simp; omega)) _).mono fun k _ hk => by simpa [Value.ownBlock] using hk

/-- A value that is one slice in a struct: what a call that makes a graph leaves. -/
def GRes (w : World) (rows : List (List Int)) (ok : Bool) (e : Ending) (w' : World) : Prop :=
  ∃ u vs, e = .returned (.tuple #[.agg #[u], .bool ok]) ∧ OwnG w' w.heap.size 26 2 u vs (rows.map ints) ∧ Below w.heap.size w w'

set_option maxHeartbeats 400000 in
theorem empty_any (n : Nat) (hn : n ≤ 1000) (w : World) :
    Calls Try.prog 42 #[.int .i64 n] w fun e w' => ∃ u vs, e = .returned (.agg #[u]) ∧
      OwnG w' w.heap.size 26 2 u vs ((List.replicate n ([] : List Int)).map ints) ∧ Below w.heap.size w w' := by
  go_enter Try.func42, Try.ntmps42
  go_wp2_with fail
  go_loopw [4] (fun i wr => ∃ (k : Nat) (u : Value) (vs : List Value), k ≤ n ∧ i = .int .i64 k ∧ wr.heap[w.heap.size + 1]? = some (.cells #[u] 42 (0, 0)) ∧ (∃ r, wr.heap[w.heap.size]? = some (.cells #[r] 42 (0, 0))) ∧
      OwnG wr (w.heap.size + 2) 26 2 u vs ((List.replicate k ([] : List Int)).map ints) ∧ Below w.heap.size w wr) (fun i _ => n - (intOf i).toNat)
  case atStart =>
    refine ⟨0, .slice none 0 0, [], Nat.zero_le _, rfl, ?_, ⟨.slice none 0 0, ?_⟩, OwnG.nil _ _ (by decide) (World.ownsRow_nil _ _ _ _), ((Below.refl _ _).alloc (Nat.le_refl _) _).alloc (by simp) _⟩
    · have := heap_alloc_new (w.alloc (.cells #[Value.slice none 0 0] 42)) (.cells #[Value.slice none 0 0] 42)
      simpa using this
    · rw [Below.heap_alloc _ _ _ (by simp)]
      exact heap_alloc_new w _
  case round =>
    obtain ⟨k, u, vs, hk, rfl, hcu, ⟨r, hcr⟩, hG, hbel⟩ := hrel
    have hcuc := cell_of_one hcu
    have hcuf := free_of_one hcu
    have hcrc := cell_of_one hcr
    have hcrf := free_of_one hcr
    have hsz := hbel.size
    have hlen := hG.len
    have hlk : vs.length = k := by rw [hlen]; simp
    have hB1 : w.heap.size + 1 < wr.heap.size := lt_of_block hcu
    clear hlen
    have hout := hG.outer
    rw [hlk] at hout
    have HLK := Lib.hid hlk
    clear hlk
    by_cases hlt : k < n
    · have hbs := run_buildOne (P := Try.prog) (wr.alloc (.cells #[] 2)) 32 26 _ (.slice (some ⟨wr.heap.size, 0, none⟩) 0 0) _ Try.underlying32 infoR rfl rfl
      go_wp2_with (at_builtin; refine wpList_push_at _ rfl _ _ 32 rfl (w.heap.size + 2) 26 _ _ 24 Try.underlying32 infoR rfl _ _ _ rfl (hout.alloc _) (wr.heap.size + 1) (by simp) _ rfl rfl (by unfold maxLen; omega) (by omega) (by simp; omega) ?_; intro g2 c2 w2 ho2 hg2; clear hbs; have hlt2 : ∀ b, u.ownBlock = some b → w.heap.size + 2 ≤ b := fun b hb => (owns_lt hout hb).1; have hcu2 : w2.heap[w.heap.size + 1]? = some (.cells #[u] 42 (0, 0)) := (hg2.block _ (by simp; omega) (fun e => by have := hlt2 _ e.symm; omega)).trans ((Below.heap_alloc _ _ _ (by omega)).trans hcu); have hcr2 : w2.heap[w.heap.size]? = some (.cells #[r] 42 (0, 0)) := (hg2.block _ (by simp; omega) (fun e => by have := hlt2 _ e.symm; omega)).trans ((Below.heap_alloc _ _ _ (by omega)).trans hcr); have hcuc2 := cell_of_one hcu2; have hcuf2 := free_of_one hcu2)
      have hba : Below wr.heap.size wr (wr.alloc (.cells #[] 2)) := (Below.refl _ _).alloc (Nat.le_refl _) _
      have hou : (wr.alloc (.cells #[] 2)).ownsRow wr.heap.size 2 1 (.slice (some ⟨wr.heap.size, 0, none⟩) 0 0) 0 [] := World.ownsRow_lit wr #[] 0 (Nat.le_refl _) (by simp [maxLen]) rfl
      have hG2 := hG.push (cs := []) hba hou (Nat.le_refl _) (by omega) (by rw [HLK.out]; exact ho2) hg2
      have hb2 : Below w.heap.size w w2 := (hbel.trans (hba.mono hsz)).grown hg2 (by simp; omega) (fun b hb => by have := hlt2 b hb; omega)
      go_roundw
      case rel =>
        refine ⟨k + 1, .slice (some ⟨g2, 0, none⟩) (k + 1) c2, vs ++ [.slice (some ⟨wr.heap.size, 0, none⟩) 0 0], by omega, by go_num, one_setCell hcu2, ⟨r, by rw [Below.heap_setCell _ _ _ _ (by simp)]; exact hcr2⟩, ?_, hb2.setCell (by simp) _⟩
        have hG3 : OwnG (w2.setCell ⟨w.heap.size + 1, 0, none⟩ (.slice (some ⟨g2, 0, none⟩) (k + 1) c2)) (w.heap.size + 2) 26 2 (.slice (some ⟨g2, 0, none⟩) (k + 1) c2) _ _ := hG2.other (by simp) _
        rw [List.replicate_succ', List.map_append]
        exact hG3
      case measure => simp [intOf]; omega
    · obtain ⟨ua, uc, rfl⟩ := owns_shape hout
      go_wp2_with fail
      have hce := cell_of_one (one_setCell (u := .slice ua k uc) hcr)
      refine bodyPost_ret (v := .agg #[.slice ua k uc]) (by simp [results, Try.results42, go_sem, hce]) rfl ?_
      have e : k = n := by omega
      subst e
      exact ⟨_, vs, rfl, (hG.other (by simp) _).rebase (by omega), hbel.setCell (by simp) _⟩

end Go.Proofs.Ytpfhflkpnjkgkaa
/-
  The kinds of values that a law handles, each with the blocks that it may lie in; what stays when other blocks are written. The helpers of the laws as contracts over these.
-/


namespace Go.Proofs.Ytpfhflkpnjkgkaa
open Go.RowKit

/-- From w to w' only blocks from lo up to hi have been written, of those that stood. -/
structure Upd (lo hi : Nat) (w w' : World) : Prop where
  os : w'.os = w.os
  tape : w'.tape = w.tape
  output : w'.output = w.output
  size : w.heap.size ≤ w'.heap.size
  block : ∀ k, k < w.heap.size → ¬ (lo ≤ k ∧ k < hi) → w'.heap[k]? = w.heap[k]?

theorem Upd.of_below {w w' : World} (h : Below w.heap.size w w') : Upd 0 0 w w' := ⟨h.os, h.tape, h.output, h.size, fun k hk _ => h.block k hk⟩
theorem below_alloc' (w : World) (o : Obj) : Below w.heap.size w (w.alloc o) := (Below.refl _ _).alloc (Nat.le_refl _) _
theorem Upd.rfl' (w : World) : Upd 0 0 w w := ⟨rfl, rfl, rfl, Nat.le_refl _, fun _ _ _ => rfl⟩
theorem Upd.drew (w : World) : Upd 0 0 w w.drew := ⟨rfl, rfl, rfl, Nat.le_refl _, fun _ _ _ => rfl⟩
theorem Upd.setCell (b : Nat) (w : World) (x : Value) : Upd b (b + 1) w (w.setCell ⟨b, 0, none⟩ x) :=
  ⟨rfl, rfl, rfl, by simp [World.setCell], fun k _ hn => Below.heap_setCell _ _ _ _ (fun e => hn (by simp at e; omega))⟩
theorem Upd.alloc (w : World) (o : Obj) : Upd 0 0 w (w.alloc o) := Upd.of_below ((Below.refl _ _).alloc (Nat.le_refl _) _)
theorem Upd.of_wrote {w w' : World} {S : Nat → Prop} {lo hi : Nat} (h : Wrote w w' S) (hS : ∀ k, S k → lo ≤ k ∧ k < hi) : Upd lo hi w w' :=
  ⟨h.os, h.tape, h.output, h.size, fun k hk hn => h.block k hk fun e => hn (hS k e)⟩
theorem Upd.toBelow {w w' : World} {lo hi B : Nat} (h : Upd lo hi w w') (hB : B ≤ w.heap.size) (hlo : hi ≤ lo ∨ B ≤ lo) : Below B w w' :=
  ⟨h.os, h.tape, h.output, h.size, fun k hk => h.block k (by omega) (by omega)⟩
theorem Upd.below {w0 w w' : World} {lo hi B : Nat} (h : Upd lo hi w w') (hb : Below B w0 w) (hB : B ≤ w.heap.size) (hlo : hi ≤ lo ∨ B ≤ lo) : Below B w0 w' := hb.trans (h.toBelow hB hlo)

/-- A variable of a struct's type: block b holds the cells cs. -/
def VC (t : TypeId) (b : Nat) (cs : Array Value) (w : World) : Prop := w.heap[b]? = some (.cells cs t (0, 0))
section
variable {t : TypeId} {b : Nat} {cs : Array Value} {w w' : World}
theorem VC.lt (h : VC t b cs w) : b < w.heap.size := by
  unfold VC at h
  exact (Array.getElem?_eq_some_iff.1 h).1
theorem VC.upd {lo hi : Nat} (h : VC t b cs w) (u : Upd lo hi w w') (hd : b < lo ∨ hi ≤ b ∨ hi ≤ lo) : VC t b cs w' := (u.block b h.lt (by omega)).trans h
theorem VC.new {n : Nat} (hn : w.heap.size = n) : VC t n cs (w.alloc (.cells cs t)) := by subst hn; exact heap_alloc_new w _
theorem VC.cell {v : Value} (h : VC t b #[v] w) : w.cell? ⟨b, 0, none⟩ = some v := cell_of_one h
theorem VC.set {v : Value} (h : VC t b #[v] w) (u : Value) : VC t b #[u] (w.setCell ⟨b, 0, none⟩ u) := one_setCell h
theorem VC.other (h : VC t b cs w) {p : Addr} (hp : b ≠ p.block) (u : Value) : VC t b cs (w.setCell p u) := (Below.heap_setCell _ _ _ _ hp).trans h
theorem VC.belowAt (h : VC t b cs w) {n : Nat} (hb : Below n w w') (hn : b < n) : VC t b cs w' := (hb.block b hn).trans h
theorem VC.grown {r : Option Nat} (h : VC t b cs w) (hg : w.grownBy w' r) (hr : r ≠ some b) : VC t b cs w' := (hg.block b h.lt (fun e => hr e.symm)).trans h
theorem VC.free {v : Value} (h : VC t b #[v] w) : w.frozen? ⟨b, 0, none⟩ = false := free_of_one h
end

/-- v is a slice of numbers of the call's own, which reads xs; its block lies from lo up to hi. -/
structure OwS (lo hi : Nat) (v : Value) (xs : List Int) (w : World) : Prop where
  own : w.ownsRow lo 2 1 v xs.length (ints xs)
  hi : ∀ k, v.ownBlock = some k → k < hi
/-- The same of rows. -/
structure OwSS (lo hi : Nat) (v : Value) (xss : List (List Int)) (w : World) : Prop where
  ex : ∃ vs, OwnG w lo 26 2 v vs (xss.map ints) ∧ ∀ k, (v.ownBlock = some k ∨ ∃ u ∈ vs, u.ownBlock = some k) → k < hi
/-- v is a slice of numbers that reads xs. -/
abbrev RdS (v : Value) (xs : List Int) (w : World) : Prop := Row w 1 v xs.length (ints xs)
/-- v is a slice of rows that read xss. -/
structure RdSS (v : Value) (xss : List (List Int)) (w : World) : Prop where
  ex : ∃ vs, RdG w v vs (xss.map ints)

section
variable {lo hi : Nat} {v : Value} {xs : List Int} {xss : List (List Int)} {w w' : World}
theorem OwS.of {w0 : World} (h : w.ownsRow w0.heap.size 2 1 v xs.length (ints xs)) (h0 : w0.heap.size = lo) (h1 : w.heap.size = hi) : OwS lo hi v xs w := by
  subst h0; subst h1
  exact ⟨h, fun k hk => (owns_lt h hk).2⟩
theorem OwSS.of {w0 : World} {vs : List Value} (h : OwnG w w0.heap.size 26 2 v vs (xss.map ints)) (h0 : w0.heap.size = lo) (h1 : w.heap.size = hi) : OwSS lo hi v xss w := by
  subst h0; subst h1
  exact ⟨vs, h, fun k hk => (h.lt hk).2⟩
theorem OwS.upd {lo' hi' : Nat} (h : OwS lo hi v xs w) (u : Upd lo' hi' w w') (hd : hi ≤ lo' ∨ hi' ≤ lo ∨ hi' ≤ lo') : OwS lo hi v xs w' :=
  ⟨owns_keep h.own fun b hb hlt => u.block b hlt (by have := (owns_lt h.own hb).1; have := h.hi b hb; omega), h.hi⟩
theorem OwSS.upd {lo' hi' : Nat} (h : OwSS lo hi v xss w) (u : Upd lo' hi' w w') (hd : hi ≤ lo' ∨ hi' ≤ lo ∨ hi' ≤ lo') : OwSS lo hi v xss w' := by
  obtain ⟨vs, hG, hh⟩ := h.ex
  refine ⟨vs, ⟨hG.len, owns_keep hG.outer fun b hb hlt => u.block b hlt ?_, fun i x cs h1 h2 => owns_keep (hG.rows i x cs h1 h2) fun b hb hlt => u.block b hlt ?_, hG.apart, hG.unlike⟩, hh⟩
  · have := hG.lt (.inl hb); have := hh b (.inl hb); omega
  · have := hG.lt (.inr ⟨x, List.mem_of_getElem? h1, hb⟩); have := hh b (.inr ⟨x, List.mem_of_getElem? h1, hb⟩); omega
theorem OwS.rd (h : OwS lo hi v xs w) : RdS v xs w := Row.of_owns h.own
theorem OwSS.rd (h : OwSS lo hi v xss w) : RdSS v xss w := let ⟨vs, hG, _⟩ := h.ex; ⟨vs, hG.rd⟩
theorem OwS.shape (h : OwS lo hi v xs w) : ∃ a c, v = .slice a xs.length c := owns_shape h.own
theorem OwSS.shape (h : OwSS lo hi v xss w) : ∃ a c, v = .slice a xss.length c := by
  obtain ⟨vs, hG, _⟩ := h.ex
  obtain ⟨a, c, e⟩ := owns_shape hG.outer
  exact ⟨a, c, by rw [e, hG.len, List.length_map]⟩
theorem RdSS.shape (h : RdSS v xss w) : ∃ a c, v = .slice a xss.length c := by
  obtain ⟨vs, hG⟩ := h.ex
  obtain ⟨a, c, e, _⟩ := hG.outer
  exact ⟨a, c, by rw [e, hG.len, List.length_map]⟩
theorem RdSS.below {B : Nat} (h : RdSS v xss w) (hb : Below B w w') (hB : w.heap.size = B) : RdSS v xss w' := by
  subst hB
  obtain ⟨vs, hG⟩ := h.ex
  exact ⟨vs, hG.below hb⟩
theorem RdS.below {B : Nat} (h : RdS v xs w) (hb : Below B w w') (hB : w.heap.size = B) : RdS v xs w' := by subst hB; exact Row.below h hb
end

/-! ### mark and held -/
/-- What 'mark' leaves in rows, from k on. -/
def markedFrom (k : Nat) (xss : List (List Int)) : List (List Int) := number k ((xss.map ints).map List.length)
/-! ### sz and to -/
/-- What is left: less than nothing, or the rest. -/
def LeftS (L : Int) (n : Int) (r : Int) : Prop := r = -1 ∨ (0 ≤ r ∧ r = L - n)
theorem len_le_total {xss : List (List Int)} {xs : List Int} (h : xs ∈ xss) : xs.length ≤ total xss := by
  induction xss with
  | nil => cases h
  | cons y l ih =>
    simp only [total, List.map_cons, List.sum_cons]
    rcases List.mem_cons.1 h with rfl | h
    · omega
    · have := ih h
      simp only [total] at this
      omega

/-! ### What functions return -/
def FrSS (w : World) (u : Value) (xss : List (List Int)) (w' : World) : Prop := ∃ vs, OwnG w' w.heap.size 26 2 u vs (xss.map ints)
def SRes (w : World) (xs : List Int) (e : Ending) (w' : World) : Prop := ∃ u, e = .returned u ∧ w'.ownsRow w.heap.size 2 1 u xs.length (ints xs) ∧ Below w.heap.size w w'
def SBRes (w : World) (xs : List Int) (ok : Bool) (e : Ending) (w' : World) : Prop := ∃ u, e = .returned (.tuple #[u, .bool ok]) ∧ w'.ownsRow w.heap.size 2 1 u xs.length (ints xs) ∧ Below w.heap.size w w'
def SIRes (w : World) (xs : List Int) (n : Int) (e : Ending) (w' : World) : Prop := ∃ u, e = .returned (.tuple #[u, .int .i64 n]) ∧ w'.ownsRow w.heap.size 2 1 u xs.length (ints xs) ∧ Below w.heap.size w w'
def SSRes (w : World) (xss : List (List Int)) (e : Ending) (w' : World) : Prop := ∃ u vs, e = .returned u ∧ OwnG w' w.heap.size 26 2 u vs (xss.map ints) ∧ Below w.heap.size w w'
def G1Res (w : World) (xss : List (List Int)) (e : Ending) (w' : World) : Prop := ∃ u vs, e = .returned (.agg #[u]) ∧ OwnG w' w.heap.size 26 2 u vs (xss.map ints) ∧ Below w.heap.size w w'
def BRes (w : World) (ok : Bool) (e : Ending) (w' : World) : Prop := e = .returned (.bool ok) ∧ Below w.heap.size w w'
end Go.Proofs.Ytpfhflkpnjkgkaa
/-
  The dice of the laws: 'big', 'roll', 'below'.
-/



namespace Go.Proofs.Ytpfhflkpnjkgkaa
open Go.RowKit

/-- Bytes, as they lie. -/
def u8s (bs : List UInt8) : List Value := bs.map fun b => .int .u8 (b.toNat : Int)
@[simp] theorem u8s_length (bs : List UInt8) : (u8s bs).length = bs.length := by simp [u8s]
abbrev RdB (v : Value) (bs : List UInt8) (w : World) : Prop := Row w 1 v bs.length (u8s bs)
theorem RdB.byteAt {w : World} {a : Option Addr} {n c : Nat} {bs : List UInt8} (h : Row w 1 (.slice a n c) n (u8s bs)) {j : Nat} (hj : j < bs.length) :
    ∃ b o, ∃ y : Nat, y < 256 ∧ a = some ⟨b, o, none⟩ ∧ w.cell? ⟨b, o + j, none⟩ = some (.int .u8 (y : Int)) := by
  obtain ⟨a', cap', e, h1, h2, h3, h4, h5⟩ := h
  obtain ⟨rfl, -, -⟩ : a = a' ∧ n = n ∧ c = cap' := by simpa using e
  obtain ⟨b, o, rfl, hc⟩ := h5 j (.int .u8 ((bs[j]'hj).toNat : Int)) (by simp [u8s, hj])
  exact ⟨b, o, _, UInt8.toNat_lt _, rfl, hc⟩

theorem VC.putAt {t : TypeId} {b : Nat} {cs : Array Value} {w : World} (h : VC t b cs w) (i : Nat) (u : Value) : VC t b (cs.setIfInBounds i u) (w.setCell ⟨b, i, none⟩ u) := by
  unfold VC at h ⊢
  unfold World.setCell
  simp only [Array.getElem?_modify]
  simp [h]
theorem VC.getAt {t : TypeId} {b : Nat} {cs : Array Value} {w : World} (h : VC t b cs w) {i : Nat} {u : Value} (hi : cs[i]? = some u) : w.cell? ⟨b, i, none⟩ = some u := by
  unfold VC at h
  simp [World.cell?, h, hi]
theorem VC.frAt {t : TypeId} {b : Nat} {cs : Array Value} {w : World} (h : VC t b cs w) (i : Nat) : w.frozen? ⟨b, i, none⟩ = false := by
  unfold VC at h
  simp [World.frozen?, h]
theorem Upd.setAt (b i : Nat) (w : World) (x : Value) : Upd b (b + 1) w (w.setCell ⟨b, i, none⟩ x) :=
  ⟨rfl, rfl, rfl, by simp [World.setCell], fun k _ hn => Below.heap_setCell _ _ _ _ (fun e => hn (by simp at e; omega))⟩
theorem Upd.trans {lo hi : Nat} {w w1 w2 : World} (h : Upd lo hi w w1) (h' : Upd lo hi w1 w2) : Upd lo hi w w2 :=
  ⟨h'.os.trans h.os, h'.tape.trans h.tape, h'.output.trans h.output, Nat.le_trans h.size h'.size, fun k hk hn => (h'.block k (Nat.lt_of_lt_of_le hk h.size) hn).trans (h.block k hk hn)⟩
theorem Upd.wide {lo hi lo' hi' : Nat} {w w1 : World} (h : Upd lo hi w w1) (hd : hi ≤ lo ∨ (lo' ≤ lo ∧ hi ≤ hi')) : Upd lo' hi' w w1 :=
  ⟨h.os, h.tape, h.output, h.size, fun k hk hn => h.block k hk (by omega)⟩

/-- The bytes do not lie in block D. -/
def Far (D : Nat) (v : Value) (bs : List UInt8) : Prop := bs ≠ [] → v.ownBlock ≠ some D
theorem RdB.upd {v : Value} {bs : List UInt8} {w w' : World} {D : Nat} (h : RdB v bs w) (u : Upd D (D + 1) w w') (hv : Far D v bs) : RdB v bs w' := by
  by_cases hb : bs = []
  · subst hb
    obtain ⟨a, cap, rfl, h1, h2, h3, h4, h5⟩ := h
    exact ⟨a, cap, rfl, h1, h2, h3, h4, fun j u hj => by cases hj⟩
  · exact Row.keep h fun b hb' hlt => u.block b hlt (by
      have : b ≠ D := fun e => hv hb (by rw [hb', e])
      omega)
theorem RdB.far {v : Value} {bs : List UInt8} {w : World} (h : RdB v bs w) : Far w.heap.size v bs := by
  intro hb e
  obtain ⟨a, c, rfl, -, -, -⟩ := id h
  obtain ⟨b, o, y, hy, rfl, hc⟩ := RdB.byteAt h (j := 0) (List.length_pos_iff.2 hb)
  have := World.block_lt_of_cell? _ _ hc
  have e' : b = w.heap.size := by simpa [Value.ownBlock] using e
  simp at this
  omega
theorem big_any (v : Value) (bs : List UInt8) (w : World) (hr : RdB v bs w) :
    Calls Try.prog 4 #[v] w fun e w' => e = .returned (.bool (decide (4096 < bs.length))) ∧ w = w' := by
  obtain ⟨a, c, rfl, -, -, -⟩ := id hr
  clear hr
  go_enter Try.func4, Try.ntmps4
  go_wp2_with fail
  go_ret
  exact ⟨ret_bool (by rw [Bool.eq_iff_iff]; simp; omega), rfl⟩

theorem heap_drewN' (n : Nat) (w : World) : (w.drewN n).heap = w.heap := by
  induction n with
  | zero => rw [World.drewN_zero]
  | succ n ih => exact ih
theorem cell_drewN' (n : Nat) (w : World) (p : Addr) : (w.drewN n).cell? p = w.cell? p := by simp [World.cell?]
theorem upd_drewN (n : Nat) (w : World) : Upd 0 0 w (w.drewN n) := by
  induction n with
  | zero => rw [World.drewN_zero]; exact Upd.rfl' _
  | succ n ih => exact ⟨ih.os, ih.tape, ih.output, ih.size, ih.block⟩
theorem u64_and_nat (a b : Nat) (ha : a < 4294967296) (hb : b < 4294967296) : bits .and .u64 (a : Int) (b : Int) = ((a &&& b : Nat) : Int) := by
  have hx : a &&& b < 2 ^ 32 := Nat.and_lt_two_pow _ (by omega)
  show IntKind.u64.wrap ((BitVec.ofInt 64 (a : Int) &&& BitVec.ofInt 64 (b : Int)).toNat : Int) = _
  rw [BitVec.toNat_and, ofInt_u64 a (by omega), ofInt_u64 b (by omega), IntKind.wrap_u64]
  omega
theorem dice_and (h : Int) (h0 : 0 ≤ h) (h1 : h < 18446744073709551616) : ∃ x : Nat, bits .and .u64 (h / 8589934592) 16777215 = (x : Int) ∧ x < 16777216 := by
  obtain ⟨m, hm⟩ : ∃ m : Nat, h / 8589934592 = m := ⟨(h / 8589934592).toNat, by omega⟩
  have hm2 : m < 4294967296 := by omega
  refine ⟨m &&& 16777215, ?_, ?_⟩
  · rw [hm]
    exact u64_and_nat m 16777215 hm2 (by decide)
  · have : m &&& 16777215 ≤ 16777215 := Nat.and_le_right
    omega

end Go.Proofs.Ytpfhflkpnjkgkaa
