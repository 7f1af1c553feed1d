import Derived.Test.YtpfhflkpnjkgkaaDoorBfsJn
import Derived.Test.YtpfhflkpnjkgkaaDoorGq07
import Derived.Test.YtpfhflkpnjkgkaaDoorGq09
/-
  'BehindOf' of the reference: 'l10Marks', 'l10Behind'; both.
-/



namespace Go.Proofs.YtpfhflkpnjkgkaaDoor
open Go.RowKit

theorem infoBo : (Tryd.prog.info? 4).map (fun i => (i.zero, i.size, i.bytes)) = some (some (.bool false), 1, 1) := by kernel_rfl
/-- A set as marks. -/
def bools (n : Nat) (p : Nat → Bool) : List Value := (List.range n).map fun b => .bool (p b)
@[simp] theorem bools_length (n : Nat) (p : Nat → Bool) : (bools n p).length = n := by simp [bools]
theorem bools_none (n : Nat) : List.replicate n (Value.bool false) = bools n fun _ => false := by
  apply List.ext_getElem (by simp)
  intro i h1 h2
  simp [bools]
theorem bools_set {n : Nat} {p : Nat → Bool} {q : Nat} : (bools n p).set q (.bool true) = bools n fun b => p b || decide (b = q) := by
  apply List.ext_getElem (by simp)
  intro i h1 h2
  rw [List.getElem_set]
  by_cases h : q = i
  · subst h; simp [bools]
  · have : ¬ i = q := fun h' => h h'.symm
    simp [bools, h, this]
theorem bools_ext {n : Nat} {p q : Nat → Bool} (h : ∀ b, b < n → p b = q b) : bools n p = bools n q := by
  unfold bools
  exact List.map_congr_left fun b hb => by rw [h b (List.mem_range.1 hb)]

/-- What the run holds: those met, and what is behind the first i of them. -/
structure Beh (n : Nat) (e : Nat → Nat → Bool) (p : Nat → Bool) (s i : Nat) (M : List Nat) (o : Nat → Bool) : Prop where
  start : s ∈ M
  ways : ∀ a ∈ M, a < n ∧ Way n e p s a
  closed : ∀ j a, j < i → M[j]? = some a → ∀ b, b < n → e a b = true → p b = true → b ∈ M
  out : ∀ b, b < n → (o b = true ↔ p b = false ∧ b ≠ s ∧ ∃ j a, j < i ∧ M[j]? = some a ∧ e a b = true)
  cnt : M.length = (rowB n fun u => decide (u ∈ M)).length
/-- The same inside a round, at a. -/
structure Beh2 (n : Nat) (e : Nat → Nat → Bool) (p : Nat → Bool) (s i a k : Nat) (M : List Nat) (o : Nat → Bool) : Prop where
  at_ : M[i]? = some a
  start : s ∈ M
  ways : ∀ a ∈ M, a < n ∧ Way n e p s a
  closed : ∀ j a, j < i → M[j]? = some a → ∀ b, b < n → e a b = true → p b = true → b ∈ M
  near : ∀ b : Nat, (b : Int) ∈ (rowB n (e a)).take k → p b = true → b ∈ M
  out : ∀ b, b < n → (o b = true ↔ p b = false ∧ b ≠ s ∧ ((∃ j a, j < i ∧ M[j]? = some a ∧ e a b = true) ∨ (b : Int) ∈ (rowB n (e a)).take k))
  cnt : M.length = (rowB n fun u => decide (u ∈ M)).length
section
variable {n : Nat} {e : Nat → Nat → Bool} {p o : Nat → Bool} {s i a k q : Nat} {M : List Nat}
theorem Beh.le (h : Beh n e p s i M o) : M.length ≤ n := by rw [h.cnt]; exact rowB_length _ _
theorem Beh2.le (h : Beh2 n e p s i a k M o) : M.length ≤ n := by rw [h.cnt]; exact rowB_length _ _
theorem Beh.first (hs : s < n) : Beh n e p s 0 [s] (fun _ => false) := by
  refine ⟨by simp, fun a ha => ?_, fun j a hj => by omega, fun b _ => ?_, ?_⟩
  · simp at ha; subst ha; exact ⟨hs, .here⟩
  · simp
  · have h1 : (rowB n fun u => decide (u ∈ [s])) = rowB n fun x => (fun _ => false) x || decide (x = s) := rowB_ext fun x _ => by simp
    rw [h1, rowB_put_length rfl hs]
    have h2 : rowB n (fun _ => false) = [] := by simp [rowB]
    rw [h2]
    rfl
theorem Beh.enter (h : Beh n e p s i M o) (hi : M[i]? = some a) : Beh2 n e p s i a 0 M o :=
  ⟨hi, h.start, h.ways, h.closed, fun b hb => by simp at hb, fun b hb => by rw [h.out b hb]; simp, h.cnt⟩
theorem mem_take_succ {xs : List Int} {k b q : Nat} (hq : xs[k]? = some (q : Int)) : (b : Int) ∈ xs.take (k + 1) ↔ (b : Int) ∈ xs.take k ∨ b = q := by
  rw [take_snoc hq, List.mem_append, List.mem_singleton, show ((b : Int) = (q : Int)) ↔ b = q by omega]
theorem Beh2.gone (h : Beh2 n e p s i a k M o) (hq : (rowB n (e a))[k]? = some (q : Int)) (hp : p q = true) (hm : q ∈ M) : Beh2 n e p s i a (k + 1) M o := by
  refine ⟨h.at_, h.start, h.ways, h.closed, fun b hb hpb => ?_, fun b hb => ?_, h.cnt⟩
  · rcases (mem_take_succ hq).1 hb with hb | rfl
    · exact h.near b hb hpb
    · exact hm
  · rw [h.out b hb, mem_take_succ hq]
    by_cases hbq : b = q
    · subst hbq; rw [hp]; simp
    · simp [hbq]
theorem Beh2.push (h : Beh2 n e p s i a k M o) (hq : (rowB n (e a))[k]? = some (q : Int)) (hp : p q = true) (hm : q ∉ M) : Beh2 n e p s i a (k + 1) (M ++ [q]) o := by
  obtain ⟨q', hqn, heq, e1⟩ := row_at hq
  obtain rfl : q = q' := by omega
  have hi := (List.getElem?_eq_some_iff.1 h.at_).1
  have hlook : ∀ {j x}, j < i → ((M ++ [q])[j]? = some x ↔ M[j]? = some x) := fun hj => by rw [List.getElem?_append_left (by omega)]
  refine ⟨by rw [List.getElem?_append_left hi]; exact h.at_, by simp [h.start], fun x hx => ?_, fun j x hj hx b hb hxb hpb => ?_, fun b hb hpb => ?_, fun b hb => ?_, ?_⟩
  · rcases List.mem_append.1 hx with hx | hx
    · exact h.ways x hx
    · simp at hx; subst hx
      exact ⟨hqn, .step (h.ways a (List.mem_of_getElem? h.at_)).2 hqn heq hp⟩
  · exact List.mem_append.2 (.inl (h.closed j x hj ((hlook hj).1 hx) b hb hxb hpb))
  · rcases (mem_take_succ hq).1 hb with hb | rfl
    · exact List.mem_append.2 (.inl (h.near b hb hpb))
    · simp
  · rw [h.out b hb, mem_take_succ hq]
    have e2 : (∃ j x, j < i ∧ (M ++ [q])[j]? = some x ∧ e x b = true) ↔ ∃ j x, j < i ∧ M[j]? = some x ∧ e x b = true :=
      ⟨fun ⟨j, x, h1, h2, h3⟩ => ⟨j, x, h1, (hlook h1).1 h2, h3⟩, fun ⟨j, x, h1, h2, h3⟩ => ⟨j, x, h1, (hlook h1).2 h2, h3⟩⟩
    rw [e2]
    by_cases hbq : b = q
    · subst hbq; rw [hp]; simp
    · simp [hbq]
  · have e2 : (rowB n fun u => decide (u ∈ M ++ [q])) = rowB n fun x => (fun u => decide (u ∈ M)) x || decide (x = q) := rowB_ext fun x _ => by simp [Bool.decide_or]
    rw [e2, rowB_put_length (by simpa using hm) hqn, List.length_append, ← h.cnt]
    rfl
theorem Beh2.keep (h : Beh2 n e p s i a k M o) (hq : (rowB n (e a))[k]? = some (q : Int)) (hp : p q = false) (hs : q = s) : Beh2 n e p s i a (k + 1) M o := by
  refine ⟨h.at_, h.start, h.ways, h.closed, fun b hb hpb => ?_, fun b hb => ?_, h.cnt⟩
  · rcases (mem_take_succ hq).1 hb with hb | rfl
    · exact h.near b hb hpb
    · rw [hp] at hpb; cases hpb
  · rw [h.out b hb, mem_take_succ hq]
    by_cases hbq : b = q
    · subst hbq; simp [hs]
    · simp [hbq]
theorem Beh2.put (h : Beh2 n e p s i a k M o) (hq : (rowB n (e a))[k]? = some (q : Int)) (hp : p q = false) (hs : q ≠ s) : Beh2 n e p s i a (k + 1) M (fun b => o b || decide (b = q)) := by
  refine ⟨h.at_, h.start, h.ways, h.closed, fun b hb hpb => ?_, fun b hb => ?_, h.cnt⟩
  · rcases (mem_take_succ hq).1 hb with hb | rfl
    · exact h.near b hb hpb
    · rw [hp] at hpb; cases hpb
  · rw [Bool.or_eq_true, h.out b hb, mem_take_succ hq]
    by_cases hbq : b = q
    · subst hbq; simp [hp, hs]
    · simp [hbq]
theorem Beh2.leave (h : Beh2 n e p s i a (rowB n (e a)).length M o) : Beh n e p s (i + 1) M o := by
  refine ⟨h.start, h.ways, fun j x hj hx b hb hxb hpb => ?_, fun b hb => ?_, h.cnt⟩
  · by_cases hji : j = i
    · subst hji
      rw [h.at_] at hx
      obtain rfl := Option.some.inj hx
      exact h.near b (by rw [List.take_length]; exact nat_mem_rowB.2 ⟨hb, hxb⟩) hpb
    · exact h.closed j x (by omega) hx b hb hxb hpb
  · rw [h.out b hb, List.take_length, nat_mem_rowB]
    constructor
    · rintro ⟨h1, h2, ⟨j, x, h3, h4, h5⟩ | h3⟩
      · exact ⟨h1, h2, j, x, by omega, h4, h5⟩
      · exact ⟨h1, h2, i, a, by omega, h.at_, h3.2⟩
    · rintro ⟨h1, h2, j, x, h3, h4, h5⟩
      refine ⟨h1, h2, ?_⟩
      by_cases hji : j = i
      · subst hji
        rw [h.at_] at h4
        obtain rfl := Option.some.inj h4
        exact .inr ⟨hb, h5⟩
      · exact .inl ⟨j, x, by omega, h4, h5⟩
theorem Beh.done (h : Beh n e p s M.length M o) : rowB n o = rowB n (behB n e p s) := by
  have e1 : (fun u => decide (u ∈ M)) = wayB n e p s := by
    refine way_pt (by simpa using h.start) (fun b hb => h.ways b (by simpa using hb)) fun a b ha hb he hp => ?_
    obtain ⟨j, hj⟩ := List.mem_iff_getElem?.1 (show a ∈ M by simpa using ha)
    have := h.closed j a (List.getElem?_eq_some_iff.1 hj).1 hj b hb he hp
    simpa using this
  refine rowB_ext fun b hb => ?_
  rw [Bool.eq_iff_iff, h.out b hb]
  unfold behB
  rw [← e1]
  simp only [Bool.and_eq_true, Bool.not_eq_true', decide_eq_false_iff_not, List.any_eq_true, List.mem_range, decide_eq_true_eq]
  constructor
  · rintro ⟨h1, h2, j, x, _, h4, h5⟩
    exact ⟨⟨⟨x, (h.ways x (List.mem_of_getElem? h4)).1, List.mem_of_getElem? h4, h5⟩, h1⟩, h2⟩
  · rintro ⟨⟨⟨x, _, h4, h5⟩, h1⟩, h2⟩
    obtain ⟨j, hj⟩ := List.mem_iff_getElem?.1 h4
    exact ⟨h1, h2, j, x, (List.getElem?_eq_some_iff.1 hj).1, hj, h5⟩
end

theorem Row.boolAt {w : World} {a : Option Addr} {len cap n : Nat} {p : Nat → Bool} (h : Row w 1 (.slice a len cap) n (bools n p)) {j : Nat} (hj : j < n) :
    ∃ b o, a = some ⟨b, o, none⟩ ∧ w.cell? ⟨b, o + j, none⟩ = some (.bool (p j)) := by
  obtain ⟨a', cap', e, h1, h2, h3, h4, h5⟩ := h
  obtain ⟨rfl, rfl, rfl⟩ : a' = a ∧ n = len ∧ cap' = cap := by simpa [eq_comm] using e
  obtain ⟨b, o, rfl, hc⟩ := h5 j (.bool (p j)) (by simp [bools, hj])
  exact ⟨b, o, rfl, hc⟩
theorem qu_at {w : World} {base : Nat} {e : TypeId} {g o c i x : Nat} {M : List Nat} (h : Qu w base e (.slice (some ⟨g, o, none⟩) M.length c) (natInts M)) (hx : M[i]? = some x) : w.cell? ⟨g, o + i, none⟩ = some (.int .i64 (x : Int)) := by
  have h0 := h.row
  rw [natInts_length] at h0
  have hi := (List.getElem?_eq_some_iff.1 hx).1
  obtain ⟨b, o', y, h3, h4, h5⟩ := h0.intAt (xs := M.map fun (j : Nat) => (j : Int)) (k := .i64) (j := i) (by simpa using hi)
  obtain ⟨rfl, rfl⟩ : g = b ∧ o = o' := by simpa using h3
  have h6 := h5.out
  rw [List.getElem?_map, hx] at h6
  rw [h4]
  congr 2
  simpa using h6.symm

set_option maxHeartbeats 8000000 in
theorem l10Behind_any (g : Value) (n : Nat) (e : Nat → Nat → Bool) (hn : n ≤ 16) (v2 : Value) (p : Nat → Bool) (s : Nat) (hs : s < n) (S : Int) (hS : S = s) (w : World) (hr : RdSS g (rowsB n e) w) (hp : Row w 1 v2 n (bools n p)) :
    Calls Tryd.prog 54 #[.agg #[g], v2, .int .i64 S] w (SRes w (rowB n (behB n e p s))) := by
  obtain ⟨a, c, rfl⟩ := hr.shape
  obtain ⟨a2, c2, rfl, -, -, -⟩ := id hp
  rw [rowsB_length] at hr ⊢
  obtain ⟨vsr, hG⟩ := hr.ex
  subst hS
  obtain ⟨B, hB⟩ : ∃ B, w.heap.size = B := ⟨_, rfl⟩
  obtain ⟨W0, hW0⟩ : ∃ W0, W0 = w.alloc (.cells #[.slice a n c] 38) := ⟨_, rfl⟩
  obtain ⟨W1, hW1⟩ : ∃ W1, W1 = W0.alloc (.cells #[.int .i64 s] 2) := ⟨_, rfl⟩
  obtain ⟨W2, hW2⟩ : ∃ W2, W2 = W1.alloc (.cells #[] 2) := ⟨_, rfl⟩
  have hz0 : W0.heap.size = B + 1 := by simp [hW0, hB]
  have hz1 : W1.heap.size = B + 2 := by simp [hW1, hz0]
  have hz2 : W2.heap.size = B + 3 := by simp [hW2, hz1]
  have u0 : Below B w W0 := by rw [hW0, ← hB]; exact below_alloc' _ _
  have VG0 : VC 38 B #[.slice a n c] W0 := by rw [hW0]; exact VC.new hB
  have u1 : Below (B + 1) W0 W1 := by rw [hW1, ← hz0]; exact below_alloc' _ _
  have u2 : Below (B + 2) W1 W2 := by rw [hW2, ← hz1]; exact below_alloc' _ _
  have u02 : Below (B + 1) W0 W2 := u1.trans (u2.mono (by omega))
  have hq1 : W1.ownsRow (B + 1) 2 1 (.slice (some ⟨B + 1, 0, none⟩) 1 1) 1 (natInts [s]) := by
    rw [hW1, ← hz0]
    exact World.ownsRow_lit W0 #[.int .i64 s] 1 (Nat.le_refl _) (by simp [maxLen]) rfl
  have hq2 : Qu W2 (B + 1) 2 (.slice (some ⟨B + 1, 0, none⟩) 1 1) (natInts [s]) := Qu.of_owns (cs := natInts [s]) (owns_below hq1 (hz1.symm ▸ u2))
  have ho2' : W2.ownsRow (B + 2) 2 1 (.slice (some ⟨B + 2, 0, none⟩) 0 0) 0 [] := by
    rw [hW2, ← hz1]
    exact World.ownsRow_lit W1 #[] 0 (Nat.le_refl _) (by simp [maxLen]) rfl
  have ho2 := owns_base ho2' (by omega : B + 1 ≤ B + 2)
  have HO0 : Hid (([] : List Int) = rowB n fun _ => false) := Lib.hid (by simp [rowB])
  clear hq1 u1 u2 ho2'
  go_enter Tryd.func54, Tryd.ntmps54
  go_wp2_with fail
  rw [← hW0, ← hW1, ← hW2]
  clear hW0 hW1 hW2
  have hbW : Below (B + 1) W2 W2 := Below.refl _ _
  go_loopw [7, 8, 9] (fun td u i wr => ∃ (i' : Nat) (M : List Nat) (os : List Int) (o : Nat → Bool), i = .int .i64 i' ∧ i' ≤ M.length ∧ os.length ≤ n ∧ Hid (os = rowB n o) ∧ Hid (Beh n e p s i' M o) ∧ u.ownBlock ≠ td.ownBlock ∧ wr.ownsRow (B + 1) 2 1 u os.length (ints os) ∧ Qu wr (B + 1) 2 td (natInts M) ∧ Below (B + 1) W2 wr) (fun _ _ i _ => n - (intOf i).toNat)
  case atStart => exact ⟨0, [s], [], _, rfl, Nat.zero_le _, Nat.zero_le _, HO0, Lib.hid (Beh.first hs), by simp [Value.ownBlock], by simpa [ints] using ho2, hq2, hbW⟩
  case round =>
    clear ho2 hq2 hbW HO0
    obtain ⟨i, M, os, o, rfl, hiM, hol, HOS, HD, hne, ho, hq, hb⟩ := hrel
    have hMl := HD.out.le
    have hsz := hb.size
    have hbw := u0.trans ((u02.trans hb).mono (by omega))
    obtain ⟨mg, mo, mc, rfl⟩ := hq.shape
    obtain ⟨ua, uc, rfl⟩ := owns_shape ho
    rw [natInts_length] at hne hq ⊢
    by_cases hlt : i < M.length
    · obtain ⟨x, HX⟩ : ∃ x, Hid (M[i]? = some x) := ⟨M[i], Lib.hid (by simp [hlt])⟩
      have hxn : x < n := (HD.out.ways x (List.mem_of_getElem? HX.out)).1
      have hcm := qu_at hq HX.out
      have hGx := hG.below (hB.symm ▸ hbw)
      obtain ⟨rb, ro, r, xs, rfl, hc, hxr, HV, HXX⟩ := hGx.intsAt (k := x) (by simpa using hxn)
      obtain rfl : rowB n (e x) = xs := by have h := HXX.out; rw [rowsB_at e hxn] at h; exact Option.some.inj h
      obtain ⟨na, nc, rfl, -, -, -⟩ := id hxr
      have hrl := rowB_length n (e x)
      have VGr := VG0.belowAt (u02.trans hb) (by omega)
      have hcg := VGr.cell
      have ho' : wr.drew.ownsRow (B + 1) 2 1 (.slice ua os.length uc) os.length (ints os) := ho.drew
      have hq' : Qu wr.drew (B + 1) 2 (.slice (some ⟨mg, mo, none⟩) M.length mc) (natInts M) := hq
      have hb' : Below (B + 1) W2 wr.drew := hb.drew
      have HE := Lib.hid (HD.out.enter HX.out)
      clear hGx HXX ho hq hb hbw VGr
      go_wp2_with fail
      refine wp_region_ord [0, 2, 3, 4] [1, 5, 6, 7, 8] [] [] (by kernel_rfl) (by kernel_rfl) (fun _ _ d _ _ h => by cases d <;> exact h) ?_
      simp only [pickOps, List.filterMap_cons, List.filterMap_nil, List.getElem?_cons_succ, List.getElem?_cons_zero]
      repeat quiet_step (fail)
      simp only [wpQuiet_nil_eq, wpSegs_nil_eq]
      go_wp2_with fail
      clear hcg hc hcm hxr
      generalize wr.drew = wq at *
      go_loopw [7, 8, 11] (fun td u t wr => ∃ (t' : Nat) (M : List Nat) (os : List Int) (o : Nat → Bool), t = .int .i64 t' ∧ t' ≤ (rowB n (e x)).length ∧ os.length ≤ n ∧ Hid (os = rowB n o) ∧ Hid (Beh2 n e p s i x t' M o) ∧ u.ownBlock ≠ td.ownBlock ∧ wr.ownsRow (B + 1) 2 1 u os.length (ints os) ∧ Qu wr (B + 1) 2 td (natInts M) ∧ Below (B + 1) W2 wr) (fun _ _ t _ => (rowB n (e x)).length - (intOf t).toNat)
      case atStart => exact ⟨0, M, os, o, rfl, Nat.zero_le _, hol, HOS, HE, hne, ho', hq', hb'⟩
      case round =>
        clear ho' hq' hb' HE hne HD HX hlt hMl hsz hol HOS hiM
        obtain ⟨t, M, os, o, rfl, htl, hol, HOS, HD, hne, ho, hq, hb⟩ := hrel
        have hMl := HD.out.le
        have hsz := hb.size
        have hbw := u0.trans ((u02.trans hb).mono (by omega))
        have hxr2 : Row wr 1 (.slice na (rowB n (e x)).length nc) (rowB n (e x)).length (ints (rowB n (e x))) := by
          have := (hG.below (hB.symm ▸ hbw)).rows x _ (ints (rowB n (e x))) HV.out (by rw [List.getElem?_map, rowsB_at e hxn]; rfl)
          simpa using this
        obtain ⟨mg, mo, mc, rfl⟩ := hq.shape
        obtain ⟨va, vc, rfl⟩ := owns_shape ho
        rw [natInts_length] at hne hq ⊢
        by_cases htlt : t < (rowB n (e x)).length
        · obtain ⟨yb, yo, y, rfl, hcy, HY⟩ := hxr2.intAt htlt
          obtain ⟨q, hqn, heq, rfl⟩ := row_at HY.out
          obtain ⟨pb, po, rfl, hcp⟩ := (Row.below hp (hB.symm ▸ hbw)).boolAt hqn
          clear hxr2
          cases hpq : p q with
          | true =>
            rw [hpq] at hcp
            have HPQ := Lib.hid hpq
            clear hpq
            have HH := Lib.hid (has_any (.slice (some ⟨mg, mo, none⟩) M.length mc) (M.map fun (j : Nat) => (j : Int)) q wr (by have := hq.row; rw [natInts_length] at this; simpa [natInts] using this))
            have hcon : (M.map fun (j : Nat) => (j : Int)).contains (q : Int) = decide (q ∈ M) := by
              rw [Bool.eq_iff_iff]
              simp
              exact ⟨fun ⟨a, ha, h⟩ => by obtain rfl : a = q := by omega
                                          exact ha, fun h => ⟨q, h, rfl⟩⟩
            rw [hcon] at HH
            clear hcon
            by_cases hqM : q ∈ M
            · have HS := Lib.hid (HD.out.gone HY.out HPQ.out hqM)
              rw [decide_eq_true hqM] at HH
              clear hqM
              go_wp2_with fail
              refine HH.out.mono ?_
              rintro e1 w' ⟨rfl, rfl⟩
              go_wp2_with fail
              go_roundw
              case rel => exact ⟨t + 1, M, os, o, by go_num, by omega, hol, HOS, HS, hne, ho, hq, hb⟩
              case measure => simp [intOf]; omega
            · have HS := Lib.hid (HD.out.push HY.out HPQ.out hqM)
              rw [decide_eq_false hqM] at HH
              clear hqM
              have hqb := fun b hb' => (hq.lt (b := b) hb').1
              have hqs := (hq.lt (b := mg) rfl).2
              have HNE := Lib.hid hne
              have hlo := fun b hb' => (owns_lt ho (b := b) hb').2
              go_wp2_with fail
              refine HH.out.mono ?_
              rintro e1 w' ⟨rfl, rfl⟩
              go_wp2_with (at_builtin; refine wpList_qpush _ rfl _ _ 24 rfl (B + 1) 2 _ _ 8 Tryd.underlying24 infoI rfl (.slice (some ⟨mg, mo, none⟩) M.length mc) M.length (natInts M) rfl (natInts_length _) hq _ rfl rfl (by unfold maxLen; omega) (by omega) (by omega) ?_; intro g' o4 c' w4 hq4 hg hwh; have hcp4 : w4.cell? ⟨pb, po + q, none⟩ = some (.bool true) := (by
                have hb5 := hb.grown hg (by omega) hqb
                obtain ⟨pb', po', e5, hcp5⟩ := (Row.below hp (hB.symm ▸ (u0.trans ((u02.trans hb5).mono (by omega))))).boolAt hqn
                obtain ⟨rfl, rfl⟩ : pb = pb' ∧ po = po' := by simpa using e5
                rw [hcp5, HPQ.out]); have hcy4 : w4.cell? ⟨yb, yo + t, none⟩ = some (.int .i64 q) := (by
                have hb5 := hb.grown hg (by omega) hqb
                have := (hG.below (hB.symm ▸ (u0.trans ((u02.trans hb5).mono (by omega))))).rows x _ (ints (rowB n (e x))) HV.out (by rw [List.getElem?_map, rowsB_at e hxn]; rfl)
                rw [ints_length] at this
                obtain ⟨b, o, z, h3, h4, h5⟩ := this.intAt htlt
                obtain ⟨rfl, rfl⟩ : yb = b ∧ yo = o := by simpa using h3
                rw [h4]
                have := h5.out
                rw [HY.out] at this
                rw [Option.some.inj this]))
              have hne4 : (Value.slice va os.length vc).ownBlock ≠ (Value.slice (some ⟨g', o4, none⟩) (M.length + 1) c').ownBlock := fun h => by
                have h2 := hlo g' (by rw [h]; rfl)
                rcases hwh with hwh | hwh
                · exact HNE.out (by rw [h]; exact hwh.symm)
                · omega
              have ho4 : w4.ownsRow (B + 1) 2 1 (.slice va os.length vc) os.length (ints os) := ho.kept hg (.inr HNE.out)
              have hb5 := hb.grown hg (by omega) hqb
              have hq5 : Qu w4 (B + 1) 2 (.slice (some ⟨g', o4, none⟩) (M.length + 1) c') (natInts (M ++ [q])) := by simpa [natInts, ints] using hq4
              clear hq4 hg hwh hcp4 hcy4 hqb hlo
              go_roundw
              case rel => exact ⟨t + 1, M ++ [q], os, o, by go_num, by omega, hol, HOS, HS, hne4, ho4, hq5, hb5⟩
              case measure => simp [intOf]; omega
          | false =>
            rw [hpq] at hcp
            by_cases hqs : q = s
            · have hd : ((q : Int) != (s : Int)) = false := by simp [hqs]
              have HS := Lib.hid (HD.out.keep HY.out hpq hqs)
              clear hpq hqs
              go_wp2_with fail
              go_roundw
              case rel => exact ⟨t + 1, M, os, o, by go_num, by omega, hol, HOS, HS, hne, ho, hq, hb⟩
              case measure => simp [intOf]; omega
            · have hd : ((q : Int) != (s : Int)) = true := by rw [bne_iff_ne]; omega
              have HS := Lib.hid (HD.out.put HY.out hpq hqs)
              have HIN := Lib.hid (into_any (.slice va os.length vc) os q wr (Row.of_owns ho) (by omega))
              obtain ⟨os2, HO2⟩ : ∃ os2, Hid (into os q = os2) := ⟨_, Lib.hid rfl⟩
              rw [HO2.out] at HIN
              have HE : Hid (os2 = rowB n (fun b => o b || decide (b = q))) := Lib.hid (by rw [← HO2.out, HOS.out, into_rowB (by omega) _ hqn])
              have hol3 : os2.length ≤ n := by rw [HE.out]; exact rowB_length _ _
              have hkb : mg < wr.heap.size := (hq.lt rfl).2
              clear hpq hqs
              go_wp2_with fail
              refine HIN.out.mono ?_
              rintro e1 w3 ⟨u3, rfl, hu3, hb3⟩
              have ho3 : w3.ownsRow (B + 1) 2 1 u3 os2.length (ints os2) ∧ u3.ownBlock ≠ (Value.slice (some ⟨mg, mo, none⟩) M.length mc).ownBlock := by
                rcases hu3 with ⟨rfl, hos⟩ | ho3
                · rw [hos]; exact ⟨owns_below ho hb3, hne⟩
                · exact ⟨owns_base ho3 (by omega), fun h => by have := owns_lt ho3 (b := mg) (by rw [h]; rfl); omega⟩
              have hb4 := hb.trans (hb3.mono (by omega))
              have hq3 := hq.below hb3
              clear hu3 hb3 HIN ho hq hb hbw
              go_wp2_with fail
              go_roundw
              case rel => exact ⟨t + 1, M, os2, _, by go_num, by omega, hol3, HE, HS, ho3.2, ho3.1, hq3, hb4⟩
              case measure => simp [intOf]; omega
        · obtain rfl : t = (rowB n (e x)).length := by omega
          have HL := Lib.hid HD.out.leave
          have hiM : i < M.length := (List.getElem?_eq_some_iff.1 HD.out.at_).1
          go_wp2_with fail
          go_roundw
          case rel => exact ⟨i + 1, M, os, o, by go_num, by omega, hol, HOS, HL, hne, ho, hq, hb⟩
          case measure => simp [intOf]; omega
    · obtain rfl : i = M.length := by omega
      have HF : Hid (os = rowB n (behB n e p s)) := Lib.hid (by rw [HOS.out, HD.out.done])
      go_wp2_with fail
      go_ret
      rw [← HF.out]
      exact ⟨_, rfl, by rw [hB]; exact owns_base ho (by omega), by rw [hB]; exact hbw⟩

end Go.Proofs.YtpfhflkpnjkgkaaDoor
