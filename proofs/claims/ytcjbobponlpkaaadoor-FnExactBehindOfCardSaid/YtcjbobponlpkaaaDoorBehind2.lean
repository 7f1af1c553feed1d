/-
  'BehindOf' of the reference: 'l10Marks', 'l10Behind'; both.
-/
import Derived.Test.YtcjbobponlpkaaaDoorBehind
import Derived.Test.YtcjbobponlpkaaaDoorBfs
import Derived.Test.YtcjbobponlpkaaaDoorOrder2
namespace Go.Proofs.YtcjbobponlpkaaaDoor
open Go.RowKit

theorem infoBo : (Tryd.prog.info? 4).map (fun i => (i.zero, i.size, i.bytes)) = some (some (.bool false), 1, 1) := by kernel_rfl
/-- A set as marks. -/
def bools (n : Nat) (p : Nat → Bool) : List Value := (List.range n).map fun b => .bool (p b)
@[simp] theorem bools_length (n : Nat) (p : Nat → Bool) : (bools n p).length = n := by simp [bools]
theorem bools_none (n : Nat) : List.replicate n (Value.bool false) = bools n fun _ => false := by
  apply List.ext_getElem (by simp)
  intro i h1 h2
  simp [bools]
theorem bools_set {n : Nat} {p : Nat → Bool} {q : Nat} : (bools n p).set q (.bool true) = bools n fun b => p b || decide (b = q) := by
  apply List.ext_getElem (by simp)
  intro i h1 h2
  rw [List.getElem_set]
  by_cases h : q = i
  · subst h; simp [bools]
  · have : ¬ i = q := fun h' => h h'.symm
    simp [bools, h, this]
theorem bools_ext {n : Nat} {p q : Nat → Bool} (h : ∀ b, b < n → p b = q b) : bools n p = bools n q := by
  unfold bools
  exact List.map_congr_left fun b hb => by rw [h b (List.mem_range.1 hb)]

set_option maxHeartbeats 1000000 in
theorem l10Marks_any (g : Value) (xss : List (List Int)) (hn : xss.length ≤ 16) (v2 : Value) (p : Nat → Bool) (w : World) (hr : RdSS g xss w) (hs : RdS v2 (rowB xss.length p) w) :
    Calls Tryd.prog 63 #[.agg #[g], v2] w fun r w' => ∃ u, r = .returned u ∧ w'.ownsRow w.heap.size 4 1 u xss.length (bools xss.length p) ∧ Below w.heap.size w w' := by
  obtain ⟨a, c, rfl⟩ := hr.shape
  obtain ⟨a2, c2, rfl, -, -, -⟩ := id hs
  have hpl := rowB_length xss.length p
  obtain ⟨B, hB⟩ : ∃ B, w.heap.size = B := ⟨_, rfl⟩
  have u1 : Below B w (w.alloc (.cells #[.slice a xss.length c] 28)) := by subst hB; exact below_alloc' _ _
  have VG0 : VC 28 B #[.slice a xss.length c] (w.alloc (.cells #[.slice a xss.length c] 28)) := VC.new hB
  have hz0 : (w.alloc (.cells #[.slice a xss.length c] 28)).heap.size = B + 1 := by simp [hB]
  have hcg := VG0.cell
  go_enter Tryd.func63, Tryd.ntmps63
  go_wp2_with fail
  generalize w.alloc (.cells #[.slice a xss.length c] 28) = W at *
  refine (size_any a xss.length c W).mono ?_
  rintro e1 w1 ⟨rfl, hb1⟩
  have hb01 := u1.trans (hb1.mono (by omega))
  have hz1 : B ≤ w1.heap.size := by have := hb1.size; omega
  clear hb1 hcg
  go_wp2_with (at_make; refine wpList_make _ rfl _ _ 63 rfl w1.heap.size 4 (.bool false) 1 Tryd.underlying63 infoBo rfl .i64 .i64 _ _ xss.length rfl rfl rfl rfl (by omega) (by unfold maxLen; omega) (Nat.le_refl _) ?_; intro w2 ho2 hb2)
  rw [bools_none] at ho2
  have hb02 := hb01.trans (hb2.mono hz1)
  obtain ⟨C, hC⟩ : ∃ C, w1.heap.size = C := ⟨_, rfl⟩
  rw [hC] at ho2 hb2 ⊢
  have HST : Hid (bools xss.length (fun _ => false) = bools xss.length (inL ((rowB xss.length p).take 0))) := Lib.hid (bools_ext fun b _ => by rw [List.take_zero, inL_nil])
  rw [HST.out] at ho2
  have hcl : Below C w1 w2 := hb2
  clear hb2
  go_loopw [6] (fun i wr => ∃ j : Nat, j ≤ (rowB xss.length p).length ∧ i = .int .i64 j ∧ wr.ownsRow C 4 1 (.slice (some ⟨C, 0, none⟩) xss.length xss.length) xss.length (bools xss.length (inL ((rowB xss.length p).take j))) ∧ Below C w1 wr) (fun i _ => (rowB xss.length p).length - (intOf i).toNat)
  case atStart => exact ⟨0, Nat.zero_le _, rfl, ho2, hcl⟩
  case round =>
    clear ho2 hcl hb02
    obtain ⟨j, hj, rfl, ho, hb⟩ := hrel
    have hsz := hb.size
    have hbw := hb01.trans (hb.mono (by omega))
    by_cases hlt : j < (rowB xss.length p).length
    · obtain ⟨yb, yo, y, rfl, hcy, HY⟩ := Row.intAt (RdS.below hs hbw hB) hlt
      obtain ⟨q, hq, hpq, rfl⟩ := row_at HY.out
      have HT := Lib.hid (inL_take_succ HY.out)
      have hf := ho.frozenAt q
      have hcq : wr.cell? ⟨C, q, none⟩ = some (.bool (inL ((rowB xss.length p).take j) q)) := by
        rw [ho.cellAt q (by omega)]
        simp [bools, hq]
      have hst := ho.stored q (.bool true)
      rw [bools_set] at hst
      have HST2 := Lib.hid hst
      have hbS := hb.setCell (p := ⟨C, q, none⟩) (by simp) (.bool true)
      have HBS := Lib.hid hbS
      clear hst hbS
      go_wp2_with fail
      go_roundw
      case rel => exact ⟨j + 1, by omega, by go_num, by rw [HT.out]; exact HST2.out.1, HBS.out⟩
      case measure => simp [intOf]; omega
    · obtain rfl : j = (rowB xss.length p).length := by omega
      rw [List.take_length, bools_ext (fun b hb => inL_rowB hb)] at ho
      go_wp2_with fail
      go_ret
      exact ⟨_, rfl, by rw [hB]; exact owns_base ho (by omega), by rw [hB]; exact hbw⟩

/-- What the run holds: those met, and what is behind the first i of them. -/
structure Beh (n : Nat) (e : Nat → Nat → Bool) (p : Nat → Bool) (s i : Nat) (M : List Nat) (o : Nat → Bool) : Prop where
  start : s ∈ M
  ways : ∀ a ∈ M, a < n ∧ Way n e p s a
  closed : ∀ j a, j < i → M[j]? = some a → ∀ b, b < n → e a b = true → p b = true → b ∈ M
  out : ∀ b, b < n → (o b = true ↔ p b = false ∧ b ≠ s ∧ ∃ j a, j < i ∧ M[j]? = some a ∧ e a b = true)
  cnt : M.length = (rowB n fun u => decide (u ∈ M)).length
/-- The same inside a round, at a. -/
structure Beh2 (n : Nat) (e : Nat → Nat → Bool) (p : Nat → Bool) (s i a k : Nat) (M : List Nat) (o : Nat → Bool) : Prop where
  at_ : M[i]? = some a
  start : s ∈ M
  ways : ∀ a ∈ M, a < n ∧ Way n e p s a
  closed : ∀ j a, j < i → M[j]? = some a → ∀ b, b < n → e a b = true → p b = true → b ∈ M
  near : ∀ b : Nat, (b : Int) ∈ (rowB n (e a)).take k → p b = true → b ∈ M
  out : ∀ b, b < n → (o b = true ↔ p b = false ∧ b ≠ s ∧ ((∃ j a, j < i ∧ M[j]? = some a ∧ e a b = true) ∨ (b : Int) ∈ (rowB n (e a)).take k))
  cnt : M.length = (rowB n fun u => decide (u ∈ M)).length
section
variable {n : Nat} {e : Nat → Nat → Bool} {p o : Nat → Bool} {s i a k q : Nat} {M : List Nat}
theorem Beh.le (h : Beh n e p s i M o) : M.length ≤ n := by rw [h.cnt]; exact rowB_length _ _
theorem Beh2.le (h : Beh2 n e p s i a k M o) : M.length ≤ n := by rw [h.cnt]; exact rowB_length _ _
theorem Beh.first (hs : s < n) : Beh n e p s 0 [s] (fun _ => false) := by
  refine ⟨by simp, fun a ha => ?_, fun j a hj => by omega, fun b _ => ?_, ?_⟩
  · simp at ha; subst ha; exact ⟨hs, .here⟩
  · simp
  · have h1 : (rowB n fun u => decide (u ∈ [s])) = rowB n fun x => (fun _ => false) x || decide (x = s) := rowB_ext fun x _ => by simp
    rw [h1, rowB_put_length rfl hs]
    have h2 : rowB n (fun _ => false) = [] := by simp [rowB]
    rw [h2]
    rfl
theorem Beh.enter (h : Beh n e p s i M o) (hi : M[i]? = some a) : Beh2 n e p s i a 0 M o :=
  ⟨hi, h.start, h.ways, h.closed, fun b hb => by simp at hb, fun b hb => by rw [h.out b hb]; simp, h.cnt⟩
theorem mem_take_succ {xs : List Int} {k b q : Nat} (hq : xs[k]? = some (q : Int)) : (b : Int) ∈ xs.take (k + 1) ↔ (b : Int) ∈ xs.take k ∨ b = q := by
  rw [take_snoc hq, List.mem_append, List.mem_singleton, show ((b : Int) = (q : Int)) ↔ b = q by omega]
theorem Beh2.gone (h : Beh2 n e p s i a k M o) (hq : (rowB n (e a))[k]? = some (q : Int)) (hp : p q = true) (hm : q ∈ M) : Beh2 n e p s i a (k + 1) M o := by
  refine ⟨h.at_, h.start, h.ways, h.closed, fun b hb hpb => ?_, fun b hb => ?_, h.cnt⟩
  · rcases (mem_take_succ hq).1 hb with hb | rfl
    · exact h.near b hb hpb
    · exact hm
  · rw [h.out b hb, mem_take_succ hq]
    by_cases hbq : b = q
    · subst hbq; rw [hp]; simp
    · simp [hbq]
theorem Beh2.push (h : Beh2 n e p s i a k M o) (hq : (rowB n (e a))[k]? = some (q : Int)) (hp : p q = true) (hm : q ∉ M) : Beh2 n e p s i a (k + 1) (M ++ [q]) o := by
  obtain ⟨q', hqn, heq, e1⟩ := row_at hq
  obtain rfl : q = q' := by omega
  have hi := (List.getElem?_eq_some_iff.1 h.at_).1
  have hlook : ∀ {j x}, j < i → ((M ++ [q])[j]? = some x ↔ M[j]? = some x) := fun hj => by rw [List.getElem?_append_left (by omega)]
  refine ⟨by rw [List.getElem?_append_left hi]; exact h.at_, by simp [h.start], fun x hx => ?_, fun j x hj hx b hb hxb hpb => ?_, fun b hb hpb => ?_, fun b hb => ?_, ?_⟩
  · rcases List.mem_append.1 hx with hx | hx
    · exact h.ways x hx
    · simp at hx; subst hx
      exact ⟨hqn, .step (h.ways a (List.mem_of_getElem? h.at_)).2 hqn heq hp⟩
  · exact List.mem_append.2 (.inl (h.closed j x hj ((hlook hj).1 hx) b hb hxb hpb))
  · rcases (mem_take_succ hq).1 hb with hb | rfl
    · exact List.mem_append.2 (.inl (h.near b hb hpb))
    · simp
  · rw [h.out b hb, mem_take_succ hq]
    have e2 : (∃ j x, j < i ∧ (M ++ [q])[j]? = some x ∧ e x b = true) ↔ ∃ j x, j < i ∧ M[j]? = some x ∧ e x b = true :=
      ⟨fun ⟨j, x, h1, h2, h3⟩ => ⟨j, x, h1, (hlook h1).1 h2, h3⟩, fun ⟨j, x, h1, h2, h3⟩ => ⟨j, x, h1, (hlook h1).2 h2, h3⟩⟩
    rw [e2]
    by_cases hbq : b = q
    · subst hbq; rw [hp]; simp
    · simp [hbq]
  · have e2 : (rowB n fun u => decide (u ∈ M ++ [q])) = rowB n fun x => (fun u => decide (u ∈ M)) x || decide (x = q) := rowB_ext fun x _ => by simp [Bool.decide_or]
    rw [e2, rowB_put_length (by simpa using hm) hqn, List.length_append, ← h.cnt]
    rfl
theorem Beh2.keep (h : Beh2 n e p s i a k M o) (hq : (rowB n (e a))[k]? = some (q : Int)) (hp : p q = false) (hs : q = s) : Beh2 n e p s i a (k + 1) M o := by
  refine ⟨h.at_, h.start, h.ways, h.closed, fun b hb hpb => ?_, fun b hb => ?_, h.cnt⟩
  · rcases (mem_take_succ hq).1 hb with hb | rfl
    · exact h.near b hb hpb
    · rw [hp] at hpb; cases hpb
  · rw [h.out b hb, mem_take_succ hq]
    by_cases hbq : b = q
    · subst hbq; simp [hs]
    · simp [hbq]
theorem Beh2.put (h : Beh2 n e p s i a k M o) (hq : (rowB n (e a))[k]? = some (q : Int)) (hp : p q = false) (hs : q ≠ s) : Beh2 n e p s i a (k + 1) M (fun b => o b || decide (b = q)) := by
  refine ⟨h.at_, h.start, h.ways, h.closed, fun b hb hpb => ?_, fun b hb => ?_, h.cnt⟩
  · rcases (mem_take_succ hq).1 hb with hb | rfl
    · exact h.near b hb hpb
    · rw [hp] at hpb; cases hpb
  · rw [Bool.or_eq_true, h.out b hb, mem_take_succ hq]
    by_cases hbq : b = q
    · subst hbq; simp [hp, hs]
    · simp [hbq]
theorem Beh2.leave (h : Beh2 n e p s i a (rowB n (e a)).length M o) : Beh n e p s (i + 1) M o := by
  refine ⟨h.start, h.ways, fun j x hj hx b hb hxb hpb => ?_, fun b hb => ?_, h.cnt⟩
  · by_cases hji : j = i
    · subst hji
      rw [h.at_] at hx
      obtain rfl := Option.some.inj hx
      exact h.near b (by rw [List.take_length]; exact nat_mem_rowB.2 ⟨hb, hxb⟩) hpb
    · exact h.closed j x (by omega) hx b hb hxb hpb
  · rw [h.out b hb, List.take_length, nat_mem_rowB]
    constructor
    · rintro ⟨h1, h2, ⟨j, x, h3, h4, h5⟩ | h3⟩
      · exact ⟨h1, h2, j, x, by omega, h4, h5⟩
      · exact ⟨h1, h2, i, a, by omega, h.at_, h3.2⟩
    · rintro ⟨h1, h2, j, x, h3, h4, h5⟩
      refine ⟨h1, h2, ?_⟩
      by_cases hji : j = i
      · subst hji
        rw [h.at_] at h4
        obtain rfl := Option.some.inj h4
        exact .inr ⟨hb, h5⟩
      · exact .inl ⟨j, x, by omega, h4, h5⟩
theorem Beh.done (h : Beh n e p s M.length M o) : rowB n o = rowB n (behB n e p s) := by
  have e1 : (fun u => decide (u ∈ M)) = wayB n e p s := by
    refine way_pt (by simpa using h.start) (fun b hb => h.ways b (by simpa using hb)) fun a b ha hb he hp => ?_
    obtain ⟨j, hj⟩ := List.mem_iff_getElem?.1 (show a ∈ M by simpa using ha)
    have := h.closed j a (List.getElem?_eq_some_iff.1 hj).1 hj b hb he hp
    simpa using this
  refine rowB_ext fun b hb => ?_
  rw [Bool.eq_iff_iff, h.out b hb]
  unfold behB
  rw [← e1]
  simp only [Bool.and_eq_true, Bool.not_eq_true', decide_eq_false_iff_not, List.any_eq_true, List.mem_range, decide_eq_true_eq]
  constructor
  · rintro ⟨h1, h2, j, x, _, h4, h5⟩
    exact ⟨⟨⟨x, (h.ways x (List.mem_of_getElem? h4)).1, List.mem_of_getElem? h4, h5⟩, h1⟩, h2⟩
  · rintro ⟨⟨⟨x, _, h4, h5⟩, h1⟩, h2⟩
    obtain ⟨j, hj⟩ := List.mem_iff_getElem?.1 h4
    exact ⟨h1, h2, j, x, (List.getElem?_eq_some_iff.1 hj).1, hj, h5⟩
end

theorem Row.boolAt {w : World} {a : Option Addr} {len cap n : Nat} {p : Nat → Bool} (h : Row w 1 (.slice a len cap) n (bools n p)) {j : Nat} (hj : j < n) :
    ∃ b o, a = some ⟨b, o, none⟩ ∧ w.cell? ⟨b, o + j, none⟩ = some (.bool (p j)) := by
  obtain ⟨a', cap', e, h1, h2, h3, h4, h5⟩ := h
  obtain ⟨rfl, rfl, rfl⟩ : a' = a ∧ n = len ∧ cap' = cap := by simpa [eq_comm] using e
  obtain ⟨b, o, rfl, hc⟩ := h5 j (.bool (p j)) (by simp [bools, hj])
  exact ⟨b, o, rfl, hc⟩
theorem qu_at {w : World} {base : Nat} {e : TypeId} {g o c i x : Nat} {M : List Nat} (h : Qu w base e (.slice (some ⟨g, o, none⟩) M.length c) (natInts M)) (hx : M[i]? = some x) : w.cell? ⟨g, o + i, none⟩ = some (.int .i64 (x : Int)) := by
  have h0 := h.row
  rw [natInts_length] at h0
  have hi := (List.getElem?_eq_some_iff.1 hx).1
  obtain ⟨b, o', y, h3, h4, h5⟩ := h0.intAt (xs := M.map fun (j : Nat) => (j : Int)) (k := .i64) (j := i) (by simpa using hi)
  obtain ⟨rfl, rfl⟩ : g = b ∧ o = o' := by simpa using h3
  have h6 := h5.out
  rw [List.getElem?_map, hx] at h6
  rw [h4]
  congr 2
  simpa using h6.symm

set_option maxHeartbeats 8000000 in
theorem l10Behind_any (g : Value) (n : Nat) (e : Nat → Nat → Bool) (hn : n ≤ 16) (v2 : Value) (p : Nat → Bool) (s : Nat) (hs : s < n) (S : Int) (hS : S = s) (w : World) (hr : RdSS g (rowsB n e) w) (hp : Row w 1 v2 n (bools n p)) :
    Calls Tryd.prog 62 #[.agg #[g], v2, .int .i64 S] w (SRes w (rowB n (behB n e p s))) := by
  obtain ⟨a, c, rfl⟩ := hr.shape
  obtain ⟨a2, c2, rfl, -, -, -⟩ := id hp
  rw [rowsB_length] at hr ⊢
  obtain ⟨vsr, hG⟩ := hr.ex
  subst hS
  obtain ⟨B, hB⟩ : ∃ B, w.heap.size = B := ⟨_, rfl⟩
  obtain ⟨W0, hW0⟩ : ∃ W0, W0 = w.alloc (.cells #[.slice a n c] 28) := ⟨_, rfl⟩
  obtain ⟨W1, hW1⟩ : ∃ W1, W1 = W0.alloc (.cells #[.int .i64 s] 2) := ⟨_, rfl⟩
  obtain ⟨W2, hW2⟩ : ∃ W2, W2 = W1.alloc (.cells #[] 2) := ⟨_, rfl⟩
  have hz0 : W0.heap.size = B + 1 := by simp [hW0, hB]
  have hz1 : W1.heap.size = B + 2 := by simp [hW1, hz0]
  have hz2 : W2.heap.size = B + 3 := by simp [hW2, hz1]
  have u0 : Below B w W0 := by rw [hW0, ← hB]; exact below_alloc' _ _
  have VG0 : VC 28 B #[.slice a n c] W0 := by rw [hW0]; exact VC.new hB
  have u1 : Below (B + 1) W0 W1 := by rw [hW1, ← hz0]; exact below_alloc' _ _
  have u2 : Below (B + 2) W1 W2 := by rw [hW2, ← hz1]; exact below_alloc' _ _
  have u02 : Below (B + 1) W0 W2 := u1.trans (u2.mono (by omega))
  have hq1 : W1.ownsRow (B + 1) 2 1 (.slice (some ⟨B + 1, 0, none⟩) 1 1) 1 (natInts [s]) := by
    rw [hW1, ← hz0]
    exact World.ownsRow_lit W0 #[.int .i64 s] 1 (Nat.le_refl _) (by simp [maxLen]) rfl
  have hq2 : Qu W2 (B + 1) 2 (.slice (some ⟨B + 1, 0, none⟩) 1 1) (natInts [s]) := Qu.of_owns (cs := natInts [s]) (owns_below hq1 (hz1.symm ▸ u2))
  have ho2' : W2.ownsRow (B + 2) 2 1 (.slice (some ⟨B + 2, 0, none⟩) 0 0) 0 [] := by
    rw [hW2, ← hz1]
    exact World.ownsRow_lit W1 #[] 0 (Nat.le_refl _) (by simp [maxLen]) rfl
  have ho2 := owns_base ho2' (by omega : B + 1 ≤ B + 2)
  have HO0 : Hid (([] : List Int) = rowB n fun _ => false) := Lib.hid (by simp [rowB])
  clear hq1 u1 u2 ho2'
  go_enter Tryd.func62, Tryd.ntmps62
  go_wp2_with fail
  rw [← hW0, ← hW1, ← hW2]
  clear hW0 hW1 hW2
  have hbW : Below (B + 1) W2 W2 := Below.refl _ _
  go_loopw [7, 8, 9] (fun td u i wr => ∃ (i' : Nat) (M : List Nat) (os : List Int) (o : Nat → Bool), i = .int .i64 i' ∧ i' ≤ M.length ∧ os.length ≤ n ∧ Hid (os = rowB n o) ∧ Hid (Beh n e p s i' M o) ∧ u.ownBlock ≠ td.ownBlock ∧ wr.ownsRow (B + 1) 2 1 u os.length (ints os) ∧ Qu wr (B + 1) 2 td (natInts M) ∧ Below (B + 1) W2 wr) (fun _ _ i _ => n - (intOf i).toNat)
  case atStart => exact ⟨0, [s], [], _, rfl, Nat.zero_le _, Nat.zero_le _, HO0, Lib.hid (Beh.first hs), by simp [Value.ownBlock], by simpa [ints] using ho2, hq2, hbW⟩
  case round =>
    clear ho2 hq2 hbW HO0
    obtain ⟨i, M, os, o, rfl, hiM, hol, HOS, HD, hne, ho, hq, hb⟩ := hrel
    have hMl := HD.out.le
    have hsz := hb.size
    have hbw := u0.trans ((u02.trans hb).mono (by omega))
    obtain ⟨mg, mo, mc, rfl⟩ := hq.shape
    obtain ⟨ua, uc, rfl⟩ := owns_shape ho
    rw [natInts_length] at hne hq ⊢
    by_cases hlt : i < M.length
    · obtain ⟨x, HX⟩ : ∃ x, Hid (M[i]? = some x) := ⟨M[i], Lib.hid (by simp [hlt])⟩
      have hxn : x < n := (HD.out.ways x (List.mem_of_getElem? HX.out)).1
      have hcm := qu_at hq HX.out
      have hGx := hG.below (hB.symm ▸ hbw)
      obtain ⟨rb, ro, r, xs, rfl, hc, hxr, HV, HXX⟩ := hGx.intsAt (k := x) (by simpa using hxn)
      obtain rfl : rowB n (e x) = xs := by have h := HXX.out; rw [rowsB_at e hxn] at h; exact Option.some.inj h
      obtain ⟨na, nc, rfl, -, -, -⟩ := id hxr
      have hrl := rowB_length n (e x)
      have VGr := VG0.belowAt (u02.trans hb) (by omega)
      have hcg := VGr.cell
      have ho' : wr.drew.ownsRow (B + 1) 2 1 (.slice ua os.length uc) os.length (ints os) := ho.drew
      have hq' : Qu wr.drew (B + 1) 2 (.slice (some ⟨mg, mo, none⟩) M.length mc) (natInts M) := hq
      have hb' : Below (B + 1) W2 wr.drew := hb.drew
      have HE := Lib.hid (HD.out.enter HX.out)
      clear hGx HXX ho hq hb hbw VGr
      go_wp2_with fail
      refine wp_region_ord [0, 2, 3, 4] [1, 5, 6, 7, 8] [] [] (by kernel_rfl) (by kernel_rfl) (fun _ _ d _ _ h => by cases d <;> exact h) ?_
      simp only [pickOps, List.filterMap_cons, List.filterMap_nil, List.getElem?_cons_succ, List.getElem?_cons_zero]
      repeat quiet_step (fail)
      simp only [wpQuiet_nil_eq, wpSegs_nil_eq]
      go_wp2_with fail
      clear hcg hc hcm hxr
      generalize wr.drew = wq at *
      go_loopw [7, 8, 11] (fun td u t wr => ∃ (t' : Nat) (M : List Nat) (os : List Int) (o : Nat → Bool), t = .int .i64 t' ∧ t' ≤ (rowB n (e x)).length ∧ os.length ≤ n ∧ Hid (os = rowB n o) ∧ Hid (Beh2 n e p s i x t' M o) ∧ u.ownBlock ≠ td.ownBlock ∧ wr.ownsRow (B + 1) 2 1 u os.length (ints os) ∧ Qu wr (B + 1) 2 td (natInts M) ∧ Below (B + 1) W2 wr) (fun _ _ t _ => (rowB n (e x)).length - (intOf t).toNat)
      case atStart => exact ⟨0, M, os, o, rfl, Nat.zero_le _, hol, HOS, HE, hne, ho', hq', hb'⟩
      case round =>
        clear ho' hq' hb' HE hne HD HX hlt hMl hsz hol HOS hiM
        obtain ⟨t, M, os, o, rfl, htl, hol, HOS, HD, hne, ho, hq, hb⟩ := hrel
        have hMl := HD.out.le
        have hsz := hb.size
        have hbw := u0.trans ((u02.trans hb).mono (by omega))
        have hxr2 : Row wr 1 (.slice na (rowB n (e x)).length nc) (rowB n (e x)).length (ints (rowB n (e x))) := by
          have := (hG.below (hB.symm ▸ hbw)).rows x _ (ints (rowB n (e x))) HV.out (by rw [List.getElem?_map, rowsB_at e hxn]; rfl)
          simpa using this
        obtain ⟨mg, mo, mc, rfl⟩ := hq.shape
        obtain ⟨va, vc, rfl⟩ := owns_shape ho
        rw [natInts_length] at hne hq ⊢
        by_cases htlt : t < (rowB n (e x)).length
        · obtain ⟨yb, yo, y, rfl, hcy, HY⟩ := hxr2.intAt htlt
          obtain ⟨q, hqn, heq, rfl⟩ := row_at HY.out
          obtain ⟨pb, po, rfl, hcp⟩ := (Row.below hp (hB.symm ▸ hbw)).boolAt hqn
          clear hxr2
          cases hpq : p q with
          | true =>
            rw [hpq] at hcp
            have HPQ := Lib.hid hpq
            clear hpq
            have HH := Lib.hid (has_any (.slice (some ⟨mg, mo, none⟩) M.length mc) (M.map fun (j : Nat) => (j : Int)) q wr (by have := hq.row; rw [natInts_length] at this; simpa [natInts] using this))
            have hcon : (M.map fun (j : Nat) => (j : Int)).contains (q : Int) = decide (q ∈ M) := by
              rw [Bool.eq_iff_iff]
              simp
              exact ⟨fun ⟨a, ha, h⟩ => by obtain rfl : a = q := by omega
                                          exact ha, fun h => ⟨q, h, rfl⟩⟩
            rw [hcon] at HH
            clear hcon
            by_cases hqM : q ∈ M
            · have HS := Lib.hid (HD.out.gone HY.out HPQ.out hqM)
              rw [decide_eq_true hqM] at HH
              clear hqM
              go_wp2_with fail
              refine HH.out.mono ?_
              rintro e1 w' ⟨rfl, rfl⟩
              go_wp2_with fail
              go_roundw
              case rel => exact ⟨t + 1, M, os, o, by go_num, by omega, hol, HOS, HS, hne, ho, hq, hb⟩
              case measure => simp [intOf]; omega
            · have HS := Lib.hid (HD.out.push HY.out HPQ.out hqM)
              rw [decide_eq_false hqM] at HH
              clear hqM
              have hqb := fun b hb' => (hq.lt (b := b) hb').1
              have hqs := (hq.lt (b := mg) rfl).2
              have HNE := Lib.hid hne
              have hlo := fun b hb' => (owns_lt ho (b := b) hb').2
              go_wp2_with fail
              refine HH.out.mono ?_
              rintro e1 w' ⟨rfl, rfl⟩
              go_wp2_with (at_builtin; refine wpList_qpush _ rfl _ _ 25 rfl (B + 1) 2 _ _ 8 Tryd.underlying25 infoI rfl (.slice (some ⟨mg, mo, none⟩) M.length mc) M.length (natInts M) rfl (natInts_length _) hq _ rfl rfl (by unfold maxLen; omega) (by omega) (by omega) ?_; intro g' o4 c' w4 hq4 hg hwh; have hcp4 : w4.cell? ⟨pb, po + q, none⟩ = some (.bool true) := (by
                have hb5 := hb.grown hg (by omega) hqb
                obtain ⟨pb', po', e5, hcp5⟩ := (Row.below hp (hB.symm ▸ (u0.trans ((u02.trans hb5).mono (by omega))))).boolAt hqn
                obtain ⟨rfl, rfl⟩ : pb = pb' ∧ po = po' := by simpa using e5
                rw [hcp5, HPQ.out]); have hcy4 : w4.cell? ⟨yb, yo + t, none⟩ = some (.int .i64 q) := (by
                have hb5 := hb.grown hg (by omega) hqb
                have := (hG.below (hB.symm ▸ (u0.trans ((u02.trans hb5).mono (by omega))))).rows x _ (ints (rowB n (e x))) HV.out (by rw [List.getElem?_map, rowsB_at e hxn]; rfl)
                rw [ints_length] at this
                obtain ⟨b, o, z, h3, h4, h5⟩ := this.intAt htlt
                obtain ⟨rfl, rfl⟩ : yb = b ∧ yo = o := by simpa using h3
                rw [h4]
                have := h5.out
                rw [HY.out] at this
                rw [Option.some.inj this]))
              have hne4 : (Value.slice va os.length vc).ownBlock ≠ (Value.slice (some ⟨g', o4, none⟩) (M.length + 1) c').ownBlock := fun h => by
                have h2 := hlo g' (by rw [h]; rfl)
                rcases hwh with hwh | hwh
                · exact HNE.out (by rw [h]; exact hwh.symm)
                · omega
              have ho4 : w4.ownsRow (B + 1) 2 1 (.slice va os.length vc) os.length (ints os) := ho.kept hg (.inr HNE.out)
              have hb5 := hb.grown hg (by omega) hqb
              have hq5 : Qu w4 (B + 1) 2 (.slice (some ⟨g', o4, none⟩) (M.length + 1) c') (natInts (M ++ [q])) := by simpa [natInts, ints] using hq4
              clear hq4 hg hwh hcp4 hcy4 hqb hlo
              go_roundw
              case rel => exact ⟨t + 1, M ++ [q], os, o, by go_num, by omega, hol, HOS, HS, hne4, ho4, hq5, hb5⟩
              case measure => simp [intOf]; omega
          | false =>
            rw [hpq] at hcp
            by_cases hqs : q = s
            · have hd : ((q : Int) != (s : Int)) = false := by simp [hqs]
              have HS := Lib.hid (HD.out.keep HY.out hpq hqs)
              clear hpq hqs
              go_wp2_with fail
              go_roundw
              case rel => exact ⟨t + 1, M, os, o, by go_num, by omega, hol, HOS, HS, hne, ho, hq, hb⟩
              case measure => simp [intOf]; omega
            · have hd : ((q : Int) != (s : Int)) = true := by rw [bne_iff_ne]; omega
              have HS := Lib.hid (HD.out.put HY.out hpq hqs)
              have HIN := Lib.hid (into_any (.slice va os.length vc) os q wr (Row.of_owns ho) (by omega))
              obtain ⟨os2, HO2⟩ : ∃ os2, Hid (into os q = os2) := ⟨_, Lib.hid rfl⟩
              rw [HO2.out] at HIN
              have HE : Hid (os2 = rowB n (fun b => o b || decide (b = q))) := Lib.hid (by rw [← HO2.out, HOS.out, into_rowB (by omega) _ hqn])
              have hol3 : os2.length ≤ n := by rw [HE.out]; exact rowB_length _ _
              have hkb : mg < wr.heap.size := (hq.lt rfl).2
              clear hpq hqs
              go_wp2_with fail
              refine HIN.out.mono ?_
              rintro e1 w3 ⟨u3, rfl, hu3, hb3⟩
              have ho3 : w3.ownsRow (B + 1) 2 1 u3 os2.length (ints os2) ∧ u3.ownBlock ≠ (Value.slice (some ⟨mg, mo, none⟩) M.length mc).ownBlock := by
                rcases hu3 with ⟨rfl, hos⟩ | ho3
                · rw [hos]; exact ⟨owns_below ho hb3, hne⟩
                · exact ⟨owns_base ho3 (by omega), fun h => by have := owns_lt ho3 (b := mg) (by rw [h]; rfl); omega⟩
              have hb4 := hb.trans (hb3.mono (by omega))
              have hq3 := hq.below hb3
              clear hu3 hb3 HIN ho hq hb hbw
              go_wp2_with fail
              go_roundw
              case rel => exact ⟨t + 1, M, os2, _, by go_num, by omega, hol3, HE, HS, ho3.2, ho3.1, hq3, hb4⟩
              case measure => simp [intOf]; omega
        · obtain rfl : t = (rowB n (e x)).length := by omega
          have HL := Lib.hid HD.out.leave
          have hiM : i < M.length := (List.getElem?_eq_some_iff.1 HD.out.at_).1
          go_wp2_with fail
          go_roundw
          case rel => exact ⟨i + 1, M, os, o, by go_num, by omega, hol, HOS, HL, hne, ho, hq, hb⟩
          case measure => simp [intOf]; omega
    · obtain rfl : i = M.length := by omega
      have HF : Hid (os = rowB n (behB n e p s)) := Lib.hid (by rw [HOS.out, HD.out.done])
      go_wp2_with fail
      go_ret
      rw [← HF.out]
      exact ⟨_, rfl, by rw [hB]; exact owns_base ho (by omega), by rw [hB]; exact hbw⟩

set_option maxHeartbeats 2000000 in
theorem specBehind (g : Value) (xss : List (List Int)) (v2 : Value) (xs : List Int) (v : Int) (w : World) (hr : RdSS g xss w) (hs : RdS v2 xs w) (rs : List Int) (h : BehP xss xs v rs) :
    Calls Tryd.prog 25 #[.agg #[g], v2, .int .i64 v] w (SRes w rs) := by
  obtain ⟨a, c, rfl⟩ := hr.shape
  obtain ⟨a2, c2, rfl, -, -, -⟩ := id hs
  obtain ⟨B, hB⟩ : ∃ B, w.heap.size = B := ⟨_, rfl⟩
  have u1 : Below B w (w.alloc (.cells #[.slice a xss.length c] 28)) := by subst hB; exact below_alloc' _ _
  have VG0 : VC 28 B #[.slice a xss.length c] (w.alloc (.cells #[.slice a xss.length c] 28)) := VC.new hB
  have hz0 : (w.alloc (.cells #[.slice a xss.length c] 28)).heap.size = B + 1 := by simp [hB]
  have H := Lib.hid h
  have hcg := VG0.cell
  clear h
  have hno : (okB xss && decide (SetP xss.length xs) && inN xss.length v && !xs.contains v) = false → Hid (rs = []) := fun hn => by
    rcases H.out with ⟨_, h⟩ | ⟨_, _, _, _, _, _, _, _, h, _⟩
    · exact Lib.hid h
    · rw [hn] at h; cases h
  have HNO := Lib.hid hno
  clear hno
  go_enter Tryd.func25, Tryd.ntmps25
  go_wp2_with fail
  generalize w.alloc (.cells #[.slice a xss.length c] 28) = W at *
  refine (specSetOk (.slice a xss.length c) xss _ xs W (hr.below u1 hB) (RdS.below hs u1 hB)).mono ?_
  rintro e1 w1 ⟨rfl, hb1⟩
  have VG1 := VG0.upd (Upd.of_below hb1) (by omega)
  have hb := u1.trans (hb1.mono (by omega))
  have hz1 : B + 1 ≤ w1.heap.size := by have := hb1.size; omega
  clear hb1 hcg u1
  have hcg := VG1.cell
  cases hok : okB xss && decide (SetP xss.length xs) with
  | false =>
    obtain rfl : rs = [] := (HNO.out (by rw [hok]; rfl)).out
    have ho0 := World.ownsRow_lit (base := B) (e := 2) (size := 1) w1 #[] 0 (by omega) (by simp [maxLen]) rfl
    clear hok
    go_wp2_with fail
    go_ret
    exact ⟨_, rfl, by rw [hB]; simpa [ints] using ho0, by rw [hB]; exact hb.alloc (by omega) _⟩
  | true =>
    have HOK := Lib.hid hok
    have hokx : okB xss = true := by rw [Bool.and_eq_true] at hok; exact hok.1
    have hn16 := (ok_size hokx).2
    clear hok hokx
    go_wp2_with fail
    refine (there_any _ xss v (by omega) w1 (hr.below hb hB)).mono ?_
    rintro e1 w2 ⟨rfl, hb2⟩
    replace hb := hb.trans (hb2.mono (by omega))
    have VG2 := VG1.upd (Upd.of_below hb2) (by omega)
    have hz2 := hb2.size
    clear hb2 hcg
    have hcg := VG2.cell
    cases hin : inN xss.length v with
    | false =>
      obtain rfl : rs = [] := (HNO.out (by rw [hin, Bool.and_false]; rfl)).out
      have ho0 := World.ownsRow_lit (base := B) (e := 2) (size := 1) w2 #[] 0 (by omega) (by simp [maxLen]) rfl
      clear hin
      go_wp2_with fail
      go_ret
      exact ⟨_, rfl, by rw [hB]; simpa [ints] using ho0, by rw [hB]; exact hb.alloc (by omega) _⟩
    | true =>
      have HIN := Lib.hid hin
      clear hin
      have HHA := Lib.hid (has_any (.slice a2 xs.length c2) xs v w2 (RdS.below hs hb hB))
      obtain ⟨bb, HBB⟩ : ∃ b, Hid (xs.contains v = b) := ⟨_, Lib.hid rfl⟩
      rw [HBB.out] at HHA
      go_wp2_with fail
      refine HHA.out.mono ?_
      rintro e1 w' ⟨rfl, rfl⟩
      cases bb with
      | true =>
        obtain rfl : rs = [] := (HNO.out (by rw [HBB.out]; simp)).out
        have ho0 := World.ownsRow_lit (base := B) (e := 2) (size := 1) w2 #[] 0 (by omega) (by simp [maxLen]) rfl
        go_wp2_with fail
        go_ret
        exact ⟨_, rfl, by rw [hB]; simpa [ints] using ho0, by rw [hB]; exact hb.alloc (by omega) _⟩
      | false =>
        have hyes : (okB xss && decide (SetP xss.length xs) && inN xss.length v && !xs.contains v) = true := by rw [HOK.out, HIN.out, HBB.out]; rfl
        obtain ⟨e, p, s, hA, hx, hp, hvs, hsn, hrs⟩ : ∃ e p s, Adj xss.length e ∧ xss = rowsB xss.length e ∧ xs = rowB xss.length p ∧ v = (s : Nat) ∧ s < xss.length ∧ rs = rowB xss.length (behB xss.length e p s) := by
          rcases H.out with ⟨h, _⟩ | ⟨e, p, s', h1, h2, h3, h4, h5, _, h6⟩
          · rw [hyes] at h; cases h
          · exact ⟨e, p, s', h1, h2, h3, h4, h5, h6⟩
        have HRS := Lib.hid hrs
        have HVS := Lib.hid hvs
        have hbd : Below B w w2.drew := hb.drew
        have HMA := Lib.hid (l10Marks_any (.slice a xss.length c) xss hn16 (.slice a2 xs.length c2) p w2.drew (hr.below hbd hB) (by rw [← hp]; exact RdS.below hs hbd hB))
        have HGR : Hid (∀ W', Below B w W' → RdSS (.slice a xss.length c) (rowsB xss.length e) W') := Lib.hid fun W' hb' => by
          have := hr.below hb' hB
          rwa [hx, rowsB_length] at this
        clear hyes hx hrs hvs H hA hp HNO hbd
        go_wp2_with fail
        refine wp_region_ord [2, 4] [0, 1] [3] [5, 6] (by kernel_rfl) (by kernel_rfl) (fun _ _ d _ _ h => by cases d <;> exact h) ?_
        simp only [pickOps, List.filterMap_cons, List.filterMap_nil, List.getElem?_cons_succ, List.getElem?_cons_zero]
        repeat quiet_step (fail)
        simp only [wpQuiet_nil_eq]
        refine wpSegs_cons ?_
        go_wp2_with fail
        refine HMA.out.mono ?_
        rintro e1 w3 ⟨um, rfl, hM, hb3⟩
        obtain ⟨ma, mc, rfl⟩ := owns_shape hM
        have HB3 := Lib.hid (below_drew hb3)
        have hbw3 := hb.trans (HB3.out.mono (by omega))
        have HBE := Lib.hid (l10Behind_any (.slice a xss.length c) xss.length e hn16 (.slice ma xss.length mc) p s hsn v HVS.out w3 (HGR.out _ hbw3) (Row.of_owns hM))
        rw [← HRS.out] at HBE
        have hz3 : B ≤ w3.heap.size := by have := HB3.out.size; omega
        clear hM hb3 HMA hcg
        go_wp2_with fail
        refine ⟨HB3.out, ?_⟩
        simp only [wpSegs_nil_eq]
        go_wp2_with fail
        refine HBE.out.mono ?_
        rintro e1 w4 ⟨u4, rfl, hL, hb4⟩
        obtain ⟨la, lc, rfl⟩ := owns_shape hL
        have HL := Lib.hid (owns_base hL hz3)
        have hbf := hbw3.trans (hb4.mono hz3)
        clear hL hb4 HBE
        go_wp2_with fail
        go_ret
        exact ⟨_, rfl, by rw [hB]; exact HL.out, by rw [hB]; exact hbf⟩

theorem both_BehindOf (xss : List (List Int)) (xs : List Int) (v : Int) : ∃ rs : List Int, 1 + rs.length ≤ 1000000000 ∧
    (∀ (w : World) (g v2 : Value), Tab w → RdSS g xss w → RdS v2 xs w → Calls Tryd.prog 25 #[.agg #[g], v2, .int .i64 v] w (SRes w rs)) ∧
    (∀ (w : World) (g v2 : Value), Tab w → RdSS g xss w → RdS v2 xs w → Calls Tryd.prog 26 #[.agg #[g], v2, .int .i64 v] w (SRes w rs)) := by
  have key : ∃ rs : List Int, 1 + rs.length ≤ 1000000000 ∧ BehP xss xs v rs := by
    cases hok : okB xss && decide (SetP xss.length xs) && inN xss.length v && !xs.contains v with
    | false => exact ⟨[], by simp, .inl ⟨hok, rfl⟩⟩
    | true =>
      have h1 := hok
      simp only [Bool.and_eq_true, decide_eq_true_eq] at h1
      obtain ⟨e, hA, hx⟩ := (okB_iff xss).1 h1.1.1.1
      obtain ⟨s, rfl, hs⟩ := inN_nat h1.1.2
      have hn := hA.le
      have hl := rowB_length xss.length (behB xss.length e (inL xs) s)
      exact ⟨_, by omega, .inr ⟨e, inL xs, s, hA, hx, h1.1.1.2.eq, rfl, hs, hok, rfl⟩⟩
  obtain ⟨rs, hl, hP⟩ := key
  exact ⟨rs, hl, fun w g v2 _ hr hs => specBehind g xss v2 xs v w hr hs rs hP, fun w g v2 ht hr hs => implBehind g xss v2 xs v w ht hr hs rs hP⟩
end Go.Proofs.YtcjbobponlpkaaaDoor
