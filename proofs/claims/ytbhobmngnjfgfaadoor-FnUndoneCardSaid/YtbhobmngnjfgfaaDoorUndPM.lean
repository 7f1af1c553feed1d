import Derived.Test.YtbhobmngnjfgfaaDoorEdgSM
import Derived.Test.YtbhobmngnjfgfaaDoorGq09
import Derived.Test.YtbhobmngnjfgfaaDoorGq11
import Derived.Test.YtbhobmngnjfgfaaDoorSameGM
/-
  What undoes what: the plain part of 'FnUndone'; 'ManyEdges' of the program.
-/





namespace Go.Proofs.YtbhobmngnjfgfaaDoor
open Go.RowKit

theorem rowsB_same {n : Nat} {e f : Nat → Nat → Bool} (h : ∀ a b, a < n → b < n → e a b = f a b) : rowsB n e = rowsB n f := by
  unfold rowsB
  refine List.map_congr_left fun u hu => rowB_ext fun b hb => h u b (List.mem_range.1 hu) hb
theorem sameB_rows {n : Nat} {e : Nat → Nat → Bool} (h : Adj n e) : sameB (rowsB n e) (rowsB n e) = true := by
  unfold sameB
  rw [okB_adj h]
  simp
theorem two_rows {n : Nat} {e : Nat → Nat → Bool} (h : Adj n e) {u v : Nat} (hu : u < n) (hv : v < n) : Two (rowsB n e) (u : Int) (v : Int) (rowsB n e).length e u v := by
  rw [rowsB_length]
  exact ⟨h, rfl, rowsB_length n e, rfl, rfl, hu, hv⟩
theorem vertexB_rows {n : Nat} {e : Nat → Nat → Bool} (h : Adj n e) {u : Nat} (hu : u < n) : vertexB (rowsB n e) (u : Int) = true := by
  unfold vertexB
  rw [okB_adj h, rowsB_length, Bool.true_and, inN_iff]
  omega
theorem edgeB_rows {n : Nat} {e : Nat → Nat → Bool} (h : Adj n e) {u v : Nat} (hu : u < n) (hv : v < n) : edgeB (rowsB n e) (u : Int) (v : Int) = e u v := edgeB_two (two_rows h hu hv)

/-- What 'AddedEdge' makes. -/
def addR (n : Nat) (e : Nat → Nat → Bool) (u v : Nat) : List (List Int) × Bool := if decide (u ≠ v) && !e u v then (rowsB n (plus e u v), true) else ([], false)
theorem addR_ok {n : Nat} {e : Nat → Nat → Bool} (h : Adj n e) {u v : Nat} (hu : u < n) (hv : v < n) :
    (¬ OkA (rowsB n e) (u : Int) (v : Int) ∧ (addR n e u v).1 = [] ∧ (addR n e u v).2 = false) ∨ ∃ e' a b, Two (rowsB n e) (u : Int) (v : Int) (rowsB n e).length e' a b ∧ OkA (rowsB n e) (u : Int) (v : Int) ∧ (addR n e u v).1 = rowsB (rowsB n e).length (plus e' a b) ∧ (addR n e u v).2 = true := by
  have hE := edgeB_rows h hu hv
  unfold addR
  by_cases hc : (decide (u ≠ v) && !e u v) = true
  · rw [if_pos hc]
    simp at hc
    refine .inr ⟨e, u, v, two_rows h hu hv, ⟨vertexB_rows h hu, vertexB_rows h hv, by omega, by rw [hE]; exact hc.2⟩, by rw [rowsB_length], rfl⟩
  · rw [if_neg hc]
    refine .inl ⟨fun hk => hc ?_, rfl, rfl⟩
    have h3 := hk.2.2.1
    have h4 := hk.2.2.2
    rw [hE] at h4
    simp [h4]
    omega
/-- What 'CutEdge' makes. -/
def cutR (n : Nat) (e : Nat → Nat → Bool) (u v : Nat) : List (List Int) × Bool := if e u v then (rowsB n (minus e u v), true) else ([], false)
theorem adj_ne {n : Nat} {e : Nat → Nat → Bool} (h : Adj n e) {u v : Nat} (hu : u < n) (he : e u v = true) : u ≠ v := fun huv => by
  subst huv
  rw [h.irr u hu] at he
  cases he
theorem cutR_ok {n : Nat} {e : Nat → Nat → Bool} (h : Adj n e) {u v : Nat} (hu : u < n) (hv : v < n) :
    (¬ OkC (rowsB n e) (u : Int) (v : Int) ∧ (cutR n e u v).1 = [] ∧ (cutR n e u v).2 = false) ∨ ∃ e' a b, Two (rowsB n e) (u : Int) (v : Int) (rowsB n e).length e' a b ∧ a ≠ b ∧ OkC (rowsB n e) (u : Int) (v : Int) ∧ (cutR n e u v).1 = rowsB (rowsB n e).length (minus e' a b) ∧ (cutR n e u v).2 = true := by
  have hE := edgeB_rows h hu hv
  unfold cutR
  by_cases hc : e u v = true
  · rw [if_pos hc]
    exact .inr ⟨e, u, v, two_rows h hu hv, adj_ne h hu hc, ⟨vertexB_rows h hu, vertexB_rows h hv, by rw [hE]; exact hc⟩, by rw [rowsB_length], rfl⟩
  · rw [if_neg hc]
    exact .inl ⟨fun hk => hc (by have := hk.2.2; rwa [hE] at this), rfl, rfl⟩
theorem plus_minus {n : Nat} {e : Nat → Nat → Bool} (h : Adj n e) {u v : Nat} (hu : u < n) (hv : v < n) (huv : u ≠ v) (he : e u v = false) : cutR n (plus e u v) v u = (rowsB n e, true) := by
  unfold cutR
  have h1 : plus e u v v u = true := by unfold plus; simp
  rw [if_pos h1]
  congr 1
  refine rowsB_same fun a b ha hb => ?_
  have he' : e v u = false := by rw [← h.sym u v hu hv]; exact he
  unfold minus plus
  by_cases h1 : a = u ∧ b = v
  · obtain ⟨rfl, rfl⟩ := h1
    simp [he, huv]
  · by_cases h2 : a = v ∧ b = u
    · obtain ⟨rfl, rfl⟩ := h2
      simp [he']
    · have e1 : (decide (a = u) && decide (b = v)) = false := by simpa using h1
      have e2 : (decide (a = v) && decide (b = u)) = false := by simpa using h2
      rw [e1, e2]
      simp
theorem minus_plus {n : Nat} {e : Nat → Nat → Bool} (h : Adj n e) {u v : Nat} (hu : u < n) (hv : v < n) (he : e u v = true) : addR n (minus e u v) v u = (rowsB n e, true) := by
  have huv := adj_ne h hu he
  have he' : e v u = true := by rw [← h.sym u v hu hv]; exact he
  unfold addR
  have h1 : (decide (v ≠ u) && !minus e u v v u) = true := by unfold minus; simp; omega
  rw [if_pos h1]
  congr 1
  refine rowsB_same fun a b ha hb => ?_
  unfold plus minus
  by_cases h1 : a = u ∧ b = v
  · obtain ⟨rfl, rfl⟩ := h1
    simp [he]
  · by_cases h2 : a = v ∧ b = u
    · obtain ⟨rfl, rfl⟩ := h2
      simp [he']
    · have e1 : (decide (a = u) && decide (b = v)) = false := by simpa using h1
      have e2 : (decide (a = v) && decide (b = u)) = false := by simpa using h2
      rw [e1, e2]
      simp

/-- The complement. -/
def compB (e : Nat → Nat → Bool) : Nat → Nat → Bool := fun a b => decide (a ≠ b) && !e a b
theorem adj_comp {n : Nat} {e : Nat → Nat → Bool} (h : Adj n e) : Adj n (compB e) :=
  ⟨h.pos, h.le, fun u _ => by simp [compB], fun u v hu hv => by unfold compB; rw [h.sym u v hu hv]; congr 1; simp [eq_comm]⟩
theorem comp_comp {n : Nat} {e : Nat → Nat → Bool} (h : Adj n e) : rowsB n (compB (compB e)) = rowsB n e := by
  refine rowsB_same fun a b ha _ => ?_
  unfold compB
  by_cases hab : a = b
  · subst hab; simp [h.irr a ha]
  · simp [hab]

/-- A vertex is hung on and cut again. -/
theorem hung_old {n : Nat} {e : Nat → Nat → Bool} {a b : Nat} (ha : a < n) (hb : b < n) : ∀ xs : List Int, hung n e xs a b = e a b := by
  have key : ∀ (xs : List Int) (f : Nat → Nat → Bool), xs.foldl (fun f x => plus f x.toNat n) f a b = f a b := by
    intro xs
    induction xs with
    | nil => intro f; rfl
    | cons x xs ih =>
      intro f
      rw [List.foldl_cons, ih]
      unfold plus
      have h1 : ¬ b = n := by omega
      have h2 : ¬ a = n := by omega
      simp [h1, h2]
  intro xs
  unfold hung
  rw [key]
  unfold grown
  simp [ha, hb]
theorem adj_grown {n : Nat} {e : Nat → Nat → Bool} (h : Adj n e) (hn : n + 1 ≤ 16) : Adj (n + 1) (grown n e) := by
  refine ⟨by omega, hn, fun u hu => ?_, fun u v hu hv => ?_⟩
  · unfold grown
    by_cases h1 : u < n
    · simp [h.irr u h1]
    · simp [h1]
  · unfold grown
    by_cases h1 : u < n
    · by_cases h2 : v < n
      · rw [h.sym u v h1 h2]; simp [h1, h2]
      · simp [h2]
    · simp [h1]
theorem adj_hung {n : Nat} {e : Nat → Nat → Bool} (h : Adj n e) (hn : n + 1 ≤ 16) {xs : List Int} (hx : ∀ x ∈ xs, x < (n : Int)) (hx0 : ∀ x ∈ xs, 0 ≤ x) : Adj (n + 1) (hung n e xs) := by
  have key : ∀ (l : List Int) (f : Nat → Nat → Bool), (∀ x ∈ l, 0 ≤ x ∧ x < (n : Int)) → Adj (n + 1) f → Adj (n + 1) (l.foldl (fun f x => plus f x.toNat n) f) := by
    intro l
    induction l with
    | nil => exact fun f _ hf => hf
    | cons x l ih =>
      intro f hl hf
      have hx := hl x (by simp)
      exact ih _ (fun y hy => hl y (by simp [hy])) (adj_plus hf (by omega))
  exact key xs _ (fun x hx' => ⟨hx0 x hx', hx x hx'⟩) (adj_grown h hn)
theorem cutL_last (n : Nat) : cutL (n + 1) n = (List.range n).map fun (i : Nat) => (i : Int) := by
  unfold cutL rowB
  rw [List.range_succ, List.filter_append]
  have h1 : (List.range n).filter (fun b => !decide (b = n)) = List.range n := by
    rw [List.filter_eq_self]
    intro a ha
    have := List.mem_range.1 ha
    simp; omega
  rw [h1]
  simp
theorem cut_hung {n : Nat} {e : Nat → Nat → Bool} {xs : List Int} (hA : Adj (n + 1) (hung n e xs)) : rowsB (cutL (n + 1) n).length (ofList (hung n e xs) (cutL (n + 1) n)) = rowsB n e := by
  have hl : (cutL (n + 1) n).length = n := by rw [cutL_last]; simp
  have hin := cutL_in (n + 1) n
  have h := NB_ofList hA hin
  have hle := hA.le
  rw [← rowsOf_NB (by omega), ← h, rowsOf_NB (by omega), hl]
  refine rowsB_same fun a b ha hb => ?_
  have hat : ∀ c, c < n → atL (cutL (n + 1) n) c = c := fun c hc => atL_eq (by rw [cutL_last, List.getElem?_map, List.getElem?_range hc]; rfl)
  rw [hat a ha, hat b hb]
  exact hung_old ha hb xs

/-- Edges, counted. -/
theorem edges_sum (n : Nat) (e : Nat → Nat → Bool) : (edgesL n e).length = ((List.range n).map fun u => ((List.range n).filter fun x => decide (u < x) && e u x).length).sum := by
  unfold edgesL
  rw [List.length_flatMap]
  congr 1
  refine List.map_congr_left fun u _ => ?_
  unfold edgesRow
  rw [List.take_length, List.length_map]
  unfold rowB
  rw [List.filter_map, List.length_map, List.filter_filter]
  congr 1
  refine List.filter_congr fun x _ => ?_
  simp
theorem edges_both {n : Nat} (e : Nat → Nat → Bool) (hn : n ≤ 8) : (edgesL n (compB e)).length + (edgesL n e).length = n * (n - 1) / 2 := by
  rw [edges_sum, edges_sum]
  have h1 : ∀ u, ((List.range n).filter fun x => decide (u < x) && compB e u x).length + ((List.range n).filter fun x => decide (u < x) && e u x).length = ((List.range n).filter fun x => decide (u < x)).length := by
    intro u
    induction List.range n with
    | nil => rfl
    | cons x l ih =>
      simp only [List.filter_cons]
      by_cases hx : u < x
      · have hne : ¬ u = x := by omega
        have hcx : compB e u x = !e u x := by simp [compB, hne]
        cases hu : e u x <;> simp [hx, hcx, hu] <;> omega
      · simp [hx]
        exact ih
  have h2 : ∀ l : List Nat, (l.map fun u => ((List.range n).filter fun x => decide (u < x) && compB e u x).length).sum + (l.map fun u => ((List.range n).filter fun x => decide (u < x) && e u x).length).sum = (l.map fun u => ((List.range n).filter fun x => decide (u < x)).length).sum := by
    intro l
    induction l with
    | nil => rfl
    | cons u l ih =>
      simp only [List.map_cons, List.sum_cons]
      have := h1 u
      omega
  rw [h2]
  have : ∀ n, n ≤ 8 → ((List.range n).map fun u => ((List.range n).filter fun x => decide (u < x)).length).sum = n * (n - 1) / 2 := by decide
  exact this n hn

set_option maxHeartbeats 2000000 in
theorem implManyEdges (g : Value) (n : Nat) (e : Nat → Nat → Bool) (hA : Adj n e) (w : World) (hg : RdSS g (rowsB n e) w) :
    Calls Tryd.prog 62 #[.agg #[g]] w fun r w' => r = .returned (.int .i64 ((edgesL n e).length : Nat)) ∧ Below w.heap.size w w' := by
  obtain ⟨a, c, rfl⟩ := hg.shape
  rw [rowsB_length] at hg ⊢
  have hn16 := hA.le
  have hED : ∀ W, Below w.heap.size w W → Calls Tryd.prog 139 #[.agg #[.slice a n c]] W (SSRes W (edgesL n e)) := by
    intro W0 hb0
    obtain ⟨B, hB⟩ : ∃ B, W0.heap.size = B := ⟨_, rfl⟩
    have hg0 := hg.below hb0 rfl
    obtain ⟨W, hW⟩ : ∃ W, W = W0.alloc (.cells #[.slice a n c] 56) := ⟨_, rfl⟩
    have u1 : Below B W0 W := by rw [hW, ← hB]; exact below_alloc' _ _
    have VG : VC 56 B #[.slice a n c] W := by rw [hW]; exact VC.new hB
    have hz0 : W.heap.size = B + 1 := by rw [hW]; simp [hB]
    have hcg := VG.cell
    have HOK := Lib.hid (okB_adj hA)
    clear hb0
    go_enter Tryd.func139, Tryd.ntmps139
    go_wp2_with fail
    try rw [← hW]
    clear hW
    refine (implOk _ _ W (hg0.below u1 hB)).mono ?_
    rintro e1 w1 ⟨rfl, hb1⟩
    rw [HOK.out]
    have hb := u1.trans (hb1.mono (by omega))
    have VG1 := VG.belowAt hb1 (by omega)
    have hz1 : B + 1 ≤ w1.heap.size := by have := hb1.size; omega
    clear hb1 hcg u1
    have hcg := VG1.cell
    have HNE := Lib.hid (edgesOfI_any (.slice a n c) n e hn16 w1 (hg0.below hb hB))
    go_wp2_with fail
    refine HNE.out.mono ?_
    rintro e1 w2 ⟨u, us, rfl, hO, hb2⟩
    have HO := Lib.hid hO
    have HBB := Lib.hid (hb.trans (hb2.mono (by omega)))
    obtain ⟨ua, uc, rfl⟩ := owns_shape hO.outer
    clear hcg hO hb2 HNE
    go_wp2_with fail
    go_ret
    exact ⟨_, us, rfl, by rw [hB]; exact HO.out.rebase (by omega), by rw [hB]; exact HBB.out⟩
  obtain ⟨B, hB⟩ : ∃ B, w.heap.size = B := ⟨_, rfl⟩
  obtain ⟨W, hW⟩ : ∃ W, W = w.alloc (.cells #[.slice a n c] 56) := ⟨_, rfl⟩
  have u1 : Below B w W := by rw [hW, ← hB]; exact below_alloc' _ _
  have VG : VC 56 B #[.slice a n c] W := by rw [hW]; exact VC.new hB
  have hz0 : W.heap.size = B + 1 := by rw [hW]; simp [hB]
  have hcg := VG.cell
  have HED := Lib.hid (hED W (hB.symm ▸ u1))
  clear hED
  go_enter Tryd.func62, Tryd.ntmps62
  go_wp2_with fail
  try rw [← hW]
  clear hW
  refine HED.out.mono ?_
  rintro e1 w2 ⟨u, us, rfl, hO, hb2⟩
  obtain ⟨ua, uc, rfl⟩ := owns_shape hO.outer
  have hlen : us.length = (edgesL n e).length := by rw [hO.len, List.length_map]
  have HL := Lib.hid hlen
  have HBB := Lib.hid (u1.trans (hb2.mono (by omega)))
  clear hcg hO hb2 HED hlen
  go_wp2_with fail
  go_ret
  exact ⟨ret_int (by rw [HL.out]), by rw [hB]; exact HBB.out⟩
end Go.Proofs.YtbhobmngnjfgfaaDoor
