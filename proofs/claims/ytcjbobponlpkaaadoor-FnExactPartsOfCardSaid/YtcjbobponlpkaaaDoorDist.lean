/-
  'l3From' of the reference: which vertices have a distance.
-/
import Derived.Test.YtcjbobponlpkaaaDoorBfs2
namespace Go.Proofs.YtcjbobponlpkaaaDoor
open Go.RowKit

/-- The marks of distances: those that have one have been met. -/
structure Dist (n : Nat) (e : Nat → Nat → Bool) (p : Nat → Bool) (s i : Nat) (ds : List Int) (M : List Nat) : Prop where
  len : ds.length = n
  start : s ∈ M
  ways : ∀ a ∈ M, a < n ∧ Way n e p s a
  mark : ∀ u, u < n → (0 ≤ ds.getD u (-1) ↔ u ∈ M)
  closed : ∀ j a, j < i → M[j]? = some a → ∀ b, b < n → e a b = true → p b = true → b ∈ M
  small : ∀ u, u < n → ds.getD u (-1) ≤ M.length
  cnt : M.length = (rowB n fun u => decide (u ∈ M)).length
structure Near (n : Nat) (e : Nat → Nat → Bool) (p : Nat → Bool) (a k : Nat) (M : List Nat) : Prop where
  near : ∀ b : Nat, (b : Int) ∈ (rowB n (e a)).take k → p b = true → b ∈ M
section
variable {n : Nat} {e : Nat → Nat → Bool} {p : Nat → Bool} {s i a k q : Nat} {ds : List Int} {M : List Nat}
theorem getD_set_int {ds : List Int} {q u : Nat} {d : Int} (hq : q < ds.length) : (ds.set q d).getD u (-1) = if u = q then d else ds.getD u (-1) := by
  simp only [List.getD, List.getElem?_set]
  by_cases h : q = u
  · subst h; simp [hq]
  · have : ¬ u = q := fun h' => h h'.symm
    simp [h, this]
theorem Dist.le (h : Dist n e p s i ds M) : M.length ≤ n := by rw [h.cnt]; exact rowB_length _ _
theorem Dist.first (hs : s < n) : Dist n e p s 0 ((List.replicate n (-1)).set s 0) [s] := by
  have hg : ∀ u, ((List.replicate n (-1 : Int)).set s 0).getD u (-1) = if u = s then 0 else -1 := fun u => by
    rw [getD_set_int (by simpa using hs)]
    congr 1
    simp only [List.getD, List.getElem?_replicate]
    split <;> rfl
  refine ⟨by simp, by simp, fun a ha => ?_, fun u hu => ?_, fun j a hj => by omega, fun u hu => ?_, ?_⟩
  · simp at ha; subst ha; exact ⟨hs, .here⟩
  · rw [hg]
    by_cases h : u = s <;> simp [h]
  · rw [hg]
    by_cases h : u = s <;> simp [h]
  · have h1 : (rowB n fun u => decide (u ∈ [s])) = rowB n fun x => (fun _ => false) x || decide (x = s) := rowB_ext fun x _ => by simp
    rw [h1, rowB_put_length rfl hs]
    have h2 : rowB n (fun _ => false) = [] := by simp [rowB]
    rw [h2]
    rfl
theorem Dist.put {d : Int} (h : Dist n e p s i ds M) (ha : a ∈ M) (hq : q < n) (he : e a q = true) (hp : p q = true) (hn : q ∉ M) (hi : i ≤ M.length) (h0 : 0 ≤ d) (h1 : d ≤ M.length + 1) : Dist n e p s i (ds.set q d) (M ++ [q]) := by
  have hql : q < ds.length := by rw [h.len]; exact hq
  refine ⟨by simp [h.len], by simp [h.start], fun x hx => ?_, fun u hu => ?_, fun j x hj hx b hb hxb hpb => ?_, fun u hu => ?_, ?_⟩
  · rcases List.mem_append.1 hx with hx | hx
    · exact h.ways x hx
    · simp at hx; subst hx
      exact ⟨hq, .step (h.ways a ha).2 hq he hp⟩
  · rw [getD_set_int hql]
    by_cases huq : u = q
    · subst huq; simp [h0]
    · rw [if_neg huq, h.mark u hu]; simp [huq]
  · rw [List.mem_append]
    rw [List.getElem?_append_left (by omega)] at hx
    exact .inl (h.closed j x hj hx b hb hxb hpb)
  · rw [getD_set_int hql, List.length_append]
    by_cases huq : u = q
    · rw [if_pos huq]; simpa using h1
    · rw [if_neg huq]
      have := h.small u hu
      simp only [List.length_cons, List.length_nil]
      omega
  · have e1 : (rowB n fun u => decide (u ∈ M ++ [q])) = rowB n fun x => (fun u => decide (u ∈ M)) x || decide (x = q) := rowB_ext fun x _ => by simp [Bool.decide_or]
    rw [e1, rowB_put_length (by simpa using hn) hq, List.length_append, ← h.cnt]
    rfl
theorem Dist.next (h : Dist n e p s i ds M) (hi : M[i]? = some a) (hN : Near n e p a (rowB n (e a)).length M) : Dist n e p s (i + 1) ds M := by
  refine ⟨h.len, h.start, h.ways, h.mark, fun j x hj hx b hb he hp => ?_, h.small, h.cnt⟩
  by_cases hji : j = i
  · subst hji
    rw [hi] at hx
    obtain rfl := Option.some.inj hx
    exact hN.near b (by rw [List.take_length]; exact nat_mem_rowB.2 ⟨hb, he⟩) hp
  · exact h.closed j x (by omega) hx b hb he hp
theorem Near.skip (h : Near n e p a k M) (hq : (rowB n (e a))[k]? = some (q : Int)) (hn : p q = true → q ∈ M) : Near n e p a (k + 1) M := by
  refine ⟨fun b hb hp => ?_⟩
  rw [take_snoc hq, List.mem_append] at hb
  rcases hb with hb | hb
  · exact h.near b hb hp
  · simp at hb
    obtain rfl : b = q := by omega
    exact hn hp
theorem Near.put (h : Near n e p a k M) (hq : (rowB n (e a))[k]? = some (q : Int)) : Near n e p a (k + 1) (M ++ [q]) := by
  refine ⟨fun b hb hp => ?_⟩
  rw [take_snoc hq, List.mem_append] at hb
  rcases hb with hb | hb
  · simp [h.near b hb hp]
  · simp at hb
    obtain rfl : b = q := by omega
    simp
theorem Dist.done (h : Dist n e p s M.length ds M) (u : Nat) (hu : u < n) : decide (0 ≤ ds.getD u (-1)) = wayB n e p s u := by
  have e1 : (fun u => decide (u ∈ M)) = wayB n e p s := by
    refine way_pt (by simpa using h.start) (fun b hb => h.ways b (by simpa using hb)) fun a b ha hb he hp => ?_
    obtain ⟨j, hj⟩ := List.mem_iff_getElem?.1 (show a ∈ M by simpa using ha)
    have := h.closed j a (List.getElem?_eq_some_iff.1 hj).1 hj b hb he hp
    simpa using this
  rw [← e1, Bool.eq_iff_iff, decide_eq_true_eq, decide_eq_true_eq]
  exact h.mark u hu
end

set_option maxHeartbeats 4000000 in
theorem l3From_any (g : Value) (n : Nat) (e : Nat → Nat → Bool) (hn : n ≤ 16) (v2 : Value) (p : Nat → Bool) (s : Nat) (hs : s < n) (hps : p s = true) (S : Int) (hS : S = s) (w : World) (hr : RdSS g (rowsB n e) w) (hp : RdS v2 (rowB n p) w) :
    Calls Tryd.prog 133 #[.agg #[g], .int .i64 S, v2] w fun r w' => ∃ (u : Value) (ds : List Int), r = .returned u ∧ ds.length = n ∧ (∀ b, b < n → decide (0 ≤ ds.getD b (-1)) = wayB n e p s b) ∧ w'.ownsRow w.heap.size 2 1 u ds.length (ints ds) ∧ Below w.heap.size w w' := by
  obtain ⟨a, c, rfl⟩ := hr.shape
  obtain ⟨a2, c2, rfl, -, -, -⟩ := id hp
  rw [rowsB_length] at hr ⊢
  obtain ⟨vsr, hG⟩ := hr.ex
  have hpl := rowB_length n p
  subst hS
  obtain ⟨B, hB⟩ : ∃ B, w.heap.size = B := ⟨_, rfl⟩
  obtain ⟨W0, hW0⟩ : ∃ W0, W0 = w.alloc (.cells #[.slice a n c] 28) := ⟨_, rfl⟩
  obtain ⟨W1, hW1⟩ : ∃ W1, W1 = W0.alloc (.cells #[] 2) := ⟨_, rfl⟩
  have hz0 : W0.heap.size = B + 1 := by simp [hW0, hB]
  have hz1 : W1.heap.size = B + 2 := by simp [hW1, hz0]
  have u0 : Below B w W0 := by rw [hW0, ← hB]; exact below_alloc' _ _
  have VG0 : VC 28 B #[.slice a n c] W0 := by rw [hW0]; exact VC.new hB
  have u1 : Below (B + 1) W0 W1 := by rw [hW1, ← hz0]; exact below_alloc' _ _
  have ho1 : W1.ownsRow (B + 1) 2 1 (.slice (some ⟨B + 1, 0, none⟩) 0 0) 0 [] := by
    rw [hW1, ← hz0]
    exact World.ownsRow_lit W0 #[] 0 (Nat.le_refl _) (by simp [maxLen]) rfl
  have HPS := Lib.hid hps
  clear hps
  go_enter Tryd.func133, Tryd.ntmps133
  go_wp2_with fail
  rw [← hW0, ← hW1]
  clear hW0 hW1
  have hbW : Below (B + 1) W1 W1 := Below.refl _ _
  go_loopw [7, 8] (fun u i wr => ∃ k : Nat, k ≤ n ∧ i = .int .i64 k ∧ wr.ownsRow (B + 1) 2 1 u k (ints (List.replicate k (-1))) ∧ Below (B + 1) W1 wr) (fun _ i _ => n - (intOf i).toNat)
  case atStart => exact ⟨0, Nat.zero_le _, rfl, by simpa [ints] using ho1, hbW⟩
  case round =>
    clear ho1 hbW
    obtain ⟨k, hk, rfl, ho, hb⟩ := hrel
    have hsz := hb.size
    have VGr := VG0.belowAt (u1.trans hb) (by omega)
    have hcg := VGr.cell
    go_wp2_with fail
    refine (size_any a n c wr).mono ?_
    rintro e1 w1 ⟨rfl, hb1⟩
    have ho1 := owns_below ho hb1
    replace hb := hb.trans (hb1.mono (by omega))
    have hz2 := hb1.size
    clear ho hb1 hcg VGr
    by_cases hlt : k < n
    · have hrp : List.replicate (k + 1) (-1 : Int) = List.replicate k (-1) ++ [-1] := List.replicate_succ'
      have HRP := Lib.hid hrp
      clear hrp
      go_wp2_with (at_builtin; refine wpList_push _ rfl _ _ 25 rfl (B + 1) 2 _ _ 8 Tryd.underlying25 infoI rfl _ _ _ rfl ho1 _ rfl rfl (by unfold maxLen; omega) (by omega) (by omega) ?_; intro g' c' w2 ho2 hg)
      go_roundw
      case rel => exact ⟨k + 1, by omega, by go_num, by rw [HRP.out]; simpa [ints] using ho2, hb.grown hg (by omega) fun b hb' => (owns_lt ho1 hb').1⟩
      case measure => simp [intOf]; omega
    · obtain rfl : k = n := by omega
      have hbw := u0.trans ((u1.trans hb).mono (by omega))
      have HH := Lib.hid (has_any (.slice a2 (rowB k p).length c2) (rowB k p) s w1 (RdS.below hp hbw hB))
      rw [contains_rowB, decide_eq_true hs, HPS.out, Bool.true_and] at HH
      obtain ⟨og, oc, rfl⟩ := owns_head ho1 (by omega)
      obtain ⟨hog, hog2⟩ := owns_lt ho1 (b := og) rfl
      have hf := ho1.frozenAt s
      have hx : w1.cell? ⟨og, s, none⟩ = some (.int .i64 (-1)) := by
        rw [ho1.cellAt s (by omega)]
        simp [ints, hs]
      have hst := ho1.stored s (.int .i64 0)
      obtain ⟨w2, hw2⟩ : ∃ w2, w2 = w1.setCell ⟨og, s, none⟩ (.int .i64 0) := ⟨_, rfl⟩
      obtain ⟨w3, hw3⟩ : ∃ w3, w3 = w2.alloc (.cells #[.int .i64 s] 2) := ⟨_, rfl⟩
      rw [← hw2] at hst
      have hb2 : Below (B + 1) W1 w2 := by rw [hw2]; exact hb.setCell (by simpa using hog) _
      have hz3 : w2.heap.size = w1.heap.size := by rw [hw2]; simp [World.setCell]
      have hb3 : Below (B + 1) W1 w3 := by rw [hw3]; exact hb2.alloc (by omega) _
      have ho3 : w3.ownsRow (B + 1) 2 1 (.slice (some ⟨og, 0, none⟩) k oc) k (ints ((List.replicate k (-1)).set s 0)) := by
        rw [hw3]
        have := hst.1.alloc (.cells #[.int .i64 s] 2)
        simpa [ints, List.map_set] using this
      have hm3' : w3.ownsRow w2.heap.size 2 1 (.slice (some ⟨w2.heap.size, 0, none⟩) 1 1) 1 (natInts [s]) := by
        rw [hw3]
        exact World.ownsRow_lit w2 #[.int .i64 s] 1 (Nat.le_refl _) (by simp [maxLen]) rfl
      have hm3 : Qu w3 (B + 1) 2 (.slice (some ⟨w2.heap.size, 0, none⟩) 1 1) (natInts [s]) := Qu.of_owns (cs := natInts [s]) (owns_base hm3' (by omega))
      have HD := Lib.hid (Dist.first (n := k) (e := e) (p := p) hs)
      have hm0 : w2.heap.size ≠ og := by omega
      clear hst hm3'
      go_wp2_with fail
      refine HH.out.mono ?_
      rintro e1 w' ⟨rfl, rfl⟩
      go_wp2_with fail
      rw [← hw2, ← hw3]
      clear hw2 hw3 hf hx ho1 HH hb hbw
      rw [hz3] at hm3 hm0
      generalize w1.heap.size = mg at *
      clear hz2 hsz hz3
      go_loopw [9, 10] (fun td i wr => ∃ (i' : Nat) (ds : List Int) (M : List Nat), i = .int .i64 i' ∧ i' ≤ M.length ∧ Hid (Dist k e p s i' ds M) ∧ td.ownBlock ≠ some og ∧ wr.ownsRow (B + 1) 2 1 (.slice (some ⟨og, 0, none⟩) k oc) k (ints ds) ∧ Qu wr (B + 1) 2 td (natInts M) ∧ Below (B + 1) W1 wr) (fun _ i _ => k - (intOf i).toNat)
      case atStart => exact ⟨0, _, [s], rfl, Nat.zero_le _, HD, by simpa [Value.ownBlock] using hm0, ho3, hm3, hb3⟩
      case round =>
        clear HD hm0 ho3 hm3 hb3 hb2
        obtain ⟨i, ds, M, rfl, hiM, HD, hne, ho, hq, hb⟩ := hrel
        have hMl := HD.out.le
        have hsz := hb.size
        have hbw := u0.trans ((u1.trans hb).mono (by omega))
        obtain ⟨mg', mo, mc, rfl⟩ := hq.shape
        rw [natInts_length] at hne hq ⊢
        by_cases hlt : i < M.length
        · obtain ⟨x, HX⟩ : ∃ x, Hid (M[i]? = some x) := ⟨M[i], Lib.hid (by simp [hlt])⟩
          have hxn : x < k := (HD.out.ways x (List.mem_of_getElem? HX.out)).1
          have hcm : wr.cell? ⟨mg', mo + i, none⟩ = some (.int .i64 (x : Int)) := by
            have h0 := hq.row
            rw [natInts_length] at h0
            have h2 := h0.intAt (xs := M.map fun (j : Nat) => (j : Int)) (k := .i64) (j := i) (by simpa using hlt)
            obtain ⟨b, o, y, h3, h4, h5⟩ := h2
            obtain ⟨rfl, rfl⟩ : mg' = b ∧ mo = o := by simpa using h3
            have h6 := h5.out
            rw [List.getElem?_map, HX.out] at h6
            rw [h4]
            congr 2
            simpa using h6.symm
          have hGx := hG.below (hB.symm ▸ hbw)
          obtain ⟨rb, ro, r, xs, rfl, hc, hxr, HV, HXX⟩ := hGx.intsAt (k := x) (by simpa using hxn)
          obtain rfl : rowB k (e x) = xs := by have h := HXX.out; rw [rowsB_at e hxn] at h; exact Option.some.inj h
          obtain ⟨na, nc, rfl, -, -, -⟩ := id hxr
          have hrl := rowB_length k (e x)
          have VGr := VG0.belowAt (u1.trans hb) (by omega)
          have hcg := VGr.cell
          have ho' : wr.drew.ownsRow (B + 1) 2 1 (.slice (some ⟨og, 0, none⟩) k oc) k (ints ds) := owns_below ho (below_drewN' wr 1)
          have hq' : Qu wr.drew (B + 1) 2 (.slice (some ⟨mg', mo, none⟩) M.length mc) (natInts M) := hq.below (below_drewN' wr 1)
          have hb' : Below (B + 1) W1 wr.drew := hb.trans ((below_drewN' wr 1).mono (by omega))
          have hNE : Hid (Near k e p x 0 M) := Lib.hid ⟨fun b hb => by simp at hb⟩
          clear hGx HXX ho hq hb hbw VGr
          go_wp2_with fail
          refine wp_region_ord [0, 2, 3, 4] [1, 5, 6, 7, 8] [] [] (by kernel_rfl) (by kernel_rfl) (fun _ _ d _ _ h => by cases d <;> exact h) ?_
          simp only [pickOps, List.filterMap_cons, List.filterMap_nil, List.getElem?_cons_succ, List.getElem?_cons_zero]
          repeat quiet_step (fail)
          simp only [wpQuiet_nil_eq, wpSegs_nil_eq]
          go_wp2_with fail
          clear hcg hc hcm hxr
          generalize wr.drew = wq at *
          have hcl : Below wq.heap.size wq wq := Below.refl _ _
          obtain ⟨C, hC⟩ : ∃ C, wr.heap.size = C := ⟨_, rfl⟩
          clear hcl hC
          go_loopw [9, 12] (fun td t wr => ∃ (t' : Nat) (ds : List Int) (M : List Nat), t = .int .i64 t' ∧ t' ≤ (rowB k (e x)).length ∧ i < M.length ∧ Hid (M[i]? = some x) ∧ Hid (Dist k e p s i ds M) ∧ Hid (Near k e p x t' M) ∧ td.ownBlock ≠ some og ∧ wr.ownsRow (B + 1) 2 1 (.slice (some ⟨og, 0, none⟩) k oc) k (ints ds) ∧ Qu wr (B + 1) 2 td (natInts M) ∧ Below (B + 1) W1 wr) (fun _ t _ => (rowB k (e x)).length - (intOf t).toNat)
          case atStart => exact ⟨0, ds, M, rfl, Nat.zero_le _, hlt, HX, HD, hNE, hne, ho', hq', hb'⟩
          case round =>
            clear ho' hq' hb' hNE hne HD HX hlt hMl hsz
            obtain ⟨t, ds, M, rfl, htl, hlt, HX, HD, HN, hne, ho, hq, hb⟩ := hrel
            have hMl := HD.out.le
            have hsz := hb.size
            have hbw := u0.trans ((u1.trans hb).mono (by omega))
            have hxr2 : Row wr 1 (.slice na (rowB k (e x)).length nc) (rowB k (e x)).length (ints (rowB k (e x))) := by
              have := (hG.below (hB.symm ▸ hbw)).rows x _ (ints (rowB k (e x))) HV.out (by rw [List.getElem?_map, rowsB_at e hxn]; rfl)
              simpa using this
            obtain ⟨mg', mo, mc, rfl⟩ := hq.shape
            rw [natInts_length] at hne hq ⊢
            have hdl : ds.length = k := HD.out.len
            have HDL := Lib.hid hdl
            by_cases htlt : t < (rowB k (e x)).length
            · obtain ⟨yb, yo, y, rfl, hcy, HY⟩ := hxr2.intAt htlt
              obtain ⟨q, hqn, heq, rfl⟩ := row_at HY.out
              have hcell : ∀ u, u < k → wr.cell? ⟨og, u, none⟩ = some (.int .i64 (ds.getD u (-1))) := fun u hu => by
                rw [ho.cellAt u (by omega)]
                have : u < ds.length := by omega
                simp [ints, List.getD, this]
              obtain ⟨dq, HDQ⟩ : ∃ d : Int, Hid (ds.getD q (-1) = d) := ⟨_, Lib.hid rfl⟩
              have hcq := hcell q hqn
              have hmark := HD.out.mark q hqn
              rw [HDQ.out] at hcq hmark
              clear hdl
              by_cases h0 : 0 ≤ dq
              · have hd : ¬ dq < 0 := by omega
                have HS := Lib.hid (HN.out.skip HY.out (fun _ => hmark.1 h0))
                clear hcell h0 hmark
                go_wp2_with fail
                go_roundw
                case rel => exact ⟨t + 1, ds, M, by go_num, by omega, hlt, HX, HD, HS, hne, ho, hq, hb⟩
                case measure => simp [intOf]; omega
              · have hd : dq < 0 := by omega
                have hqM : q ∉ M := fun h => h0 (hmark.2 h)
                have HH := Lib.hid (has_any (.slice a2 (rowB k p).length c2) (rowB k p) q wr (RdS.below hp hbw hB))
                rw [contains_rowB, decide_eq_true hqn, Bool.true_and] at HH
                clear h0 hmark
                cases hpq : p q with
                | false =>
                  have HS := Lib.hid (HN.out.skip HY.out (fun h => by rw [hpq] at h; cases h))
                  rw [hpq] at HH
                  clear hcell hpq hqM
                  go_wp2_with fail
                  refine HH.out.mono ?_
                  rintro e1 w' ⟨rfl, rfl⟩
                  go_wp2_with fail
                  go_roundw
                  case rel => exact ⟨t + 1, ds, M, by go_num, by omega, hlt, HX, HD, HS, hne, ho, hq, hb⟩
                  case measure => simp [intOf]; omega
                | true =>
                  rw [hpq] at HH
                  obtain ⟨d0, HD0⟩ : ∃ d : Int, Hid (ds.getD x (-1) = d) := ⟨_, Lib.hid rfl⟩
                  have hcx := hcell x hxn
                  have hd0 : 0 ≤ d0 := by rw [← HD0.out]; exact (HD.out.mark x hxn).2 (List.mem_of_getElem? HX.out)
                  have hd1 : d0 ≤ M.length := by rw [← HD0.out]; exact HD.out.small x hxn
                  rw [HD0.out] at hcx
                  have HPU := Lib.hid (HD.out.put (d := d0 + 1) (List.mem_of_getElem? HX.out) hqn heq hpq hqM (by omega) (by omega) (by omega))
                  have HNP := Lib.hid (HN.out.put HY.out)
                  have hcm : wr.cell? ⟨mg', mo + i, none⟩ = some (.int .i64 (x : Int)) := by
                    have h0 := hq.row
                    rw [natInts_length] at h0
                    have h2 := h0.intAt (xs := M.map fun (j : Nat) => (j : Int)) (k := .i64) (j := i) (by simpa using hlt)
                    obtain ⟨b, o, y, h3, h4, h5⟩ := h2
                    obtain ⟨rfl, rfl⟩ : mg' = b ∧ mo = o := by simpa using h3
                    have h6 := h5.out
                    rw [List.getElem?_map, HX.out] at h6
                    rw [h4]
                    congr 2
                    simpa using h6.symm
                  have hf := ho.frozenAt q
                  have HMI : Hid ((M ++ [q])[i]? = some x) := Lib.hid (by rw [List.getElem?_append_left hlt]; exact HX.out)
                  obtain ⟨hog3, hog4⟩ := owns_lt ho (b := og) rfl
                  obtain ⟨wv, HWV⟩ : ∃ wv, Hid (wr.drew = wv) := ⟨_, Lib.hid rfl⟩
                  have hov : wv.ownsRow (B + 1) 2 1 (.slice (some ⟨og, 0, none⟩) k oc) k (ints ds) := by rw [← HWV.out]; exact ho.drew
                  have hqv : Qu wv (B + 1) 2 (.slice (some ⟨mg', mo, none⟩) M.length mc) (natInts M) := by rw [← HWV.out]; exact hq
                  have hbv : Below (B + 1) W1 wv := by rw [← HWV.out]; exact hb.drew
                  have hfv : wv.frozen? ⟨og, q, none⟩ = false := hov.frozenAt q
                  have hcv : wv.cell? ⟨og, q, none⟩ = some (.int .i64 dq) := by rw [← HWV.out]; exact hcq
                  have hzv : wv.heap.size = wr.heap.size := by rw [← HWV.out]; rfl
                  have HZV := Lib.hid hzv
                  have hst := hov.stored q (.int .i64 (d0 + 1))
                  obtain ⟨V, HV0⟩ : ∃ V, Hid (V = (wv.setCell ⟨og, q, none⟩ (.int .i64 (d0 + 1)))) := ⟨_, Lib.hid rfl⟩
                  have HST : Hid (V.ownsRow (B + 1) 2 1 (.slice (some ⟨og, 0, none⟩) k oc) k (ints (ds.set q (d0 + 1)))) := Lib.hid (by
                    rw [HV0.out]
                    have := hst.1
                    simp only [ints, ← List.map_set] at this
                    exact this)
                  have HQS : Hid (Qu V (B + 1) 2 (.slice (some ⟨mg', mo, none⟩) M.length mc) (natInts M)) := Lib.hid (by rw [HV0.out]; exact hqv.kept hst.2 hne)
                  have HBS : Hid (Below (B + 1) W1 V) := Lib.hid (by rw [HV0.out]; exact hbv.setCell (by simpa using hog3) _)
                  have HSZ : Hid (V.heap.size = wr.heap.size) := Lib.hid (by rw [HV0.out, ← hzv]; simp [World.setCell])
                  have hcy2 : V.cell? ⟨yb, yo + t, none⟩ = some (.int .i64 q) := by
                    have hbs := u0.trans ((u1.trans HBS.out).mono (by omega))
                    have := (hG.below (hB.symm ▸ hbs)).rows x _ (ints (rowB k (e x))) HV.out (by rw [List.getElem?_map, rowsB_at e hxn]; rfl)
                    rw [ints_length] at this
                    obtain ⟨b, o, z, h3, h4, h5⟩ := this.intAt htlt
                    obtain ⟨rfl, rfl⟩ : yb = b ∧ yo = o := by simpa using h3
                    rw [h4]
                    have := h5.out
                    rw [HY.out] at this
                    rw [Option.some.inj this]
                  have hcy3 : (wv.setCell ⟨og, q, none⟩ (.int .i64 (d0 + 1))).cell? ⟨yb, yo + t, none⟩ = some (.int .i64 q) := by rw [HV0.out] at hcy2; exact hcy2
                  have HV1 : Hid ((wv.setCell ⟨og, q, none⟩ (.int .i64 (d0 + 1))).heap.size = wr.heap.size) := Lib.hid (by rw [← hzv]; simp [World.setCell])
                  have HQV := HQS.out
                  rw [HV0.out] at HQV
                  have HQV2 := Lib.hid HQV
                  clear hst hqM hpq hcell hog3 ho hq hb hxr2 hbw hcy2 HQV hov hqv hbv hzv
                  go_wp2_with fail
                  refine HH.out.mono ?_
                  rintro e1 w' ⟨rfl, rfl⟩
                  go_wp2_with fail
                  refine wp_region_ord [0, 1, 2, 3, 5, 6, 7, 8] [4, 9, 10, 11, 12, 13] [] [14] (by kernel_rfl) (by kernel_rfl) (fun _ _ d _ _ h => by cases d <;> exact h) ?_
                  simp only [pickOps, List.filterMap_cons, List.filterMap_nil, List.getElem?_cons_succ, List.getElem?_cons_zero]
                  repeat quiet_step (fail)
                  simp only [wpQuiet_nil_eq, wpSegs_nil_eq]
                  rw [HWV.out]
                  go_wp2_with (at_builtin; refine wpList_qpush_at _ rfl _ _ 25 rfl (B + 1) 2 _ _ 8 Tryd.underlying25 infoI rfl (.slice (some ⟨mg', mo, none⟩) M.length mc) M.length (natInts M) rfl (natInts_length _) HQV2.out wv.heap.size (by simp [World.setCell]) _ rfl rfl (by unfold maxLen; omega) (by omega) (by rw [HV1.out]; omega) ?_; intro g' o4 c' w4 hq4 hg hwh)
                  rw [← HV0.out] at hg hwh
                  have hne4 : (Value.slice (some ⟨g', o4, none⟩) (M.length + 1) c').ownBlock ≠ some og := fun h => by
                    simp [Value.ownBlock] at h
                    rcases hwh with hwh | hwh
                    · exact hne (by rw [hwh, h])
                    · have := HSZ.out; omega
                  have ho4 : w4.ownsRow (B + 1) 2 1 (.slice (some ⟨og, 0, none⟩) k oc) k (ints (ds.set q (d0 + 1))) := HST.out.kept hg (.inr fun h => hne h.symm)
                  have hb5 : Below (B + 1) W1 w4 := HBS.out.grown hg (by have := HSZ.out; omega) (fun b hb' => (HQS.out.lt hb').1)
                  have hq5 : Qu w4 (B + 1) 2 (.slice (some ⟨g', o4, none⟩) (M.length + 1) c') (natInts (M ++ [q])) := by simpa [natInts, ints] using hq4
                  clear hq4 hg hwh
                  go_wp2_with fail
                  go_roundw
                  case rel => exact ⟨t + 1, ds.set q (d0 + 1), M ++ [q], by go_num, by omega, by simp; omega, HMI, HPU, HNP, hne4, ho4, hq5, hb5⟩
                  case measure => simp [intOf]; omega
            · obtain rfl : t = (rowB k (e x)).length := by omega
              have HNX := Lib.hid (HD.out.next HX.out HN.out)
              go_wp2_with fail
              go_roundw
              case rel => exact ⟨i + 1, ds, M, by go_num, by omega, HNX, hne, ho, hq, hb⟩
              case measure => simp [intOf]; omega
        · obtain rfl : i = M.length := by omega
          have hdl := HD.out.len
          have HDO := Lib.hid HD.out.done
          go_wp2_with fail
          go_ret
          exact ⟨_, ds, rfl, hdl, HDO.out, by rw [hB, hdl]; exact owns_base ho (by omega), by rw [hB]; exact hbw⟩
end Go.Proofs.YtcjbobponlpkaaaDoor
