/-
  'l1Edges', 'EdgesOf', 'l21Between' of the reference.
-/
import Derived.Test.YtehejjmmbjekgaaDoorQuoP
import Derived.Test.YtehejjmmbjekgaaDoorNetsOf
import Derived.Test.YtehejjmmbjekgaaDoorSpecB
namespace Go.Proofs.YtehejjmmbjekgaaDoor
open Go.RowKit

theorem RdSS.rowAt {n : Nat} {e : Nat → Nat → Bool} {w : World} {a : Option Addr} {c : Nat} (h : RdSS (.slice a n c) (rowsB n e) w) {j : Nat} (hj : j < n) :
    ∃ b o ra rc, a = some ⟨b, o, none⟩ ∧ w.cell? ⟨b, o + j, none⟩ = some (.slice ra (rowB n (e j)).length rc) ∧ Row w 1 (.slice ra (rowB n (e j)).length rc) (rowB n (e j)).length (ints (rowB n (e j))) := by
  obtain ⟨vsr, hG⟩ := h.ex
  obtain ⟨rb, ro, r, xs, rfl, hc, hxr, -, HXX⟩ := hG.intsAt (k := j) (by simpa using hj)
  obtain rfl : rowB n (e j) = xs := by have h := HXX.out; rw [rowsB_at e hj] at h; exact Option.some.inj h
  obtain ⟨ra, rc, rfl, -, -, -⟩ := id hxr
  exact ⟨rb, ro, ra, rc, rfl, hc, hxr⟩

set_option maxHeartbeats 4000000 in
theorem edges_any (g : Value) (n : Nat) (e : Nat → Nat → Bool) (hn : n ≤ 16) (w : World) (hr : RdSS g (rowsB n e) w) :
    Calls Tryd.prog 152 #[.agg #[g]] w (SSRes w (edgesL n e)) := by
  obtain ⟨a, c, rfl⟩ := hr.shape
  rw [rowsB_length] at hr ⊢
  obtain ⟨B, hB⟩ : ∃ B, w.heap.size = B := ⟨_, rfl⟩
  obtain ⟨W0, hW0⟩ : ∃ W0, W0 = w.alloc (.cells #[.slice a n c] 24) := ⟨_, rfl⟩
  obtain ⟨W1, hW1⟩ : ∃ W1, W1 = W0.alloc (.cells #[] 38) := ⟨_, rfl⟩
  have hz0 : W0.heap.size = B + 1 := by simp [hW0, hB]
  have hz1 : W1.heap.size = B + 2 := by simp [hW1, hz0]
  have u0 : Below B w W0 := by rw [hW0, ← hB]; exact below_alloc' _ _
  have VG0 : VC 24 B #[.slice a n c] W0 := by rw [hW0]; exact VC.new hB
  have u1 : Below (B + 1) W0 W1 := by rw [hW1, ← hz0]; exact below_alloc' _ _
  have ho1 : W1.ownsRow (B + 1) 38 1 (.slice (some ⟨B + 1, 0, none⟩) 0 0) 0 [] := by
    rw [hW1, ← hz0]
    exact World.ownsRow_lit W0 #[] 0 (Nat.le_refl _) (by simp [maxLen]) rfl
  have hG1 : OwnG W1 (B + 1) 38 2 (.slice (some ⟨B + 1, 0, none⟩) 0 0) [] ((edgesTo n e 0 0).map ints) := by rw [edgesTo_zero]; exact OwnG.nil _ _ (by decide) ho1
  have HR : Hid (∀ W, Below (B + 1) W0 W → RdSS (.slice a n c) (rowsB n e) W) := Lib.hid fun W h => hr.below (u0.trans (h.mono (by omega))) hB
  clear ho1 hr
  go_enter Tryd.func152, Tryd.ntmps152
  go_wp2_with fail
  rw [← hW0, ← hW1]
  clear hW0 hW1
  go_loopw [3, 4] (fun o i wr => ∃ (k : Nat) (vs : List Value), k ≤ n ∧ i = .int .i64 k ∧ OwnG wr (B + 1) 38 2 o vs ((edgesTo n e k 0).map ints) ∧ Below (B + 1) W0 wr) (fun _ i _ => n - (intOf i).toNat)
  case atStart => exact ⟨0, [], Nat.zero_le _, rfl, hG1, u1⟩
  case round =>
    clear hG1 u1 hz1
    obtain ⟨k, vs, hk, rfl, hG, hb⟩ := hrel
    have hcg := (VG0.belowAt hb (by omega)).cell
    have HSZ := Lib.hid (size_any a n c wr)
    by_cases hlt : k < n
    · have HG := Lib.hid hG
      clear hG
      go_wp2_with fail
      refine HSZ.out.mono ?_
      rintro e1 w1 ⟨rfl, hb1⟩
      have hbb := hb.trans (hb1.mono (by have := hb.size; omega))
      have hG := HG.out.below hb1
      clear hb1 HG hb hcg HSZ
      go_wp2_with fail
      go_loopw [3, 5] (fun o i wr => ∃ (j : Nat) (vs : List Value), j ≤ (rowB n (e k)).length ∧ i = .int .i64 j ∧ OwnG wr (B + 1) 38 2 o vs ((edgesTo n e k j).map ints) ∧ Below (B + 1) W0 wr) (fun _ i _ => (rowB n (e k)).length - (intOf i).toNat)
      case atStart => exact ⟨0, _, Nat.zero_le _, rfl, hG, hbb⟩
      case round =>
        clear hG hbb
        obtain ⟨j, vs, hj, rfl, hG, hb⟩ := hrel
        have hsz := hb.size
        have hpl := rowB_length n (e k)
        have hcg := (VG0.belowAt hb (by omega)).cell
        obtain ⟨sb, so, ra, rc, rfl, hc1, hr1⟩ := RdSS.rowAt (HR.out wr hb) hlt
        by_cases hlj : j < (rowB n (e k)).length
        · obtain ⟨yb, yo, y, rfl, hcy, HY⟩ := Row.intAt hr1 hlj
          have hlen : vs.length ≤ 272 := by rw [hG.len, List.length_map]; exact edgesTo_len hn (by omega)
          by_cases hy : (k : Int) < y
          · have HP := Lib.hid (edgesTo_put HY.out hy)
            have hout := hG.outer
            have HG := Lib.hid hG
            clear hG hr1
            obtain ⟨ua, uc, rfl⟩ := owns_shape hout
            go_wp2_with (at_builtin; refine wpList_push_at _ rfl _ _ 22 rfl (B + 1) 38 _ _ 24 Tryd.underlying22 infoR rfl _ _ _ rfl (hout.alloc _) (wr.heap.size + 1) (by simp) _ rfl rfl (by unfold maxLen; omega) (by omega) (by simp; omega) ?_; intro g2 c2 w2 ho2 hg2)
            have hlit := World.ownsRow_lit (base := wr.heap.size) (e := 2) (size := 1) wr #[.int .i64 (k : Int), .int .i64 y] 2 (Nat.le_refl _) (by simp [maxLen]) rfl
            have hGn := HG.out.push (B := wr.heap.size) (cs := ints [(k : Int), y]) (below_alloc' wr _) hlit (Nat.le_refl _) (by omega) ho2 hg2
            have hbn : Below (B + 1) W0 w2 := (hb.alloc (by omega) (.cells #[.int .i64 (k : Int), .int .i64 y] 2)).grown hg2 (by simp; omega) (fun q hq => (owns_lt hout hq).1)
            go_roundw
            case rel => exact ⟨j + 1, _, by omega, by go_num, by rw [HP.out, List.map_append]; exact hGn, hbn⟩
            case measure => simp [intOf]; omega
          · have HP := Lib.hid (edgesTo_skip HY.out hy)
            clear hr1
            go_wp2_with fail
            go_roundw
            case rel => exact ⟨j + 1, _, by omega, by go_num, by rw [HP.out]; exact hG, hb⟩
            case measure => simp [intOf]; omega
        · obtain rfl : j = (rowB n (e k)).length := by omega
          have HP := Lib.hid (edgesTo_next n e k)
          clear hr1
          go_wp2_with fail
          go_roundw
          case rel => exact ⟨k + 1, _, by omega, by go_num, by rw [← HP.out]; exact hG, hb⟩
          case measure => simp [intOf]; omega
    · obtain rfl : k = n := by omega
      rw [edgesTo_all] at hG
      have HG := Lib.hid hG
      clear hG
      go_wp2_with fail
      refine HSZ.out.mono ?_
      rintro e1 w1 ⟨rfl, hb1⟩
      have hG := HG.out.below hb1
      have hbb := u0.trans ((hb.trans (hb1.mono (by have := hb.size; omega))).mono (by omega))
      clear hb1 hcg
      go_wp2_with fail
      go_ret
      exact ⟨_, vs, rfl, by rw [hB]; exact hG.rebase (by omega), by rw [hB]; exact hbb⟩

set_option maxHeartbeats 1000000 in
theorem edgesOf_any (g : Value) (n : Nat) (e : Nat → Nat → Bool) (hA : Adj n e) (w : World) (hr : RdSS g (rowsB n e) w) :
    Calls Tryd.prog 133 #[.agg #[g]] w (SSRes w (edgesL n e)) := by
  obtain ⟨a, c, rfl⟩ := hr.shape
  rw [rowsB_length] at hr ⊢
  obtain ⟨B, hB⟩ : ∃ B, w.heap.size = B := ⟨_, rfl⟩
  have u1 : Below B w (w.alloc (.cells #[.slice a n c] 24)) := by subst hB; exact below_alloc' _ _
  have VG0 : VC 24 B #[.slice a n c] (w.alloc (.cells #[.slice a n c] 24)) := VC.new hB
  have hz0 : (w.alloc (.cells #[.slice a n c] 24)).heap.size = B + 1 := by simp [hB]
  have hcg := VG0.cell
  have HOK := Lib.hid (okB_adj hA)
  go_enter Tryd.func133, Tryd.ntmps133
  go_wp2_with fail
  generalize w.alloc (.cells #[.slice a n c] 24) = W at *
  refine (specOk _ _ W (hr.below u1 hB)).mono ?_
  rintro e1 w1 ⟨rfl, hb1⟩
  rw [HOK.out]
  have hcg1 := (VG0.upd (Upd.of_below hb1) (by omega)).cell
  have hb := u1.trans (hb1.mono (by omega))
  have hz1 : B ≤ w1.heap.size := by have := hb1.size; omega
  have HC := Lib.hid (edges_any _ n e hA.le w1 (hr.below hb hB))
  clear hb1 hcg
  go_wp2_with fail
  refine HC.out.mono ?_
  rintro e1 w2 ⟨u, vs, rfl, hG, hb2⟩
  have hb12 := hb.trans (hb2.mono hz1)
  clear hcg1 hb2
  go_wp2_with fail
  go_ret
  exact ⟨_, vs, rfl, by rw [hB]; exact hG.rebase (by omega), by rw [hB]; exact hb12⟩

theorem has_inL {v : Value} {xs : List Int} {w : World} (hr : RdS v xs w) (x : Nat) {b : Bool} (h : inL xs x = b) :
    Calls Tryd.prog 102 #[v, .int .i64 x] w fun r w' => r = .returned (.bool b) ∧ w = w' := by
  refine (has_any v xs x w hr).mono ?_
  rintro r w' ⟨rfl, rfl⟩
  refine ⟨ret_bool ?_, rfl⟩
  rw [← h]
  unfold inL
  rw [Bool.eq_iff_iff, List.contains_iff_mem, decide_eq_true_eq]

theorem edge_row {w : World} {a : Option Addr} {m c : Nat} {vs : List Value} {n : Nat} {e : Nat → Nat → Bool} {i : Nat} (h : RdG w (.slice a m c) vs ((edgesL n e).map ints)) (hi : i < (edgesL n e).length) :
    ∃ (b o rb ro rc u x : Nat), a = some ⟨b, o, none⟩ ∧ w.cell? ⟨b, o + i, none⟩ = some (.slice (some ⟨rb, ro, none⟩) 2 rc) ∧
      w.cell? ⟨rb, ro, none⟩ = some (.int .i64 u) ∧ w.cell? ⟨rb, ro + 1, none⟩ = some (.int .i64 x) ∧ Hid ((edgesL n e)[i]? = some [(u : Int), (x : Int)]) := by
  obtain ⟨rfl⟩ : m = vs.length := by
    obtain ⟨a', c', e', _⟩ := h.outer
    simp at e'
    omega
  obtain ⟨b, o, r, xs, rfl, hc, hx, -, HX⟩ := h.intsAt hi
  obtain ⟨u, x, hu, hxn, hlt, he, rfl⟩ := mem_edgesL.1 (List.mem_of_getElem? HX.out)
  obtain ⟨ra, rc, rfl, -, -, -⟩ := id hx
  obtain ⟨rb, ro, y, rfl, hc0, h0⟩ := Row.intAt (k := .i64) hx (j := 0) (by simp)
  obtain ⟨rb', ro', y', e', hc1, h1⟩ := Row.intAt (k := .i64) hx (j := 1) (by simp)
  obtain ⟨rfl, rfl⟩ : rb = rb' ∧ ro = ro' := by simpa using e'
  have e0 : y = u := by have := h0.out; simpa [eq_comm] using this
  have e2 : y' = x := by have := h1.out; simpa [eq_comm] using this
  subst e0; subst e2
  exact ⟨b, o, rb, ro, rc, u, x, rfl, hc, hc0, hc1, HX⟩

set_option maxHeartbeats 4000000 in
theorem between_any (g : Value) (n : Nat) (e : Nat → Nat → Bool) (hA : Adj n e) (va vb : Value) (xa xb : List Int) (w : World) (hr : RdSS g (rowsB n e) w) (ha : RdS va xa w) (hb : RdS vb xb w) (q : Bool) (hq : touchB n e (inL xa) (inL xb) = q) :
    Calls Tryd.prog 92 #[.agg #[g], va, vb] w fun r w' => ∃ u, r = .returned (.tuple #[u, .bool q]) ∧ Below w.heap.size w w' := by
  obtain ⟨a, c, rfl⟩ := hr.shape
  obtain ⟨aa, ca, rfl, -, -, -⟩ := id ha
  obtain ⟨ab, cb, rfl, -, -, -⟩ := id hb
  rw [rowsB_length] at hr ⊢
  obtain ⟨B, hB⟩ : ∃ B, w.heap.size = B := ⟨_, rfl⟩
  have u1 : Below B w (w.alloc (.cells #[.slice a n c] 24)) := by subst hB; exact below_alloc' _ _
  have VG0 : VC 24 B #[.slice a n c] (w.alloc (.cells #[.slice a n c] 24)) := VC.new hB
  have hz0 : (w.alloc (.cells #[.slice a n c] 24)).heap.size = B + 1 := by simp [hB]
  have hcg := VG0.cell
  have HQ := Lib.hid (hq ▸ edges_touch hA (inL xa) (inL xb))
  clear hq
  go_enter Tryd.func92, Tryd.ntmps92
  go_wp2_with fail
  generalize w.alloc (.cells #[.slice a n c] 24) = W at *
  refine (edgesOf_any _ n e hA W (hr.below u1 hB)).mono ?_
  rintro e1 w1 ⟨v, vs, rfl, hG, hb1⟩
  have hb01 := u1.trans (hb1.mono (by omega))
  have hra := RdS.below ha hb01 hB
  have hrb := RdS.below hb hb01 hB
  have hG1 := hG.rd
  have hvl : vs.length = (edgesL n e).length := by rw [hG.len, List.length_map]
  have hll : (edgesL n e).length ≤ 272 := by rw [← edgesTo_all]; exact edgesTo_len hA.le hA.le
  obtain ⟨la, lc, rfl⟩ := owns_shape hG.outer
  rw [hvl] at hG1 ⊢
  clear hb1 hcg VG0 ha hb hG u1 hz0 hr
  go_wp2_with fail
  go_loopw [9] (fun i wr => ∃ (k : Nat), k ≤ (edgesL n e).length ∧ i = .int .i64 k ∧ Hid (∀ j, j < k → ∀ u x : Nat, (edgesL n e)[j]? = some [(u : Int), (x : Int)] → endsB (inL xa) (inL xb) u x = false) ∧ wr = w1) (fun i _ => (edgesL n e).length - (intOf i).toNat)
  case atStart => exact ⟨0, Nat.zero_le _, rfl, Lib.hid fun j h => by omega, rfl⟩
  case round =>
    obtain ⟨k, hk, rfl, HK, rfl⟩ := hrel
    by_cases hlt : k < (edgesL n e).length
    · obtain ⟨lb, lo, rb, ro, rc, u, x, e8, hc, hc0, hc1, HE⟩ := edge_row hG1 hlt
      obtain ⟨rfl⟩ : la = some ⟨lb, lo, none⟩ := by simpa using e8
      clear e8
      obtain ⟨b1, h1⟩ : ∃ b, inL xa u = b := ⟨_, rfl⟩
      obtain ⟨b2, h2⟩ : ∃ b, inL xb x = b := ⟨_, rfl⟩
      obtain ⟨b3, h3⟩ : ∃ b, inL xa x = b := ⟨_, rfl⟩
      obtain ⟨b4, h4⟩ : ∃ b, inL xb u = b := ⟨_, rfl⟩
      have HEND : Hid (endsB (inL xa) (inL xb) u x = ((b1 && b2) || (b3 && b4))) := Lib.hid (by unfold endsB; rw [h1, h2, h3, h4])
      have H1 := Lib.hid (has_inL hra u h1)
      have H2 := Lib.hid (has_inL hrb x h2)
      have H3 := Lib.hid (has_inL hra x h3)
      have H4 := Lib.hid (has_inL hrb u h4)
      have HYES : ∀ (h : endsB (inL xa) (inL xb) u x = true), Hid (q = true) := fun h => Lib.hid (HQ.out.2 ⟨u, x, List.mem_of_getElem? HE.out, h⟩)
      have HNO : ∀ (h : endsB (inL xa) (inL xb) u x = false), Hid (∀ j, j < k + 1 → ∀ u x : Nat, (edgesL n e)[j]? = some [(u : Int), (x : Int)] → endsB (inL xa) (inL xb) u x = false) := fun h => Lib.hid fun j hj u' x' hj' => by
        by_cases hjk : j = k
        · subst hjk
          rw [HE.out] at hj'
          obtain ⟨rfl, rfl⟩ : u = u' ∧ x = x' := by simp at hj'; exact ⟨by omega, by omega⟩
          exact h
        · exact HK.out j (by omega) u' x' hj'
      have HY2 := Lib.hid HYES
      have HN2 := Lib.hid HNO
      clear h1 h2 h3 h4 HYES HNO
      go_wp2_with fail
      refine H1.out.mono ?_
      rintro e1 w' ⟨rfl, rfl⟩
      cases b1 with
      | false =>
        go_wp2_with fail
        refine H3.out.mono ?_
        rintro e1 w' ⟨rfl, rfl⟩
        cases b3 with
        | false =>
          have HN := Lib.hid (HN2.out (by rw [HEND.out]; rfl)).out
          go_wp2_with fail
          go_roundw
          case rel => exact ⟨k + 1, by omega, by go_num, HN, by first | rfl | trivial⟩
          case measure => simp [intOf]; omega
        | true =>
          go_wp2_with fail
          refine H4.out.mono ?_
          rintro e1 w' ⟨rfl, rfl⟩
          cases b4 with
          | false =>
            have HN := Lib.hid (HN2.out (by rw [HEND.out]; rfl)).out
            go_wp2_with fail
            go_roundw
            case rel => exact ⟨k + 1, by omega, by go_num, HN, by first | rfl | trivial⟩
            case measure => simp [intOf]; omega
          | true =>
            have HY := Lib.hid (HY2.out (by rw [HEND.out]; rfl)).out
            go_wp2_with fail
            refine bodyPost_ret (v := .tuple #[.slice (some ⟨rb, ro, none⟩) 2 rc, .bool true]) (by simp [results, Tryd.results92, go_sem]) rfl ?_
            exact ⟨_, by rw [HY.out], by rw [hB]; exact hb01⟩
      | true =>
        go_wp2_with fail
        refine H2.out.mono ?_
        rintro e1 w' ⟨rfl, rfl⟩
        cases b2 with
        | true =>
          have HY := Lib.hid (HY2.out (by rw [HEND.out]; rfl)).out
          go_wp2_with fail
          refine bodyPost_ret (v := .tuple #[.slice (some ⟨rb, ro, none⟩) 2 rc, .bool true]) (by simp [results, Tryd.results92, go_sem]) rfl ?_
          exact ⟨_, by rw [HY.out], by rw [hB]; exact hb01⟩
        | false =>
          go_wp2_with fail
          refine H3.out.mono ?_
          rintro e1 w' ⟨rfl, rfl⟩
          cases b3 with
          | false =>
            have HN := Lib.hid (HN2.out (by rw [HEND.out]; rfl)).out
            go_wp2_with fail
            go_roundw
            case rel => exact ⟨k + 1, by omega, by go_num, HN, by first | rfl | trivial⟩
            case measure => simp [intOf]; omega
          | true =>
            go_wp2_with fail
            refine H4.out.mono ?_
            rintro e1 w' ⟨rfl, rfl⟩
            cases b4 with
            | false =>
              have HN := Lib.hid (HN2.out (by rw [HEND.out]; rfl)).out
              go_wp2_with fail
              go_roundw
              case rel => exact ⟨k + 1, by omega, by go_num, HN, by first | rfl | trivial⟩
              case measure => simp [intOf]; omega
            | true =>
              have HY := Lib.hid (HY2.out (by rw [HEND.out]; rfl)).out
              go_wp2_with fail
              refine bodyPost_ret (v := .tuple #[.slice (some ⟨rb, ro, none⟩) 2 rc, .bool true]) (by simp [results, Tryd.results92, go_sem]) rfl ?_
              exact ⟨_, by rw [HY.out], by rw [hB]; exact hb01⟩
    · obtain rfl : k = (edgesL n e).length := by omega
      have HF : Hid (q = false) := Lib.hid (by
        cases q with
        | false => rfl
        | true =>
          obtain ⟨u, x, hm, hE⟩ := HQ.out.1 rfl
          obtain ⟨j, hj⟩ := List.getElem?_of_mem hm
          have := HK.out j (List.getElem?_eq_some_iff.1 hj).1 u x hj
          rw [hE] at this; cases this)
      go_wp2_with fail
      refine bodyPost_ret (v := .tuple #[.slice (some ⟨wr.heap.size, 0, none⟩) 0 0, .bool false]) (by simp [results, Tryd.results92, go_sem]) rfl ?_
      exact ⟨_, by rw [HF.out], by rw [hB]; exact hb01.alloc (by have := hb01.size; omega) _⟩
end Go.Proofs.YtehejjmmbjekgaaDoor
