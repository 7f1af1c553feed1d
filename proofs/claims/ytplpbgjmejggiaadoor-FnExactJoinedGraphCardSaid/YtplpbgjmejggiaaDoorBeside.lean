/-
  'Beside' of the reference and of the program.
-/
import Derived.Test.YtplpbgjmejggiaaDoorVertex
namespace Go.Proofs.YtplpbgjmejggiaaDoor
open Go.RowKit

/-- Two graphs side by side. -/
def besideE (n : Nat) (e f : Nat → Nat → Bool) : Nat → Nat → Bool := fun a b => (decide (a < n) && decide (b < n) && e a b) || (decide (n ≤ a) && decide (n ≤ b) && f (a - n) (b - n))
theorem rowB_shift (n m : Nat) (p : Nat → Bool) : rowB (n + m) (fun b => decide (n ≤ b) && p (b - n)) = (rowB m p).map fun x => (n : Int) + x := by
  unfold rowB
  rw [List.range_add, List.filter_append, List.map_append, List.map_map]
  have h1 : (List.range n).filter (fun b => decide (n ≤ b) && p (b - n)) = [] := by
    rw [List.filter_eq_nil_iff]
    intro a ha
    have := List.mem_range.1 ha
    have h2 : ¬ n ≤ a := by omega
    simp [h2]
  rw [h1, List.filter_map, List.map_map, List.map_nil, List.nil_append]
  have h2 : (List.range m).filter ((fun b => decide (n ≤ b) && p (b - n)) ∘ fun x => n + x) = (List.range m).filter p := by
    apply List.filter_congr
    intro i _
    simp
  rw [h2]
  apply List.map_congr_left
  intro i _
  simp
theorem row_left (n m : Nat) (e f : Nat → Nat → Bool) {u : Nat} (hu : u < n) : rowB (n + m) (besideE n e f u) = rowB n (e u) := by
  rw [← show rowB (n + m) (fun b => decide (b < n) && e u b) = rowB n (e u) by unfold rowB; rw [filter_range_lt]]
  refine rowB_ext fun b _ => ?_
  have : ¬ n ≤ u := by omega
  simp [besideE, hu, this]
theorem row_right (n m : Nat) (e f : Nat → Nat → Bool) (v : Nat) : rowB (n + m) (besideE n e f (n + v)) = (rowB m (f v)).map fun x => (n : Int) + x := by
  rw [← rowB_shift]
  refine rowB_ext fun b _ => ?_
  have : ¬ n + v < n := by omega
  simp [besideE, this]
theorem rows_beside (n m : Nat) (e f : Nat → Nat → Bool) : rowsB (n + m) (besideE n e f) = rowsB n e ++ (rowsB m f).map fun r => r.map fun x => (n : Int) + x := by
  unfold rowsB
  rw [List.range_add, List.map_append, List.map_map, List.map_map]
  congr 1
  · apply List.map_congr_left
    intro u hu
    exact row_left n m e f (List.mem_range.1 hu)
  · apply List.map_congr_left
    intro v _
    exact row_right n m e f v
theorem beside_adj {n m : Nat} {e f : Nat → Nat → Bool} (h : Adj n e) (h' : Adj m f) (hnm : n + m ≤ 16) : Adj (n + m) (besideE n e f) := by
  refine ⟨by have := h.pos; omega, hnm, fun u hu => ?_, fun u v hu hv => ?_⟩
  · unfold besideE
    by_cases hun : u < n
    · have : ¬ n ≤ u := by omega
      simp [this, h.irr u hun]
    · simp [hun, h'.irr (u - n) (by omega)]
  · unfold besideE
    by_cases hun : u < n
    · have h1 : ¬ n ≤ u := by omega
      by_cases hvn : v < n
      · simp [hun, hvn, h1, h.sym u v hun hvn]
      · simp [hun, hvn, h1]
    · have h1 : n ≤ u := by omega
      by_cases hvn : v < n
      · have h2 : ¬ n ≤ v := by omega
        simp [hun, hvn, h2]
      · have h2 : n ≤ v := by omega
        simp [hun, hvn, h1, h2, h'.sym (u - n) (v - n) (by omega) (by omega)]

theorem map_take_succ {xs : List Int} {k : Nat} {x : Int} (n : Int) (h : xs[k]? = some x) : (xs.take (k + 1)).map (fun x => n + x) = (xs.take k).map (fun x => n + x) ++ [n + x] := by
  rw [take_snoc h, List.map_append]; rfl

set_option maxHeartbeats 4000000 in
theorem l2Beside_any (v : Value) (n : Nat) (e : Nat → Nat → Bool) (v2 : Value) (m : Nat) (f : Nat → Nat → Bool) (hn : n ≤ 16) (hm : m ≤ 16) (w : World) (hr : RdSS v (rowsB n e) w) (hr2 : RdSS v2 (rowsB m f) w) :
    Calls Tryd.prog 97 #[.agg #[v], .agg #[v2]] w (G1Res w (rowsB (n + m) (besideE n e f))) := by
  obtain ⟨a, c, rfl⟩ := hr.shape
  obtain ⟨a2, c2, rfl⟩ := hr2.shape
  rw [rowsB_length] at hr hr2 ⊢
  rw [rowsB_length]
  obtain ⟨B, hB⟩ : ∃ B, w.heap.size = B := ⟨_, rfl⟩
  obtain ⟨vs2, hG2⟩ := hr2.ex
  have u1 : Below B w (w.alloc (.cells #[.slice a n c] 35)) := by subst hB; exact below_alloc' _ _
  have VA : VC 35 B #[.slice a n c] (w.alloc (.cells #[.slice a n c] 35)) := VC.new hB
  have z1 : (w.alloc (.cells #[.slice a n c] 35)).heap.size = B + 1 := by simp [hB]
  have u2 := u1.alloc (by omega) (.cells #[.slice a2 m c2] 35)
  have VB : VC 35 (B + 1) #[.slice a2 m c2] ((w.alloc (.cells #[.slice a n c] 35)).alloc (.cells #[.slice a2 m c2] 35)) := VC.new z1
  replace VA := VA.upd (Upd.alloc _ (.cells #[.slice a2 m c2] 35)) (by omega)
  have z2 : ((w.alloc (.cells #[.slice a n c] 35)).alloc (.cells #[.slice a2 m c2] 35)).heap.size = B + 2 := by simp [hB]
  have u3 := u2.alloc (by omega) (.cells #[.slice none 0 0] 35)
  have VR : VC 35 (B + 2) #[.slice none 0 0] (((w.alloc (.cells #[.slice a n c] 35)).alloc (.cells #[.slice a2 m c2] 35)).alloc (.cells #[.slice none 0 0] 35)) := VC.new z2
  replace VA := VA.upd (Upd.alloc _ (.cells #[.slice none 0 0] 35)) (by omega)
  replace VB := VB.upd (Upd.alloc _ (.cells #[.slice none 0 0] 35)) (by omega)
  have z3 : (((w.alloc (.cells #[.slice a n c] 35)).alloc (.cells #[.slice a2 m c2] 35)).alloc (.cells #[.slice none 0 0] 35)).heap.size = B + 3 := by simp [hB]
  clear u1 u2 z1 z2
  have hca := VA.cell
  go_enter Tryd.func97, Tryd.ntmps97
  go_wp2_with fail
  generalize ((w.alloc (.cells #[.slice a n c] 35)).alloc (.cells #[.slice a2 m c2] 35)).alloc (.cells #[.slice none 0 0] 35) = W at *
  refine (size_any a n c W).mono ?_
  rintro e1 w1 ⟨rfl, hb1⟩
  replace VA := VA.upd (Upd.of_below hb1) (by omega)
  replace VB := VB.upd (Upd.of_below hb1) (by omega)
  replace VR := VR.upd (Upd.of_below hb1) (by omega)
  have hb := u3.trans (hb1.mono (by omega))
  have hz1 : B + 3 ≤ w1.heap.size := by have := hb1.size; omega
  clear hca hb1 u3
  have hca := VA.cell
  have HCG := Lib.hid (copyGraph_any (.slice a n c) (rowsB n e) (by simp; omega) (fun ys hys => by obtain ⟨u, _, rfl⟩ := List.mem_map.1 hys; have := rowB_length n (e u); omega) w1 (hr.below hb hB))
  go_wp2_with fail
  refine HCG.out.mono ?_
  rintro e1 w3 ⟨u3, vs3, rfl, hO, hb3⟩
  have hvl : vs3.length = n := by rw [hO.len]; simp
  obtain ⟨a3, c3, rfl⟩ := owns_shape hO.outer
  rw [hvl] at hO ⊢
  obtain ⟨C, hC⟩ : ∃ C, w3.heap.size = C := ⟨_, rfl⟩
  have hz3 : B + 3 ≤ C := by have := hb3.size; omega
  have VO : VC 35 C #[.slice a3 n c3] (w3.alloc (.cells #[.slice a3 n c3] 35)) := VC.new hC
  have u4 := Upd.alloc w3 (.cells #[.slice a3 n c3] 35)
  replace VB := (VB.upd (Upd.of_below hb3) (by omega)).upd u4 (by omega)
  replace VR := (VR.upd (Upd.of_below hb3) (by omega)).upd u4 (by omega)
  replace hb := (hb.trans (hb3.mono (by omega))).alloc (by omega) (.cells #[.slice a3 n c3] 35)
  replace hO := (hO.rebase (base' := B + 3) (by omega)).below (below_alloc' w3 (.cells #[.slice a3 n c3] 35))
  have HVL := Lib.hid hvl
  clear hca hb3 u4 HCG hvl VA
  go_wp2_with fail
  go_loopw [7] (fun i wr => ∃ (k : Nat) (u : Value) (us : List Value), k ≤ m ∧ i = .int .i64 k ∧ VC 35 C #[u] wr ∧ VC 35 (B + 1) #[.slice a2 m c2] wr ∧ VC 35 (B + 2) #[.slice none 0 0] wr ∧
      OwnG wr (B + 3) 22 2 u us ((rowsB n e ++ ((rowsB m f).take k).map fun r => r.map fun x => (n : Int) + x).map ints) ∧ Below B w wr) (fun i _ => m - (intOf i).toNat)
  case atStart => exact ⟨0, _, vs3, Nat.zero_le _, rfl, VO, VB, VR, by simpa using hO, hb⟩
  case round =>
    have hz3' : B + 3 ≤ C := hz3
    clear VO VB VR hO hb hC hz3
    obtain ⟨k, u, us, hk, rfl, VO, VB, VR, hO, hb⟩ := hrel
    have hul : us.length = n + k := by rw [hO.len]; simp; omega
    have HUL := Lib.hid hul
    clear hul
    obtain ⟨ua, uc, rfl⟩ := owns_shape hO.outer
    have hcb := VB.cell
    go_wp2_with fail
    refine (size_any a2 m c2 wr).mono ?_
    rintro e1 w4 ⟨rfl, hb4⟩
    replace VO := VO.upd (Upd.of_below hb4) (by omega)
    replace VB := VB.upd (Upd.of_below hb4) (by omega)
    replace VR := VR.upd (Upd.of_below hb4) (by omega)
    replace hO := hO.below hb4
    replace hb := hb.trans (hb4.mono (by have := hb.size; omega))
    have hltC := VO.lt
    clear hb4 hcb
    obtain ⟨S0, hS0⟩ : ∃ S, w4.heap.size = S := ⟨_, rfl⟩
    rw [hS0] at hltC
    by_cases hlt : k < m
    · have ho0 := World.ownsRow_lit (base := S0) (e := 2) (size := 1) w4 #[] 0 (by omega) (by simp [maxLen]) rfl
      rw [hS0] at ho0
      have hb0 : Below S0 w4 (w4.alloc (.cells #[] 2)) := by rw [← hS0]; exact below_alloc' _ _
      go_wp2_with fail
      go_loopw [9, 8] (fun i r wr => ∃ j : Nat, j ≤ (rowB m (f k)).length ∧ i = .int .i64 j ∧ wr.ownsRow S0 2 1 r j (ints (((rowB m (f k)).take j).map fun x => (n : Int) + x)) ∧ Below S0 w4 wr) (fun i _ _ => (rowB m (f k)).length - (intOf i).toNat)
      case atStart => exact ⟨0, Nat.zero_le _, rfl, by simpa [ints] using ho0, hb0⟩
      case round =>
        clear ho0 hb0
        obtain ⟨j, hj, rfl, ho, hbj⟩ := hrel
        have hcb := (VB.belowAt hbj (by omega)).cell
        have hGr := hG2.below (show Below w.heap.size w _ from hB.symm ▸ hb.trans (hbj.mono (by have := hb.size; omega)))
        obtain ⟨rb, ro, r, ys, rfl, hc, hx, -, HX⟩ := hGr.intsAt (show k < (rowsB m f).length by simpa using hlt)
        obtain rfl : rowB m (f k) = ys := by have h := HX.out; rw [rowsB_at f hlt] at h; exact Option.some.inj h
        obtain ⟨xa, xc, rfl, -, -, -⟩ := id hx
        have hsz := hbj.size
        by_cases hjt : j < (rowB m (f k)).length
        · obtain ⟨xb, xo, x, rfl, hcx, HXX⟩ := hx.intAt hjt
          obtain ⟨i, hi, -, rfl⟩ := mem_rowB.1 (List.mem_of_getElem? HXX.out)
          have hrl := rowB_length m (f k)
          have HT := Lib.hid (map_take_succ (n : Int) HXX.out)
          go_wp2_with (at_builtin; refine wpList_push _ rfl _ _ 22 rfl S0 2 _ _ 8 Tryd.underlying22 infoI rfl _ _ _ rfl ho _ rfl rfl (by unfold maxLen; omega) (by omega) (by omega) ?_; intro g' c' w5 ho5 hg5)
          go_roundw
          case rel => exact ⟨j + 1, by omega, by go_num, by rw [HT.out]; simpa [ints] using ho5, hbj.grown hg5 (by omega) fun y hy => (owns_lt ho hy).1⟩
          case measure => simp [intOf]; omega
        · obtain rfl : j = (rowB m (f k)).length := by omega
          rw [List.take_length] at ho
          obtain ⟨ra, rc, rfl⟩ := owns_shape ho
          have hout : wr.ownsRow (B + 3) 22 1 (.slice ua us.length uc) us.length us := owns_below hO.outer (by rw [hS0]; exact hbj)
          have hrl := rowB_length m (f k)
          have hlt4 : ∀ y, (Value.slice ua us.length uc).ownBlock = some y → B + 3 ≤ y := fun y hy => (owns_lt hout hy).1
          have VO5 := VO.belowAt hbj (by omega)
          have VB5 := VB.belowAt hbj (by omega)
          have VR5 := VR.belowAt hbj (by omega)
          have hco := VO5.cell
          have hbs := run_buildOne (P := Tryd.prog) wr 23 22 _ (.slice ra (rowB m (f k)).length rc) _ Tryd.underlying23 infoR rfl rfl
          have hul3 : us.length ≤ 32 := by have := HUL.out; omega
          have hneC : ∀ y, (Value.slice ua us.length uc).ownBlock = some y → y ≠ C := fun y hy hyC => by
            subst hyC
            obtain ⟨cur, hcur⟩ := owns_block hout hy
            have h2 : wr.heap[y]? = some (.cells #[.slice ua us.length uc] 35 (0, 0)) := VO5
            rw [hcur] at h2
            have h3 := (Obj.cells.inj (Option.some.inj h2)).2.1
            revert h3
            decide
          go_wp2_with (at_builtin; clear hbs; refine wpList_push _ rfl _ _ 23 rfl (B + 3) 22 _ _ 24 Tryd.underlying23 infoR rfl _ _ _ rfl hout _ rfl rfl (by unfold maxLen; omega) (by omega) (by omega) ?_; intro g6 c6 w6 ho6 hg6; have VO6 := VO5.grown hg6 (fun e => hneC _ e rfl); have VB6 := VB5.grown hg6 (fun e => by have := hlt4 _ e; omega); have VR6 := VR5.grown hg6 (fun e => by have := hlt4 _ e; omega); have hco6 := VO6.cell; have hfo6 := VO6.free)
          have hO6 := hO.push (cs := ints ((rowB m (f k)).map fun x => (n : Int) + x)) (by rw [hS0]; exact hbj) (by simpa using ho) (by omega) (by omega) ho6 hg6
          have hb6 : Below B w w6 := (hb.trans (hbj.mono (by omega))).grown hg6 (by omega) (fun y hy => by have := hlt4 y hy; omega)
          have HTK := Lib.hid (take_snoc (rowsB_at f hlt))
          go_roundw
          case rel =>
            refine ⟨k + 1, .slice (some ⟨g6, 0, none⟩) (us.length + 1) c6, us ++ [.slice ra (rowB m (f k)).length rc], by omega, by go_num, VO6.set _, VB6.other (by first | omega | (simp; done) | (simp; omega)) _, VR6.other (by first | omega | (simp; done) | (simp; omega)) _, ?_, hb6.setCell (by first | omega | (simp; done) | (simp; omega)) _⟩
            rw [show (rowsB n e ++ ((rowsB m f).take (k + 1)).map fun r => r.map fun x => (n : Int) + x).map ints = (rowsB n e ++ ((rowsB m f).take k).map fun r => r.map fun x => (n : Int) + x).map ints ++ [ints ((rowB m (f k)).map fun x => (n : Int) + x)] by rw [HTK.out]; simp only [List.map_append, List.map_cons, List.map_nil, List.append_assoc]]
            exact hO6.unlike_setCell (p := ⟨C, 0, none⟩) (c := #[.slice ua us.length uc]) (t := 35) (fr := (0, 0)) VO6 (by decide) (by decide) _
          case measure => simp [intOf]; omega
    · obtain rfl : k = m := by omega
      rw [List.take_of_length_le (by simp), ← rows_beside] at hO
      have hco := VO.cell
      have hcr := VR.cell
      have hfr := VR.free
      have HCE := Lib.hid (VR.set (.slice ua us.length uc)).cell
      go_wp2_with fail
      refine bodyPost_ret (v := .agg #[.slice ua us.length uc]) (by simp [results, Tryd.results97, go_sem, HCE.out]) rfl ?_
      exact ⟨_, us, rfl, by rw [hB]; exact (hO.other (by simp) _).rebase (by omega), by rw [hB]; exact hb.setCell (by first | omega | (simp; done) | (simp; omega)) _⟩
end Go.Proofs.YtplpbgjmejggiaaDoor
