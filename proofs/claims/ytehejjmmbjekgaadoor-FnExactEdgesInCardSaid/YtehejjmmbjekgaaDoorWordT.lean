/-
  'l21Sets' and 'WordModel' of the reference; both.
-/
import Derived.Test.YtehejjmmbjekgaaDoorWordS
namespace Go.Proofs.YtehejjmmbjekgaaDoor
open Go.RowKit

/-- A world in which three cells read as told. -/
structure Three (a1 a2 a3 : Addr) (v1 v2 v3 : Value) where
  W : World
  c1 : W.cell? a1 = some v1
  c2 : W.cell? a2 = some v2
  c3 : W.cell? a3 = some v3
theorem VC.unlike {t : TypeId} {b : Nat} {cs : Array Value} {w : World} {base : Nat} {e : TypeId} {u : Value} {n : Nat} {xs : List Value} (h : VC t b cs w) (ho : w.ownsRow base e 1 u n xs) (he : t ≠ e) : u.ownBlock ≠ some b := fun e' => by
  obtain ⟨c, hc⟩ := owns_block ho e'
  unfold VC at h
  rw [h] at hc
  simp at hc
  exact he hc.2

set_option maxHeartbeats 4000000 in
theorem sets_any (v : Value) (ws : List Int) (M : Nat) (hM : M ≤ 16) (hn : ws.length ≤ 16) (hall : ∀ y ∈ ws, y ≤ (M : Int)) (w : World) (hr : RdS v ws w) :
    Calls Tryd.prog 83 #[v, .int .i64 M] w fun e w' => ∃ u vs, e = .returned (.agg #[u]) ∧ OwnG w' w.heap.size 38 2 u vs ((RW ws M ws.length).map ints) ∧ Below w.heap.size w w' := by
  obtain ⟨wa, wc, rfl, -, -, -⟩ := id hr
  obtain ⟨B, hB⟩ : ∃ B, w.heap.size = B := ⟨_, rfl⟩
  have u1 : Below B w (w.alloc (.cells #[.slice none 0 0] 40)) := by subst hB; exact below_alloc' _ _
  have VR0 : VC 40 B #[.slice none 0 0] (w.alloc (.cells #[.slice none 0 0] 40)) := VC.new hB
  have hz0 : (w.alloc (.cells #[.slice none 0 0] 40)).heap.size = B + 1 := by simp [hB]
  have HALL := Lib.hid hall
  have HZ0 := Lib.hid (RW_zero ws M)
  clear hall
  go_enter Tryd.func83, Tryd.ntmps83
  go_wp2_with (at_make; refine wpList_make _ rfl _ _ 22 rfl (B + 1) 38 (.slice none 0 0) 24 Tryd.underlying22 infoR rfl .i64 .i64 _ _ M rfl rfl (by omega) (by omega) (by omega) (by unfold maxLen; omega) (by omega) ?_; intro w1 ho1 hb1)
  rw [hz0] at ho1 hb1
  first | rw [hz0] | skip
  have hG1 := OwnG.nils (e1 := 38) (e2 := 2) (by decide) ho1
  have VR1 := VR0.belowAt hb1 (by omega)
  have hz1 : B + 2 ≤ w1.heap.size := by have := (owns_lt ho1 (b := B + 1) rfl).2; omega
  obtain ⟨C, hC⟩ : ∃ C, w1.heap.size = C := ⟨_, rfl⟩
  have hbw1 := u1.trans (hb1.mono (by omega))
  obtain ⟨w2, hw2⟩ : ∃ w2, w2 = w1.alloc (.cells #[.slice (some ⟨B + 1, 0, none⟩) M M] 40) := ⟨_, rfl⟩
  have hb2 : Below C w1 w2 := by rw [hw2, ← hC]; exact below_alloc' _ _
  have VM2 : VC 40 C #[.slice (some ⟨B + 1, 0, none⟩) M M] w2 := by rw [hw2]; exact VC.new hC
  have VR2 := VR1.belowAt hb2 (by omega)
  have hG2 : OwnG w2 (B + 1) 38 2 (.slice (some ⟨B + 1, 0, none⟩) M M) (List.replicate M (.slice none 0 0)) ((RW ws M 0).map ints) := by
    rw [HZ0.out]
    have := hG1.below (hC ▸ hb2)
    rw [List.map_replicate]
    exact this
  have hbw2 := hbw1.trans (hb2.mono (by omega))
  have hcm := VM2.cell
  clear ho1 hb1 hb2 hG1 VR1 VR0 u1 hbw1 HZ0
  go_wp2_with fail
  rw [← hw2]
  clear hw2 hcm
  try rw [hC]
  go_wp2_with fail
  try rw [hC]
  go_loopw [6] (fun i wr => ∃ (k : Nat) (us : List Value), k ≤ ws.length ∧ i = .int .i64 k ∧ us.length = M ∧ VC 40 C #[.slice (some ⟨B + 1, 0, none⟩) M M] wr ∧ VC 40 B #[.slice none 0 0] wr ∧
      OwnG wr (B + 1) 38 2 (.slice (some ⟨B + 1, 0, none⟩) M M) us ((RW ws M k).map ints) ∧ Below B w wr) (fun i _ => ws.length - (intOf i).toNat)
  case atStart => exact ⟨0, _, Nat.zero_le _, rfl, by simp, VM2, VR2, hG2, hbw2⟩
  case round =>
    clear VM2 VR2 hG2 hbw2
    obtain ⟨k, us, hk, rfl, hul, VM, VR, hG, hb⟩ := hrel
    have hsz := hb.size
    have hCl := VM.lt
    by_cases hlt : k < ws.length
    · obtain ⟨yb, yo, y, rfl, hcy0, HY⟩ := Row.intAt hr hlt
      have hyb : yb < B := by have := World.block_lt_of_cell? _ _ hcy0; simp at this; omega
      have hcy := (hb.cell (p := ⟨yb, yo + k, none⟩) hyb).trans hcy0
      clear hcy0
      have hyM := HALL.out y (List.mem_of_getElem? HY.out)
      by_cases hy : 0 < y
      · obtain ⟨q, rfl⟩ : ∃ q : Nat, y = (q : Int) + 1 := ⟨(y - 1).toNat, by omega⟩
        have hqM : q < M := by omega
        have hqu : q < us.length := by omega
        obtain ⟨u, hu⟩ : ∃ u, us[q]? = some u := ⟨us[q], List.getElem?_eq_getElem hqu⟩
        obtain ⟨row, HROW⟩ : ∃ row : List Int, Hid (row = rowB k fun v => decide (ws.getD v 0 = (q : Int) + 1)) := ⟨_, Lib.hid rfl⟩
        have HP : Hid (RW ws M (k + 1) = (RW ws M k).set q (row ++ [(k : Int)])) := Lib.hid (by rw [HROW.out]; exact RW_put HY.out hqM)
        have hrl : row.length ≤ 16 := by rw [HROW.out]; have := rowB_length k fun v => decide (ws.getD v 0 = (q : Int) + 1); omega
        have hci : ((RW ws M k).map ints)[q]? = some (ints row) := by rw [List.getElem?_map, RW_at hqM, HROW.out]; rfl
        have hou := hG.rows q u (ints row) hu hci
        have hout := hG.outer
        rw [hul] at hout
        have hcu : wr.cell? ⟨B + 1, q, none⟩ = some u := by rw [hout.cellAt q (by omega)]; exact hu
        have hcm := VM.cell
        have hfo : wr.frozen? ⟨B + 1, q, none⟩ = false := hout.frozenAt q
        obtain ⟨ua, uc, rfl⟩ := owns_shape hou
        rw [ints_length] at hou
        obtain ⟨n, hn'⟩ : ∃ n, row.length = n := ⟨_, rfl⟩
        have HIU := Lib.hid hu
        have HCI := Lib.hid hci
        rw [ints_length, hn'] at hcu HIU
        rw [hn'] at hou hrl
        have HNR := Lib.hid hn'
        have hx1 : ∀ x : Three ⟨C, 0, none⟩ ⟨yb, yo + k, none⟩ ⟨B + 1, q, none⟩ (.slice (some ⟨B + 1, 0, none⟩) M M) (.int .i64 ((q : Int) + 1)) (.slice ua n uc), x.W.cell? ⟨C, 0, none⟩ = some (.slice (some ⟨B + 1, 0, none⟩) M M) := fun x => x.c1
        have hx2 : ∀ x : Three ⟨C, 0, none⟩ ⟨yb, yo + k, none⟩ ⟨B + 1, q, none⟩ (.slice (some ⟨B + 1, 0, none⟩) M M) (.int .i64 ((q : Int) + 1)) (.slice ua n uc), x.W.cell? ⟨yb, yo + k, none⟩ = some (.int .i64 ((q : Int) + 1)) := fun x => x.c2
        have hx3 : ∀ x : Three ⟨C, 0, none⟩ ⟨yb, yo + k, none⟩ ⟨B + 1, q, none⟩ (.slice (some ⟨B + 1, 0, none⟩) M M) (.int .i64 ((q : Int) + 1)) (.slice ua n uc), x.W.cell? ⟨B + 1, q, none⟩ = some (.slice ua n uc) := fun x => x.c3
        clear hu hci hn' hout
        go_wp2_with fail
        refine wp_region_order [0, 2, 3, 4, 7, 9, 10, 11, 16] [1, 5, 6, 8, 12, 13, 14, 15] [17, 18] [19, 20] (fun W => ∃ x : Three ⟨C, 0, none⟩ ⟨yb, yo + k, none⟩ ⟨B + 1, q, none⟩ (.slice (some ⟨B + 1, 0, none⟩) M M) (.int .i64 ((q : Int) + 1)) (.slice ua n uc), W = x.W) (by kernel_rfl) (by kernel_rfl) (fun _ _ d _ _ h => by cases d <;> exact h) ⟨⟨wr.drew, hcm, hcy, hcu⟩, rfl⟩ ?_
        simp only [pickOps, List.filterMap_cons, List.filterMap_nil, List.getElem?_cons_succ, List.getElem?_cons_zero]
        repeat quiet_step (exact rfl)
        rw [show IntKind.i64.wrap (q : Int) = (q : Int) by rw [IntKind.wrap_i64]; omega]
        repeat quiet_step (exact rfl)
        try simp only [wpQuiet_nil_eq]
        refine wpSegs_cons ?_
        clear hx1 hx2 hx3
        obtain ⟨A, hA⟩ : ∃ A, wr.heap.size = A := ⟨_, rfl⟩
        obtain ⟨wq, hwq⟩ : ∃ wq, wq = (wr.alloc (.cells #[.int .i64 (k : Int)] 2)).drew := ⟨_, rfl⟩
        have hbq : Below A wr wq := by rw [hwq, ← hA]; exact ((Below.refl _ _).alloc (Nat.le_refl _) _).drew
        have hone : wq.ownsRow A 2 1 (.slice (some ⟨A, 0, none⟩) 1 1) 1 [.int .i64 (k : Int)] := by rw [hwq, ← hA]; exact (World.ownsRow_lit wr #[.int .i64 (k : Int)] 1 (Nat.le_refl _) (by simp [maxLen]) rfl).drew
        have hzq : wq.heap.size = A + 1 := by rw [hwq]; show (wr.alloc _).heap.size = A + 1; simp [hA]
        have hGq := hG.below (hA ▸ hbq)
        have VMq := VM.belowAt hbq (by omega)
        have VRq := VR.belowAt hbq (by omega)
        have hbwq := hb.trans (hbq.mono (by omega))
        have houq := owns_below hou (hA ▸ hbq)
        have hcmq := VMq.cell
        have hcyq := (hbq.cell (p := ⟨yb, yo + k, none⟩) (by have := World.block_lt_of_cell? _ _ hcy; omega)).trans hcy
        have hcuq := (hbq.cell (p := ⟨B + 1, q, none⟩) (by have := World.block_lt_of_cell? _ _ hcu; omega)).trans hcu
        have hGo := hGq.outer
        rw [hul] at hGo
        have hq1 : ∀ W, World.cell? W ⟨C, 0, none⟩ = some (.slice (some ⟨B + 1, 0, none⟩) M M) ∧ World.cell? W ⟨yb, yo + k, none⟩ = some (.int .i64 ((q : Int) + 1)) ∧ World.cell? W ⟨B + 1, q, none⟩ = some (.slice ua n uc) → ∃ x : Three ⟨C, 0, none⟩ ⟨yb, yo + k, none⟩ ⟨B + 1, q, none⟩ (.slice (some ⟨B + 1, 0, none⟩) M M) (.int .i64 ((q : Int) + 1)) (.slice ua n uc), W = x.W := fun W h => ⟨⟨W, h.1, h.2.1, h.2.2⟩, rfl⟩
        have HQ1 := Lib.hid hq1
        clear hq1 hG VM VR hb hou
        go_wp2_with fail
        rw [← hwq]
        refine ⟨HQ1.out _ ⟨hcmq, hcyq, hcuq⟩, ?_⟩
        refine wpSegs_cons ?_
        first | rw [hA] | skip
        have hRq := Row.of_owns hone
        go_wp2_with (at_builtin; refine wpList_extend_where wq rfl _ _ 38 rfl (B + 1) 2 (.int .i64 0) 8 Tryd.underlying38 infoI rfl (.slice ua n uc) n (ints row) rfl houq (.slice (some ⟨A, 0, none⟩) 1 1) 1 [.int .i64 (k : Int)] (by omega) rfl hRq (by simp [Value.oneCell']) (by unfold maxLen; omega) (by omega) (by omega) ?_; intro g' c' w5 ho5 hg5 hwh)
        have hVm5 := VMq.grown hg5 (VMq.unlike houq (by decide))
        have hVr5 := VRq.grown hg5 (VRq.unlike houq (by decide))
        have hne : (Value.slice ua n uc).ownBlock ≠ some (B + 1) := owns_unlike hGo houq (by decide) rfl
        have hGo5 := hGo.kept hg5 (.inr (fun h => hne h.symm))
        have hcm5 := hVm5.cell
        have hcu5 : w5.cell? ⟨B + 1, q, none⟩ = some (.slice ua n uc) := by rw [hGo5.cellAt q (by omega), ← hGo.cellAt q (by omega)]; exact hcuq
        have hcy5 : w5.cell? ⟨yb, yo + k, none⟩ = some (.int .i64 ((q : Int) + 1)) := (World.cell?_of_block (hg5.block yb (by omega) (fun h => by have := (owns_lt houq h.symm).1; omega))).trans hcyq
        have hf5 := hGo5.frozenAt q
        have hb5 : Below B w w5 := hbwq.grown hg5 (by omega) (fun y hy => by have := (owns_lt houq hy).1; omega)
        have hst := hGo5.stored q (.slice (some ⟨g', 0, none⟩) (n + 1) c')
        have HG6 : Hid (OwnG (w5.setCell ⟨B + 1, q, none⟩ (.slice (some ⟨g', 0, none⟩) (n + 1) c')) (B + 1) 38 2 (.slice (some ⟨B + 1, 0, none⟩) M M) (us.set q (.slice (some ⟨g', 0, none⟩) (n + 1) c')) ((RW ws M (k + 1)).map ints)) := Lib.hid (by
          have hl1 : (ints row).length = n := by rw [ints_length]; exact HNR.out
          have hk := OwnG.regrow (w1 := w5) (w2 := w5.setCell ⟨B + 1, q, none⟩ (.slice (some ⟨g', 0, none⟩) (n + 1) c')) (u' := .slice (some ⟨g', 0, none⟩) (n + 1) c') (cs' := ints row ++ [.int .i64 (k : Int)]) q hGq HIU.out HCI.out (by rw [List.length_append, hl1]; exact ho5) hg5 (fun y hy => by
            rcases hwh with h | h
            · left; rw [← hy]; simpa [Value.ownBlock] using h
            · right; simp [Value.ownBlock] at hy; omega) (by rw [hul]; exact hst.1) hst.2
          rw [HP.out, List.map_set]
          have e1 : ints (row ++ [(k : Int)]) = ints row ++ [.int .i64 (k : Int)] := ints_snoc _ _
          rw [e1]
          exact hk)
        have HB6 := Lib.hid (hb5.setCell (p := ⟨B + 1, q, none⟩) (by simp) (.slice (some ⟨g', 0, none⟩) (n + 1) c'))
        have HVM6 := Lib.hid (hVm5.other (p := ⟨B + 1, q, none⟩) (by have := (owns_lt hGo (b := B + 1) rfl); have := VMq.unlike (u := .slice (some ⟨B + 1, 0, none⟩) M M) hGo (by decide); simp [Value.ownBlock] at this ⊢; omega) (.slice (some ⟨g', 0, none⟩) (n + 1) c'))
        have HVR6 := Lib.hid (hVr5.other (p := ⟨B + 1, q, none⟩) (by simp) (.slice (some ⟨g', 0, none⟩) (n + 1) c'))
        have HUL : Hid ((us.set q (.slice (some ⟨g', 0, none⟩) (n + 1) c')).length = M) := Lib.hid (by simp [hul])
        refine ⟨HQ1.out _ ⟨hcm5, hcy5, hcu5⟩, wpSegs_nil ?_⟩
        clear hst hb5 hGo5 hVm5 hVr5 ho5 hg5 hwh houq hGq VMq VRq hbwq hcmq hcyq hcuq HQ1 hcm5 hcy5 hGo
        go_wp2_with fail
        go_roundw
        case rel => exact ⟨k + 1, _, by omega, by go_num, HUL.out, HVM6.out, HVR6.out, HG6.out, HB6.out⟩
        case measure => simp [intOf]; omega
      · have HSK : Hid (RW ws M (k + 1) = RW ws M k) := Lib.hid (RW_skip HY.out (by omega))
        go_wp2_with fail
        go_roundw
        case rel => exact ⟨k + 1, us, by omega, by go_num, hul, VM, VR, by rw [HSK.out]; exact hG, hb⟩
        case measure => simp [intOf]; omega
    · obtain rfl : k = ws.length := by omega
      have hcm := VM.cell
      have hfr := VR.free
      have hcr := VR.cell
      have hce := (VR.set (.slice (some ⟨B + 1, 0, none⟩) M M)).cell
      have HG := Lib.hid hG
      have HB := Lib.hid (hb.setCell (p := ⟨B, 0, none⟩) (by simp) (.slice (some ⟨B + 1, 0, none⟩) M M))
      clear hb hG
      go_wp2_with fail
      refine bodyPost_ret (v := .agg #[.slice (some ⟨B + 1, 0, none⟩) M M]) (by simp [results, Tryd.results83, go_sem, hce]) rfl ?_
      exact ⟨_, us, rfl, by rw [hB]; exact (HG.out.other (by simp) _).rebase (by omega), by rw [hB]; exact HB.out⟩

theorem l1Max_w (u v z : Int) (h : (if v < u then u else v) = z) (w : World) : Calls Tryd.prog 82 #[.int .i64 u, .int .i64 v] w fun e w' => e = .returned (.int .i64 z) ∧ w = w' := by
  by_cases hlt : v < u
  · rw [if_pos hlt] at h
    subst h
    go_enter Tryd.func82, Tryd.ntmps82
    go_wp2_with fail
    all_goals go_ret
    all_goals exact ⟨ret_int (by omega), rfl⟩
  · rw [if_neg hlt] at h
    subst h
    go_enter Tryd.func82, Tryd.ntmps82
    go_wp2_with fail
    all_goals go_ret
    all_goals exact ⟨ret_int (by omega), rfl⟩
theorem maxTo_zero {ws : List Int} (h0 : 1 ≤ ws.length) (h : ∀ y ∈ ws, 0 ≤ y) : maxTo 0 ws = maxL ws := by
  cases ws with
  | nil => simp at h0
  | cons x l =>
    have hx := h x (by simp)
    show maxTo (if 0 < x then x else 0) l = maxTo x l
    have : (if 0 < x then x else 0) = x := by split <;> omega
    rw [this]
theorem maxTo_next {ws : List Int} {k : Nat} {y mm : Int} (h : ws[k]? = some y) (hm : mm = maxTo 0 (ws.take k)) : (if y < mm then mm else y) = maxTo 0 (ws.take (k + 1)) := by
  rw [take_snoc h, maxTo_snoc, ← hm]
  split <;> split <;> omega

set_option maxHeartbeats 4000000 in
theorem specWordModel (v : Value) (ws : List Int) (w : World) (hr : RdS v ws w) (rows : List (List Int)) (ok : Bool) (h : WordP ws rows ok) :
    Calls Tryd.prog 23 #[v] w (MRes w rows ok) := by
  obtain ⟨a, c, rfl, -, -, -⟩ := id hr
  have hlen : ws.length ≤ maxLen := hr.len
  unfold maxLen at hlen
  obtain ⟨B, hB⟩ : ∃ B, w.heap.size = B := ⟨_, rfl⟩
  have u1 : Below B w (w.alloc (.cells #[.slice none 0 0] 40)) := by subst hB; exact below_alloc' _ _
  have VR0 : VC 40 B #[.slice none 0 0] (w.alloc (.cells #[.slice none 0 0] 40)) := VC.new hB
  have hz0 : (w.alloc (.cells #[.slice none 0 0] 40)).heap.size = B + 1 := by simp [hB]
  have H := Lib.hid h
  have hr1 : RdS (.slice a ws.length c) ws (w.alloc (.cells #[.slice none 0 0] 40)) := Row.below hr (hB.symm ▸ u1)
  clear h
  by_cases hl : 1 ≤ ws.length ∧ ws.length ≤ 16
  case neg =>
    have hin := Lib.hid (l1In_is (ws.length : Int) 1 16 false (by simp; omega))
    obtain ⟨rfl, rfl⟩ : rows = [] ∧ ok = false := by
      rcases H.out with ⟨_, h⟩ | ⟨h, _⟩
      · exact h
      · unfold wordB at h; simp at h; omega
    have hcr := VR0.cell
    have hfr := VR0.free
    have hce := (VR0.set (.slice none 0 0)).cell
    have HB := Lib.hid (u1.setCell (p := ⟨B, 0, none⟩) (by simp) (.slice none 0 0))
    clear hl
    go_enter Tryd.func23, Tryd.ntmps23
    go_wp2_with fail
    refine (hin.out _).mono ?_
    rintro e1 w1 ⟨rfl, rfl⟩
    go_wp2_with fail
    refine bodyPost_ret (v := .tuple #[.agg #[.slice none 0 0], .bool false]) (by simp [results, Tryd.results23, go_sem, hce, hcr]) rfl ?_
    first
      | exact ⟨_, [], rfl, OwnG.nil _ _ (by decide) (World.ownsRow_nil _ _ _ 1), by rw [hB]; exact HB.out⟩
      | exact ⟨_, [], rfl, OwnG.nil _ _ (by decide) (World.ownsRow_nil _ _ _ 1), by rw [hB]; exact u1⟩
  have hin := Lib.hid (l1In_is (ws.length : Int) 1 16 true (by simp; omega))
  obtain ⟨hl1, hl16⟩ := hl
  have hcr := VR0.cell
  have hfr := VR0.free
  go_enter Tryd.func23, Tryd.ntmps23
  go_wp2_with fail
  generalize w.alloc (.cells #[.slice none 0 0] 40) = W at *
  refine (hin.out _).mono ?_
  rintro e1 w1 ⟨rfl, rfl⟩
  go_wp2_with fail
  go_loopw [4, 5] (fun mv i wr => ∃ (k : Nat) (mm : Int), k ≤ ws.length ∧ i = .int .i64 k ∧ mv = .int .i64 mm ∧ Hid (mm = maxTo 0 (ws.take k)) ∧ Hid ((ws.take k).any badW = false) ∧ W = wr) (fun _ i _ => ws.length - (intOf i).toNat)
  case atStart => exact ⟨0, 0, Nat.zero_le _, rfl, rfl, Lib.hid rfl, Lib.hid (by simp), rfl⟩
  case round =>
    obtain ⟨k, mm, hk, rfl, rfl, HM, HK, rfl⟩ := hrel
    by_cases hlt : k < ws.length
    · obtain ⟨yb, yo, y, rfl, hcy, HY⟩ := Row.intAt hr1 hlt
      obtain ⟨bb, HBB⟩ : ∃ bb, Hid (decide (0 ≤ y ∧ y ≤ 16) = bb) := ⟨_, Lib.hid rfl⟩
      have HIN := Lib.hid (l1In_is y 0 16 bb HBB.out W)
      cases bb with
      | false =>
        have hbad : ws.any badW = true := List.any_eq_true.2 ⟨y, List.mem_of_getElem? HY.out, by unfold badW; rw [HBB.out]; rfl⟩
        obtain ⟨rfl, rfl⟩ : rows = [] ∧ ok = false := by
          rcases H.out with ⟨_, h⟩ | ⟨h, _⟩
          · exact h
          · unfold wordB at h; rw [hbad] at h; simp at h
        have hce := (VR0.set (.slice none 0 0)).cell
        have HB := Lib.hid (u1.setCell (p := ⟨B, 0, none⟩) (by simp) (.slice none 0 0))
        clear hbad
        go_wp2_with fail
        refine HIN.out.mono ?_
        rintro e1 w1 ⟨rfl, rfl⟩
        go_wp2_with fail
        refine bodyPost_ret (v := .tuple #[.agg #[.slice none 0 0], .bool false]) (by simp [results, Tryd.results23, go_sem, hce, hcr]) rfl ?_
        first
          | exact ⟨_, [], rfl, OwnG.nil _ _ (by decide) (World.ownsRow_nil _ _ _ 1), by rw [hB]; exact HB.out⟩
          | exact ⟨_, [], rfl, OwnG.nil _ _ (by decide) (World.ownsRow_nil _ _ _ 1), by rw [hB]; exact u1⟩
      | true =>
        have HMX := Lib.hid (l1Max_w mm y _ rfl W)
        obtain ⟨m2, HM2⟩ : ∃ m2 : Int, Hid ((if y < mm then mm else y) = m2) := ⟨_, Lib.hid rfl⟩
        rw [HM2.out] at HMX
        have HM3 : Hid (m2 = maxTo 0 (ws.take (k + 1))) := Lib.hid (by rw [← HM2.out]; exact maxTo_next HY.out HM.out)
        have HK2 : Hid ((ws.take (k + 1)).any badW = false) := Lib.hid (by rw [take_snoc HY.out, List.any_append, HK.out]; simp [badW, HBB.out])
        go_wp2_with fail
        refine HIN.out.mono ?_
        rintro e1 w1 ⟨rfl, rfl⟩
        go_wp2_with fail
        refine HMX.out.mono ?_
        rintro e1 w1 ⟨rfl, rfl⟩
        go_wp2_with fail
        go_roundw
        case rel => exact ⟨k + 1, m2, by omega, by go_num, rfl, HM3, HK2, by first | rfl | trivial⟩
        case measure => simp [intOf]; omega
    · obtain rfl : k = ws.length := by omega
      have hK := HK.out
      have hM0 := HM.out
      rw [List.take_length] at hK hM0
      have hwb : wordB ws = true := by unfold wordB; rw [hK]; simp; omega
      obtain ⟨M, hM, hM16, hall⟩ := maxL_bound hwb
      obtain ⟨hrows, rfl⟩ : rows = rowsOf (SW ws M ws.length) ∧ ok = true := by
        rcases H.out with ⟨h, _⟩ | ⟨_, M', h1, h2, h3, h4⟩
        · rw [hwb] at h; cases h
        · obtain rfl : M = M' := by omega
          exact ⟨h3, h4⟩
      rw [maxTo_zero hl1 (fun y hy => (hall y hy).1), hM] at hM0
      rw [RW_SW ws M hl16] at hrows
      have HROWS := Lib.hid hrows
      have HS := Lib.hid (sets_any (.slice a ws.length c) ws M hM16 hl16 (fun y hy => (hall y hy).2) W hr1)
      subst hM0
      clear hK hwb hM hrows hall
      go_wp2_with fail
      refine HS.out.mono ?_
      rintro e1 w5 ⟨u, vs, rfl, hG, hb5⟩
      obtain ⟨ua, uc, rfl⟩ := owns_shape hG.outer
      have VR5 := VR0.belowAt hb5 (by omega)
      have hcr := VR5.cell
      have hfr := VR5.free
      have HG := Lib.hid hG
      have HB5 := Lib.hid (u1.trans (hb5.mono (by omega)))
      clear hb5 hG HS
      go_wp2_with fail
      have hce := (VR5.set (.slice ua vs.length uc)).cell
      refine bodyPost_ret (v := .tuple #[.agg #[.slice ua vs.length uc], .bool true]) (by simp [results, Tryd.results23, go_sem, hce]) rfl ?_
      refine ⟨_, vs, rfl, ?_, by rw [hB]; exact HB5.out.setCell (by simp) _⟩
      rw [hB, HROWS.out]
      exact (HG.out.other (by simp; omega) _).rebase (by omega)

theorem both_WordModel (ws : List Int) : ∃ rows ok, 1 + total rows ≤ 1000000000 ∧ rows.length ≤ 1000000000 ∧
    (∀ (w : World) (v : Value), Tab w → RdS v ws w → Calls Tryd.prog 23 #[v] w (MRes w rows ok)) ∧
    (∀ (w : World) (v : Value), Tab w → RdS v ws w → Calls Tryd.prog 25 #[v] w (MRes w rows ok)) := by
  cases h : wordB ws with
  | false =>
    have hp : WordP ws [] false := .inl ⟨h, rfl, rfl⟩
    exact ⟨[], false, by simp [total], by simp, fun w v _ hr => specWordModel v ws w hr _ _ hp, fun w v ht hr => implWordModel v ws w ht hr _ _ hp⟩
  | true =>
    obtain ⟨M, hM, hM16, _⟩ := maxL_bound h
    have hp : WordP ws (rowsOf (SW ws M ws.length)) true := .inr ⟨h, M, hM, hM16, rfl, rfl⟩
    have ht : total (rowsOf (SW ws M ws.length)) ≤ 32 * (SW ws M ws.length).length := total_rowsOf _
    rw [SW_length] at ht
    exact ⟨_, true, by omega, by simp; omega, fun w v _ hr => specWordModel v ws w hr _ _ hp, fun w v ht hr => implWordModel v ws w ht hr _ _ hp⟩
end Go.Proofs.YtehejjmmbjekgaaDoor
