/-
  'Beside' of the reference and of the program.
-/
import Derived.Test.YtplpbgjmejggiaaDoorBeside
import Derived.Test.YtplpbgjmejggiaaDoorAppend
import Derived.Lib.SliceRun
namespace Go.Proofs.YtplpbgjmejggiaaDoor
open Go.RowKit

theorem over_size (w : World) (x : More) : w.heap.size ≤ (over w x).heap.size := (below_over w x).size
theorem specOk_over {v : Value} {xss : List (List Int)} {w : World} (hr : RdSS v xss w) {b : Bool} (hb : okB xss = b) (x : More) :
    Calls Tryd.prog 95 #[.agg #[v]] (over w x) fun e w' => e = .returned (.bool b) ∧ Below (over w x).heap.size (over w x) w' := by
  subst hb; exact specOk v xss (over w x) (hr.below (below_over w x) rfl)
theorem size_over {v : Value} {xss : List (List Int)} {w : World} (hr : RdSS v xss w) {n : Int} (hn : (xss.length : Int) = n) (x : More) :
    Calls Tryd.prog 96 #[.agg #[v]] (over w x) fun e w' => e = .returned (.int .i64 n) ∧ Below (over w x).heap.size (over w x) w' := by
  subst hn; exact size_rd v xss (over w x) (hr.below (below_over w x) rfl)

/-- What 'Beside' gives. -/
def BesideP (xss yss : List (List Int)) (rows : List (List Int)) (ok : Bool) : Prop :=
  ((okB xss = false ∨ okB yss = false ∨ 16 < xss.length + yss.length) ∧ rows = [] ∧ ok = false) ∨
  (okB xss = true ∧ okB yss = true ∧ xss.length + yss.length ≤ 16 ∧ ∃ e f, Adj xss.length e ∧ Adj yss.length f ∧ xss = rowsB xss.length e ∧ yss = rowsB yss.length f ∧ rows = rowsB (xss.length + yss.length) (besideE xss.length e f) ∧ ok = true)

set_option maxHeartbeats 4000000 in
theorem specBeside (v : Value) (xss : List (List Int)) (v2 : Value) (yss : List (List Int)) (w : World) (hr : RdSS v xss w) (hr2 : RdSS v2 yss w) (rows : List (List Int)) (ok : Bool) (h : BesideP xss yss rows ok) :
    Calls Tryd.prog 47 #[.agg #[v], .agg #[v2]] w (GRes w rows ok) := by
  have hxl : xss.length ≤ 1152921504606846976 ∨ okB xss = false := by
    by_cases h : okB xss = true
    · have : OkP xss := by unfold okB at h; simpa using h
      exact .inl (by have := this.1.2; omega)
    · exact .inr (by simpa using h)
  have hyl : yss.length ≤ 1152921504606846976 ∨ okB yss = false := by
    by_cases h : okB yss = true
    · have : OkP yss := by unfold okB at h; simpa using h
      exact .inl (by have := this.1.2; omega)
    · exact .inr (by simpa using h)
  obtain ⟨a, c, rfl⟩ := hr.shape
  obtain ⟨a2, c2, rfl⟩ := hr2.shape
  obtain ⟨B, hB⟩ : ∃ B, w.heap.size = B := ⟨_, rfl⟩
  have u1 : Below B w (w.alloc (.cells #[.slice a xss.length c] 35)) := by subst hB; exact below_alloc' _ _
  have VA : VC 35 B #[.slice a xss.length c] (w.alloc (.cells #[.slice a xss.length c] 35)) := VC.new hB
  have z1 : (w.alloc (.cells #[.slice a xss.length c] 35)).heap.size = B + 1 := by simp [hB]
  have u2 := u1.alloc (by omega) (.cells #[.slice a2 yss.length c2] 35)
  have VB : VC 35 (B + 1) #[.slice a2 yss.length c2] ((w.alloc (.cells #[.slice a xss.length c] 35)).alloc (.cells #[.slice a2 yss.length c2] 35)) := VC.new z1
  replace VA := VA.upd (Upd.alloc _ (.cells #[.slice a2 yss.length c2] 35)) (by omega)
  have z2 : ((w.alloc (.cells #[.slice a xss.length c] 35)).alloc (.cells #[.slice a2 yss.length c2] 35)).heap.size = B + 2 := by simp [hB]
  have u3 := u2.alloc (by omega) (.cells #[.slice none 0 0] 35)
  have VR : VC 35 (B + 2) #[.slice none 0 0] (((w.alloc (.cells #[.slice a xss.length c] 35)).alloc (.cells #[.slice a2 yss.length c2] 35)).alloc (.cells #[.slice none 0 0] 35)) := VC.new z2
  replace VA := VA.upd (Upd.alloc _ (.cells #[.slice none 0 0] 35)) (by omega)
  replace VB := VB.upd (Upd.alloc _ (.cells #[.slice none 0 0] 35)) (by omega)
  have z3 : (((w.alloc (.cells #[.slice a xss.length c] 35)).alloc (.cells #[.slice a2 yss.length c2] 35)).alloc (.cells #[.slice none 0 0] 35)).heap.size = B + 3 := by simp [hB]
  clear u1 u2 z1 z2
  have hca := VA.cell
  have hcb := VB.cell
  have H := Lib.hid h
  clear h
  go_enter Tryd.func47, Tryd.ntmps47
  go_wp2_with fail
  generalize ((w.alloc (.cells #[.slice a xss.length c] 35)).alloc (.cells #[.slice a2 yss.length c2] 35)).alloc (.cells #[.slice none 0 0] 35) = W at *
  have hrW := hr.below u3 hB
  have hrW2 := hr2.below u3 hB
  have HNO : Hid (∀ W', Below (B + 3) W W' → (rows = [] ∧ ok = false) → VC 35 (B + 2) #[.slice none 0 0] W' ∧ ((W'.setCell ⟨B + 2, 0, none⟩ (.slice none 0 0)).cell? ⟨B + 2, 0, none⟩ = some (.slice none 0 0)) ∧ GRes w rows ok (.returned (.tuple #[.agg #[.slice none 0 0], .bool false])) (W'.setCell ⟨B + 2, 0, none⟩ (.slice none 0 0))) := Lib.hid (by
    rintro W' hb' ⟨rfl, rfl⟩
    have V' := VR.belowAt hb' (by omega)
    refine ⟨V', (V'.set _).cell, GRes.nothing _ _ ?_⟩
    rw [hB]
    exact (u3.trans (hb'.mono (by omega))).setCell (by simp) _)
  have hbad : (okB xss = false ∨ okB yss = false ∨ 16 < xss.length + yss.length) → rows = [] ∧ ok = false := fun hb' => by
    rcases H.out with ⟨_, h2⟩ | ⟨h1, h2, h3, _⟩
    · exact h2
    · rcases hb' with h' | h' | h'
      · rw [h1] at h'; cases h'
      · rw [h2] at h'; cases h'
      · omega
  have HBAD := Lib.hid hbad
  clear hbad
  cases hok : okB xss with
  | false =>
    have HN := Lib.hid (HBAD.out (.inl hok))
    have H1 := Lib.hid (fun x => specOk_over hrW hok x)
    clear hxl hyl hok
    refine wp_region_calm (by kernel_rfl) (by kernel_rfl) ?_
    repeat (first | go_big_quiet_step ((go_at_call 95; with_reducible exact calls_over (H1.out _))) | quiet_step ((go_at_call 95; with_reducible exact calls_over (H1.out _))))
    refine wpQuiet_nil ?_
    intro W' hbW'
    obtain ⟨V', hce, HF⟩ := HNO.out W' (by rw [← z3]; exact hbW') HN.out
    have HCE := Lib.hid hce
    have HFF := Lib.hid HF
    have hcr := V'.cell
    have hfr := V'.free
    clear hce HF hbW'
    go_wp2_with fail
    refine bodyPost_ret (v := .tuple #[.agg #[.slice none 0 0], .bool false]) (by simp [results, Tryd.results47, go_sem, HCE.out]) rfl ?_
    exact HFF.out
  | true =>
    have H1 := Lib.hid (fun x => specOk_over hrW hok x)
    have hx16 : 1 ≤ xss.length ∧ xss.length ≤ 16 := by
      have : OkP xss := by unfold okB at hok; simpa using hok
      exact this.1
    cases hok2 : okB yss with
    | false =>
      have HN := Lib.hid (HBAD.out (.inr (.inl hok2)))
      have H2 := Lib.hid (fun x => specOk_over hrW2 hok2 x)
      have S1 := Lib.hid True.intro
      have S2 := S1
      clear hxl hyl hok hok2
      refine wp_region_calm (by kernel_rfl) (by kernel_rfl) ?_
      repeat (first | go_big_quiet_step ((first | (go_at_call 95; with_reducible exact calls_over (H1.out _)) | (go_at_call 95; with_reducible exact calls_over (H2.out _)) | (go_at_call 96; with_reducible exact calls_over (S1.out _)) | (go_at_call 96; with_reducible exact calls_over (S2.out _)))) | quiet_step ((first | (go_at_call 95; with_reducible exact calls_over (H1.out _)) | (go_at_call 95; with_reducible exact calls_over (H2.out _)) | (go_at_call 96; with_reducible exact calls_over (S1.out _)) | (go_at_call 96; with_reducible exact calls_over (S2.out _)))))
      refine wpQuiet_nil ?_
      intro W' hbW'
      obtain ⟨V', hce, HF⟩ := HNO.out W' (by rw [← z3]; exact hbW') HN.out
      have HCE := Lib.hid hce
      have HFF := Lib.hid HF
      have hcr := V'.cell
      have hfr := V'.free
      clear hce HF hbW'
      go_wp2_with fail
      refine bodyPost_ret (v := .tuple #[.agg #[.slice none 0 0], .bool false]) (by simp [results, Tryd.results47, go_sem, HCE.out]) rfl ?_
      exact HFF.out
    | true =>
      have H2 := Lib.hid (fun x => specOk_over hrW2 hok2 x)
      have hy16 : 1 ≤ yss.length ∧ yss.length ≤ 16 := by
        have : OkP yss := by unfold okB at hok2; simpa using hok2
        exact this.1
      have S1 := Lib.hid (fun x => size_over hrW (rfl : (xss.length : Int) = xss.length) x)
      have S2 := Lib.hid (fun x => size_over hrW2 (rfl : (yss.length : Int) = yss.length) x)
      have hwr : IntKind.i64.wrap ((xss.length : Int) + yss.length) = (xss.length : Int) + yss.length := IntWalk.i64_in _ (by omega)
      by_cases h16 : 16 < xss.length + yss.length
      · have HN := Lib.hid (HBAD.out (.inr (.inr h16)))
        have hgt : decide (16 < (xss.length : Int) + yss.length) = true := by simp; omega
        have HOK := Lib.hid hok
        clear hxl hyl hok hok2 h16
        refine wp_region_calm (by kernel_rfl) (by kernel_rfl) ?_
        repeat (first | go_big_quiet_step ((first | (go_at_call 95; with_reducible exact calls_over (H1.out _)) | (go_at_call 95; with_reducible exact calls_over (H2.out _)) | (go_at_call 96; with_reducible exact calls_over (S1.out _)) | (go_at_call 96; with_reducible exact calls_over (S2.out _)))) | quiet_step ((first | (go_at_call 95; with_reducible exact calls_over (H1.out _)) | (go_at_call 95; with_reducible exact calls_over (H2.out _)) | (go_at_call 96; with_reducible exact calls_over (S1.out _)) | (go_at_call 96; with_reducible exact calls_over (S2.out _)))))
        refine wpQuiet_nil ?_
        intro W' hbW'
        obtain ⟨V', hce, HF⟩ := HNO.out W' (by rw [← z3]; exact hbW') HN.out
        have HCE := Lib.hid hce
        have HFF := Lib.hid HF
        have hcr := V'.cell
        have hfr := V'.free
        clear hce HF hbW'
        go_wp2_with fail
        refine bodyPost_ret (v := .tuple #[.agg #[.slice none 0 0], .bool false]) (by simp [results, Tryd.results47, go_sem, HCE.out]) rfl ?_
        exact HFF.out
      · have hgt : decide (16 < (xss.length : Int) + yss.length) = false := by simp; omega
        obtain ⟨e, f, hA, hB2, hx, hy, rfl, rfl⟩ : ∃ e f, Adj xss.length e ∧ Adj yss.length f ∧ xss = rowsB xss.length e ∧ yss = rowsB yss.length f ∧ rows = rowsB (xss.length + yss.length) (besideE xss.length e f) ∧ ok = true := by
          rcases H.out with ⟨h1, _⟩ | ⟨_, _, _, e, f, h1, h2, h3, h4, h5, h6⟩
          · rcases h1 with h' | h' | h'
            · rw [hok] at h'; cases h'
            · rw [hok2] at h'; cases h'
            · exact (h16 h').elim
          · exact ⟨e, f, h1, h2, h3, h4, h5, h6⟩
        have HX := Lib.hid hx
        have HY := Lib.hid hy
        have HFIN : Hid (∀ W', Below (B + 3) W W' → Calls Tryd.prog 97 #[.agg #[.slice a xss.length c], .agg #[.slice a2 yss.length c2]] W' (G1Res W' (rowsB (xss.length + yss.length) (besideE xss.length e f)))) := Lib.hid (fun W' hb' => by
          have h1 := hrW.below (show Below W.heap.size W W' by rw [z3]; exact hb') rfl
          have h2 := hrW2.below (show Below W.heap.size W W' by rw [z3]; exact hb') rfl
          rw [HX.out] at h1
          rw [HY.out] at h2
          rw [rowsB_length] at h1 h2
          exact l2Beside_any _ xss.length e _ yss.length f (by omega) (by omega) W' h1 h2)
        clear hxl hyl hok hok2 h16 hx hy
        refine wp_region_calm (by kernel_rfl) (by kernel_rfl) ?_
        repeat (first | go_big_quiet_step ((first | (go_at_call 95; with_reducible exact calls_over (H1.out _)) | (go_at_call 95; with_reducible exact calls_over (H2.out _)) | (go_at_call 96; with_reducible exact calls_over (S1.out _)) | (go_at_call 96; with_reducible exact calls_over (S2.out _)))) | quiet_step ((first | (go_at_call 95; with_reducible exact calls_over (H1.out _)) | (go_at_call 95; with_reducible exact calls_over (H2.out _)) | (go_at_call 96; with_reducible exact calls_over (S1.out _)) | (go_at_call 96; with_reducible exact calls_over (S2.out _)))))
        refine wpQuiet_nil ?_
        intro W' hbW'
        rw [z3] at hbW'
        have V1 := VA.belowAt hbW' (by omega)
        have V2 := VB.belowAt hbW' (by omega)
        have V3 := VR.belowAt hbW' (by omega)
        have hb := u3.trans (hbW'.mono (by omega))
        have hlt3 := V3.lt
        have HC := Lib.hid (HFIN.out W' hbW')
        clear hca hcb hbW'
        have hca := V1.cell
        have hcb := V2.cell
        go_wp2_with fail
        refine HC.out.mono ?_
        rintro e1 w4 ⟨u4, us, rfl, hG4, hb4⟩
        obtain ⟨ua, uc, rfl⟩ := owns_shape hG4.outer
        have HF := Lib.hid (GRes.put (b := B + 2) hB hb (by omega) hlt3 hG4 hb4 true)
        replace V3 := V3.upd (Upd.of_below hb4) (by omega)
        have HCE := Lib.hid (V3.set (.slice ua us.length uc)).cell
        clear hG4 hb4 hca hcb HC
        have hcr := V3.cell
        have hfr := V3.free
        go_wp2_with fail
        refine bodyPost_ret (v := .tuple #[.agg #[.slice ua us.length uc], .bool true]) (by simp [results, Tryd.results47, go_sem, HCE.out]) rfl ?_
        exact HF.out

theorem clone_nets (g n c : Nat) (xs : List Value) (base : Nat) (hn : n ≤ 1000) (h1 : ∀ u ∈ xs, u.oneCell' = true) (w : World) (ho : w.ownsRow base 78 1 (.slice (some ⟨g, 0, none⟩) n c) n xs) :
    Calls Tryd.prog 99 #[.slice (some ⟨g, 0, none⟩) n c] w fun e w' => ∃ u, e = .returned u ∧ w'.ownsRow w.heap.size 78 1 u n xs ∧ Below w.heap.size w w' := by
  have h0 := World.ownsRow_lit (base := w.heap.size) (e := 78) (size := 1) w #[] 0 (Nat.le_refl _) (by simp [maxLen]) rfl
  have hr := (Row.of_owns ho).alloc (.cells #[] 78)
  have H1 := Lib.hid h1
  clear h1
  have HB := Lib.hid (below_alloc' w (.cells #[] 78))
  obtain ⟨S, hS⟩ : ∃ S, w.heap.size = S := ⟨_, rfl⟩
  rw [hS] at h0
  clear ho
  have hnil := Lib.run_eql_slice_nil (P := Tryd.prog) w 82 78 (some ⟨g, 0, none⟩) n c 0 0 Tryd.underlying82
  go_enter Tryd.func99, Tryd.ntmps99
  go_wp2_with (at_builtin; refine wpList_extend _ rfl _ _ 82 rfl S 78 _ 4 Tryd.underlying82 infoV rfl (.slice (some ⟨S, 0, none⟩) 0 0) 0 [] rfl h0 (.slice (some ⟨g, 0, none⟩) n c) n xs rfl hr H1.out (by unfold maxLen; omega) (by omega) (by simp; omega) ?_; intro a' c' w1 ho1 hg1)
  go_ret
  have hB2 := HB.out.grown hg1 HB.out.size (fun y hy => by simp [Value.ownBlock] at hy; omega)
  rw [hS] at hB2
  exact ⟨_, rfl, by simpa using ho1, hB2⟩

theorem sets_one (ms : List Nat) : ∀ u ∈ sets ms, u.oneCell' = true := by
  intro u hu
  obtain ⟨m, _, rfl⟩ := List.mem_map.1 hu
  rfl

theorem mask_shift {n m : Nat} (p : Nat → Bool) : maskB m p <<< n = maskB (n + m) (fun b => decide (n ≤ b) && p (b - n)) := by
  apply Nat.eq_of_testBit_eq
  intro i
  rw [Nat.testBit_shiftLeft, testBit_maskB, testBit_maskB]
  by_cases h : n ≤ i
  · have e : decide (i - n < m) = decide (i < n + m) := by rw [Bool.eq_iff_iff]; simp; omega
    simp [h, e]
  · simp [h]
theorem mask_shift_int {n m : Nat} (hnm : n + m ≤ 16) (p : Nat → Bool) : ((maskB m p : Nat) : Int) * 2 ^ n % 4294967296 = ((maskB (n + m) (fun b => decide (n ≤ b) && p (b - n)) : Nat) : Int) := by
  rw [← mask_shift, Nat.shiftLeft_eq]
  have h1 := maskB_small (n := n + m) (by omega) (fun b => decide (n ≤ b) && p (b - n))
  rw [← mask_shift, Nat.shiftLeft_eq] at h1
  have e2 : ((2 ^ n : Nat) : Int) = 2 ^ n := by simp
  rw [← e2, ← Int.natCast_mul]
  generalize maskB m p * 2 ^ n = q at *
  omega
theorem NB_beside (n m : Nat) (e f : Nat → Nat → Bool) : NB (n + m) (besideE n e f) = NB n e ++ (List.range m).map fun v => maskB (n + m) (fun b => decide (n ≤ b) && f v (b - n)) := by
  unfold NB
  rw [List.range_add, List.map_append, List.map_map]
  congr 1
  · apply List.map_congr_left
    intro u hu
    have hu' := List.mem_range.1 hu
    apply Nat.eq_of_testBit_eq
    intro i
    rw [testBit_maskB, testBit_maskB]
    have h1 : ¬ n ≤ u := by omega
    by_cases hi : i < n
    · have : i < n + m := by omega
      simp [besideE, hu', hi, this, h1]
    · simp [besideE, hi, h1]
  · apply List.map_congr_left
    intro v _
    refine maskB_ext fun b _ => ?_
    have : ¬ n + v < n := by omega
    simp [besideE, this]

set_option maxHeartbeats 4000000 in
theorem implBeside (v : Value) (xss : List (List Int)) (v2 : Value) (yss : List (List Int)) (w : World) (ht : Tab w) (hr : RdSS v xss w) (hr2 : RdSS v2 yss w) (rows : List (List Int)) (ok : Bool) (h : BesideP xss yss rows ok) :
    Calls Tryd.prog 49 #[.agg #[v], .agg #[v2]] w (GRes w rows ok) := by
  have hxl : xss.length ≤ maxLen := (let ⟨_, h⟩ := hr.ex; by have := h.outer.len; have := h.len; simp at *; omega)
  have hyl : yss.length ≤ maxLen := (let ⟨_, h⟩ := hr2.ex; by have := h.outer.len; have := h.len; simp at *; omega)
  unfold maxLen at hxl hyl
  obtain ⟨a, c, rfl⟩ := hr.shape
  obtain ⟨a2, c2, rfl⟩ := hr2.shape
  obtain ⟨B, hB⟩ : ∃ B, w.heap.size = B := ⟨_, rfl⟩
  have hTB : 0 < B := by rw [← hB]; exact ht.lt
  have u1 : Below B w (w.alloc (.cells #[.slice a xss.length c] 35)) := by subst hB; exact below_alloc' _ _
  have VA : VC 35 B #[.slice a xss.length c] (w.alloc (.cells #[.slice a xss.length c] 35)) := VC.new hB
  have z1 : (w.alloc (.cells #[.slice a xss.length c] 35)).heap.size = B + 1 := by simp [hB]
  have u2 := u1.alloc (by omega) (.cells #[.slice a2 yss.length c2] 35)
  have VB : VC 35 (B + 1) #[.slice a2 yss.length c2] ((w.alloc (.cells #[.slice a xss.length c] 35)).alloc (.cells #[.slice a2 yss.length c2] 35)) := VC.new z1
  replace VA := VA.upd (Upd.alloc _ (.cells #[.slice a2 yss.length c2] 35)) (by omega)
  have z2 : ((w.alloc (.cells #[.slice a xss.length c] 35)).alloc (.cells #[.slice a2 yss.length c2] 35)).heap.size = B + 2 := by simp [hB]
  have u3 := u2.alloc (by omega) (.cells #[.slice none 0 0] 35)
  have VR : VC 35 (B + 2) #[.slice none 0 0] (((w.alloc (.cells #[.slice a xss.length c] 35)).alloc (.cells #[.slice a2 yss.length c2] 35)).alloc (.cells #[.slice none 0 0] 35)) := VC.new z2
  replace VA := VA.upd (Upd.alloc _ (.cells #[.slice none 0 0] 35)) (by omega)
  replace VB := VB.upd (Upd.alloc _ (.cells #[.slice none 0 0] 35)) (by omega)
  have z3 : (((w.alloc (.cells #[.slice a xss.length c] 35)).alloc (.cells #[.slice a2 yss.length c2] 35)).alloc (.cells #[.slice none 0 0] 35)).heap.size = B + 3 := by simp [hB]
  clear u1 u2 z1 z2
  have hca := VA.cell
  have hcb := VB.cell
  have H := Lib.hid h
  clear h
  go_enter Tryd.func49, Tryd.ntmps49
  go_wp2_with fail
  generalize ((w.alloc (.cells #[.slice a xss.length c] 35)).alloc (.cells #[.slice a2 yss.length c2] 35)).alloc (.cells #[.slice none 0 0] 35) = W at *
  have hbad : (okB xss = false ∨ okB yss = false ∨ 16 < xss.length + yss.length) → rows = [] ∧ ok = false := fun hb' => by
    rcases H.out with ⟨_, h2⟩ | ⟨h1, h2, h3, _⟩
    · exact h2
    · rcases hb' with h' | h' | h'
      · rw [h1] at h'; cases h'
      · rw [h2] at h'; cases h'
      · omega
  have HBAD := Lib.hid hbad
  clear hbad
  refine (implOk _ xss W (hr.below u3 hB)).mono ?_
  rintro e1 w1 ⟨rfl, hb1⟩
  replace VA := VA.upd (Upd.of_below hb1) (by omega)
  replace VB := VB.upd (Upd.of_below hb1) (by omega)
  replace VR := VR.upd (Upd.of_below hb1) (by omega)
  have hb := u3.trans (hb1.mono (by omega))
  have hz1 : B + 3 ≤ w1.heap.size := by have := hb1.size; omega
  clear hca hcb hb1 u3
  have hca := VA.cell
  have hcb := VB.cell
  cases hok : okB xss with
  | false =>
    obtain ⟨rfl, rfl⟩ := HBAD.out (.inl hok)
    have hcr := VR.cell
    have hfr := VR.free
    have HCE := Lib.hid (VR.set (.slice none 0 0)).cell
    have HB := Lib.hid (hb.setCell (p := ⟨B + 2, 0, none⟩) (by simp) (.slice none 0 0))
    clear hok
    go_wp2_with fail
    refine bodyPost_ret (v := .tuple #[.agg #[.slice none 0 0], .bool false]) (by simp [results, Tryd.results49, go_sem, HCE.out]) rfl ?_
    exact GRes.nothing _ _ (by rw [hB]; exact HB.out)
  | true =>
  have hx16 : 1 ≤ xss.length ∧ xss.length ≤ 16 := by
    have : OkP xss := by unfold okB at hok; simpa using hok
    exact this.1
  go_wp2_with fail
  refine (implOk _ yss w1 (hr2.below hb hB)).mono ?_
  rintro e1 w2 ⟨rfl, hb2⟩
  replace VA := VA.upd (Upd.of_below hb2) (by omega)
  replace VB := VB.upd (Upd.of_below hb2) (by omega)
  replace VR := VR.upd (Upd.of_below hb2) (by omega)
  replace hb := hb.trans (hb2.mono (by omega))
  have hz2 : B + 3 ≤ w2.heap.size := by have := hb2.size; omega
  clear hca hcb hb2
  have hca := VA.cell
  have hcb := VB.cell
  have hcr := VR.cell
  have hfr := VR.free
  have HCE0 := Lib.hid (VR.set (.slice none 0 0)).cell
  have HB0 := Lib.hid (hb.setCell (p := ⟨B + 2, 0, none⟩) (by simp) (.slice none 0 0))
  cases hok2 : okB yss with
  | false =>
    obtain ⟨rfl, rfl⟩ := HBAD.out (.inr (.inl hok2))
    clear hok hok2
    go_wp2_with fail
    refine bodyPost_ret (v := .tuple #[.agg #[.slice none 0 0], .bool false]) (by simp [results, Tryd.results49, go_sem, HCE0.out]) rfl ?_
    exact GRes.nothing _ _ (by rw [hB]; exact HB0.out)
  | true =>
  have hy16 : 1 ≤ yss.length ∧ yss.length ≤ 16 := by
    have : OkP yss := by unfold okB at hok2; simpa using hok2
    exact this.1
  by_cases h16 : 16 < xss.length + yss.length
  · obtain ⟨rfl, rfl⟩ := HBAD.out (.inr (.inr h16))
    have hgt : (16 : Int) < (xss.length : Int) + yss.length := by omega
    clear hok hok2 h16
    go_wp2_with fail
    refine bodyPost_ret (v := .tuple #[.agg #[.slice none 0 0], .bool false]) (by simp [results, Tryd.results49, go_sem, HCE0.out]) rfl ?_
    exact GRes.nothing _ _ (by rw [hB]; exact HB0.out)
  have hgt : ¬ (16 : Int) < (xss.length : Int) + yss.length := by omega
  obtain ⟨e, f, hA, hB2, hx, hy, rfl, rfl⟩ : ∃ e f, Adj xss.length e ∧ Adj yss.length f ∧ xss = rowsB xss.length e ∧ yss = rowsB yss.length f ∧ rows = rowsB (xss.length + yss.length) (besideE xss.length e f) ∧ ok = true := by
    rcases H.out with ⟨h1, _⟩ | ⟨_, _, _, e, f, h1, h2, h3, h4, h5, h6⟩
    · rcases h1 with h' | h' | h'
      · rw [hok] at h'; cases h'
      · rw [hok2] at h'; cases h'
      · exact (h16 h').elim
    · exact ⟨e, f, h1, h2, h3, h4, h5, h6⟩
  have HX := Lib.hid hx
  have HY := Lib.hid hy
  have hr' := hr
  have hr2' := hr2
  rw [HX.out] at hr'
  rw [HY.out] at hr2'
  rw [rowsB_length] at hr' hr2'
  obtain ⟨n, hn⟩ : ∃ n, xss.length = n := ⟨_, rfl⟩
  obtain ⟨m, hm⟩ : ∃ m, yss.length = m := ⟨_, rfl⟩
  rw [hn] at hr' hx16 VA hca hgt hA
  rw [hm] at hr2' hy16 VB hcb hgt hB2
  clear hok hok2 h16 hx hy HBAD H
  go_wp2_with fail
  refine (netsOf_any _ n e (by omega) w2 (hr'.below hb hB)).mono ?_
  rintro e1 w3 ⟨u3, rfl, hN3, hb3⟩
  obtain ⟨g3, c3, rfl⟩ := owns_head hN3 (by omega)
  obtain ⟨S3, hS3⟩ : ∃ S, w3.heap.size = S := ⟨_, rfl⟩
  have hz3 : B + 3 ≤ S3 := by have := hb3.size; omega
  replace VB := VB.upd (Upd.of_below hb3) (by omega)
  replace VR := VR.upd (Upd.of_below hb3) (by omega)
  replace hb := hb.trans (hb3.mono (by omega))
  have HCL := Lib.hid (clone_nets g3 n c3 (sets (NB n e)) _ (by omega) (sets_one _) w3 hN3)
  clear hca hcb hcr hfr hb3 HCE0 HB0 hN3 VA
  go_wp2_with fail
  refine HCL.out.mono ?_
  rintro e1 w4 ⟨u4, rfl, hN4, hb4⟩
  obtain ⟨a4, c4, rfl⟩ := owns_shape hN4
  obtain ⟨S4, hS4⟩ : ∃ S, w4.heap.size = S := ⟨_, rfl⟩
  have hz4 : S3 ≤ S4 := by have := hb4.size; omega
  rw [hS3] at hN4 hb4
  have hcb := (VB.belowAt hb4 (by omega)).cell
  have HN5 := Lib.hid (netsOf_any _ m f (by omega) w4 (hr2'.below (hb.trans (hb4.mono (by omega))) hB))
  clear HCL
  go_wp2_with fail
  refine HN5.out.mono ?_
  rintro e1 w5 ⟨u5, rfl, hN5, hb5⟩
  obtain ⟨a5, c5, rfl⟩ := owns_shape hN5
  obtain ⟨S5, hS5⟩ : ∃ S, w5.heap.size = S := ⟨_, rfl⟩
  have hz5 : S4 ≤ S5 := by have := hb5.size; omega
  have hin5 : ∀ y, (Value.slice a5 m c5).ownBlock = some y → S4 ≤ y ∧ y < S5 := fun y hy => by have := owns_lt hN5 hy; omega
  have hin4 : ∀ y, (Value.slice a4 n c4).ownBlock = some y → y < S4 ∨ S5 ≤ y := fun y hy => by have := (owns_lt hN4 hy).2; omega
  have HIN5 := Lib.hid hin5
  have HIN4 := Lib.hid hin4
  have hR5 : Row w5 1 (.slice a5 m c5) m (sets (NB m f)) := Row.of_owns hN5
  have hO5 := owns_below hN4 hb5
  have hbb : Below S3 w3 w5 := hb4.trans (hb5.mono (by omega))
  clear HN5 hcb hin5 hin4 hN4 hN5 hb4 hb5
  go_wp2_with fail
  go_loopw [36, 7] (fun i u wr => ∃ k : Nat, k ≤ m ∧ i = .int .i64 k ∧ wr.ownsRow S3 78 1 u (n + k) (sets (NB n e ++ ((List.range m).map fun v => maskB (n + m) (fun b => decide (n ≤ b) && f v (b - n))).take k)) ∧
      Hid (∀ y, u.ownBlock = some y → y < S4 ∨ S5 ≤ y) ∧ Row wr 1 (.slice a5 m c5) m (sets (NB m f)) ∧ S5 ≤ wr.heap.size ∧ Below S3 w3 wr) (fun i _ _ => m - (intOf i).toNat)
  case atStart => exact ⟨0, Nat.zero_le _, rfl, by simpa using hO5, HIN4, hR5, by omega, hbb⟩
  case round =>
    clear hO5 hR5 hbb HIN4
    obtain ⟨k, hk, rfl, hO, HIN, hR, hz6, hbk⟩ := hrel
    by_cases hlt : k < m
    · obtain ⟨rb, ro, x, rfl, hc, HX⟩ := hR.setAt (j := k) (by simpa using hlt)
      obtain rfl : maskB m (f k) = x := by have h := HX.out; rw [NB_at f hlt] at h; exact Option.some.inj h
      obtain ⟨x, HXX⟩ : ∃ z : Int, Hid (((maskB m (f k) : Nat) : Int) = z) := ⟨_, Lib.hid rfl⟩
      obtain ⟨y, HYY⟩ : ∃ z : Nat, Hid (maskB (n + m) (fun b => decide (n ≤ b) && f k (b - n)) = z) := ⟨_, Lib.hid rfl⟩
      have hsh : x * 2 ^ n % 4294967296 = (y : Int) := by rw [← HXX.out, ← HYY.out]; exact mask_shift_int (by omega) (f k)
      have hxb : 0 ≤ x ∧ x < 4294967296 := by rw [← HXX.out]; have := maskB_small (n := m) (by omega) (f k); omega
      obtain ⟨hx0, hx1⟩ := hxb
      rw [HXX.out] at hc
      obtain ⟨Sx, hSx⟩ : ∃ S, wr.heap.size = S := ⟨_, rfl⟩
      have VX : VC 78 Sx #[.int .u32 (y : Int)] (wr.alloc (.cells #[.int .u32 (y : Int)] 78)) := VC.new hSx
      have hr1 := row_one VX
      have hOa := hO.alloc (.cells #[.int .u32 (y : Int)] 78)
      have hRa := hR.alloc (.cells #[.int .u32 (y : Int)] 78)
      have hba := hbk.alloc (by omega) (.cells #[.int .u32 (y : Int)] 78)
      have hza : (wr.alloc (.cells #[.int .u32 (y : Int)] 78)).heap.size = Sx + 1 := by simp [hSx]
      have HTK : Hid (sets (NB n e ++ ((List.range m).map fun v => maskB (n + m) (fun b => decide (n ≤ b) && f v (b - n))).take (k + 1)) = sets (NB n e ++ ((List.range m).map fun v => maskB (n + m) (fun b => decide (n ≤ b) && f v (b - n))).take k) ++ [.int .u32 (y : Int)]) := Lib.hid (by
        rw [take_snoc (x := y) (by simp [hlt, HYY.out]), ← List.append_assoc]
        simp [sets])
      clear HX
      go_wp2_with (at_builtin; refine wpList_extend_where _ rfl _ _ 82 rfl S3 78 _ 4 Tryd.underlying82 infoV rfl _ _ _ rfl hOa _ 1 _ (by omega) rfl hr1 (by intro u hu; rw [List.mem_singleton.1 hu]; rfl) (by unfold maxLen; omega) (by omega) (by omega) ?_; intro g7 c7 w7 ho7 hg7 hw7)
      go_roundw
      case rel =>
        have hne : ∀ y, (Value.slice (some ⟨rb, ro, none⟩) m c5).ownBlock = some y → ∀ z, _ = some z → y ≠ z := fun y hy z hz e => by
          subst e
          have h1 := HIN5.out _ hy
          have h2 := HIN.out _ hz
          omega
        refine ⟨k + 1, by omega, by go_num, by rw [HTK.out]; exact ho7, Lib.hid (fun y hy => ?_), hRa.keep (fun y hy hlt' => hg7.block y hlt' (fun e => ?_)), by have := hg7.size; omega, hba.grown hg7 (by omega) (fun y hy => (owns_lt hOa hy).1)⟩
        · have hy' : g7 = y := by simpa [Value.ownBlock] using hy
          subst hy'
          rcases hw7 with h | h
          · exact HIN.out _ h
          · omega
        · exact hne _ hy _ e.symm rfl
      case measure => simp [intOf]; omega
    · obtain rfl : k = m := by omega
      rw [List.take_of_length_le (by simp), ← NB_beside] at hO
      have VR6 := VR.belowAt hbk (by omega)
      have hb6 := hb.trans (hbk.mono (by omega))
      have hrow : Row wr 1 u7 (NB (n + k) (besideE n e f)).length (sets (NB (n + k) (besideE n e f))) := by rw [NB_length]; exact Row.of_owns hO
      have HGR := Lib.hid (graph_any u7 (NB (n + k) (besideE n e f)) (NB_small (by omega) _) (by simp; omega) wr (ht.keep hb6 hTB) hrow)
      obtain ⟨ua, uc, rfl⟩ := owns_shape hO
      clear hrow
      go_wp2_with fail
      refine HGR.out.mono ?_
      rintro e1 w8 ⟨u8, us, rfl, hG8, hb8⟩
      rw [rowsOf_NB (by omega)] at hG8
      obtain ⟨uua, uuc, rfl⟩ := owns_shape hG8.outer
      have HF := Lib.hid (GRes.put (b := B + 2) hB hb6 (by omega) (by omega) hG8 hb8 true)
      replace VR6 := VR6.upd (Upd.of_below hb8) (by omega)
      have HCE := Lib.hid (VR6.set (.slice uua us.length uuc)).cell
      clear hG8 hb8 HGR hb6
      have hcr := VR6.cell
      have hfr := VR6.free
      go_wp2_with fail
      refine bodyPost_ret (v := .tuple #[.agg #[.slice uua us.length uuc], .bool true]) (by simp [results, Tryd.results49, go_sem, HCE.out]) rfl ?_
      have := HF.out
      rw [← hn, ← hm] at this
      exact this
end Go.Proofs.YtplpbgjmejggiaaDoor
