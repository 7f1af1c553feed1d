/-
  'l6Of', 'PathGraph', 'LoopGraph' of the reference; 'pathNets', 'PathGraph', 'LoopGraph' of the program.
-/
import Derived.Test.YtecjgpokfdpekaaStep
namespace Go.Proofs.Ytecjgpokfdpekaa
open Go.RowKit

/-- The nets of a path on n vertices, k of its edges laid. -/
def pathM (n k : Nat) : List Nat := (List.range k).foldl (fun ms v => joinS ms v (v + 1)) (List.replicate n 0)
theorem pathM_succ (n k : Nat) : pathM n (k + 1) = joinS (pathM n k) k (k + 1) := by simp [pathM, List.range_succ]
@[simp] theorem pathM_length (n k : Nat) : (pathM n k).length = n := by
  induction k with
  | zero => simp [pathM]
  | succ k ih => rw [pathM_succ, joinS_length, ih]

theorem of_yes (n : Nat) (h1 : 1 ≤ n) (h2 : n ≤ 16) (w : World) :
    Calls Try.prog 96 #[.int .i64 n] w (GRes w (rowsOf (List.replicate n 0)) true) := by
  have hin : decide ((1 : Int) ≤ n ∧ (n : Int) ≤ 16) = true := by simp; omega
  obtain ⟨B, hBe⟩ : ∃ B, w.heap.size = B := ⟨_, rfl⟩
  have hR0 : GC (w.alloc (.cells #[.slice none 0 0] 26)) B (.slice none 0 0) := by subst hBe; exact GC.new _ _
  have hba : Below B w (w.alloc (.cells #[.slice none 0 0] 26)) := by subst hBe; exact below_alloc _ _
  go_enter Try.func96, Try.ntmps96
  go_wp2_with fail
  refine (l1In_any _ _ _ _).mono ?_
  rintro e w' ⟨rfl, rfl⟩
  rw [hin]
  go_wp2_with fail
  refine (empty_any n (by omega) _).mono ?_
  rintro e w1 ⟨u, vs, rfl, hG, hb1⟩
  obtain ⟨a, c, rfl⟩ := owns_shape hG.outer
  have hR1 := hR0.below hb1
  have hc := hR1.cell
  have hf := hR1.free
  rw [← rowsOf_zeros] at hG
  have hfin := GRes.stored hBe hR0 hba hG hb1 true
  have hce := (hR1.set (.slice a vs.length c)).cell
  have HF := Lib.hid hfin
  have HCE := Lib.hid hce
  clear hb1 hfin hce
  go_wp2_with fail
  refine bodyPost_ret (v := .tuple #[.agg #[.slice a vs.length c], .bool true]) (by simp [results, Try.results96, go_sem, HCE.out]) rfl ?_
  exact HF.out

theorem of_no (n : Int) (h : ¬ (1 ≤ n ∧ n ≤ 16)) (w : World) :
    Calls Try.prog 96 #[.int .i64 n] w (GRes w [] false) := by
  have hin : decide ((1 : Int) ≤ n ∧ n ≤ 16) = false := by simpa using h
  go_enter Try.func96, Try.ntmps96
  go_wp2_with fail
  refine (l1In_any _ _ _ _).mono ?_
  rintro e w' ⟨rfl, rfl⟩
  rw [hin]
  go_wp2_with fail
  refine bodyPost_ret (v := .tuple #[.agg #[.slice none 0 0], .bool false]) (by simp [results, Try.results96, go_sem]) rfl ?_
  exact GRes.nothing _ _ (below_alloc _ _)

/-- A graph that a call made goes into a variable. -/
theorem SG.ofRes {w0 w1 : World} {B : Nat} {a : Option Addr} {n c : Nat} {vs : List Value} {ms : List Nat} {o : Obj} (hB : w0.heap.size = B) (hR : GC (w0.alloc o) B (.slice none 0 0))
    (hG : OwnG w1 (w0.alloc o).heap.size 43 2 (.slice a n c) vs ((rowsOf ms).map ints)) (hb : Below (w0.alloc o).heap.size (w0.alloc o) w1) (hl : ms.length = n) :
    SG w0 B w1.heap.size a n c vs ms (w1.alloc (.cells #[.slice a n c] 26)) :=
  SG.start (hR.below hb) (by simpa [hB] using hG) (by subst hB; exact (below_alloc _ _).trans (hb.mono (by simp))) hl

set_option maxHeartbeats 1000000 in
theorem specPath_yes (n : Nat) (h1 : 1 ≤ n) (h2 : n ≤ 16) (w : World) :
    Calls Try.prog 88 #[.int .i64 n] w (GRes w (rowsOf (pathM n (n - 1))) true) := by
  obtain ⟨B, hBe⟩ : ∃ B, w.heap.size = B := ⟨_, rfl⟩
  have hR0 : GC (w.alloc (.cells #[.slice none 0 0] 26)) B (.slice none 0 0) := by subst hBe; exact GC.new _ _
  go_enter Try.func88, Try.ntmps88
  go_wp2_with fail
  refine (of_yes n h1 h2 _).mono ?_
  rintro e w1 ⟨u, vs, rfl, hG, hb1⟩
  obtain ⟨a, c, rfl⟩ := owns_shape hG.outer
  have hvl : vs.length = n := by rw [hG.len]; simp
  rw [hvl] at hG ⊢
  have hS := SG.ofRes (ms := pathM n 0) hBe hR0 hG hb1 (by simp)
  obtain ⟨C, hCe⟩ : ∃ C, w1.heap.size = C := ⟨_, rfl⟩
  rw [hCe] at hS
  clear hG hb1 hvl hR0
  go_wp2_with fail
  go_loopw [6] (fun i wr => ∃ (k : Nat) (vs : List Value), k < n ∧ i = .int .i64 ((k + 1 : Nat) : Int) ∧ SG w B C a n c vs (pathM n k) wr) (fun i _ => n - (intOf i).toNat)
  case atStart => exact ⟨0, vs, by omega, rfl, hS⟩
  case round =>
    obtain ⟨k, vs', hk, rfl, hS⟩ := hrel
    have hcC := hS.var.cell
    by_cases hlt : k + 1 < n
    · go_wp2_with fail
      refine (hS.link k (k + 1) _ _ (by omega) (by omega) (by omega) (by omega) (by omega)).mono ?_
      rintro e w2 ⟨rfl, vs2, hS2⟩
      have hcC2 := hS2.var.cell
      have hfC2 := hS2.var.free
      go_wp2_with fail
      go_roundw
      case rel => exact ⟨k + 1, vs2, by omega, by go_num, by rw [pathM_succ]; exact hS2.store⟩
      case measure => simp [intOf]; omega
    · have hcR := hS.res.cell
      have hfR := hS.res.free
      have hfin := hS.done hBe true
      have hce := (hS.res.set (.slice a n c)).cell
      obtain rfl : k = n - 1 := by omega
      have HF := Lib.hid hfin
      have HCE := Lib.hid hce
      clear hfin hce
      go_wp2_with fail
      refine bodyPost_ret (v := .tuple #[.agg #[.slice a n c], .bool true]) (by simp [results, Try.results88, go_sem, HCE.out]) rfl ?_
      exact HF.out

set_option maxHeartbeats 1000000 in
theorem specPath_no (n : Int) (h : ¬ (1 ≤ n ∧ n ≤ 16)) (w : World) :
    Calls Try.prog 88 #[.int .i64 n] w (GRes w [] false) := by
  obtain ⟨B, hBe⟩ : ∃ B, w.heap.size = B := ⟨_, rfl⟩
  have hR0 : GC (w.alloc (.cells #[.slice none 0 0] 26)) B (.slice none 0 0) := by subst hBe; exact GC.new _ _
  have H := Lib.hid h
  clear h
  go_enter Try.func88, Try.ntmps88
  go_wp2_with fail
  refine (of_no n H.out _).mono ?_
  rintro e w1 ⟨u, vs, rfl, hG, hb1⟩
  obtain ⟨a, c, rfl⟩ := owns_shape hG.outer
  have hvl : vs.length = 0 := by rw [hG.len]; simp
  rw [hvl] at hG ⊢
  have hS := SG.ofRes (ms := []) hBe hR0 hG hb1 rfl
  obtain ⟨C, hCe⟩ : ∃ C, w1.heap.size = C := ⟨_, rfl⟩
  rw [hCe] at hS
  clear hG hb1 hvl hR0
  go_wp2_with fail
  go_loopw [6] (fun i wr => i = .int .i64 1 ∧ SG w B C a 0 c vs [] wr) (fun _ _ => 0)
  case atStart => exact ⟨rfl, hS⟩
  case round =>
    obtain ⟨rfl, hS⟩ := hrel
    have hcC := hS.var.cell
    have hcR := hS.res.cell
    have hfR := hS.res.free
    have HF := Lib.hid (hS.done hBe false)
    have HCE := Lib.hid (hS.res.set (.slice a 0 c)).cell
    by_cases hlt : 1 < n
    all_goals
      go_wp2_with fail
      refine bodyPost_ret (v := .tuple #[.agg #[.slice a 0 c], .bool false]) (by simp [results, Try.results88, go_sem, HCE.out]) rfl ?_
      exact HF.out

/-! ### LoopGraph -/
def loopM (n : Nat) : List Nat := joinS (pathM n (n - 1)) 0 (n - 1)
@[simp] theorem loopM_length (n : Nat) : (loopM n).length = n := by simp [loopM]

set_option maxHeartbeats 1000000 in
theorem specLoop_yes (n : Nat) (h1 : 3 ≤ n) (h2 : n ≤ 16) (w : World) :
    Calls Try.prog 87 #[.int .i64 n] w (GRes w (rowsOf (loopM n)) true) := by
  obtain ⟨B, hBe⟩ : ∃ B, w.heap.size = B := ⟨_, rfl⟩
  have hR0 : GC (w.alloc (.cells #[.slice none 0 0] 26)) B (.slice none 0 0) := by subst hBe; exact GC.new _ _
  go_enter Try.func87, Try.ntmps87
  go_wp2_with fail
  refine (specPath_yes n (by omega) h2 _).mono ?_
  rintro e w1 ⟨u, vs, rfl, hG, hb1⟩
  obtain ⟨a, c, rfl⟩ := owns_shape hG.outer
  have hvl : vs.length = n := by rw [hG.len]; simp
  rw [hvl] at hG ⊢
  have hS := SG.ofRes (ms := pathM n (n - 1)) hBe hR0 hG hb1 (by simp)
  obtain ⟨C, hCe⟩ : ∃ C, w1.heap.size = C := ⟨_, rfl⟩
  rw [hCe] at hS
  clear hG hb1 hvl hR0
  have hl := hS.link 0 (n - 1) 0 ((n : Int) - 1) (by simp) (by omega) (by omega) (by omega) (by omega)
  rw [hCe] at hCe
  have hcC := hS.var.cell
  generalize hW : w1.alloc (.cells #[.slice a n c] 26) = W at *
  have HW := Lib.hid hW
  clear hW
  go_wp2_with fail
  rw [HW.out]
  go_wp2_with fail
  refine hl.mono ?_
  rintro e w2 ⟨rfl, vs2, hS2⟩
  have hcR := hS2.res.cell
  have hfR := hS2.res.free
  have HF := Lib.hid (hS2.done hBe true)
  have HCE := Lib.hid (hS2.res.set (.slice a n c)).cell
  go_wp2_with fail
  refine bodyPost_ret (v := .tuple #[.agg #[.slice a n c], .bool true]) (by simp [results, Try.results87, go_sem, HCE.out]) rfl ?_
  exact HF.out

set_option maxHeartbeats 1000000 in
theorem specLoop_no (n : Int) (h : ¬ (3 ≤ n ∧ n ≤ 16)) (w : World) :
    Calls Try.prog 87 #[.int .i64 n] w (GRes w [] false) := by
  by_cases hp : 1 ≤ n ∧ n ≤ 16
  · obtain ⟨k, rfl⟩ := Int.eq_ofNat_of_zero_le (show 0 ≤ n by omega)
    have h3 : (k : Int) < 3 := by omega
    have h1 : 1 ≤ k := by omega
    clear h hp
    go_enter Try.func87, Try.ntmps87
    go_wp2_with fail
    refine (specPath_yes k h1 (by omega) _).mono ?_
    rintro e w1 ⟨u, vs, rfl, hG, hb1⟩
    obtain ⟨a, c, rfl⟩ := owns_shape hG.outer
    have hR0 := GC.new w (.slice none 0 0)
    have hR := (hR0.below hb1).alloc (.cells #[.slice a vs.length c] 26)
    have hb : Below w.heap.size w (w1.alloc (.cells #[.slice a vs.length c] 26)) := ((below_alloc _ _).trans (hb1.mono (by simp))).alloc (by have := hb1.size; simp at this; omega) _
    have hcR := hR.cell
    have hfR := hR.free
    have HCE := Lib.hid (hR.set (.slice none 0 0)).cell
    clear hG hb1
    go_wp2_with fail
    refine bodyPost_ret (v := .tuple #[.agg #[.slice none 0 0], .bool false]) (by simp [results, Try.results87, go_sem, HCE.out]) rfl ?_
    exact GRes.nothing _ _ (hb.setCell (by simp) _)
  · have H := Lib.hid hp
    clear hp h
    go_enter Try.func87, Try.ntmps87
    go_wp2_with fail
    refine (specPath_no n H.out _).mono ?_
    rintro e w1 ⟨u, vs, rfl, hG, hb1⟩
    obtain ⟨a, c, rfl⟩ := owns_shape hG.outer
    have hR0 := GC.new w (.slice none 0 0)
    have hR := (hR0.below hb1).alloc (.cells #[.slice a vs.length c] 26)
    have hb : Below w.heap.size w (w1.alloc (.cells #[.slice a vs.length c] 26)) := ((below_alloc _ _).trans (hb1.mono (by simp))).alloc (by have := hb1.size; simp at this; omega) _
    have hcR := hR.cell
    have hfR := hR.free
    have HCE := Lib.hid (hR.set (.slice none 0 0)).cell
    clear hG hb1
    go_wp2_with fail
    refine bodyPost_ret (v := .tuple #[.agg #[.slice none 0 0], .bool false]) (by simp [results, Try.results87, go_sem, HCE.out]) rfl ?_
    exact GRes.nothing _ _ (hb.setCell (by simp) _)

end Go.Proofs.Ytecjgpokfdpekaa
