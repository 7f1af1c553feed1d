/-
  'GraphOf' of the reference and of the program.
-/
import Derived.Test.YtbhobmngnjfgfaaDoorComplement
namespace Go.Proofs.YtbhobmngnjfgfaaDoor
open Go.RowKit

/-- An edge: two different vertices below n, the smaller one first. -/
def PairP (n : Nat) (xs : List Int) : Prop := xs.length = 2 ∧ SetP n xs
instance (n : Nat) (xs : List Int) : Decidable (PairP n xs) := by unfold PairP; infer_instance
theorem PairP.parts {n : Nat} {xs : List Int} (h : PairP n xs) : ∃ u v : Nat, u < v ∧ v < n ∧ xs = [(u : Int), (v : Int)] := by
  obtain ⟨h1, h2, h3⟩ := h
  match xs, h1 with
  | [x, y], _ =>
    have hx := h2 x (by simp)
    have hy := h2 y (by simp)
    have hxy : x < y := by simpa using h3
    exact ⟨x.toNat, y.toNat, by omega, by omega, by rw [Int.toNat_of_nonneg hx.1, Int.toNat_of_nonneg hy.1]⟩

/-- The edges of a list, laid one by one. -/
def laidE (es : List (List Int)) : Nat → Nat → Bool := es.foldl (fun f xs => plus f (xs.getD 0 0).toNat (xs.getD 1 0).toNat) (fun _ _ => false)
theorem laidE_succ {es : List (List Int)} {k : Nat} {u v : Nat} (h : es[k]? = some [(u : Int), (v : Int)]) : laidE (es.take (k + 1)) = plus (laidE (es.take k)) u v := by
  unfold laidE
  rw [take_snoc h, List.foldl_append]
  simp

/-- 'GraphOf' gives a graph. -/
def OkE (n : Int) (es : List (List Int)) : Prop := (1 ≤ n ∧ n ≤ 16) ∧ es.length ≤ 120 ∧ ∀ e ∈ es, PairP n.toNat e

theorem ok_snoc {n : Nat} {es : List (List Int)} {k : Nat} {xs : List Int} (hx : es[k]? = some xs) (h : ∀ e ∈ es.take k, PairP n e) (h1 : PairP n xs) : ∀ e ∈ es.take (k + 1), PairP n e := by
  rw [take_snoc hx]
  intro e he
  rcases List.mem_append.1 he with he | he
  · exact h e he
  · rw [List.mem_singleton.1 he]; exact h1

theorem set_is (v : Value) (xs : List Int) (n : Nat) (hn : n ≤ 1000000) (b : Bool) (h : decide (SetP n xs) = b) (w : World) (hr : Row w 1 v xs.length (ints xs)) :
    Calls Tryd.prog 160 #[v, .int .i64 n] w fun e w' => e = .returned (.bool b) ∧ Below w.heap.size w w' := by
  subst h; exact set_any v xs n hn w hr

theorem pair_cells {w : World} {u : Value} {x y : Int} (h : Row w 1 u 2 (ints [x, y])) :
    ∃ b o c, u = .slice (some ⟨b, o, none⟩) 2 c ∧ w.cell? ⟨b, o, none⟩ = some (.int .i64 x) ∧ w.cell? ⟨b, o + 1, none⟩ = some (.int .i64 y) := by
  obtain ⟨a, c, rfl, h1, h2, h3, h4, h5⟩ := h
  obtain ⟨b, o, rfl, hc⟩ := h5 0 (.int .i64 x) rfl
  obtain ⟨b', o', e, hc'⟩ := h5 1 (.int .i64 y) rfl
  obtain ⟨rfl, rfl⟩ : b = b' ∧ o = o' := by simpa using e
  exact ⟨b, o, c, rfl, hc, hc'⟩

set_option maxHeartbeats 2000000 in
theorem specGraphOf (n : Int) (v : Value) (es : List (List Int)) (w : World) (hr : RdSS v es w) (rows : List (List Int)) (ok : Bool)
    (h : (¬ OkE n es ∧ rows = [] ∧ ok = false) ∨ (OkE n es ∧ rows = rowsB n.toNat (laidE es) ∧ ok = true)) :
    Calls Tryd.prog 108 #[.int .i64 n, v] w (GRes w rows ok) := by
  obtain ⟨vs, hG⟩ := hr.ex
  have hl := hG.outer.len
  unfold maxLen at hl
  have e1 : vs.length = es.length := by simpa using hG.len
  obtain ⟨a, c, rfl, -, -, -⟩ := id hG.outer
  rw [e1] at hG hl ⊢
  clear e1 hr
  have H := Lib.hid h
  clear h
  obtain ⟨B, hB⟩ : ∃ B, w.heap.size = B := ⟨_, rfl⟩
  have u1 : Below B w (w.alloc (.cells #[.slice none 0 0] 56)) := by subst hB; exact below_alloc' _ _
  have hz1 : (w.alloc (.cells #[.slice none 0 0] 56)).heap.size = B + 1 := by simp [hB]
  have hR0 : GC (w.alloc (.cells #[.slice none 0 0] 56)) B (.slice none 0 0) := by subst hB; exact GC.new _ _
  have hcr := hR0.cell
  have hfr := hR0.free
  have HCE0 := Lib.hid (hR0.set (.slice none 0 0)).cell
  have HB0 := Lib.hid (u1.setCell (p := ⟨B, 0, none⟩) (by simp) (.slice none 0 0))
  have hno : ∀ (hn : ¬ OkE n es), Hid (rows = [] ∧ ok = false) := fun hn => by
    rcases H.out with ⟨_, h2⟩ | ⟨h1, _⟩
    · exact Lib.hid h2
    · exact (hn h1).elim
  have HNO := Lib.hid hno
  clear hno
  by_cases hin : 1 ≤ n ∧ n ≤ 16
  case neg =>
    obtain ⟨rfl, rfl⟩ := (HNO.out fun h => hin h.1).out
    have hin' := Lib.hid (l1In_is n 1 16 false (by simpa using hin))
    clear hin
    go_enter Tryd.func108, Tryd.ntmps108
    go_wp2_with fail
    refine (hin'.out _).mono ?_
    rintro e1 w1 ⟨rfl, rfl⟩
    go_wp2_with fail
    refine bodyPost_ret (v := .tuple #[.agg #[.slice none 0 0], .bool false]) (by simp [results, Tryd.results108, go_sem, hcr]) rfl ?_
    exact GRes.nothing _ _ (by rw [hB]; exact u1)
  have hin' := Lib.hid (l1In_is n 1 16 true (by simpa using hin))
  obtain ⟨m, rfl⟩ := Int.eq_ofNat_of_zero_le (show 0 ≤ n by omega)
  have hm1 : 1 ≤ m := by omega
  have hm2 : m ≤ 16 := by omega
  by_cases hlen : 120 < es.length
  · obtain ⟨rfl, rfl⟩ := (HNO.out fun h => by have := h.2.1; omega).out
    clear hin
    go_enter Tryd.func108, Tryd.ntmps108
    go_wp2_with fail
    refine (hin'.out _).mono ?_
    rintro e1 w1 ⟨rfl, rfl⟩
    go_wp2_with fail
    refine bodyPost_ret (v := .tuple #[.agg #[.slice none 0 0], .bool false]) (by simp [results, Tryd.results108, go_sem, hcr]) rfl ?_
    exact GRes.nothing _ _ (by rw [hB]; exact u1)
  go_enter Tryd.func108, Tryd.ntmps108
  go_wp2_with fail
  refine (hin'.out _).mono ?_
  rintro e1 w1 ⟨rfl, rfl⟩
  go_wp2_with fail
  refine (empty_any m (by omega) _).mono ?_
  rintro e1 w1 ⟨u, us, rfl, hE, hb1⟩
  obtain ⟨a1, c1, rfl⟩ := owns_shape hE.outer
  have hul : us.length = m := by rw [hE.len]; simp
  rw [hul] at hE ⊢
  rw [← rowsB_zeros, ← rowsOf_NB (by omega)] at hE
  have hS := SG.ofRes (ms := NB m fun _ _ => false) hB hR0 hE hb1 (by simp)
  obtain ⟨C, hCe⟩ : ∃ C, w1.heap.size = C := ⟨_, rfl⟩
  rw [hCe] at hS
  clear hE hb1 hul hcr hfr HCE0 HB0 hR0 u1 hz1 hin'
  go_wp2_with fail
  go_loopw [7] (fun i wr => ∃ (k : Nat) (us : List Value), k ≤ es.length ∧ i = .int .i64 k ∧ Hid (∀ e ∈ es.take k, PairP m e) ∧ SG w B C a1 m c1 us (NB m (laidE (es.take k))) wr) (fun i _ => es.length - (intOf i).toNat)
  case atStart => exact ⟨0, us, Nat.zero_le _, rfl, Lib.hid (by simp), hS⟩
  case round =>
    clear hS
    obtain ⟨k, us, hk, rfl, HP, hS⟩ := hrel
    by_cases hlt : k < es.length
    · have hGr := hG.below (hB.symm ▸ hS.bel)
      obtain ⟨b, o, r, xs, rfl, hc, hx, -, HX⟩ := hGr.intsAt hlt
      have hxl := hx.len
      unfold maxLen at hxl
      obtain ⟨ra, rc, rfl, -, -, -⟩ := id hx
      by_cases h2 : xs.length = 2
      case neg =>
        have hd : ((xs.length : Int) != 2) = true := by simp; omega
        obtain ⟨rfl, rfl⟩ := (HNO.out fun h => h2 (h.2.2 xs (List.mem_of_getElem? HX.out)).1).out
        have hcr := hS.res.cell
        have hfr := hS.res.free
        have HCE := Lib.hid (hS.res.set (.slice none 0 0)).cell
        have HB := Lib.hid (hS.bel.setCell (p := ⟨B, 0, none⟩) (by simp) (.slice none 0 0))
        clear h2
        go_wp2_with fail
        refine bodyPost_ret (v := .tuple #[.agg #[.slice none 0 0], .bool false]) (by simp [results, Tryd.results108, go_sem, HCE.out]) rfl ?_
        exact GRes.nothing _ _ (by rw [hB]; exact HB.out)
      have hd : ((xs.length : Int) != 2) = false := by simp [h2]
      by_cases hset : SetP m xs
      case neg =>
        have HS := Lib.hid (set_is (.slice ra xs.length rc) xs m (by omega) false (by simpa using hset) wr hx)
        obtain ⟨rfl, rfl⟩ := (HNO.out fun h => hset (h.2.2 xs (List.mem_of_getElem? HX.out)).2).out
        clear hset h2
        go_wp2_with fail
        refine HS.out.mono ?_
        rintro e1 w3 ⟨rfl, hb3⟩
        replace hS := hS.below hb3
        have hcr := hS.res.cell
        have hfr := hS.res.free
        have HCE := Lib.hid (hS.res.set (.slice none 0 0)).cell
        have HB := Lib.hid (hS.bel.setCell (p := ⟨B, 0, none⟩) (by simp) (.slice none 0 0))
        clear hb3
        go_wp2_with fail
        refine bodyPost_ret (v := .tuple #[.agg #[.slice none 0 0], .bool false]) (by simp [results, Tryd.results108, go_sem, HCE.out]) rfl ?_
        exact GRes.nothing _ _ (by rw [hB]; exact HB.out)
      have HS := Lib.hid (set_is (.slice ra xs.length rc) xs m (by omega) true (by simpa using hset) wr hx)
      have hP1 : PairP m xs := ⟨h2, hset⟩
      obtain ⟨x, y, hxy, hym, rfl⟩ := hP1.parts
      have HP1 := Lib.hid (ok_snoc HX.out HP.out hP1)
      have HL := Lib.hid (laidE_succ HX.out)
      clear hset h2 hP1
      go_wp2_with fail
      refine HS.out.mono ?_
      rintro e1 w3 ⟨rfl, hb3⟩
      replace hS := hS.below hb3
      have hx3 := Row.below hx hb3
      have hc3 : w3.cell? ⟨b, o + k, none⟩ = some (.slice ra 2 rc) := (hb3.cell (p := ⟨b, o + k, none⟩) (block_lt hc)).trans hc
      obtain ⟨xb, xo, xc, e2, hx0, hx1⟩ := pair_cells hx3
      obtain ⟨rfl, rfl⟩ : ra = some ⟨xb, xo, none⟩ ∧ rc = xc := by simpa using e2
      have hcC := hS.var.cell
      clear hc hx hb3 hx3 e2 HS hGr
      have hSd := hS.below (below_drewN' w3 1)
      have hl2 := hSd.link x y (x : Int) (y : Int) rfl rfl (by omega) (by omega) (by omega)
      have HL2 : Hid (Calls Tryd.prog 172 #[.agg #[.slice a1 m c1], .int .i64 (x : Int), .int .i64 (y : Int)] w3.drew _) := Lib.hid hl2
      clear hSd hl2
      go_wp2_with fail
      refine wp_region_ord [1, 2, 3, 7, 8, 9] [0, 4, 5, 6, 10, 11, 12] [] [13, 14] (by kernel_rfl) (by kernel_rfl) (fun _ _ d _ _ h => by cases d <;> exact h) ?_
      simp only [pickOps, List.filterMap_cons, List.filterMap_nil, List.getElem?_cons_succ, List.getElem?_cons_zero]
      repeat quiet_step (fail)
      simp only [wpQuiet_nil_eq, wpSegs_nil_eq]
      go_wp2_with fail
      refine HL2.out.mono ?_
      rintro e1 w4 ⟨rfl, us4, hS4⟩
      rw [joinS_NB _ (by omega) (by omega), ← HL.out] at hS4
      have hcC4 := hS4.var.cell
      have hfC4 := hS4.var.free
      clear hS hcC
      go_wp2_with fail
      go_roundw
      case rel => exact ⟨k + 1, us4, by omega, by go_num, HP1, hS4.store⟩
      case measure => simp [intOf]; omega
    · obtain rfl : k = es.length := by omega
      rw [List.take_length] at hS
      have hok : OkE (m : Int) es := ⟨hin, by omega, by have := HP.out; rwa [List.take_length] at this⟩
      obtain ⟨rfl, rfl⟩ : rows = rowsB m (laidE es) ∧ ok = true := by
        rcases H.out with ⟨h1, _⟩ | ⟨_, h2⟩
        · exact (h1 hok).elim
        · simpa using h2
      have hcC := hS.var.cell
      have hcR := hS.res.cell
      have hfR := hS.res.free
      have hfin := hS.done hB true
      rw [rowsOf_NB (by omega)] at hfin
      have HF := Lib.hid hfin
      have HCE := Lib.hid (hS.res.set (.slice a1 m c1)).cell
      clear hfin hok
      go_wp2_with fail
      refine bodyPost_ret (v := .tuple #[.agg #[.slice a1 m c1], .bool true]) (by simp [results, Tryd.results108, go_sem, HCE.out]) rfl ?_
      exact HF.out

end Go.Proofs.YtbhobmngnjfgfaaDoor
