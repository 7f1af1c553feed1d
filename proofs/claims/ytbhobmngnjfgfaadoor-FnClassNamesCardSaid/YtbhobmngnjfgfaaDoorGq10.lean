import Derived.Test.YtbhobmngnjfgfaaDoorGq09
/-
  'CutEdge' of the reference and of the program.
-/

namespace Go.Proofs.YtbhobmngnjfgfaaDoor
open Go.RowKit

/-- One edge less. -/
def minus (e : Nat → Nat → Bool) (u v : Nat) : Nat → Nat → Bool := fun a b => e a b && !(decide (a = u) && decide (b = v)) && !(decide (a = v) && decide (b = u))
def without (xs : List Int) (x : Int) : List Int := xs.filter fun y => y != x
theorem without_rowB (n : Nat) (p : Nat → Bool) (x : Nat) : without (rowB n p) (x : Int) = rowB n (fun b => p b && !decide (b = x)) := by
  unfold without rowB
  rw [List.filter_map, List.filter_filter]
  congr 1
  apply List.filter_congr
  intro i _
  rw [Bool.and_comm]
  congr 1
  rw [Bool.eq_iff_iff]
  simp
  omega
theorem without_snoc {xs : List Int} {k : Nat} {y : Int} (x : Int) (h : xs[k]? = some y) : without (xs.take (k + 1)) x = without (xs.take k) x ++ if y = x then [] else [y] := by
  unfold without
  rw [take_snoc h, List.filter_append]
  by_cases e : y = x <;> simp [e]
theorem without_length (xs : List Int) (x : Int) : (without xs x).length ≤ xs.length := List.length_filter_le _ _
theorem rows_minus (n : Nat) (e : Nat → Nat → Bool) {u v : Nat} (_hu : u < n) (_hv : v < n) (huv : u ≠ v) :
    ((rowsB n e).set u (rowB n fun b => e u b && !decide (b = v))).set v (rowB n fun b => e v b && !decide (b = u)) = rowsB n (minus e u v) := by
  apply List.ext_getElem (by simp)
  intro i h1 h2
  have hi : i < n := by simpa using h2
  rw [List.getElem_set, List.getElem_set]
  have hr : (rowsB n (minus e u v))[i] = rowB n (minus e u v i) := by simp [rowsB]
  rw [hr]
  by_cases hiv : v = i
  · subst hiv
    rw [if_pos rfl]
    refine rowB_ext fun b _ => ?_
    have : ¬ v = u := fun h => huv h.symm
    simp [minus, this]
  · rw [if_neg hiv]
    by_cases hiu : u = i
    · subst hiu
      rw [if_pos rfl]
      refine rowB_ext fun b _ => ?_
      simp [minus, huv]
    · rw [if_neg hiu]
      have : (rowsB n e)[i]'(by simpa using hi) = rowB n (e i) := by simp [rowsB]
      rw [this]
      refine rowB_ext fun b _ => ?_
      have h3 : ¬ i = u := fun h => hiu h.symm
      have h4 : ¬ i = v := fun h => hiv h.symm
      simp [minus, h3, h4]

/-- What 'CutEdge' asks. -/
def OkC (xss : List (List Int)) (u v : Int) : Prop := vertexB xss u = true ∧ vertexB xss v = true ∧ edgeB xss u v = true
instance (xss : List (List Int)) (u v : Int) : Decidable (OkC xss u v) := by unfold OkC; infer_instance

/-! ### The program -/
def partS (ms : List Nat) (u v : Nat) : List Nat :=
  let ns := ms.set u (ms.getD u 0 &&& (4294967295 - 2 ^ v))
  ns.set v (ns.getD v 0 &&& (4294967295 - 2 ^ u))
@[simp] theorem partS_length (ms : List Nat) (u v : Nat) : (partS ms u v).length = ms.length := by simp [partS]
theorem and_small {a b : Nat} (ha : a < 4294967296) : a &&& b < 4294967296 := by
  have := Nat.and_le_left (n := a) (m := b)
  omega
theorem Small.part {ms : List Nat} (h : Small ms) (u v : Nat) : Small (partS ms u v) := by
  have h1 := h.set u (and_small (b := 4294967295 - 2 ^ v) (h.getD u))
  exact h1.set v (and_small (h1.getD v))
theorem testBit_flip_pow {v : Nat} (hv : v < 32) (i : Nat) : (4294967295 - 2 ^ v).testBit i = (decide (i < 32) && !decide (i = v)) := by
  rw [testBit_flip (pow_small hv), Nat.testBit_two_pow]
  congr 2
  rw [Bool.eq_iff_iff]; simp [eq_comm]
theorem partS_NB {n : Nat} (hn : n ≤ 32) (e : Nat → Nat → Bool) {u v : Nat} (hu : u < n) (hv : v < n) : partS (NB n e) u v = NB n (minus e u v) := by
  refine eq_NB (by simp) fun a b ha => ?_
  unfold partS
  simp only
  rw [getD_set _ _ _ _ (by simpa using hv), getD_set _ _ _ _ (by simpa using hu), getD_set _ _ _ _ (by simpa using hu), NB_getD e hu, NB_getD e hv, NB_getD e ha]
  by_cases hb : b < n
  · have hb32 : b < 32 := by omega
    by_cases h1 : a = v
    · subst h1
      by_cases h2 : a = u
      · subst h2
        simp [Nat.testBit_and, testBit_maskB, testBit_flip_pow (show a < 32 by omega), hb, hb32, minus]
      · simp [Nat.testBit_and, testBit_maskB, testBit_flip_pow (show u < 32 by omega), hb, hb32, minus, h2]
    · by_cases h2 : a = u
      · subst h2
        simp [Nat.testBit_and, testBit_maskB, testBit_flip_pow (show v < 32 by omega), hb, hb32, minus, h1]
      · simp [testBit_maskB, hb, minus, h1, h2]
  · by_cases h1 : a = v
    · subst h1
      by_cases h2 : a = u
      · subst h2
        simp [Nat.testBit_and, testBit_maskB, hb]
      · simp [Nat.testBit_and, testBit_maskB, hb, h2]
    · by_cases h2 : a = u
      · subst h2
        simp [Nat.testBit_and, testBit_maskB, hb, h1]
      · simp [testBit_maskB, hb, h1, h2]

set_option maxHeartbeats 1000000 in
theorem part_any (base : Nat) (g n cap : Nat) (ms : List Nat) (hn : ms.length = n) (hs : Small ms) (u v : Nat) (hu : u < n) (hv : v < n) (hun : u < 32) (hvn : v < 32) (w : World)
    (ho : w.ownsRow base 98 1 (.slice (some ⟨g, 0, none⟩) n cap) n (sets ms)) :
    Calls Tryd.prog 131 #[.slice (some ⟨g, 0, none⟩) n cap, .int .i64 u, .int .i64 v] w fun e w' => e = .returned (.tuple #[]) ∧
      w'.ownsRow base 98 1 (.slice (some ⟨g, 0, none⟩) n cap) n (sets (partS ms u v)) ∧ w.grownBy w' (some g) := by
  have hf : w.frozen? ⟨g, u, none⟩ = false := ho.frozenAt u
  have hx : w.cell? ⟨g, u, none⟩ = some (.int .u32 ((ms.getD u 0 : Nat) : Int)) := by rw [ho.cellAt u (by omega), sets_at (by omega)]
  have hb : bits BinOp.andNot IntKind.u32 ((ms.getD u 0 : Nat) : Int) ((2 ^ v : Nat) : Int) = ((ms.getD u 0 &&& (4294967295 - 2 ^ v) : Nat) : Int) := u32_andNot_nat _ _ (hs.getD u) (pow_small hvn)
  have hst := ho.stored u (.int .u32 ((ms.getD u 0 &&& (4294967295 - 2 ^ v) : Nat) : Int))
  rw [← sets_set] at hst
  have hs1 := hs.set u (and_small (b := 4294967295 - 2 ^ v) (hs.getD u))
  have hn1 : (ms.set u (ms.getD u 0 &&& (4294967295 - 2 ^ v))).length = n := by simpa using hn
  have hJ : partS ms u v = (ms.set u (ms.getD u 0 &&& (4294967295 - 2 ^ v))).set v ((ms.set u (ms.getD u 0 &&& (4294967295 - 2 ^ v))).getD v 0 &&& (4294967295 - 2 ^ u)) := rfl
  rw [hJ]
  clear hJ
  generalize ms.set u (ms.getD u 0 &&& (4294967295 - 2 ^ v)) = ns at *
  generalize ms.getD u 0 &&& (4294967295 - 2 ^ v) = y at *
  generalize ms.getD u 0 = x at *
  have hp : ((2 : Int) ^ v) = ((2 ^ v : Nat) : Int) := by simp
  rw [← hp] at hb
  clear hp
  go_enter Tryd.func131, Tryd.ntmps131
  go_wp2_with fail
  refine wp_region_ord [0, 1, 2, 4] [3] [5] [6, 7, 8] (by kernel_rfl) (by kernel_rfl) (fun _ _ d _ _ h => by cases d <;> exact h) ?_
  simp only [pickOps, List.filterMap_cons, List.filterMap_nil, List.getElem?_cons_succ, List.getElem?_cons_zero]
  repeat quiet_step (fail)
  refine wpSegs_cons ?_
  go_wp2_with (go_at_call 106; refine (one_any _ v rfl hvn _).mono ?_; rintro e w' ⟨rfl, rfl⟩)
  refine ⟨(Below.refl _ _).drew, wpSegs_nil ?_⟩
  go_wp2_with fail
  have hg1 := grown_drew hst.2
  have ho1 := hst.1.drew
  clear hst hf hx hb ho hs
  generalize World.drew _ = w1 at *
  have hf : w1.frozen? ⟨g, v, none⟩ = false := ho1.frozenAt v
  have hx : w1.cell? ⟨g, v, none⟩ = some (.int .u32 ((ns.getD v 0 : Nat) : Int)) := by rw [ho1.cellAt v (by omega), sets_at (by omega)]
  have hb : bits BinOp.andNot IntKind.u32 ((ns.getD v 0 : Nat) : Int) ((2 ^ u : Nat) : Int) = ((ns.getD v 0 &&& (4294967295 - 2 ^ u) : Nat) : Int) := u32_andNot_nat _ _ (hs1.getD v) (pow_small hun)
  have hst := ho1.stored v (.int .u32 ((ns.getD v 0 &&& (4294967295 - 2 ^ u) : Nat) : Int))
  rw [← sets_set] at hst
  have HY : ∃ y2, Hid (ns.getD v 0 &&& (4294967295 - 2 ^ u) = y2) := ⟨_, Lib.hid rfl⟩
  obtain ⟨y2, HY⟩ := HY
  rw [HY.out] at hb hst
  have HX : ∃ x2, Hid (ns.getD v 0 = x2) := ⟨_, Lib.hid rfl⟩
  obtain ⟨x2, HX⟩ := HX
  rw [HX.out] at hb hx
  have hp : ((2 : Int) ^ u) = ((2 ^ u : Nat) : Int) := by simp
  rw [← hp] at hb
  clear hp
  refine wp_region_ord [0, 1, 2, 4] [3] [5] [6, 7, 8] (by kernel_rfl) (by kernel_rfl) (fun _ _ d _ _ h => by cases d <;> exact h) ?_
  simp only [pickOps, List.filterMap_cons, List.filterMap_nil, List.getElem?_cons_succ, List.getElem?_cons_zero]
  repeat quiet_step (fail)
  refine wpSegs_cons ?_
  go_wp2_with (go_at_call 106; refine (one_any _ u rfl hun _).mono ?_; rintro e w' ⟨rfl, rfl⟩)
  refine ⟨(Below.refl _ _).drew, wpSegs_nil ?_⟩
  go_wp2_with fail
  go_end0
  exact ⟨rfl, by rw [HY.out]; exact hst.1.drew, grown_trans hg1 (grown_drew hst.2)⟩

theorem NS.part {B : Nat} {w0 : World} {v : Value} {ms : List Nat} {wr : World} (h : NS B w0 v ms wr) (hB : B ≤ wr.heap.size) (i j : Nat) (I J : Int) (hI : I = i) (hJ : J = j) (hi : i < ms.length) (hj : j < ms.length) (hn : ms.length ≤ 32) :
    Calls Tryd.prog 131 #[v, .int .i64 I, .int .i64 J] wr fun e w' => e = .returned (.tuple #[]) ∧ NS B w0 v (partS ms i j) w' := by
  subst hI; subst hJ
  obtain ⟨g, cap, rfl⟩ := owns_head h.own (by omega)
  refine (part_any B g ms.length cap ms rfl h.small i j hi hj (by omega) (by omega) wr h.own).mono ?_
  rintro e w' ⟨rfl, ho, hg⟩
  exact ⟨rfl, ⟨by rw [partS_length]; exact ho, h.small.part _ _, h.bel.trans (below_of_grown hg hB fun k hk => by have := (owns_lt h.own (b := g) rfl).1; have : g = k := Option.some.inj hk; omega)⟩⟩

set_option maxHeartbeats 4000000 in
theorem implCutEdge (g : Value) (xss : List (List Int)) (u v : Int) (w : World) (ht : Tab w) (hr : RdSS g xss w) (rows : List (List Int)) (ok : Bool)
    (h : (¬ OkC xss u v ∧ rows = [] ∧ ok = false) ∨ ∃ e a b, Two xss u v xss.length e a b ∧ a ≠ b ∧ OkC xss u v ∧ rows = rowsB xss.length (minus e a b) ∧ ok = true) :
    Calls Tryd.prog 55 #[.agg #[g], .int .i64 u, .int .i64 v] w (GRes w rows ok) := by
  obtain ⟨a, c, rfl⟩ := hr.shape
  obtain ⟨B, hB⟩ : ∃ B, w.heap.size = B := ⟨_, rfl⟩
  have hTB : 2 < B := by rw [← hB]; exact ht.lt
  have u1 : Below B w (w.alloc (.cells #[.slice a xss.length c] 56)) := by subst hB; exact below_alloc' _ _
  have VG : VC 56 B #[.slice a xss.length c] (w.alloc (.cells #[.slice a xss.length c] 56)) := VC.new hB
  have hz1 : (w.alloc (.cells #[.slice a xss.length c] 56)).heap.size = B + 1 := by simp [hB]
  have VR : VC 56 (B + 1) #[.slice none 0 0] ((w.alloc (.cells #[.slice a xss.length c] 56)).alloc (.cells #[.slice none 0 0] 56)) := VC.new hz1
  have u2 := u1.alloc (by omega) (.cells #[.slice none 0 0] 56)
  replace VG := VG.upd (Upd.alloc _ (.cells #[.slice none 0 0] 56)) (by omega)
  have hz2 : ((w.alloc (.cells #[.slice a xss.length c] 56)).alloc (.cells #[.slice none 0 0] 56)).heap.size = B + 2 := by simp [hB]
  have H := Lib.hid h
  have hno : ¬ OkC xss u v → rows = [] ∧ ok = false := fun hn => by
    rcases H.out with ⟨_, h2⟩ | ⟨_, _, _, _, _, h1, _⟩
    · exact h2
    · exact (hn h1).elim
  have HNO := Lib.hid hno
  clear h u1 hz1 hno
  have hcg := VG.cell
  go_enter Tryd.func55, Tryd.ntmps55
  go_wp2_with fail
  generalize (w.alloc (.cells #[.slice a xss.length c] 56)).alloc (.cells #[.slice none 0 0] 56) = W at *
  refine (isPair_any _ xss u v W (hr.below u2 hB)).mono ?_
  rintro e1 w1 ⟨rfl, hb1⟩
  replace VG := VG.upd (Upd.of_below hb1) (by omega)
  replace VR := VR.upd (Upd.of_below hb1) (by omega)
  have hb := u2.trans (hb1.mono (by omega))
  have hzw1 : B + 2 ≤ w1.heap.size := by have := hb1.size; omega
  clear hb1 u2 hcg
  have hcg := VG.cell
  have hcr := VR.cell
  have hfr := VR.free
  have HCE0 := Lib.hid (VR.set (.slice none 0 0)).cell
  have HB0 := Lib.hid (hb.setCell (p := ⟨B + 1, 0, none⟩) (by simp) (.slice none 0 0))
  cases hp : (vertexB xss u && vertexB xss v) with
  | false =>
    obtain ⟨rfl, rfl⟩ := HNO.out fun h => by rw [h.1, h.2.1] at hp; cases hp
    clear hp
    go_wp2_with fail
    refine bodyPost_ret (v := .tuple #[.agg #[.slice none 0 0], .bool false]) (by simp [results, Tryd.results55, go_sem, HCE0.out]) rfl ?_
    exact GRes.nothing _ _ (by rw [hB]; exact HB0.out)
  | true =>
    rw [Bool.and_eq_true] at hp
    have HP := Lib.hid hp
    clear hp
    have HEI := Lib.hid (implEdgeIn (.slice a xss.length c) xss u v w1 (hr.below hb hB))
    go_wp2_with fail
    refine HEI.out.mono ?_
    rintro e1 w2 ⟨rfl, hb2⟩
    replace VG := VG.upd (Upd.of_below hb2) (by omega)
    replace VR := VR.upd (Upd.of_below hb2) (by omega)
    replace hb := hb.trans (hb2.mono (by omega))
    have hzw2 : B + 2 ≤ w2.heap.size := by have := hb2.size; omega
    clear hb2 hcg hcr hfr HEI HCE0 HB0
    have hcg := VG.cell
    have hcr := VR.cell
    have hfr := VR.free
    cases hed : edgeB xss u v with
    | false =>
      obtain ⟨rfl, rfl⟩ := HNO.out fun h => by rw [h.2.2] at hed; cases hed
      have HCE := Lib.hid (VR.set (.slice none 0 0)).cell
      have HB := Lib.hid (hb.setCell (p := ⟨B + 1, 0, none⟩) (by simp) (.slice none 0 0))
      clear hed
      go_wp2_with fail
      refine bodyPost_ret (v := .tuple #[.agg #[.slice none 0 0], .bool false]) (by simp [results, Tryd.results55, go_sem, HCE.out]) rfl ?_
      exact GRes.nothing _ _ (by rw [hB]; exact HB.out)
    | true =>
      obtain ⟨e, k, l, hT, rfl, rfl⟩ : ∃ e a b, Two xss u v xss.length e a b ∧ rows = rowsB xss.length (minus e a b) ∧ ok = true := by
        rcases H.out with ⟨h1, _⟩ | ⟨e', a', b', hT', _, _, h3, h4⟩
        · exact (h1 ⟨HP.out.1, HP.out.2, hed⟩).elim
        · exact ⟨e', a', b', hT', h3, h4⟩
      obtain ⟨hA, hx, -, rfl, rfl, hk, hl⟩ := hT
      have hn16 := hA.le
      have HX := Lib.hid hx
      have hr' := hr.below hb hB
      rw [HX.out, rowsB_length] at hr'
      have HNO2 := Lib.hid (netsOf_any _ xss.length e hn16 w2 hr')
      clear hed hx hr'
      go_wp2_with fail
      refine HNO2.out.mono ?_
      rintro e1 w3 ⟨u3, rfl, hN3, hb3⟩
      obtain ⟨a3, c3, rfl⟩ := owns_shape hN3
      obtain ⟨S2, hS2⟩ : ∃ S, w2.heap.size = S := ⟨_, rfl⟩
      rw [hS2] at hN3 hb3 hzw2
      have hN : NS S2 w2 (.slice a3 xss.length c3) (NB xss.length e) w3 := ⟨by rw [NB_length]; exact hN3, NB_small (by omega) _, hb3⟩
      have hz3 := hb3.size
      have HJ := Lib.hid (hN.part (by omega) k l (k : Int) (l : Int) rfl rfl (by simpa using hk) (by simpa using hl) (by simp; omega))
      have HT2 := Lib.hid (ht.keep hb hTB)
      clear hN hN3 hb3 HNO2 hcg hcr hfr
      go_wp2_with fail
      refine HJ.out.mono ?_
      rintro e1 w4 ⟨rfl, hN4⟩
      rw [partS_NB (by omega) _ hk hl] at hN4
      have HGR := Lib.hid (hN4.graph HT2.out (by omega) (by simp; omega))
      have VR2 := VR.belowAt hN4.bel (by omega)
      have hb4 := hb.trans (hN4.bel.mono (by omega))
      have hz4 := hN4.bel.size
      clear hN4 HJ
      go_wp2_with fail
      refine HGR.out.mono ?_
      rintro e1 w6 ⟨u6, us, rfl, hG6, hb6⟩
      rw [rowsOf_NB (by omega)] at hG6
      obtain ⟨uua, uuc, rfl⟩ := owns_shape hG6.outer
      have HF := Lib.hid (GRes.put (b := B + 1) hB hb4 (by omega) (by omega) hG6 hb6 true)
      replace VR2 := VR2.upd (Upd.of_below hb6) (by omega)
      have HCE := Lib.hid (VR2.set (.slice uua us.length uuc)).cell
      clear hG6 hb6 HGR hb4
      have hcr := VR2.cell
      have hfr := VR2.free
      go_wp2_with fail
      refine bodyPost_ret (v := .tuple #[.agg #[.slice uua us.length uuc], .bool true]) (by simp [results, Tryd.results55, go_sem, HCE.out]) rfl ?_
      exact HF.out

end Go.Proofs.YtbhobmngnjfgfaaDoor
/-
  Induced graphs: 'l2Of' of the reference; 'has', 'narrow', 'induced' of the program.
-/

namespace Go.Proofs.YtbhobmngnjfgfaaDoor
open Go.RowKit

/-- The vertex at a place of a list. -/
def atL (xs : List Int) (i : Nat) : Nat := (xs.getD i 0).toNat
theorem atL_eq {xs : List Int} {i x : Nat} (h : xs[i]? = some (x : Int)) : atL xs i = x := by simp [atL, List.getD, h]
/-- All are vertices of n. -/
def InP (n : Nat) (xs : List Int) : Prop := ∀ x ∈ xs, 0 ≤ x ∧ x < (n : Int)
theorem InP.at {n : Nat} {xs : List Int} (h : InP n xs) {i : Nat} {x : Int} (hx : xs[i]? = some x) : ∃ k : Nat, x = k ∧ k < n := by
  have := h x (List.mem_of_getElem? hx)
  exact ⟨x.toNat, by omega, by omega⟩

end Go.Proofs.YtbhobmngnjfgfaaDoor
/-
  'has', 'narrow', 'induced' of the program.
-/

namespace Go.Proofs.YtbhobmngnjfgfaaDoor
open Go.RowKit

theorem hasV_any (m : Nat) (hm : m < 4294967296) (v : Nat) (hv : v < 32) (V : Int) (hV : V = v) (b : Bool) (hb : m.testBit v = b) (w : World) :
    Calls Tryd.prog 184 #[.int .u32 m, .int .i64 V] w fun e w' => e = .returned (.bool b) ∧ w = w' := by
  subst hV; subst hb
  have hz : m / 2 ^ v ≤ m := Nat.div_le_self _ _
  have e1 : (bits BinOp.and IntKind.u32 ((m : Int) / 2 ^ v) 1 == 1) = m.testBit v := by
    have h1 : ((m : Int) / 2 ^ v) = ((m / 2 ^ v : Nat) : Int) := by simp
    rw [h1, show (1 : Int) = ((1 : Nat) : Int) from rfl, u32_and_nat (m / 2 ^ v) 1 (by omega) (by decide), Nat.and_one_is_mod, Nat.testBit_eq_decide_div_mod_eq, Bool.eq_iff_iff]
    simp
    omega
  have HE := Lib.hid e1
  clear e1 hz
  go_enter Tryd.func184, Tryd.ntmps184
  go_wp2_with fail
  go_ret
  exact ⟨ret_bool HE.out, rfl⟩

/-- A table filled row by row. -/
def fill (f : Nat → Nat → Bool) (k j : Nat) : Nat → Nat → Bool := fun a b => (decide (a < k) || (decide (a = k) && decide (b < j))) && f a b
theorem fill_no (f : Nat → Nat → Bool) {k j : Nat} (h : f k j = false) : fill f k j = fill f k (j + 1) := by
  funext a b
  unfold fill
  by_cases h1 : a = k
  · subst h1
    by_cases h2 : b = j
    · subst h2; simp [h]
    · have e : decide (b < j) = decide (b < j + 1) := by rw [Bool.eq_iff_iff]; simp; omega
      rw [e]
  · simp [h1]
theorem fill_yes {n : Nat} (f : Nat → Nat → Bool) {k j : Nat} (hk : k < n) (hj : j < n) (h : f k j = true) :
    (NB n (fill f k j)).set k ((NB n (fill f k j)).getD k 0 ||| 2 ^ j) = NB n (fill f k (j + 1)) := by
  refine eq_NB (by simp) fun a b ha => ?_
  rw [getD_set _ _ _ _ (by simpa using hk)]
  by_cases h1 : a = k
  · subst h1
    rw [if_pos rfl, NB_getD _ hk, Nat.testBit_or, testBit_maskB, Nat.testBit_two_pow]
    unfold fill
    by_cases h2 : b = j
    · subst h2; simp [h, hj]
    · have e : decide (b < j) = decide (b < j + 1) := by rw [Bool.eq_iff_iff]; simp; omega
      have h3 : ¬ j = b := fun h => h2 h.symm
      rw [e]
      simp [h3]
  · rw [if_neg h1, NB_getD _ ha, testBit_maskB]
    unfold fill
    simp [h1]
theorem fill_next (n : Nat) (f : Nat → Nat → Bool) (k : Nat) : NB n (fill f k n) = NB n (fill f (k + 1) 0) := by
  refine NB_ext fun a b ha hb => ?_
  unfold fill
  have e : (decide (a < k) || (decide (a = k) && decide (b < n))) = (decide (a < k + 1) || (decide (a = k + 1) && decide (b < 0))) := by rw [Bool.eq_iff_iff]; simp [hb]; omega
  rw [e]
theorem fill_zero (f : Nat → Nat → Bool) : fill f 0 0 = fun _ _ => false := by
  funext a b
  unfold fill
  simp
theorem fill_all (n : Nat) (f : Nat → Nat → Bool) : NB n (fill f n 0) = NB n f := by
  refine NB_ext fun a b ha hb => ?_
  unfold fill
  simp [ha]

set_option maxHeartbeats 2000000 in
theorem induced_any (v : Value) (n : Nat) (e : Nat → Nat → Bool) (hn : n ≤ 16) (v2 : Value) (xs : List Int) (hin : InP n xs) (hxl : xs.length ≤ 16) (w : World)
    (hr : Row w 1 v n (sets (NB n e))) (hs : Row w 1 v2 xs.length (ints xs)) :
    Calls Tryd.prog 138 #[v, v2] w fun r w' => ∃ u, r = .returned u ∧ NS w.heap.size w u (NB xs.length fun a b => e (atL xs a) (atL xs b)) w' := by
  obtain ⟨a, c, rfl, -, -, -⟩ := id hr
  obtain ⟨a2, c2, rfl, -, -, -⟩ := id hs
  obtain ⟨B, hB⟩ : ∃ B, w.heap.size = B := ⟨_, rfl⟩
  have HI := Lib.hid hin
  obtain ⟨F, HF⟩ : ∃ F : Nat → Nat → Bool, Hid ((fun a b => e (atL xs a) (atL xs b)) = F) := ⟨_, Lib.hid rfl⟩
  rw [HF.out, hB]
  clear hin
  go_enter Tryd.func138, Tryd.ntmps138
  go_wp2_with (at_make; refine wpList_make _ rfl _ _ 120 rfl B 98 (.int .u32 0) 4 Tryd.underlying120 infoV rfl .i64 .i64 _ _ xs.length rfl rfl (by omega) (by omega) (by omega) (by unfold maxLen; omega) (by omega) ?_; intro w1 ho1 hb1)
  have hN := NS.made (w0 := w) ho1 (by first | exact hb1 | (rw [hB]; exact hb1)) (by omega) (Below.refl _ _)
  rw [← NB_zeros, ← fill_zero F] at hN
  subst hB
  clear ho1 hb1
  go_loopw [15] (fun i wr => ∃ k : Nat, k ≤ xs.length ∧ i = .int .i64 k ∧ NS w.heap.size w (.slice (some ⟨w.heap.size, 0, none⟩) xs.length xs.length) (NB xs.length (fill F k 0)) wr) (fun i _ => xs.length - (intOf i).toNat)
  case atStart => exact ⟨0, Nat.zero_le _, rfl, hN⟩
  case round =>
    clear hN
    obtain ⟨k, hk, rfl, hN⟩ := hrel
    by_cases hlt : k < xs.length
    · obtain ⟨xb, xo, x, rfl, hcx, HX⟩ := (hs.below (hN.bel)).intAt hlt
      obtain ⟨p, rfl, hp⟩ := HI.out.at HX.out
      have hpe := atL_eq HX.out
      have HPE := Lib.hid hpe
      clear hpe
      go_wp2_with fail
      clear hcx
      go_loopw [22] (fun i wr => ∃ j : Nat, j ≤ xs.length ∧ i = .int .i64 j ∧ NS w.heap.size w (.slice (some ⟨w.heap.size, 0, none⟩) xs.length xs.length) (NB xs.length (fill F k j)) wr) (fun i _ => xs.length - (intOf i).toNat)
      case atStart => exact ⟨0, Nat.zero_le _, rfl, hN⟩
      case round =>
        clear hN
        obtain ⟨j, hj, rfl, hN⟩ := hrel
        by_cases hjt : j < xs.length
        · obtain ⟨xb', xo', y, e', hcy, HY⟩ := (hs.below (hN.bel)).intAt hjt
          obtain ⟨rfl, rfl⟩ : xb = xb' ∧ xo = xo' := by simpa using e'
          obtain ⟨q, rfl, hq⟩ := HI.out.at HY.out
          have hqe := atL_eq HY.out
          obtain ⟨gb, go, z, rfl, hcz, HZ⟩ := (hr.below (hN.bel)).setAt (j := p) (by simpa using hp)
          obtain rfl : maskB n (e p) = z := by have h := HZ.out; rw [NB_at e hp] at h; exact Option.some.inj h
          have hFe : F k j = e p q := by rw [← HF.out]; simp only [HPE.out, hqe]
          have hbit : (maskB n (e p)).testBit q = F k j := by rw [testBit_maskB, hFe]; simp [hq]
          have hsm : maskB n (e p) < 4294967296 := maskB_small (by omega) _
          have HBIT := Lib.hid (And.intro hbit hsm)
          clear hbit hFe hqe e' HZ
          generalize maskB n (e p) = z at *
          clear hsm
          cases hFk : F k j with
          | false =>
            have HN2 := Lib.hid (fill_no F hFk)
            have HBF := Lib.hid (HBIT.out.1.trans hFk)
            clear hFk
            go_wp2_with fail
            refine (hasV_any z HBIT.out.2 q (by omega) _ rfl false HBF.out _).mono ?_
            rintro e1 w2 ⟨rfl, rfl⟩
            go_wp2_with fail
            go_roundw
            case rel => exact ⟨j + 1, by omega, by go_num, by rw [← HN2.out]; exact hN⟩
            case measure => simp [intOf]; omega
          | true =>
            have HN2 := Lib.hid (fill_yes F hlt hjt hFk)
            have HBF := Lib.hid (HBIT.out.1.trans hFk)
            clear hFk
            have hsm := hN.small
            have ho := hN.own
            simp only [NB_length] at ho
            have hf : wr.frozen? ⟨w.heap.size, k, none⟩ = false := ho.frozenAt k
            obtain ⟨X, HX1⟩ : ∃ X : Nat, Hid ((NB xs.length (fill F k j)).getD k 0 = X) := ⟨_, Lib.hid rfl⟩
            obtain ⟨Y, HY1⟩ : ∃ Y : Nat, Hid (X ||| 2 ^ j = Y) := ⟨_, Lib.hid rfl⟩
            have hX32 : X < 4294967296 := by rw [← HX1.out]; exact hsm.getD k
            have hx : wr.cell? ⟨w.heap.size, k, none⟩ = some (.int .u32 (X : Int)) := by rw [ho.cellAt k (by omega), sets_at (by simpa using hlt), HX1.out]
            have hb : bits BinOp.or IntKind.u32 (X : Int) ((2 ^ j : Nat) : Int) = (Y : Int) := by rw [bits_or hX32 (pow_small (by omega)), HY1.out]
            have hst := ho.stored k (.int .u32 (Y : Int))
            rw [← sets_set] at hst
            rw [HX1.out, HY1.out] at HN2
            rw [HN2.out] at hst
            have HST := Lib.hid hst
            have HBEL := Lib.hid hN.bel
            have hp : ((2 : Int) ^ j) = ((2 ^ j : Nat) : Int) := by simp
            rw [← hp] at hb
            clear hp hst hsm ho hX32 hN
            go_wp2_with fail
            refine (hasV_any z HBIT.out.2 q (by omega) _ rfl true HBF.out _).mono ?_
            rintro e1 w2 ⟨rfl, rfl⟩
            go_wp2_with fail
            refine wp_region_ord [0, 1, 2, 4] [3] [5] [6, 7, 8] (by kernel_rfl) (by kernel_rfl) (fun _ _ d _ _ h => by cases d <;> exact h) ?_
            simp only [pickOps, List.filterMap_cons, List.filterMap_nil, List.getElem?_cons_succ, List.getElem?_cons_zero]
            repeat quiet_step (fail)
            refine wpSegs_cons ?_
            go_wp2_with (go_at_call 106; refine (one_any _ j rfl (by omega) _).mono ?_; rintro e w' ⟨rfl, rfl⟩)
            refine ⟨(Below.refl _ _).drew, wpSegs_nil ?_⟩
            go_wp2_with fail
            go_roundw
            case rel => exact ⟨j + 1, by omega, by go_num, ⟨by rw [NB_length]; exact HST.out.1.drew, NB_small (by omega) _, HBEL.out.trans (below_of_grown (grown_drew HST.out.2) HBEL.out.size fun b hb => by have : w.heap.size = b := Option.some.inj hb; omega)⟩⟩
            case measure => simp [intOf]; omega
        · obtain rfl : j = xs.length := by omega
          go_wp2_with fail
          go_roundw
          case rel => exact ⟨k + 1, by omega, by go_num, by rw [← fill_next]; exact hN⟩
          case measure => simp [intOf]; omega
    · obtain rfl : k = xs.length := by omega
      rw [fill_all] at hN
      go_wp2_with fail
      go_ret
      exact ⟨_, rfl, hN⟩
end Go.Proofs.YtbhobmngnjfgfaaDoor
/-
  'Induced' of the reference and of the program.
-/

namespace Go.Proofs.YtbhobmngnjfgfaaDoor
open Go.RowKit

/-- The graph on the vertices of a list. -/
def ofList (e : Nat → Nat → Bool) (xs : List Int) : Nat → Nat → Bool := sym fun a b => e (atL xs b) (atL xs a)
theorem InP.lt {n : Nat} {xs : List Int} (h : InP n xs) {i : Nat} (hi : i < xs.length) : atL xs i < n := by
  obtain ⟨k, hk, hkn⟩ := h.at (i := i) (List.getElem?_eq_getElem hi)
  have : atL xs i = k := atL_eq (by rw [List.getElem?_eq_getElem hi, hk])
  omega
theorem NB_ofList {n : Nat} {e : Nat → Nat → Bool} (hA : Adj n e) {xs : List Int} (hin : InP n xs) : NB xs.length (fun a b => e (atL xs a) (atL xs b)) = NB xs.length (ofList e xs) := by
  refine NB_ext fun a b ha hb => ?_
  have h1 := hin.lt ha
  have h2 := hin.lt hb
  unfold ofList sym
  rcases Nat.lt_trichotomy a b with h | h | h
  · have h3 : ¬ b < a := by omega
    simp [h, h3, hA.sym _ _ h1 h2]
  · subst h
    simp [hA.irr _ h1]
  · have h3 : ¬ a < b := by omega
    simp [h, h3]
theorem SetP.inP {n : Nat} {xs : List Int} (h : SetP n xs) : InP n xs := fun x hx => h.1 x hx

/-- What 'Induced' asks. -/
def OkN (xss : List (List Int)) (xs : List Int) : Prop := okB xss = true ∧ SetP xss.length xs ∧ xs.length ≠ 0
def IndP (xss : List (List Int)) (xs : List Int) (rows : List (List Int)) (ok : Bool) : Prop :=
  (¬ OkN xss xs ∧ rows = [] ∧ ok = false) ∨ ∃ e, Adj xss.length e ∧ xss = rowsB xss.length e ∧ OkN xss xs ∧ rows = rowsB xs.length (ofList e xs) ∧ ok = true

end Go.Proofs.YtbhobmngnjfgfaaDoor
/-
  'ApexOf' of the reference and of the program.
-/

namespace Go.Proofs.YtbhobmngnjfgfaaDoor
open Go.RowKit

/-- The numbers below n. -/
def allN (n : Nat) : List Int := (List.range n).map fun (i : Nat) => (i : Int)
@[simp] theorem allN_length (n : Nat) : (allN n).length = n := by simp [allN]
theorem setP_allN (n : Nat) : SetP n (allN n) := by
  have := setP_rowB n (fun _ => true)
  rwa [rowB_all] at this

theorem ok_size' {xss : List (List Int)} (h : okB xss = true) : 1 ≤ xss.length ∧ xss.length ≤ 16 := by
  have : OkP xss := by unfold okB at h; simpa using h
  exact this.1

/-- What 'ApexOf' gives. -/
def ApexP (xss : List (List Int)) (rows : List (List Int)) (ok : Bool) : Prop :=
  ((okB xss = false ∨ xss.length = 16) ∧ rows = [] ∧ ok = false) ∨ (okB xss = true ∧ xss.length ≠ 16 ∧ ∃ e, Adj xss.length e ∧ xss = rowsB xss.length e ∧ rows = rowsB (xss.length + 1) (hung xss.length e (allN xss.length)) ∧ ok = true)
theorem ApexP.vertex {xss rows : List (List Int)} {ok : Bool} (h : ApexP xss rows ok) :
    (¬ OkV xss (allN xss.length) ∧ rows = [] ∧ ok = false) ∨ ∃ e, Adj xss.length e ∧ xss = rowsB xss.length e ∧ OkV xss (allN xss.length) ∧ rows = rowsB (xss.length + 1) (hung xss.length e (allN xss.length)) ∧ ok = true := by
  rcases h with ⟨h1, h2, h3⟩ | ⟨h1, h2, e, hA, hx, hr, hk⟩
  · refine .inl ⟨fun h => ?_, h2, h3⟩
    rcases h1 with h1 | h1
    · rw [h.1] at h1; cases h1
    · exact h.2.2 h1
  · exact .inr ⟨e, hA, hx, ⟨h1, setP_allN _, h2⟩, hr, hk⟩

end Go.Proofs.YtbhobmngnjfgfaaDoor
