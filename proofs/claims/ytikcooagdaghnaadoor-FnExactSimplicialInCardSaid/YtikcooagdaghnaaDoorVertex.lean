/-
  'AddedVertex' of the reference and of the program.
-/
import Derived.Test.YtikcooagdaghnaaDoorComplement
import Derived.Test.YtikcooagdaghnaaDoorOrder2
import Derived.Test.YtikcooagdaghnaaDoorGraphOf
namespace Go.Proofs.YtikcooagdaghnaaDoor
open Go.RowKit

/-- A graph with one more vertex, without edges. -/
def grown (n : Nat) (e : Nat → Nat → Bool) : Nat → Nat → Bool := fun a b => decide (a < n) && decide (b < n) && e a b
/-- The new vertex n is joined to these. -/
def hung (n : Nat) (e : Nat → Nat → Bool) (xs : List Int) : Nat → Nat → Bool := xs.foldl (fun f x => plus f x.toNat n) (grown n e)
theorem plus_comm (f : Nat → Nat → Bool) (u v : Nat) : plus f u v = plus f v u := by
  funext a b
  unfold plus
  rw [Bool.or_assoc, Bool.or_assoc]
  congr 1
  exact Bool.or_comm _ _
theorem hung_succ {n : Nat} {e : Nat → Nat → Bool} {xs : List Int} {k x : Nat} (h : xs[k]? = some (x : Int)) : hung n e (xs.take (k + 1)) = plus (hung n e (xs.take k)) x n := by
  unfold hung
  rw [take_snoc h, List.foldl_append]
  simp

theorem rowB_grown (n : Nat) (p : Nat → Bool) : rowB (n + 1) (fun b => decide (b < n) && p b) = rowB n p := by
  unfold rowB
  rw [filter_range_lt]
theorem rowsB_grown (n : Nat) (e : Nat → Nat → Bool) : rowsB n e ++ [[]] = rowsB (n + 1) (grown n e) := by
  unfold rowsB
  rw [List.range_succ, List.map_append]
  congr 1
  · apply List.map_congr_left
    intro u hu
    have hu' := List.mem_range.1 hu
    rw [← rowB_grown]
    refine rowB_ext fun b hb => ?_
    simp [grown, hu']
  · have : rowB (n + 1) (grown n e n) = [] := by
      unfold rowB
      rw [List.filter_eq_nil_iff.2 (by simp [grown])]
      rfl
    simp [this]
theorem NB_grown (n : Nat) (e : Nat → Nat → Bool) : NB n e ++ [0] = NB (n + 1) (grown n e) := by
  unfold NB
  rw [List.range_succ, List.map_append]
  congr 1
  · apply List.map_congr_left
    intro u hu
    have hu' := List.mem_range.1 hu
    apply Nat.eq_of_testBit_eq
    intro i
    rw [testBit_maskB, testBit_maskB]
    by_cases h : i < n
    · have : i < n + 1 := by omega
      simp [grown, hu', h, this]
    · simp [grown, h]
  · have : maskB (n + 1) (grown n e n) = 0 := maskB_eq_zero.2 fun i _ => by simp [grown]
    simp [this]

/-- An owned graph in a variable, one more row without numbers. -/
theorem rows_snoc (xss : List (List Int)) : (xss ++ [[]]).map ints = xss.map ints ++ [[]] := by simp [ints]

/-- What 'AddedVertex' asks. -/
def OkV (xss : List (List Int)) (xs : List Int) : Prop := okB xss = true ∧ SetP xss.length xs ∧ xss.length ≠ 16

theorem GRes.fin {w0 wr : World} {B b base : Nat} {u : Value} {vs : List Value} {rows : List (List Int)} (hB : w0.heap.size = B) (hb : Below B w0 wr) (hbb : B ≤ b)
    (hG : OwnG wr base 33 2 u vs (rows.map ints)) (hbase : b < base) (ok : Bool) :
    GRes w0 rows ok (.returned (.tuple #[.agg #[u], .bool ok])) (wr.setCell ⟨b, 0, none⟩ u) := by
  subst hB
  exact ⟨u, vs, rfl, (hG.other hbase _).rebase (by omega), hb.setCell hbb _⟩

set_option maxHeartbeats 4000000 in
theorem specAddedVertex (v : Value) (xss : List (List Int)) (v2 : Value) (xs : List Int) (w : World) (hr : RdSS v xss w) (hs : RdS v2 xs w) (rows : List (List Int)) (ok : Bool)
    (h : (¬ OkV xss xs ∧ rows = [] ∧ ok = false) ∨ ∃ e, Adj xss.length e ∧ xss = rowsB xss.length e ∧ OkV xss xs ∧ rows = rowsB (xss.length + 1) (hung xss.length e xs) ∧ ok = true) :
    Calls Tryd.prog 80 #[.agg #[v], v2] w (GRes w rows ok) := by
  obtain ⟨a, c, rfl⟩ := hr.shape
  have hxl := hs.len
  unfold maxLen at hxl
  obtain ⟨a2, c2, rfl, -, -, -⟩ := id hs
  obtain ⟨B, hB⟩ : ∃ B, w.heap.size = B := ⟨_, rfl⟩
  have u1 : Below B w (w.alloc (.cells #[.slice a xss.length c] 26)) := by subst hB; exact below_alloc' _ _
  have VG : VC 26 B #[.slice a xss.length c] (w.alloc (.cells #[.slice a xss.length c] 26)) := VC.new hB
  have hz1 : (w.alloc (.cells #[.slice a xss.length c] 26)).heap.size = B + 1 := by simp [hB]
  have VR : VC 26 (B + 1) #[.slice none 0 0] ((w.alloc (.cells #[.slice a xss.length c] 26)).alloc (.cells #[.slice none 0 0] 26)) := VC.new hz1
  have u2 := u1.alloc (by omega) (.cells #[.slice none 0 0] 26)
  replace VG := VG.upd (Upd.alloc _ (.cells #[.slice none 0 0] 26)) (by omega)
  have hz2 : ((w.alloc (.cells #[.slice a xss.length c] 26)).alloc (.cells #[.slice none 0 0] 26)).heap.size = B + 2 := by simp [hB]
  have H := Lib.hid h
  clear h u1 hz1
  have hcg := VG.cell
  go_enter Tryd.func80, Tryd.ntmps80
  go_wp2_with fail
  generalize (w.alloc (.cells #[.slice a xss.length c] 26)).alloc (.cells #[.slice none 0 0] 26) = W at *
  refine (specSetOk _ xss _ xs W (hr.below u2 hB) (RdS.below hs u2 hB)).mono ?_
  rintro e1 w1 ⟨rfl, hb1⟩
  have VG0 := VG
  replace VG := VG.upd (Upd.of_below hb1) (by omega)
  replace VR := VR.upd (Upd.of_below hb1) (by omega)
  have hbW : Below (B + 1) W w1 := hb1.mono (by omega)
  clear hb1 hcg
  have hcg := VG.cell
  have hno : ¬ OkV xss xs → Hid (rows = [] ∧ ok = false) := fun hn => by
    rcases H.out with ⟨_, h2⟩ | ⟨_, _, _, h1, _⟩
    · exact Lib.hid h2
    · exact (hn h1).elim
  have HNO := Lib.hid hno
  clear hno
  cases hok : (okB xss && decide (SetP xss.length xs)) with
  | false =>
    obtain ⟨rfl, rfl⟩ := (HNO.out (fun h => by rw [h.1] at hok; simp [h.2.1] at hok)).out
    have hcr := VR.cell
    have hfr := VR.free
    have HCE := Lib.hid (VR.set (.slice none 0 0)).cell
    have HB := Lib.hid ((u2.trans (hbW.mono (by omega))).setCell (p := ⟨B + 1, 0, none⟩) (by simp) (.slice none 0 0))
    clear hok
    go_wp2_with fail
    refine bodyPost_ret (v := .tuple #[.agg #[.slice none 0 0], .bool false]) (by simp [results, Tryd.results80, go_sem, HCE.out]) rfl ?_
    exact GRes.nothing _ _ (by rw [hB]; exact HB.out)
  | true =>
    have hok2 : okB xss = true ∧ SetP xss.length xs := by simpa using hok
    have hn16 : xss.length ≤ 16 := by
      have : OkP xss := by have := hok2.1; unfold okB at this; simpa using this
      exact this.1.2
    clear hok
    go_wp2_with fail
    refine (size_any a xss.length c w1).mono ?_
    rintro e1 w2 ⟨rfl, hb2⟩
    replace VG := VG.upd (Upd.of_below hb2) (by omega)
    have hlt1 := VR.lt
    replace VR := VR.upd (Upd.of_below hb2) (by omega)
    replace hbW := hbW.trans (hb2.mono (by omega))
    clear hb2 hcg
    have hcg := VG.cell
    have hcr := VR.cell
    have hfr := VR.free
    by_cases h16 : xss.length = 16
    · have hd : ((xss.length : Int) == 16) = true := by simp [h16]
      obtain ⟨rfl, rfl⟩ := (HNO.out (fun h => h.2.2 h16)).out
      have HCE := Lib.hid (VR.set (.slice none 0 0)).cell
      have HB := Lib.hid ((u2.trans (hbW.mono (by omega))).setCell (p := ⟨B + 1, 0, none⟩) (by simp) (.slice none 0 0))
      clear h16
      go_wp2_with fail
      refine bodyPost_ret (v := .tuple #[.agg #[.slice none 0 0], .bool false]) (by simp [results, Tryd.results80, go_sem, HCE.out]) rfl ?_
      exact GRes.nothing _ _ (by rw [hB]; exact HB.out)
    have hd : ((xss.length : Int) == 16) = false := by simp; omega
    obtain ⟨e, hA, hx, hset, rfl, rfl⟩ : ∃ e, Adj xss.length e ∧ xss = rowsB xss.length e ∧ SetP xss.length xs ∧ rows = rowsB (xss.length + 1) (hung xss.length e xs) ∧ ok = true := by
      rcases H.out with ⟨h1, _⟩ | ⟨e, hA, hx, _, h3, h4⟩
      · exact (h1 ⟨hok2.1, hok2.2, h16⟩).elim
      · exact ⟨e, hA, hx, hok2.2, h3, h4⟩
    have hn1 := hA.pos
    have HX := Lib.hid hx
    have HSET := Lib.hid hset
    have hshort : ∀ ys ∈ xss, ys.length ≤ 1000000 := by
      intro ys hys
      rw [HX.out] at hys
      obtain ⟨u, _, rfl⟩ := List.mem_map.1 hys
      have := rowB_length xss.length (e u)
      omega
    obtain ⟨n, hn⟩ : ∃ n, xss.length = n := ⟨_, rfl⟩
    have HCG := Lib.hid (copyGraph_any (.slice a xss.length c) xss (by omega) hshort w2 (hr.below (u2.trans (hbW.mono (by omega))) hB))
    have HN := Lib.hid hn
    clear h16 hok2 hx hset hn hshort HNO H
    go_wp2_with fail
    refine HCG.out.mono ?_
    rintro e1 w3 ⟨u3, vs3, rfl, hO, hb3⟩
    have hvl : vs3.length = xss.length := by rw [hO.len]; simp
    obtain ⟨a3, c3, rfl⟩ := owns_shape hO.outer
    rw [hvl] at hO ⊢
    obtain ⟨C, hC⟩ : ∃ C, w3.heap.size = C := ⟨_, rfl⟩
    have hlt2 := VR.lt
    have hz3 : B + 2 ≤ C := by have := hb3.size; omega
    have VO : VC 26 C #[.slice a3 xss.length c3] (w3.alloc (.cells #[.slice a3 xss.length c3] 26)) := VC.new hC
    have u4 := Upd.alloc w3 (.cells #[.slice a3 xss.length c3] 26)
    replace VG := (VG.upd (Upd.of_below hb3) (by omega)).upd u4 (by omega)
    replace VR := (VR.upd (Upd.of_below hb3) (by omega)).upd u4 (by omega)
    replace hbW := (hbW.trans (hb3.mono (by omega))).alloc (by omega) (.cells #[.slice a3 xss.length c3] 26)
    have hO3lt : ∀ b, (Value.slice a3 xss.length c3).ownBlock = some b → b < C := fun b hb' => by have := (owns_lt hO.outer hb').2; omega
    replace hO := (hO.rebase (base' := B + 2) (by omega)).below (below_alloc' w3 (.cells #[.slice a3 xss.length c3] 26))
    have hz4 : (w3.alloc (.cells #[.slice a3 xss.length c3] 26)).heap.size = C + 1 := by simp [hC]
    have HVL := Lib.hid hvl
    clear hcg hcr hfr hb3 u4 HCG hvl
    have hco := VO.cell
    have hfo := VO.free
    have hout : (w3.alloc (.cells #[.slice a3 xss.length c3] 26)).ownsRow (B + 2) 33 1 (.slice a3 xss.length c3) xss.length vs3 := by have := hO.outer; rwa [HVL.out] at this
    have hlt4 : ∀ b, (Value.slice a3 xss.length c3).ownBlock = some b → B + 2 ≤ b ∧ b < C := fun b hb' => by have h1 := owns_lt hout hb'; have h2 := hO3lt b hb'; omega
    have hbs := run_buildOne (P := Tryd.prog) ((w3.alloc (.cells #[.slice a3 xss.length c3] 26)).alloc (.cells #[] 2)) 22 33 _ (.slice (some ⟨C + 1, 0, none⟩) 0 0) _ Tryd.underlying22 infoR rfl rfl
    have hba : Below (w3.alloc (.cells #[.slice a3 xss.length c3] 26)).heap.size (w3.alloc (.cells #[.slice a3 xss.length c3] 26)) ((w3.alloc (.cells #[.slice a3 xss.length c3] 26)).alloc (.cells #[] 2)) := below_alloc' _ _
    have hou : ((w3.alloc (.cells #[.slice a3 xss.length c3] 26)).alloc (.cells #[] 2)).ownsRow (C + 1) 2 1 (.slice (some ⟨C + 1, 0, none⟩) 0 0) 0 [] := by have := World.ownsRow_lit (base := C + 1) (e := 2) (size := 1) (w3.alloc (.cells #[.slice a3 xss.length c3] 26)) #[] 0 (by omega) (by simp [maxLen]) rfl; rwa [hz4] at this
    have HBA := Lib.hid hba
    clear hba
    go_wp2_with (at_builtin; refine wpList_push_at _ rfl _ _ 22 rfl (B + 2) 33 _ _ 24 Tryd.underlying22 infoR rfl _ _ _ rfl (hout.alloc _) (C + 2) (by simp [hC]) _ rfl rfl (by unfold maxLen; omega) (by omega) (by simp; omega) ?_; intro g5 c5 w5 ho5 hg5; clear hbs; have VO5 := (VO.belowAt HBA.out (by omega)).grown hg5 (fun e => by have := hlt4 _ e; omega); have hco5 := VO5.cell; have hfo5 := VO5.free)
    have hO5 := hO.push (cs := []) HBA.out hou (by omega) (by omega) (by rw [HVL.out]; exact ho5) hg5
    have hb5 : Below (B + 1) W w5 := (hbW.trans (HBA.out.mono (by omega))).grown hg5 (by simp; omega) (fun y hy => by have := hlt4 y hy; omega)
    have VR5 := (VR.belowAt HBA.out (by omega)).grown hg5 (fun e => by have := hlt4 _ e; omega)
    have hS : SG W (B + 1) C (some ⟨g5, 0, none⟩) (xss.length + 1) c5 (vs3 ++ [.slice (some ⟨C + 1, 0, none⟩) 0 0]) (NB (xss.length + 1) (hung xss.length e (xs.take 0))) (w5.setCell ⟨C, 0, none⟩ (.slice (some ⟨g5, 0, none⟩) (xss.length + 1) c5)) := by
      refine ⟨VR5.other (by simp; omega) _, VO5.set _, ?_, hb5.setCell (by simp; omega) _, by omega, by simp⟩
      rw [rowsOf_NB (by omega), show hung xss.length e (xs.take 0) = grown xss.length e from rfl, ← rowsB_grown, ← HX.out, rows_snoc]
      refine hO5.unlike_setCell (p := ⟨C, 0, none⟩) (c := #[.slice a3 xss.length c3]) (t := 26) (fr := (0, 0)) VO5 (by decide) (by decide) _
    clear hO5 hb5 VR5 ho5 hg5 hou hout hO hlt4 hO3lt VO VO5 hco hfo hco5 hfo5 VR VG hbW HBA hz4
    go_loopw [7] (fun i wr => ∃ (k : Nat) (vs : List Value), k ≤ xs.length ∧ i = .int .i64 k ∧ SG W (B + 1) C (some ⟨g5, 0, none⟩) (xss.length + 1) c5 vs (NB (xss.length + 1) (hung xss.length e (xs.take k))) wr) (fun i _ => xs.length - (intOf i).toNat)
    case atStart => exact ⟨0, _, Nat.zero_le _, rfl, hS⟩
    case round =>
      clear hS
      obtain ⟨k, vs, hk, rfl, hS⟩ := hrel
      by_cases hlt : k < xs.length
      · obtain ⟨xb, xo, x, rfl, hcx, HXX⟩ := (RdS.below hs (u2.trans (hS.bel.mono (by omega))) hB).intAt hlt
        obtain ⟨m, rfl⟩ := Int.eq_ofNat_of_zero_le (HSET.out.1 x (List.mem_of_getElem? HXX.out)).1
        have hm : m < xss.length := by have := (HSET.out.1 m (List.mem_of_getElem? HXX.out)).2; omega
        have HL := Lib.hid (hung_succ (n := xss.length) (e := e) HXX.out)
        have hcg := (VG0.belowAt hS.bel (by omega)).cell
        have hcC := hS.var.cell
        go_wp2_with fail
        refine wp_region_ord [1, 2, 3] [0, 4, 5] [6] [7, 8] (by kernel_rfl) (by kernel_rfl) (fun _ _ d _ _ h => by cases d <;> exact h) ?_
        simp only [pickOps, List.filterMap_cons, List.filterMap_nil, List.getElem?_cons_succ, List.getElem?_cons_zero]
        repeat quiet_step (fail)
        refine wpSegs_cons ?_
        go_wp2_with fail
        refine (size_any a xss.length c wr.drew).mono ?_
        rintro e1 w6 ⟨rfl, hb6⟩
        have HB6 := Lib.hid (below_drew hb6)
        replace hS := hS.below (below_drew hb6)
        have HLK := Lib.hid (hS.link m xss.length (m : Int) (xss.length : Int) rfl rfl (by omega) (by omega) (by omega))
        clear hb6 hcC hcg
        go_wp2_with fail
        refine ⟨HB6.out, ?_⟩
        simp only [wpSegs_nil_eq]
        go_wp2_with fail
        refine HLK.out.mono ?_
        rintro e1 w7 ⟨rfl, vs7, hS7⟩
        rw [joinS_NB _ (by omega) (by omega), ← HL.out] at hS7
        have hcC7 := hS7.var.cell
        have hfC7 := hS7.var.free
        clear hS HLK
        go_wp2_with fail
        go_roundw
        case rel => exact ⟨k + 1, vs7, by omega, by go_num, hS7.store⟩
        case measure => simp [intOf]; omega
      · obtain rfl : k = xs.length := by omega
        rw [List.take_length] at hS
        have hcC := hS.var.cell
        have hcR := hS.res.cell
        have hfR := hS.res.free
        have HF := Lib.hid (GRes.fin (b := B + 1) hB (u2.trans (hS.bel.mono (by omega))) (by omega) hS.own (by omega) true)
        have HCE := Lib.hid (hS.res.set (.slice (some ⟨g5, 0, none⟩) (xss.length + 1) c5)).cell
        go_wp2_with fail
        refine bodyPost_ret (v := .tuple #[.agg #[.slice (some ⟨g5, 0, none⟩) (xss.length + 1) c5], .bool true]) (by simp [results, Tryd.results80, go_sem, HCE.out]) rfl ?_
        have := HF.out
        rw [rowsOf_NB (by omega)] at this
        exact this

set_option maxHeartbeats 1000000 in
theorem implSetOk (v : Value) (xss : List (List Int)) (v2 : Value) (xs : List Int) (w : World) (hr : RdSS v xss w) (hs : RdS v2 xs w) :
    Calls Tryd.prog 75 #[.agg #[v], v2] w fun e w' => e = .returned (.bool (okB xss && decide (SetP xss.length xs))) ∧ Below w.heap.size w w' := by
  obtain ⟨a, c, rfl⟩ := hr.shape
  obtain ⟨a2, c2, rfl, -, -, -⟩ := id hs
  obtain ⟨B, hB⟩ : ∃ B, w.heap.size = B := ⟨_, rfl⟩
  have hb0 : Below B w (w.alloc (.cells #[.slice a xss.length c] 26)) := by subst hB; exact below_alloc' _ _
  have hV0 : VC 26 B #[.slice a xss.length c] (w.alloc (.cells #[.slice a xss.length c] 26)) := VC.new hB
  have hsz : (w.alloc (.cells #[.slice a xss.length c] 26)).heap.size = B + 1 := by simp [hB]
  have hc0 := hV0.cell
  go_enter Tryd.func75, Tryd.ntmps75
  go_wp2_with fail
  generalize w.alloc (.cells #[.slice a xss.length c] 26) = W at *
  refine (implOk _ xss W (hr.below hb0 hB)).mono ?_
  rintro e w1 ⟨rfl, hb1⟩
  have hV1 := hV0.upd (Upd.of_below hb1) (by omega)
  have hb01 := hb0.trans (hb1.mono (by omega))
  clear hc0 hV0 hb0 hb1
  have hc1 := hV1.cell
  cases hok : okB xss with
  | false =>
    go_wp2_with fail
    go_ret
    exact ⟨ret_bool (by simp [hok]), by rw [hB]; exact hb01⟩
  | true =>
    have hn : xss.length ≤ 16 := by
      have : OkP xss := by unfold okB at hok; simpa using hok
      exact this.1.2
    go_wp2_with fail
    refine (incr_any _ xs xss.length (by omega) w1 (RdS.below hs hb01 hB)).mono ?_
    rintro e w3 ⟨rfl, rfl⟩
    go_wp2_with fail
    go_ret
    exact ⟨ret_bool (by simp [hok]), by rw [hB]; exact hb01⟩

theorem row_one {w : World} {b : Nat} {x : Value} {t : TypeId} (h : VC t b #[x] w) : Row w 1 (.slice (some ⟨b, 0, none⟩) 1 1) 1 [x] := by
  refine ⟨_, 1, rfl, by omega, by simp [maxLen], rfl, (by intro h; cases h), fun j u hj => ⟨b, 0, rfl, ?_⟩⟩
  match j, hj with
  | 0, hj => simp at hj; subst hj; exact h.cell

set_option maxHeartbeats 4000000 in
theorem implAddedVertex (v : Value) (xss : List (List Int)) (v2 : Value) (xs : List Int) (w : World) (ht : Tab w) (hr : RdSS v xss w) (hs : RdS v2 xs w) (rows : List (List Int)) (ok : Bool)
    (h : (¬ OkV xss xs ∧ rows = [] ∧ ok = false) ∨ ∃ e, Adj xss.length e ∧ xss = rowsB xss.length e ∧ OkV xss xs ∧ rows = rowsB (xss.length + 1) (hung xss.length e xs) ∧ ok = true) :
    Calls Tryd.prog 43 #[.agg #[v], v2] w (GRes w rows ok) := by
  obtain ⟨a, c, rfl⟩ := hr.shape
  have hxl := hs.len
  unfold maxLen at hxl
  obtain ⟨a2, c2, rfl, -, -, -⟩ := id hs
  obtain ⟨B, hB⟩ : ∃ B, w.heap.size = B := ⟨_, rfl⟩
  have hTB : 0 < B := by rw [← hB]; exact ht.lt
  have u1 : Below B w (w.alloc (.cells #[.slice a xss.length c] 26)) := by subst hB; exact below_alloc' _ _
  have VG : VC 26 B #[.slice a xss.length c] (w.alloc (.cells #[.slice a xss.length c] 26)) := VC.new hB
  have hz1 : (w.alloc (.cells #[.slice a xss.length c] 26)).heap.size = B + 1 := by simp [hB]
  have VR : VC 26 (B + 1) #[.slice none 0 0] ((w.alloc (.cells #[.slice a xss.length c] 26)).alloc (.cells #[.slice none 0 0] 26)) := VC.new hz1
  have u2 := u1.alloc (by omega) (.cells #[.slice none 0 0] 26)
  replace VG := VG.upd (Upd.alloc _ (.cells #[.slice none 0 0] 26)) (by omega)
  have hz2 : ((w.alloc (.cells #[.slice a xss.length c] 26)).alloc (.cells #[.slice none 0 0] 26)).heap.size = B + 2 := by simp [hB]
  have H := Lib.hid h
  clear h u1 hz1
  have hcg := VG.cell
  go_enter Tryd.func43, Tryd.ntmps43
  go_wp2_with fail
  generalize (w.alloc (.cells #[.slice a xss.length c] 26)).alloc (.cells #[.slice none 0 0] 26) = W at *
  refine (implSetOk _ xss _ xs W (hr.below u2 hB) (RdS.below hs u2 hB)).mono ?_
  rintro e1 w1 ⟨rfl, hb1⟩
  replace VG := VG.upd (Upd.of_below hb1) (by omega)
  replace VR := VR.upd (Upd.of_below hb1) (by omega)
  have hb := u2.trans (hb1.mono (by omega))
  have hzw1 : B + 2 ≤ w1.heap.size := by have := hb1.size; omega
  clear hb1 hcg u2
  have hcg := VG.cell
  have hcr := VR.cell
  have hfr := VR.free
  have HCE0 := Lib.hid (VR.set (.slice none 0 0)).cell
  have HB0 := Lib.hid (hb.setCell (p := ⟨B + 1, 0, none⟩) (by simp) (.slice none 0 0))
  have hno : ¬ OkV xss xs → Hid (rows = [] ∧ ok = false) := fun hn => by
    rcases H.out with ⟨_, h2⟩ | ⟨_, _, _, h1, _⟩
    · exact Lib.hid h2
    · exact (hn h1).elim
  have HNO := Lib.hid hno
  clear hno
  cases hok : (okB xss && decide (SetP xss.length xs)) with
  | false =>
    obtain ⟨rfl, rfl⟩ := (HNO.out (fun h => by rw [h.1] at hok; simp [h.2.1] at hok)).out
    clear hok
    go_wp2_with fail
    refine bodyPost_ret (v := .tuple #[.agg #[.slice none 0 0], .bool false]) (by simp [results, Tryd.results43, go_sem, HCE0.out]) rfl ?_
    exact GRes.nothing _ _ (by rw [hB]; exact HB0.out)
  | true =>
    have hok2 : okB xss = true ∧ SetP xss.length xs := by simpa using hok
    have hn16 : xss.length ≤ 16 := by
      have : OkP xss := by have := hok2.1; unfold okB at this; simpa using this
      exact this.1.2
    clear hok
    by_cases h16 : xss.length = 16
    · have hd : ((xss.length : Int) == 16) = true := by simp [h16]
      obtain ⟨rfl, rfl⟩ := (HNO.out (fun h => h.2.2 h16)).out
      clear h16
      go_wp2_with fail
      refine bodyPost_ret (v := .tuple #[.agg #[.slice none 0 0], .bool false]) (by simp [results, Tryd.results43, go_sem, HCE0.out]) rfl ?_
      exact GRes.nothing _ _ (by rw [hB]; exact HB0.out)
    have hd : ((xss.length : Int) == 16) = false := by simp; omega
    obtain ⟨e, hA, hx, hset, rfl, rfl⟩ : ∃ e, Adj xss.length e ∧ xss = rowsB xss.length e ∧ SetP xss.length xs ∧ rows = rowsB (xss.length + 1) (hung xss.length e xs) ∧ ok = true := by
      rcases H.out with ⟨h1, _⟩ | ⟨e, hA, hx, _, h3, h4⟩
      · exact (h1 ⟨hok2.1, hok2.2, h16⟩).elim
      · exact ⟨e, hA, hx, hok2.2, h3, h4⟩
    have HX := Lib.hid hx
    have HSET := Lib.hid hset
    have hn1 := hA.pos
    have hrX : ∀ W', Below w1.heap.size w1 W' → RdSS (.slice a xss.length c) (rowsB xss.length e) W' := fun W' hb' => by
      have := hr.below (hb.trans (hb'.mono (by omega))) hB
      rwa [HX.out, rowsB_length] at this
    have HRX := Lib.hid hrX
    clear h16 hok2 hx hset HNO H HCE0 HB0 hrX
    go_wp2_with fail
    refine wp_region_take [4] [0, 5, 6] 8 5 #[true, false, false, false, true, true, true, false, false] (by kernel_rfl) (by kernel_rfl) (by kernel_rfl) (by kernel_rfl) (fun _ _ d _ _ h => by cases d <;> exact h) ?_
    simp only [pickOps, List.filterMap_cons, List.filterMap_nil, List.getElem?_cons_succ, List.getElem?_cons_zero]
    repeat quiet_step (fail)
    simp only [wpQuiet_nil_eq]
    obtain ⟨S1, hS1⟩ : ∃ S, w1.heap.size = S := ⟨_, rfl⟩
    refine wpAnyG_2 1 2 (by kernel_rfl) rfl rfl ?_ ?_
    focus
      unfold wpNext
      go_wp2_with fail
      refine (netsOf_any _ xss.length e hn16 w1.drew (HRX.out _ (below_drewN' w1 1))).mono ?_
      rintro e1 w2 ⟨u, rfl, hN, hb2⟩
      obtain ⟨ua, uc, rfl⟩ := owns_shape hN
      have HB2 := Lib.hid (below_drew hb2)
      clear hb2
      go_wp2_with fail
      refine ⟨fun _ => over_of_below HB2.out, ?_⟩
      refine wpAnyG_1 2 (by kernel_rfl) rfl ?_
      unfold wpNext
      go_wp2_with fail
      have HB3 := Lib.hid (HB2.out.alloc HB2.out.size (.cells #[.int .u32 0] 84))
      obtain ⟨C, hC⟩ : ∃ C, w2.heap.size = C := ⟨_, rfl⟩
      have VN : VC 84 C #[.int .u32 0] (w2.alloc (.cells #[.int .u32 0] 84)) := VC.new hC
      have hNo : (w2.alloc (.cells #[.int .u32 0] 84)).ownsRow S1 84 1 (.slice ua xss.length uc) xss.length (sets (NB xss.length e)) := by rw [← hS1]; exact hN.alloc _
      have hr1 := row_one VN
      have hz3 : S1 ≤ (w2.alloc (.cells #[.int .u32 0] 84)).heap.size := by rw [← hS1]; exact HB3.out.size
      first | rw [hC] | skip
      generalize w2.alloc (.cells #[.int .u32 0] 84) = w3 at *
      refine ⟨fun _ => over_of_below HB3.out, ?_⟩
      clear HB2 hN
    rotate_left
    focus
      unfold wpNext
      go_wp2_with fail
      have HB2 := Lib.hid (below_drewN' w1 1 |>.alloc (Nat.le_refl _) (.cells #[.int .u32 0] 84))
      have hBd : Below w1.heap.size w1 (w1.alloc (.cells #[.int .u32 0] 84)).drew := ((Below.refl _ _).alloc (Nat.le_refl _) _).drew
      have VN0 : VC 84 S1 #[.int .u32 0] (w1.alloc (.cells #[.int .u32 0] 84)).drew := (VC.new hS1).upd (Upd.drew _) (by omega)
      obtain ⟨C, hC⟩ : ∃ C, w1.heap.size = C := ⟨_, rfl⟩
      have hzd : (w1.alloc (.cells #[.int .u32 0] 84)).drew.heap.size = S1 + 1 := by simp [hS1]
      have HBD := Lib.hid hBd
      clear HB2 hBd
      generalize (w1.alloc (.cells #[.int .u32 0] 84)).drew = wd at *
      refine ⟨fun _ => over_of_below HBD.out, ?_⟩
      refine wpAnyG_1 1 (by kernel_rfl) rfl ?_
      unfold wpNext
      go_wp2_with fail
      refine (netsOf_any _ xss.length e hn16 wd (HRX.out _ HBD.out)).mono ?_
      rintro e1 w3 ⟨u, rfl, hN, hb2⟩
      obtain ⟨ua, uc, rfl⟩ := owns_shape hN
      have HB3 := Lib.hid (HBD.out.trans (hb2.mono (by omega)))
      have hr1 := row_one (VN0.upd (Upd.of_below hb2) (by omega))
      have hNo : w3.ownsRow S1 84 1 (.slice ua xss.length uc) xss.length (sets (NB xss.length e)) := owns_base hN (by omega)
      have hz3 : S1 ≤ w3.heap.size := by rw [← hS1]; exact HB3.out.size
      clear hb2 hN
      go_wp2_with fail
      refine ⟨fun _ => over_of_below HB3.out, ?_⟩
    all_goals
      refine wpAnyG_1 3 (by kernel_rfl) rfl ?_
      unfold wpNext
      refine wpList_extend w3 rfl _ _ 71 rfl S1 84 _ 4 Tryd.underlying71 infoV rfl _ xss.length _ rfl hNo _ 1 _ rfl hr1 (by intro u hu; rw [List.mem_singleton.1 hu]; rfl) (by unfold maxLen; omega) (by omega) hz3 ?_
      intro a4 c4 w4 ho4 hg4
      have hb4 : Below S1 w1 w4 := by have := HB3.out; rw [hS1] at this; exact this.grown hg4 hz3 (fun y hy => (owns_lt hNo hy).1)
      have hN4 : NS S1 w1 (.slice a4 (xss.length + 1) c4) (NB (xss.length + 1) (hung xss.length e (xs.take 0))) w4 := ⟨by rw [NB_length, show hung xss.length e (xs.take 0) = grown xss.length e from rfl, ← NB_grown]; simpa [sets] using ho4, NB_small (by omega) _, hb4⟩
      have HB4 := Lib.hid hb4
      clear hb4 ho4 hg4 hNo hr1 HB3
      go_wp2_with fail
      refine ⟨fun _ => over_of_below (by rw [hS1]; exact HB4.out), ?_⟩
      refine wpAnyG_1 7 (by kernel_rfl) rfl ?_
      unfold wpNext
      go_wp2_with fail
      refine ⟨fun _ => over_of_below (by rw [hS1]; exact HB4.out), ?_⟩
      refine wpAnyG_gate [] rfl (by simp) (by kernel_rfl) ?_
      simp only [pickOps, List.filterMap_cons, List.filterMap_nil, List.getElem?_cons_succ, List.getElem?_cons_zero]
      go_wp2_with fail
      clear HB4
      go_loopw [30] (fun i wr => ∃ k : Nat, k ≤ xs.length ∧ i = .int .i64 k ∧ NS S1 w1 (.slice a4 (xss.length + 1) c4) (NB (xss.length + 1) (hung xss.length e (xs.take k))) wr) (fun i _ => xs.length - (intOf i).toNat)
      case atStart => exact ⟨0, Nat.zero_le _, rfl, hN4⟩
      case round =>
        clear hN4
        obtain ⟨k, hk, rfl, hN⟩ := hrel
        have hsz := hN.bel.size
        by_cases hlt : k < xs.length
        · obtain ⟨xb, xo, x, rfl, hcx, HXX⟩ := (RdS.below hs (hb.trans (hN.bel.mono (by omega))) hB).intAt hlt
          obtain ⟨m, rfl⟩ := Int.eq_ofNat_of_zero_le (HSET.out.1 x (List.mem_of_getElem? HXX.out)).1
          have hm : m < xss.length := by have := (HSET.out.1 m (List.mem_of_getElem? HXX.out)).2; omega
          have HL := Lib.hid (hung_succ (n := xss.length) (e := e) HXX.out)
          have HJ := Lib.hid (hN.join (by omega) xss.length m (xss.length : Int) (m : Int) rfl rfl (by simp) (by simp; omega) (by simp; omega))
          clear hN
          go_wp2_with fail
          refine HJ.out.mono ?_
          rintro e1 w5 ⟨rfl, hN5, -⟩
          rw [joinS_NB _ (by omega) (by omega), plus_comm, ← HL.out] at hN5
          go_wp2_with fail
          go_roundw
          case rel => exact ⟨k + 1, by omega, by go_num, hN5⟩
          case measure => simp [intOf]; omega
        · obtain rfl : k = xs.length := by omega
          rw [List.take_length] at hN
          have VR2 := VR.belowAt hN.bel (by omega)
          have hb5 := hb.trans (hN.bel.mono (by omega))
          have HGR := Lib.hid (hN.graph (ht.keep hb hTB) (by omega) (by simp; omega))
          clear hcg hcr hfr
          go_wp2_with fail
          refine HGR.out.mono ?_
          rintro e1 w6 ⟨u6, us, rfl, hG6, hb6⟩
          rw [rowsOf_NB (by omega)] at hG6
          obtain ⟨uua, uuc, rfl⟩ := owns_shape hG6.outer
          have HF := Lib.hid (GRes.put (b := B + 1) hB hb5 (by omega) (by omega) hG6 hb6 true)
          replace VR2 := VR2.upd (Upd.of_below hb6) (by omega)
          have HCE := Lib.hid (VR2.set (.slice uua us.length uuc)).cell
          clear hG6 hb6 hN HGR hb5
          have hcr := VR2.cell
          have hfr := VR2.free
          go_wp2_with fail
          refine bodyPost_ret (v := .tuple #[.agg #[.slice uua us.length uuc], .bool true]) (by simp [results, Tryd.results43, go_sem, HCE.out]) rfl ?_
          exact HF.out

theorem both_AddedVertex (xss : List (List Int)) (xs : List Int) : ∃ rows ok, 1 + total rows ≤ 1000000000 ∧ rows.length ≤ 1000000000 ∧
    (∀ (w : World) (v v2 : Value), Tab w → RdSS v xss w → RdS v2 xs w → Calls Tryd.prog 80 #[.agg #[v], v2] w (GRes w rows ok)) ∧
    (∀ (w : World) (v v2 : Value), Tab w → RdSS v xss w → RdS v2 xs w → Calls Tryd.prog 43 #[.agg #[v], v2] w (GRes w rows ok)) := by
  by_cases h : OkV xss xs
  · obtain ⟨e, hA, hx⟩ := (okB_iff xss).1 h.1
    have hn := hA.le
    have ht := total_rowsB (xss.length + 1) (hung xss.length e xs) (by omega)
    exact ⟨_, true, by omega, by simp; omega, fun w v v2 _ hr hs => specAddedVertex v xss v2 xs w hr hs _ _ (.inr ⟨e, hA, hx, h, rfl, rfl⟩), fun w v v2 ht hr hs => implAddedVertex v xss v2 xs w ht hr hs _ _ (.inr ⟨e, hA, hx, h, rfl, rfl⟩)⟩
  · exact ⟨[], false, by simp [total], by simp, fun w v v2 _ hr hs => specAddedVertex v xss v2 xs w hr hs _ _ (.inl ⟨h, rfl, rfl⟩), fun w v v2 ht hr hs => implAddedVertex v xss v2 xs w ht hr hs _ _ (.inl ⟨h, rfl, rfl⟩)⟩
end Go.Proofs.YtikcooagdaghnaaDoor
