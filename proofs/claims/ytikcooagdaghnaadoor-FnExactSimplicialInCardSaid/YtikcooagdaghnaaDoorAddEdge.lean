/-
  'AddedEdge' of the reference and of the program.
-/
import Derived.Test.YtikcooagdaghnaaDoorPair
import Derived.Test.YtikcooagdaghnaaDoorVertex
namespace Go.Proofs.YtikcooagdaghnaaDoor
open Go.RowKit

/-- What 'AddedEdge' asks. -/
def OkA (xss : List (List Int)) (u v : Int) : Prop := vertexB xss u = true ∧ vertexB xss v = true ∧ u ≠ v ∧ edgeB xss u v = false
instance (xss : List (List Int)) (u v : Int) : Decidable (OkA xss u v) := by unfold OkA; infer_instance
/-- Two vertices of a valid graph. -/
structure Two (xss : List (List Int)) (u v : Int) (n : Nat) (e : Nat → Nat → Bool) (a b : Nat) : Prop where
  adj : Adj n e
  eq : xss = rowsB n e
  len : xss.length = n
  ua : u = a
  vb : v = b
  an : a < n
  bn : b < n
theorem two_of {xss : List (List Int)} {u v : Int} (h1 : vertexB xss u = true) (h2 : vertexB xss v = true) : ∃ e a b, Two xss u v xss.length e a b := by
  unfold vertexB at h1 h2
  rw [Bool.and_eq_true] at h1 h2
  obtain ⟨e, hA, hx⟩ := (okB_iff xss).1 h1.1
  obtain ⟨a, ha, han⟩ := inN_nat h1.2
  obtain ⟨b, hb, hbn⟩ := inN_nat h2.2
  exact ⟨e, a, b, hA, hx, rfl, ha, hb, han, hbn⟩
theorem edgeB_two {xss : List (List Int)} {u v : Int} {n : Nat} {e : Nat → Nat → Bool} {a b : Nat} (h : Two xss u v n e a b) : edgeB xss u v = e a b := by
  obtain ⟨hA, hx, hl, rfl, rfl, ha, hb⟩ := h
  unfold edgeB
  rw [show okB xss = true by rw [hx]; exact okB_adj hA, show inN xss.length (a : Int) = true by rw [inN_iff]; omega, Int.toNat_natCast, hx, rowsB_getD e ha, contains_rowB]
  simp [hb]

/-- An owned graph, changed in place, goes into the variable of the result. -/
theorem GRes.fin2 {w0 wr : World} {B b base : Nat} {u : Value} {vs : List Value} {rows : List (List Int)} (hB : w0.heap.size = B) (hb : Below B w0 wr) (hbb : B ≤ b)
    (hG : OwnG wr base 33 2 u vs (rows.map ints)) (hbase : b < base) (ok : Bool) :
    GRes w0 rows ok (.returned (.tuple #[.agg #[u], .bool ok])) (wr.setCell ⟨b, 0, none⟩ u) := GRes.fin hB hb hbb hG hbase ok

set_option maxHeartbeats 4000000 in
theorem specAddedEdge (g : Value) (xss : List (List Int)) (u v : Int) (w : World) (hr : RdSS g xss w) (rows : List (List Int)) (ok : Bool)
    (h : (¬ OkA xss u v ∧ rows = [] ∧ ok = false) ∨ ∃ e a b, Two xss u v xss.length e a b ∧ OkA xss u v ∧ rows = rowsB xss.length (plus e a b) ∧ ok = true) :
    Calls Tryd.prog 21 #[.agg #[g], .int .i64 u, .int .i64 v] w (GRes w rows ok) := by
  obtain ⟨a, c, rfl⟩ := hr.shape
  obtain ⟨B, hB⟩ : ∃ B, w.heap.size = B := ⟨_, rfl⟩
  have u1 : Below B w (w.alloc (.cells #[.slice a xss.length c] 26)) := by subst hB; exact below_alloc' _ _
  have VG : VC 26 B #[.slice a xss.length c] (w.alloc (.cells #[.slice a xss.length c] 26)) := VC.new hB
  have hz1 : (w.alloc (.cells #[.slice a xss.length c] 26)).heap.size = B + 1 := by simp [hB]
  have VR : VC 26 (B + 1) #[.slice none 0 0] ((w.alloc (.cells #[.slice a xss.length c] 26)).alloc (.cells #[.slice none 0 0] 26)) := VC.new hz1
  have u2 := u1.alloc (by omega) (.cells #[.slice none 0 0] 26)
  replace VG := VG.upd (Upd.alloc _ (.cells #[.slice none 0 0] 26)) (by omega)
  have hz2 : ((w.alloc (.cells #[.slice a xss.length c] 26)).alloc (.cells #[.slice none 0 0] 26)).heap.size = B + 2 := by simp [hB]
  have H := Lib.hid h
  have hno : ¬ OkA xss u v → rows = [] ∧ ok = false := fun hn => by
    rcases H.out with ⟨_, h2⟩ | ⟨_, _, _, _, h1, _⟩
    · exact h2
    · exact (hn h1).elim
  have HNO := Lib.hid hno
  clear h u1 hz1 hno
  have hcg := VG.cell
  go_enter Tryd.func21, Tryd.ntmps21
  go_wp2_with fail
  generalize (w.alloc (.cells #[.slice a xss.length c] 26)).alloc (.cells #[.slice none 0 0] 26) = W at *
  refine (l2Pair_any _ xss u v W (hr.below u2 hB)).mono ?_
  rintro e1 w1 ⟨rfl, hb1⟩
  replace VG := VG.upd (Upd.of_below hb1) (by omega)
  replace VR := VR.upd (Upd.of_below hb1) (by omega)
  have hb := u2.trans (hb1.mono (by omega))
  have hzw1 : B + 2 ≤ w1.heap.size := by have := hb1.size; omega
  clear hb1 u2 hcg
  have hcg := VG.cell
  have hcr := VR.cell
  have hfr := VR.free
  cases hp : (okB xss && inN xss.length u && inN xss.length v && (u != v)) with
  | false =>
    obtain ⟨rfl, rfl⟩ := HNO.out fun h => by
      obtain ⟨h1, h2, h3, _⟩ := h
      unfold vertexB at h1 h2
      rw [Bool.and_eq_true] at h1 h2
      rw [h1.1, h1.2, h2.2] at hp
      simp at hp
      exact h3 hp
    have HCE := Lib.hid (VR.set (.slice none 0 0)).cell
    have HB := Lib.hid (hb.setCell (p := ⟨B + 1, 0, none⟩) (by simp) (.slice none 0 0))
    clear hp
    go_wp2_with fail
    refine bodyPost_ret (v := .tuple #[.agg #[.slice none 0 0], .bool false]) (by simp [results, Tryd.results21, go_sem, HCE.out]) rfl ?_
    exact GRes.nothing _ _ (by rw [hB]; exact HB.out)
  | true =>
    have hp2 : ((okB xss = true ∧ inN xss.length u = true) ∧ inN xss.length v = true) ∧ u ≠ v := by simpa using hp
    obtain ⟨⟨⟨hok, hu⟩, hv⟩, huv⟩ := hp2
    have hn16 := ok_size hok
    obtain ⟨e, k, l, hT⟩ := two_of (xss := xss) (u := u) (v := v) (by unfold vertexB; rw [hok, hu]; rfl) (by unfold vertexB; rw [hok, hv]; rfl)
    obtain ⟨hA, hx, -, rfl, rfl, hk, hl⟩ := id hT
    have HX := Lib.hid hx
    have HT := Lib.hid hT
    have hE := Lib.hid (edge_any (.slice a xss.length c) xss k (l : Int) hk w1 (hr.below hb hB))
    have hEc : (xss.getD k []).contains (l : Int) = e k l := by rw [HX.out, rowsB_getD e hk, contains_rowB]; simp [hl]
    have HEC := Lib.hid hEc
    have HUV := Lib.hid huv
    have HP := Lib.hid (And.intro hok (And.intro hu hv))
    clear hp hok hu hv huv hx hT hEc
    go_wp2_with fail
    refine hE.out.mono ?_
    rintro e1 w2 ⟨rfl, hb2⟩
    rw [HEC.out]
    replace VG := VG.upd (Upd.of_below hb2) (by omega)
    replace VR := VR.upd (Upd.of_below hb2) (by omega)
    replace hb := hb.trans (hb2.mono (by omega))
    have hzw2 : B + 2 ≤ w2.heap.size := by have := hb2.size; omega
    clear hb2 hcg hcr hfr hE
    have hcg := VG.cell
    have hcr := VR.cell
    have hfr := VR.free
    cases hekl : e k l with
    | true =>
      obtain ⟨rfl, rfl⟩ := HNO.out fun h => by have h4 := h.2.2.2; rw [edgeB_two HT.out, hekl] at h4; cases h4
      have HCE := Lib.hid (VR.set (.slice none 0 0)).cell
      have HB := Lib.hid (hb.setCell (p := ⟨B + 1, 0, none⟩) (by simp) (.slice none 0 0))
      clear hekl
      go_wp2_with fail
      refine bodyPost_ret (v := .tuple #[.agg #[.slice none 0 0], .bool false]) (by simp [results, Tryd.results21, go_sem, HCE.out]) rfl ?_
      exact GRes.nothing _ _ (by rw [hB]; exact HB.out)
    | false =>
      have hOk : OkA xss (k : Int) (l : Int) := by
        obtain ⟨h1, h2, h3⟩ := HP.out
        exact ⟨by unfold vertexB; rw [h1, h2]; rfl, by unfold vertexB; rw [h1, h3]; rfl, HUV.out, by rw [edgeB_two HT.out]; exact hekl⟩
      obtain ⟨rfl, rfl⟩ : rows = rowsB xss.length (plus e k l) ∧ ok = true := by
        rcases H.out with ⟨h1, _⟩ | ⟨e', a', b', hT', _, h3, h4⟩
        · exact (h1 hOk).elim
        · obtain ⟨_, hx', _, hua, hvb, _, _⟩ := hT'
          have e1 : a' = k := by omega
          have e2 : b' = l := by omega
          subst e1; subst e2
          refine ⟨h3.trans ?_, h4⟩
          refine rowsB_ext fun p q hp hq => ?_
          have : e' p q = e p q := by
            have h5 := congrArg (fun z => (z.getD p []).contains (q : Int)) (hx'.symm.trans HX.out)
            simp only [rowsB_getD _ hp, contains_rowB, hq, decide_true, Bool.true_and] at h5
            exact h5
          unfold plus
          rw [this]
      have hshort : ∀ ys ∈ xss, ys.length ≤ 1000000 := by
        intro ys hys
        rw [HX.out] at hys
        obtain ⟨z, _, rfl⟩ := List.mem_map.1 hys
        have := rowB_length xss.length (e z)
        omega
      have HCG := Lib.hid (copyGraph_any (.slice a xss.length c) xss (by omega) hshort w2 (hr.below hb hB))
      clear hekl hOk hshort
      go_wp2_with fail
      refine HCG.out.mono ?_
      rintro e1 w3 ⟨u3, vs3, rfl, hO, hb3⟩
      have hvl : vs3.length = xss.length := by rw [hO.len]; simp
      obtain ⟨a3, c3, rfl⟩ := owns_shape hO.outer
      rw [hvl] at hO ⊢
      obtain ⟨S2, hS2⟩ : ∃ S, w2.heap.size = S := ⟨_, rfl⟩
      rw [hS2] at hO hb3 hzw2
      have hz3 : S2 ≤ w3.heap.size := by have := hb3.size; omega
      have hO2 : OwnG w3 S2 33 2 (.slice a3 xss.length c3) vs3 ((rowsOf (NB xss.length e)).map ints) := by rw [rowsOf_NB (by omega), ← HX.out]; exact hO
      have HLK := Lib.hid (link_sets S2 (.slice a3 xss.length c3) vs3 (NB xss.length e) k l (k : Int) (l : Int) rfl rfl w3 (by simpa using hk) (by simpa using hl) (by omega) (by omega) (by simp; omega) hz3 hO2)
      have hlt3 : ∀ y, (Value.slice a3 xss.length c3).ownBlock = some y → S2 ≤ y := fun y hy => (owns_lt hO2.outer hy).1
      have HLT := Lib.hid hlt3
      replace VR := VR.belowAt hb3 (by omega)
      replace hb := hb.trans (hb3.mono (by omega))
      clear hO hO2 hb3 hcg hcr hfr HCG hlt3 hvl
      go_wp2_with fail
      refine HLK.out.mono ?_
      rintro e1 w4 ⟨vs4, rfl, hO4, hw4⟩
      rw [joinS_NB _ hk hl, rowsOf_NB (by omega)] at hO4
      have u4 : Upd S2 w4.heap.size w3 w4 := ⟨hw4.os, hw4.tape, hw4.output, hw4.size, fun y hy hn => hw4.block y hy fun h => hn ⟨HLT.out y h, by have := hw4.size; omega⟩⟩
      replace VR := VR.upd u4 (by omega)
      replace hb := u4.below hb (by omega) (by omega)
      have HF := Lib.hid (GRes.fin (b := B + 1) hB hb (by omega) hO4 (by omega) true)
      have HCE := Lib.hid (VR.set (.slice a3 xss.length c3)).cell
      have hcr := VR.cell
      have hfr := VR.free
      clear hO4 hw4 u4 HLK hb
      go_wp2_with fail
      refine bodyPost_ret (v := .tuple #[.agg #[.slice a3 xss.length c3], .bool true]) (by simp [results, Tryd.results21, go_sem, HCE.out]) rfl ?_
      exact HF.out

set_option maxHeartbeats 4000000 in
theorem implAddedEdge (g : Value) (xss : List (List Int)) (u v : Int) (w : World) (ht : Tab w) (hr : RdSS g xss w) (rows : List (List Int)) (ok : Bool)
    (h : (¬ OkA xss u v ∧ rows = [] ∧ ok = false) ∨ ∃ e a b, Two xss u v xss.length e a b ∧ OkA xss u v ∧ rows = rowsB xss.length (plus e a b) ∧ ok = true) :
    Calls Tryd.prog 22 #[.agg #[g], .int .i64 u, .int .i64 v] w (GRes w rows ok) := by
  obtain ⟨a, c, rfl⟩ := hr.shape
  obtain ⟨B, hB⟩ : ∃ B, w.heap.size = B := ⟨_, rfl⟩
  have hTB : 0 < B := by rw [← hB]; exact ht.lt
  have u1 : Below B w (w.alloc (.cells #[.slice a xss.length c] 26)) := by subst hB; exact below_alloc' _ _
  have VG : VC 26 B #[.slice a xss.length c] (w.alloc (.cells #[.slice a xss.length c] 26)) := VC.new hB
  have hz1 : (w.alloc (.cells #[.slice a xss.length c] 26)).heap.size = B + 1 := by simp [hB]
  have VR : VC 26 (B + 1) #[.slice none 0 0] ((w.alloc (.cells #[.slice a xss.length c] 26)).alloc (.cells #[.slice none 0 0] 26)) := VC.new hz1
  have u2 := u1.alloc (by omega) (.cells #[.slice none 0 0] 26)
  replace VG := VG.upd (Upd.alloc _ (.cells #[.slice none 0 0] 26)) (by omega)
  have hz2 : ((w.alloc (.cells #[.slice a xss.length c] 26)).alloc (.cells #[.slice none 0 0] 26)).heap.size = B + 2 := by simp [hB]
  have H := Lib.hid h
  have hno : ¬ OkA xss u v → rows = [] ∧ ok = false := fun hn => by
    rcases H.out with ⟨_, h2⟩ | ⟨_, _, _, _, h1, _⟩
    · exact h2
    · exact (hn h1).elim
  have HNO := Lib.hid hno
  clear h u1 hz1 hno
  have hcg := VG.cell
  go_enter Tryd.func22, Tryd.ntmps22
  go_wp2_with fail
  generalize (w.alloc (.cells #[.slice a xss.length c] 26)).alloc (.cells #[.slice none 0 0] 26) = W at *
  refine (isPair_any _ xss u v W (hr.below u2 hB)).mono ?_
  rintro e1 w1 ⟨rfl, hb1⟩
  replace VG := VG.upd (Upd.of_below hb1) (by omega)
  replace VR := VR.upd (Upd.of_below hb1) (by omega)
  have hb := u2.trans (hb1.mono (by omega))
  have hzw1 : B + 2 ≤ w1.heap.size := by have := hb1.size; omega
  clear hb1 u2 hcg
  have hcg := VG.cell
  have hcr := VR.cell
  have hfr := VR.free
  have HCE0 := Lib.hid (VR.set (.slice none 0 0)).cell
  have HB0 := Lib.hid (hb.setCell (p := ⟨B + 1, 0, none⟩) (by simp) (.slice none 0 0))
  cases hp : (vertexB xss u && vertexB xss v) with
  | false =>
    obtain ⟨rfl, rfl⟩ := HNO.out fun h => by rw [h.1, h.2.1] at hp; cases hp
    clear hp
    go_wp2_with fail
    refine bodyPost_ret (v := .tuple #[.agg #[.slice none 0 0], .bool false]) (by simp [results, Tryd.results22, go_sem, HCE0.out]) rfl ?_
    exact GRes.nothing _ _ (by rw [hB]; exact HB0.out)
  | true =>
    rw [Bool.and_eq_true] at hp
    have HP := Lib.hid hp
    clear hp
    by_cases huv : u = v
    · obtain ⟨rfl, rfl⟩ := HNO.out fun h => h.2.2.1 huv
      have hd : (u == v) = true := by simpa using huv
      clear huv
      go_wp2_with fail
      refine bodyPost_ret (v := .tuple #[.agg #[.slice none 0 0], .bool false]) (by simp [results, Tryd.results22, go_sem, HCE0.out]) rfl ?_
      exact GRes.nothing _ _ (by rw [hB]; exact HB0.out)
    have hd : (u == v) = false := by simpa using huv
    have HUV := Lib.hid huv
    have HEI := Lib.hid (implEdgeIn (.slice a xss.length c) xss u v w1 (hr.below hb hB))
    clear huv
    go_wp2_with fail
    refine HEI.out.mono ?_
    rintro e1 w2 ⟨rfl, hb2⟩
    replace VG := VG.upd (Upd.of_below hb2) (by omega)
    replace VR := VR.upd (Upd.of_below hb2) (by omega)
    replace hb := hb.trans (hb2.mono (by omega))
    have hzw2 : B + 2 ≤ w2.heap.size := by have := hb2.size; omega
    clear hb2 hcg hcr hfr HEI HCE0 HB0
    have hcg := VG.cell
    have hcr := VR.cell
    have hfr := VR.free
    cases hed : edgeB xss u v with
    | true =>
      obtain ⟨rfl, rfl⟩ := HNO.out fun h => by rw [h.2.2.2] at hed; cases hed
      have HCE := Lib.hid (VR.set (.slice none 0 0)).cell
      have HB := Lib.hid (hb.setCell (p := ⟨B + 1, 0, none⟩) (by simp) (.slice none 0 0))
      clear hed
      go_wp2_with fail
      refine bodyPost_ret (v := .tuple #[.agg #[.slice none 0 0], .bool false]) (by simp [results, Tryd.results22, go_sem, HCE.out]) rfl ?_
      exact GRes.nothing _ _ (by rw [hB]; exact HB.out)
    | false =>
      obtain ⟨e, k, l, hT, rfl, rfl⟩ : ∃ e a b, Two xss u v xss.length e a b ∧ rows = rowsB xss.length (plus e a b) ∧ ok = true := by
        rcases H.out with ⟨h1, _⟩ | ⟨e', a', b', hT', _, h3, h4⟩
        · exact (h1 ⟨HP.out.1, HP.out.2, HUV.out, hed⟩).elim
        · exact ⟨e', a', b', hT', h3, h4⟩
      obtain ⟨hA, hx, -, rfl, rfl, hk, hl⟩ := hT
      have hn16 := hA.le
      have HX := Lib.hid hx
      have hr' := hr.below hb hB
      rw [HX.out, rowsB_length] at hr'
      have HNO2 := Lib.hid (netsOf_any _ xss.length e hn16 w2 hr')
      clear hed hx hr' hd
      go_wp2_with fail
      refine HNO2.out.mono ?_
      rintro e1 w3 ⟨u3, rfl, hN3, hb3⟩
      obtain ⟨a3, c3, rfl⟩ := owns_shape hN3
      obtain ⟨S2, hS2⟩ : ∃ S, w2.heap.size = S := ⟨_, rfl⟩
      rw [hS2] at hN3 hb3 hzw2
      have hN : NS S2 w2 (.slice a3 xss.length c3) (NB xss.length e) w3 := ⟨by rw [NB_length]; exact hN3, NB_small (by omega) _, hb3⟩
      have hz3 := hb3.size
      have HJ := Lib.hid (hN.join (by omega) k l (k : Int) (l : Int) rfl rfl (by simpa using hk) (by simpa using hl) (by simp; omega))
      have HT2 := Lib.hid (ht.keep hb hTB)
      clear hN hN3 hb3 HNO2 hcg hcr hfr
      go_wp2_with fail
      refine HJ.out.mono ?_
      rintro e1 w4 ⟨rfl, hN4, -⟩
      rw [joinS_NB _ hk hl] at hN4
      have HGR := Lib.hid (hN4.graph HT2.out (by omega) (by simp; omega))
      have VR2 := VR.belowAt hN4.bel (by omega)
      have hb4 := hb.trans (hN4.bel.mono (by omega))
      have hz4 := hN4.bel.size
      clear hN4 HJ
      go_wp2_with fail
      refine HGR.out.mono ?_
      rintro e1 w6 ⟨u6, us, rfl, hG6, hb6⟩
      rw [rowsOf_NB (by omega)] at hG6
      obtain ⟨uua, uuc, rfl⟩ := owns_shape hG6.outer
      have HF := Lib.hid (GRes.put (b := B + 1) hB hb4 (by omega) (by omega) hG6 hb6 true)
      replace VR2 := VR2.upd (Upd.of_below hb6) (by omega)
      have HCE := Lib.hid (VR2.set (.slice uua us.length uuc)).cell
      clear hG6 hb6 HGR hb4
      have hcr := VR2.cell
      have hfr := VR2.free
      go_wp2_with fail
      refine bodyPost_ret (v := .tuple #[.agg #[.slice uua us.length uuc], .bool true]) (by simp [results, Tryd.results22, go_sem, HCE.out]) rfl ?_
      exact HF.out

theorem both_AddedEdge (xss : List (List Int)) (u v : Int) : ∃ rows ok, 1 + total rows ≤ 1000000000 ∧ rows.length ≤ 1000000000 ∧
    (∀ (w : World) (g : Value), Tab w → RdSS g xss w → Calls Tryd.prog 21 #[.agg #[g], .int .i64 u, .int .i64 v] w (GRes w rows ok)) ∧
    (∀ (w : World) (g : Value), Tab w → RdSS g xss w → Calls Tryd.prog 22 #[.agg #[g], .int .i64 u, .int .i64 v] w (GRes w rows ok)) := by
  by_cases h : OkA xss u v
  · obtain ⟨e, a, b, hT⟩ := two_of h.1 h.2.1
    have hn := hT.adj.le
    have ht := total_rowsB xss.length (plus e a b) (by omega)
    exact ⟨_, true, by omega, by simp; omega, fun w g _ hr => specAddedEdge g xss u v w hr _ _ (.inr ⟨e, a, b, hT, h, rfl, rfl⟩), fun w g ht hr => implAddedEdge g xss u v w ht hr _ _ (.inr ⟨e, a, b, hT, h, rfl, rfl⟩)⟩
  · exact ⟨[], false, by simp [total], by simp, fun w g _ hr => specAddedEdge g xss u v w hr _ _ (.inl ⟨h, rfl, rfl⟩), fun w g ht hr => implAddedEdge g xss u v w ht hr _ _ (.inl ⟨h, rfl, rfl⟩)⟩
end Go.Proofs.YtikcooagdaghnaaDoor
