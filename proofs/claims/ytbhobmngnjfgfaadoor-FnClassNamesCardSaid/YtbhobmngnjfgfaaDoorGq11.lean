import Derived.Test.YtbhobmngnjfgfaaDoorGq07
import Derived.Test.YtbhobmngnjfgfaaDoorGq10
/-
  'CutVertex' of the reference and of the program.
-/


namespace Go.Proofs.YtbhobmngnjfgfaaDoor
open Go.RowKit

/-- The numbers below n but one. -/
def cutL (n k : Nat) : List Int := rowB n fun b => !decide (b = k)
theorem cutL_length (n k : Nat) : (cutL n k).length ≤ n := rowB_length _ _
theorem cutL_in (n k : Nat) : InP n (cutL n k) := (setP_rowB n _).inP
theorem cutL_without (n k : Nat) : without (allN n) (k : Int) = cutL n k := by
  have h : allN n = rowB n (fun _ => true) := by rw [rowB_all]; rfl
  rw [h, without_rowB]
  rfl
/-- What 'CutVertex' asks. -/
def OkX (xss : List (List Int)) (v : Int) : Prop := vertexB xss v = true ∧ xss.length ≠ 1
instance (xss : List (List Int)) (v : Int) : Decidable (OkX xss v) := by unfold OkX; infer_instance
def CutP (xss : List (List Int)) (v : Int) (rows : List (List Int)) (ok : Bool) : Prop :=
  (¬ OkX xss v ∧ rows = [] ∧ ok = false) ∨ ∃ (e : Nat → Nat → Bool) (k : Nat), Adj xss.length e ∧ xss = rowsB xss.length e ∧ v = k ∧ k < xss.length ∧ OkX xss v ∧ rows = rowsB (cutL xss.length k).length (ofList e (cutL xss.length k)) ∧ ok = true

set_option maxHeartbeats 2000000 in
theorem implCutVertex (g : Value) (xss : List (List Int)) (v : Int) (w : World) (ht : Tab w) (hr : RdSS g xss w) (rows : List (List Int)) (ok : Bool) (h : CutP xss v rows ok) :
    Calls Tryd.prog 61 #[.agg #[g], .int .i64 v] w (GRes w rows ok) := by
  obtain ⟨a, c, rfl⟩ := hr.shape
  obtain ⟨B, hB⟩ : ∃ B, w.heap.size = B := ⟨_, rfl⟩
  have hTB : 2 < B := by rw [← hB]; exact ht.lt
  have u1 : Below B w (w.alloc (.cells #[.slice a xss.length c] 56)) := by subst hB; exact below_alloc' _ _
  have VG : VC 56 B #[.slice a xss.length c] (w.alloc (.cells #[.slice a xss.length c] 56)) := VC.new hB
  have hz1 : (w.alloc (.cells #[.slice a xss.length c] 56)).heap.size = B + 1 := by simp [hB]
  have VR : VC 56 (B + 1) #[.slice none 0 0] ((w.alloc (.cells #[.slice a xss.length c] 56)).alloc (.cells #[.slice none 0 0] 56)) := VC.new hz1
  have u2 := u1.alloc (by omega) (.cells #[.slice none 0 0] 56)
  replace VG := VG.upd (Upd.alloc _ (.cells #[.slice none 0 0] 56)) (by omega)
  have hz2 : ((w.alloc (.cells #[.slice a xss.length c] 56)).alloc (.cells #[.slice none 0 0] 56)).heap.size = B + 2 := by simp [hB]
  have H := Lib.hid h
  clear h u1 hz1
  have hcg := VG.cell
  go_enter Tryd.func61, Tryd.ntmps61
  go_wp2_with fail
  generalize (w.alloc (.cells #[.slice a xss.length c] 56)).alloc (.cells #[.slice none 0 0] 56) = W at *
  refine (isVertex_any _ xss v W (hr.below u2 hB)).mono ?_
  rintro e1 w3 ⟨rfl, hb1⟩
  replace VG := VG.upd (Upd.of_below hb1) (by omega)
  replace VR := VR.upd (Upd.of_below hb1) (by omega)
  have hb := u2.trans (hb1.mono (by omega))
  have hzw3 : B + 2 ≤ w3.heap.size := by have := hb1.size; omega
  clear hb1 hcg u2
  have hcg := VG.cell
  have hcr := VR.cell
  have hfr := VR.free
  have HCE0 := Lib.hid (VR.set (.slice none 0 0)).cell
  have HB0 := Lib.hid (hb.setCell (p := ⟨B + 1, 0, none⟩) (by simp) (.slice none 0 0))
  have hno : ¬ OkX xss v → Hid (rows = [] ∧ ok = false) := fun hn => by
    rcases H.out with ⟨_, h2⟩ | ⟨_, _, _, _, _, _, h1, _⟩
    · exact Lib.hid h2
    · exact (hn h1).elim
  have HNO := Lib.hid hno
  clear hno
  cases hok : vertexB xss v with
  | false =>
    obtain ⟨rfl, rfl⟩ := (HNO.out (fun h => by have := h.1; rw [hok] at this; cases this)).out
    clear hok
    go_wp2_with fail
    refine bodyPost_ret (v := .tuple #[.agg #[.slice none 0 0], .bool false]) (by simp [results, Tryd.results61, go_sem, HCE0.out]) rfl ?_
    exact GRes.nothing _ _ (by rw [hB]; exact HB0.out)
  | true =>
    have HK := Lib.hid hok
    clear hok
    by_cases h1 : xss.length = 1
    · have hd : ((xss.length : Int) == 1) = true := by rw [beq_iff_eq]; omega
      obtain ⟨rfl, rfl⟩ := (HNO.out (fun h => h.2 h1)).out
      clear h1
      go_wp2_with fail
      refine bodyPost_ret (v := .tuple #[.agg #[.slice none 0 0], .bool false]) (by simp [results, Tryd.results61, go_sem, HCE0.out]) rfl ?_
      exact GRes.nothing _ _ (by rw [hB]; exact HB0.out)
    have hd : ((xss.length : Int) == 1) = false := by rw [beq_eq_false_iff_ne]; omega
    have HOK : Hid (OkX xss v) := Lib.hid ⟨HK.out, h1⟩
    clear h1
    obtain ⟨e, k, hA, hx, rfl, hk, rfl, rfl⟩ : ∃ e k, Adj xss.length e ∧ xss = rowsB xss.length e ∧ v = (k : Nat) ∧ k < xss.length ∧ rows = rowsB (cutL xss.length k).length (ofList e (cutL xss.length k)) ∧ ok = true := by
      rcases H.out with ⟨h1, _⟩ | ⟨e, k, hA, hx, h2, h3, _, h4, h5⟩
      · exact (h1 HOK.out).elim
      · exact ⟨e, k, hA, hx, h2, h3, h4, h5⟩
    have hn16 := hA.le
    have hl16 := cutL_length xss.length k
    have HA := Lib.hid (And.intro hA (cutL_in xss.length k))
    have hrX : ∀ W', Below (B + 2) w3 W' → RdSS (.slice a xss.length c) (rowsB xss.length e) W' := fun W' hb' => by
      have := hr.below (hb.trans (hb'.mono (by omega))) hB
      rwa [hx, rowsB_length] at this
    have HRX := Lib.hid hrX
    clear hx hrX HNO H HCE0 HB0 HOK
    have HN := Lib.hid (netsOf_any _ xss.length e hn16 w3 (HRX.out w3 (Below.refl _ _)))
    clear hcr hfr
    go_wp2_with fail
    refine HN.out.mono ?_
    rintro e1 w4 ⟨u4, rfl, hN4, hb4⟩
    obtain ⟨na, nc, rfl⟩ := owns_shape hN4
    obtain ⟨z1, HZ1⟩ : ∃ z : Int, Hid (z = (maskB xss.length (fun _ => true) : Nat)) := ⟨_, Lib.hid rfl⟩
    obtain ⟨z2, HZ2⟩ : ∃ z : Int, Hid (z = ((2 ^ k : Nat) : Int)) := ⟨_, Lib.hid rfl⟩
    obtain ⟨z3, HZ3⟩ : ∃ z : Nat, Hid (z = maskB xss.length (fun b => !decide (b = k))) := ⟨_, Lib.hid rfl⟩
    have hb1 : bits BinOp.andNot IntKind.u32 z1 z2 = (z3 : Int) := by
      rw [HZ1.out, HZ2.out, HZ3.out, maskB_andNot (by omega) _ (pow_small (by omega))]
      congr 1
      refine maskB_ext fun i hi => ?_
      rw [Nat.testBit_two_pow]
      simp [eq_comm]
    have HAL := Lib.hid (all_netsAt (.slice na xss.length nc) xss.length hn16 z1 HZ1.out ⟨_, _, rfl⟩ w4)
    have hb04 := hb.trans (hb4.mono (by omega))
    have HT4 := Lib.hid (ht.keep hb04 hTB)
    have HLI := Lib.hid (list_any z3 (by rw [HZ3.out]; exact maskB_small (by omega) _) w4 HT4.out)
    have hNr := Row.of_owns hN4
    have hll : (bitsOf z3).length = (cutL xss.length k).length := by
      have : (nums z3).length = (bitsOf z3).length := by simp [nums]
      rw [← this, HZ3.out, nums_maskB (by omega)]
      rfl
    have hle : (bitsOf z3).map (fun (i : Nat) => Value.int .i64 i) = ints (cutL xss.length k) := by
      rw [← ints_nums, HZ3.out, nums_maskB (by omega)]
      rfl
    rw [hll, hle] at HLI
    replace VR := VR.upd (Upd.of_below hb4) (by omega)
    have hz4 := hb4.size
    clear hcg HN hN4 hll hle hb4 VG hb
    go_wp2_with fail
    refine HAL.out.mono ?_
    rintro e1 w' ⟨rfl, rfl⟩
    go_wp2_with fail
    refine (one_at _ k rfl (by omega) z2 HZ2.out _).mono ?_
    rintro e1 w' ⟨rfl, rfl⟩
    go_wp2_with fail
    refine HLI.out.mono ?_
    rintro e1 w5 ⟨u5, rfl, hL5, hb5⟩
    obtain ⟨la, lc, rfl⟩ := owns_shape hL5
    have HD := Lib.hid (induced_any (.slice na xss.length nc) xss.length e hn16 (.slice la (cutL xss.length k).length lc) (cutL xss.length k) HA.out.2 (by omega) w5 (hNr.below hb5) (Row.of_owns hL5))
    clear HLI hL5 hNr
    go_wp2_with fail
    refine HD.out.mono ?_
    rintro e1 w6 ⟨u6, rfl, hN6⟩
    rw [NB_ofList HA.out.1 HA.out.2] at hN6
    obtain ⟨da, dc, rfl⟩ := owns_shape hN6.own
    rw [NB_length] at hN6 ⊢
    have hz5 := hb5.size
    have hb6 := hb04.trans ((hb5.trans (hN6.bel.mono hz5)).mono (by omega))
    have hz6 := hN6.bel.size
    have HT5 := Lib.hid (HT4.out.below hb5)
    have HGR := Lib.hid (hN6.graph HT5.out (by omega) (by simp; omega))
    replace VR := (VR.upd (Upd.of_below hb5) (by omega)).upd (Upd.of_below hN6.bel) (by omega)
    clear hN6 HD hb5
    go_wp2_with fail
    refine HGR.out.mono ?_
    rintro e1 w7 ⟨u7, us, rfl, hG7, hb7⟩
    rw [rowsOf_NB (by omega)] at hG7
    obtain ⟨uua, uuc, rfl⟩ := owns_shape hG7.outer
    have HF := Lib.hid (GRes.put (b := B + 1) hB hb6 (by omega) (by have := VR.lt; omega) hG7 hb7 true)
    replace VR := VR.upd (Upd.of_below hb7) (by omega)
    have HCE := Lib.hid (VR.set (.slice uua us.length uuc)).cell
    clear hG7 hb7 HGR hb6
    have hcr := VR.cell
    have hfr := VR.free
    go_wp2_with fail
    refine bodyPost_ret (v := .tuple #[.agg #[.slice uua us.length uuc], .bool true]) (by simp [results, Tryd.results61, go_sem, HCE.out]) rfl ?_
    exact HF.out

end Go.Proofs.YtbhobmngnjfgfaaDoor
/-
  'SplitEdge' of the reference and of the program.
-/

namespace Go.Proofs.YtbhobmngnjfgfaaDoor
open Go.RowKit

theorem edge_out {xss : List (List Int)} {u v : Int} (h : okB xss = true) (hu : inN xss.length u = true) (hv : inN xss.length v = false) : (xss.getD u.toNat []).contains v = false := by
  obtain ⟨e, hA, hx⟩ := (okB_iff xss).1 h
  obtain ⟨a, rfl, ha⟩ := inN_nat hu
  rw [Int.toNat_natCast, hx, rowsB_getD e ha]
  cases hc : (rowB xss.length (e a)).contains v with
  | false => rfl
  | true =>
    obtain ⟨i, hi, -, rfl⟩ := mem_rowB.1 (List.contains_iff_mem.1 hc)
    have : inN xss.length (i : Int) = true := by rw [inN_iff]; omega
    rw [this] at hv
    cases hv

set_option maxHeartbeats 2000000 in
theorem specEdgeIn (v : Value) (xss : List (List Int)) (x y : Int) (w : World) (hr : RdSS v xss w) :
    Calls Tryd.prog 56 #[.agg #[v], .int .i64 x, .int .i64 y] w fun e w' => e = .returned (.bool (edgeB xss x y)) ∧ Below w.heap.size w w' := by
  obtain ⟨a, c, rfl⟩ := hr.shape
  obtain ⟨B, hB⟩ : ∃ B, w.heap.size = B := ⟨_, rfl⟩
  have hb0 : Below B w (w.alloc (.cells #[.slice a xss.length c] 56)) := by subst hB; exact below_alloc' _ _
  have hV0 : VC 56 B #[.slice a xss.length c] (w.alloc (.cells #[.slice a xss.length c] 56)) := VC.new hB
  have hsz : (w.alloc (.cells #[.slice a xss.length c] 56)).heap.size = B + 1 := by simp [hB]
  have hc0 := hV0.cell
  go_enter Tryd.func56, Tryd.ntmps56
  go_wp2_with fail
  generalize w.alloc (.cells #[.slice a xss.length c] 56) = W at *
  refine (specOk _ xss W (hr.below hb0 hB)).mono ?_
  rintro e w1 ⟨rfl, hb1⟩
  have hV1 := hV0.upd (Upd.of_below hb1) (by omega)
  have hb01 := hb0.trans (hb1.mono (by omega))
  clear hb1 hc0 hV0
  have hc1 := hV1.cell
  cases hok : okB xss with
  | false =>
    go_wp2_with fail
    go_ret
    exact ⟨ret_bool (by simp [edgeB, hok]), by rw [hB]; exact hb01⟩
  | true =>
    have hn := ok_size hok
    go_wp2_with fail
    refine (there_any _ xss x (by omega) w1 (hr.below hb01 hB)).mono ?_
    rintro e w2 ⟨rfl, hb2⟩
    have hV2 := hV1.upd (Upd.of_below hb2) (by omega)
    have hb02 := hb01.trans (hb2.mono (by have := hV1.lt; omega))
    clear hb2 hc1 hV1
    have hc2 := hV2.cell
    cases hx : inN xss.length x with
    | false =>
      go_wp2_with fail
      go_ret
      exact ⟨ret_bool (by simp [edgeB, hok, hx]), by rw [hB]; exact hb02⟩
    | true =>
      go_wp2_with fail
      refine (there_any _ xss y (by omega) w2 (hr.below hb02 hB)).mono ?_
      rintro e w3 ⟨rfl, hb3⟩
      have hV3 := hV2.upd (Upd.of_below hb3) (by omega)
      have hb03 := hb02.trans (hb3.mono (by have := hV2.lt; omega))
      clear hb3 hc2 hV2
      have hc3 := hV3.cell
      cases hy : inN xss.length y with
      | false =>
        have ho := edge_out hok hx hy
        go_wp2_with fail
        go_ret
        exact ⟨ret_bool (by unfold edgeB; rw [ho, Bool.and_false]), by rw [hB]; exact hb03⟩
      | true =>
        obtain ⟨k, rfl, hk⟩ := inN_nat hx
        have HE := Lib.hid (edge_any (.slice a xss.length c) xss k y hk w3 (hr.below hb03 hB))
        obtain ⟨b, HBB⟩ : ∃ b : Bool, Hid ((xss.getD k []).contains y = b) := ⟨_, Lib.hid rfl⟩
        rw [HBB.out] at HE
        go_wp2_with fail
        refine HE.out.mono ?_
        rintro e w4 ⟨rfl, hb4⟩
        have hb04 := hb03.trans (hb4.mono (by have := hV3.lt; omega))
        clear hb4 hc3 HE
        go_wp2_with fail
        go_ret
        exact ⟨ret_bool (by unfold edgeB; rw [hok, hx, Int.toNat_natCast, HBB.out]; rfl), by rw [hB]; exact hb04⟩

/-- The lesser, and the greater, of two numbers. -/
def duo (u v : Int) : List Int := [if u < v then u else v, if v < u then u else v]
theorem max_any (u v : Int) (w : World) : Calls Tryd.prog 169 #[.int .i64 u, .int .i64 v] w fun e w' => e = .returned (.int .i64 (if v < u then u else v)) ∧ w = w' := by
  by_cases h : v < u
  · have hi : (if v < u then u else v) = u := if_pos h
    have HI := Lib.hid hi
    clear hi
    go_enter Tryd.func169, Tryd.ntmps169
    go_wp2_with fail
    go_ret
    exact ⟨rfl, rfl⟩
  · have hi : (if v < u then u else v) = v := if_neg h
    have HI := Lib.hid hi
    clear hi
    go_enter Tryd.func169, Tryd.ntmps169
    go_wp2_with fail
    go_ret
    exact ⟨rfl, rfl⟩

theorem adj_minus {n : Nat} {e : Nat → Nat → Bool} (h : Adj n e) (u v : Nat) : Adj n (minus e u v) := by
  refine ⟨h.pos, h.le, fun x hx => by unfold minus; rw [h.irr x hx]; rfl, fun x y hx hy => ?_⟩
  unfold minus
  rw [h.sym x y hx hy, Bool.and_assoc, Bool.and_assoc]
  congr 1
  rw [Bool.and_comm]
  congr 2
  · exact Bool.and_comm _ _
  · exact Bool.and_comm _ _
theorem duo_set {n k l : Nat} (hk : k < n) (hl : l < n) (h : k ≠ l) : SetP n (duo (k : Int) (l : Int)) := by
  unfold duo SetP
  rcases Nat.lt_or_gt_of_ne h with h1 | h1
  · have e1 : (k : Int) < l := by omega
    have e2 : ¬ (l : Int) < k := by omega
    rw [if_pos e1, if_neg e2]
    refine ⟨fun x hx => ?_, by simpa using h1⟩
    rcases List.mem_cons.1 hx with rfl | hx
    · omega
    · rw [List.mem_singleton.1 hx]; omega
  · have e1 : ¬ (k : Int) < l := by omega
    have e2 : (l : Int) < k := by omega
    rw [if_neg e1, if_pos e2]
    refine ⟨fun x hx => ?_, by simpa using h1⟩
    rcases List.mem_cons.1 hx with rfl | hx
    · omega
    · rw [List.mem_singleton.1 hx]; omega
/-- The order of the two is no matter. -/
theorem hung_duo (n : Nat) (f : Nat → Nat → Bool) {k l : Nat} (h : k ≠ l) : hung n f (duo (k : Int) (l : Int)) = plus (plus (grown n f) k n) l n := by
  unfold duo hung
  rcases Nat.lt_or_gt_of_ne h with h1 | h1
  · have e1 : (k : Int) < l := by omega
    have e2 : ¬ (l : Int) < k := by omega
    rw [if_pos e1, if_neg e2]
    simp
  · have e1 : ¬ (k : Int) < l := by omega
    have e2 : (l : Int) < k := by omega
    rw [if_neg e1, if_pos e2]
    simp only [List.foldl_cons, List.foldl_nil, Int.toNat_natCast]
    funext a b
    unfold plus
    ac_rfl
theorem minus_grown (n : Nat) (e : Nat → Nat → Bool) (u v : Nat) : minus (grown n e) u v = grown n (minus e u v) := by
  funext a b
  simp only [minus, grown]
  ac_rfl

/-- What 'SplitEdge' asks. -/
def OkD (xss : List (List Int)) (u v : Int) : Prop := edgeB xss u v = true ∧ xss.length ≠ 16
instance (xss : List (List Int)) (u v : Int) : Decidable (OkD xss u v) := by unfold OkD; infer_instance
theorem two_edge {xss : List (List Int)} {u v : Int} (h : edgeB xss u v = true) : ∃ e k l, Two xss u v xss.length e k l ∧ k ≠ l ∧ OkC xss u v := by
  have h0 := h
  unfold edgeB at h
  rw [Bool.and_eq_true, Bool.and_eq_true] at h
  obtain ⟨⟨h1, h2⟩, h3⟩ := h
  have h4 : inN xss.length v = true := by
    cases hv : inN xss.length v with
    | true => rfl
    | false => rw [edge_out h1 h2 hv] at h3; cases h3
  have hu : vertexB xss u = true := by unfold vertexB; rw [h1, h2]; rfl
  have hv : vertexB xss v = true := by unfold vertexB; rw [h1, h4]; rfl
  obtain ⟨e, k, l, hT⟩ := two_of hu hv
  have he := edgeB_two hT
  refine ⟨e, k, l, hT, fun hkl => ?_, hu, hv, h0⟩
  rw [h0, hkl, hT.adj.irr l hT.bn] at he
  cases he
def SplP (xss : List (List Int)) (u v : Int) (rows : List (List Int)) (ok : Bool) : Prop :=
  (¬ OkD xss u v ∧ rows = [] ∧ ok = false) ∨ ∃ e k l, Two xss u v xss.length e k l ∧ k ≠ l ∧ OkD xss u v ∧ rows = rowsB (xss.length + 1) (hung xss.length (minus e k l) (duo u v)) ∧ ok = true

end Go.Proofs.YtbhobmngnjfgfaaDoor
/-
  'SplitEdge' of the program.
-/

namespace Go.Proofs.YtbhobmngnjfgfaaDoor
open Go.RowKit

end Go.Proofs.YtbhobmngnjfgfaaDoor
/-
  'Contracted' of the reference.
-/

namespace Go.Proofs.YtbhobmngnjfgfaaDoor
open Go.RowKit

/-- One vertex is joined to these. -/
def linked (e : Nat → Nat → Bool) (p : Nat) (ys : List Int) : Nat → Nat → Bool := ys.foldl (fun f x => plus f p x.toNat) e
theorem linked_snoc (e : Nat → Nat → Bool) (p : Nat) (ys : List Int) (q : Nat) : linked e p (ys ++ [(q : Int)]) = plus (linked e p ys) p q := by
  unfold linked
  rw [List.foldl_append]
  simp
/-- The neighbours of p and the vertex q are put together: p's new neighbours. -/
def nearL (n : Nat) (e : Nat → Nat → Bool) (p q : Nat) : List Int := rowB n fun b => e q b && !decide (b = p)
theorem nearL_without (n : Nat) (e : Nat → Nat → Bool) (p q : Nat) : without (rowB n (e q)) (p : Int) = nearL n e p q := without_rowB n (e q) p
theorem adj_plus {n : Nat} {f : Nat → Nat → Bool} (h : Adj n f) {p q : Nat} (hpq : p ≠ q) : Adj n (plus f p q) := by
  refine ⟨h.pos, h.le, fun x hx => ?_, fun x y hx hy => ?_⟩
  · unfold plus
    rw [h.irr x hx]
    by_cases h1 : x = p
    · have h2 : ¬ x = q := fun h2 => hpq (h1.symm.trans h2)
      simp [h2]
    · simp [h1]
  · unfold plus
    rw [h.sym x y hx hy, Bool.or_assoc, Bool.or_assoc]
    congr 1
    rw [Bool.or_comm]
    congr 1
    · exact Bool.and_comm _ _
    · exact Bool.and_comm _ _
theorem adj_linked {n p : Nat} : ∀ (ys : List Int) (e : Nat → Nat → Bool), Adj n e → (∀ x ∈ ys, x.toNat ≠ p) → Adj n (linked e p ys)
  | [], _, h, _ => h
  | y :: ys, e, h, hy => adj_linked ys (plus e p y.toNat) (adj_plus h (hy y (by simp)).symm) fun x hx => hy x (by simp [hx])
theorem adj_near {n : Nat} {e : Nat → Nat → Bool} (h : Adj n e) (p q : Nat) : Adj n (linked e p (nearL n e p q)) :=
  adj_linked _ e h fun x hx => by
    obtain ⟨i, -, hi, rfl⟩ := mem_rowB.1 hx
    intro h
    rw [Int.toNat_natCast] at h
    simp [h] at hi
theorem max_nat (k l hi : Nat) (h : max k l = hi) (w : World) : Calls Tryd.prog 169 #[.int .i64 (k : Int), .int .i64 (l : Int)] w fun e w' => e = .returned (.int .i64 (hi : Int)) ∧ w = w' := by
  have e : (if (l : Int) < k then (k : Int) else l) = (hi : Int) := by split <;> omega
  rw [← e]
  exact max_any k l w

/-- What 'Contracted' gives. -/
def conE (n : Nat) (e : Nat → Nat → Bool) (lo hi : Nat) : Nat → Nat → Bool := ofList (linked e lo (nearL n e lo hi)) (cutL n hi)
def ConP (xss : List (List Int)) (u v : Int) (rows : List (List Int)) (ok : Bool) : Prop :=
  (edgeB xss u v = false ∧ rows = [] ∧ ok = false) ∨ ∃ e k l, Two xss u v xss.length e k l ∧ k ≠ l ∧ edgeB xss u v = true ∧ rows = rowsB (cutL xss.length (max k l)).length (conE xss.length e (min k l) (max k l)) ∧ ok = true

end Go.Proofs.YtbhobmngnjfgfaaDoor
/-
  Sets in the order of a key and then of their numbers, plainly: the search for the least one that fits.
-/

namespace Go.Proofs.YtbhobmngnjfgfaaDoor
open Go.RowKit

/-- The least number in which two sets differ lies in the first one. -/
def Lex (a b : Nat) : Prop := ∃ i, a.testBit i = true ∧ b.testBit i = false ∧ ∀ j, j < i → a.testBit j = b.testBit j
theorem Lex.irrefl {a : Nat} : ¬ Lex a a := fun ⟨i, h1, h2, _⟩ => by rw [h1] at h2; cases h2
theorem Lex.trans {a b c : Nat} (h : Lex a b) (h' : Lex b c) : Lex a c := by
  obtain ⟨i, h1, h2, h3⟩ := h
  obtain ⟨k, k1, k2, k3⟩ := h'
  rcases Nat.lt_trichotomy i k with hlt | heq | hlt
  · exact ⟨i, h1, by rw [← k3 i hlt]; exact h2, fun j hj => (h3 j hj).trans (k3 j (by omega))⟩
  · subst heq; rw [k1] at h2; cases h2
  · exact ⟨k, by rw [h3 k hlt]; exact k1, k2, fun j hj => (h3 j (by omega)).trans (k3 j hj)⟩
theorem Lex.asymm {a b : Nat} (h : Lex a b) : ¬ Lex b a := fun h' => (h.trans h').irrefl
theorem Lex.total {a b : Nat} (ha : a < 4294967296) (hb : b < 4294967296) (h : a ≠ b) : Lex a b ∨ Lex b a := by
  have h0 : a ^^^ b ≠ 0 := fun h0 => h (by
    apply Nat.eq_of_testBit_eq
    intro i
    have : (a ^^^ b).testBit i = false := by rw [h0]; simp
    rw [Nat.testBit_xor] at this
    revert this
    cases a.testBit i <;> cases b.testBit i <;> simp)
  have hx : a ^^^ b < 2 ^ 32 := Nat.xor_lt_two_pow (by rw [two32]; exact ha) (by rw [two32]; exact hb)
  obtain ⟨_, h1, h2⟩ := low_spec h0 hx
  generalize low (a ^^^ b) = i at h1 h2
  have hj : ∀ j, j < i → a.testBit j = b.testBit j := fun j hj => by
    have := h2 j hj
    rw [Nat.testBit_xor] at this
    revert this
    cases a.testBit j <;> cases b.testBit j <;> simp
  rw [Nat.testBit_xor] at h1
  cases ea : a.testBit i <;> cases eb : b.testBit i <;> rw [ea, eb] at h1 <;> simp at h1
  · exact .inr ⟨i, eb, ea, fun j h => (hj j h).symm⟩
  · exact .inl ⟨i, ea, eb, hj⟩

/-! ### The least one by a key -/
def Ahead (key : Nat → Nat) (a b : Nat) : Prop := key a < key b ∨ key a = key b ∧ Lex a b
theorem Ahead.trans {key : Nat → Nat} {a b c : Nat} (h : Ahead key a b) (h' : Ahead key b c) : Ahead key a c := by
  rcases h with h | ⟨h1, h2⟩
  · rcases h' with h' | ⟨h3, _⟩
    · exact .inl (by omega)
    · exact .inl (by omega)
  · rcases h' with h' | ⟨h3, h4⟩
    · exact .inl (by omega)
    · exact .inr ⟨by omega, h2.trans h4⟩
theorem Ahead.irrefl {key : Nat → Nat} {a : Nat} : ¬ Ahead key a a := fun h => by
  rcases h with h | ⟨_, h⟩
  · omega
  · exact h.irrefl
theorem Ahead.total {key : Nat → Nat} {a b : Nat} (ha : a < 4294967296) (hb : b < 4294967296) (h : a ≠ b) : Ahead key a b ∨ Ahead key b a := by
  rcases Nat.lt_trichotomy (key a) (key b) with hlt | heq | hlt
  · exact .inl (.inl hlt)
  · rcases Lex.total ha hb h with h | h
    · exact .inl (.inr ⟨heq, h⟩)
    · exact .inr (.inr ⟨heq.symm, h⟩)
  · exact .inr (.inl hlt)

/-- r is the least one below N that fits. -/
structure IsBest (key : Nat → Nat) (fit : Nat → Prop) (N r : Nat) : Prop where
  lt : r < N
  fits : fit r
  least : ∀ t, t < N → fit t → ¬ Ahead key t r
theorem IsBest.unique {key : Nat → Nat} {fit : Nat → Prop} {N r s : Nat} (hN : N ≤ 4294967296) (h : IsBest key fit N r) (h' : IsBest key fit N s) : r = s := by
  apply Classical.byContradiction
  intro hne
  have h1 := h.lt
  have h2 := h'.lt
  rcases Ahead.total (key := key) (by omega) (by omega) hne with h3 | h3
  · exact h'.least r h.lt h.fits h3
  · exact h.least s h'.lt h'.fits h3

/-- What a run over all numbers below k holds: the start, or the least one that fits. -/
structure Run (key : Nat → Nat) (fit : Nat → Prop) (init k r : Nat) : Prop where
  from_ : r = init ∨ (r < k ∧ fit r ∧ Ahead key r init)
  least : ∀ t, t < k → fit t → ¬ Ahead key t r
theorem Run.start (key : Nat → Nat) (fit : Nat → Prop) (init : Nat) : Run key fit init 0 init := ⟨.inl rfl, fun t h => by omega⟩
theorem Run.yes {key : Nat → Nat} {fit : Nat → Prop} {init k r : Nat} (h : Run key fit init k r) (hf : fit k) (ha : Ahead key k r) : Run key fit init (k + 1) k := by
  refine ⟨.inr ⟨by omega, hf, ?_⟩, fun t ht hft hlt => ?_⟩
  · rcases h.from_ with rfl | ⟨_, _, h1⟩
    · exact ha
    · exact ha.trans h1
  · by_cases htk : t = k
    · subst htk; exact hlt.irrefl
    · exact h.least t (by omega) hft (hlt.trans ha)
theorem Run.no {key : Nat → Nat} {fit : Nat → Prop} {init k r : Nat} (h : Run key fit init k r) (hf : ¬ (fit k ∧ Ahead key k r)) : Run key fit init (k + 1) r := by
  refine ⟨?_, fun t ht hft hlt => ?_⟩
  · rcases h.from_ with h1 | ⟨h1, h2, h3⟩
    · exact .inl h1
    · exact .inr ⟨by omega, h2, h3⟩
  · by_cases htk : t = k
    · subst htk; exact hf ⟨hft, hlt⟩
    · exact h.least t (by omega) hft hlt
/-- Where the start fits, the run ends at the least one. -/
theorem Run.best {key : Nat → Nat} {fit : Nat → Prop} {init N r : Nat} (h : Run key fit init N r) (h0 : init < N) (hf : fit init) : IsBest key fit N r := by
  refine ⟨?_, ?_, h.least⟩
  · rcases h.from_ with rfl | ⟨h1, _⟩ <;> assumption
  · rcases h.from_ with rfl | ⟨_, h1, _⟩ <;> assumption
theorem exists_run (key : Nat → Nat) (fit : Nat → Prop) (init : Nat) : ∀ k, ∃ r, Run key fit init k r
  | 0 => ⟨init, Run.start _ _ _⟩
  | k + 1 => by
    obtain ⟨r, hr⟩ := exists_run key fit init k
    by_cases h : fit k ∧ Ahead key k r
    · exact ⟨k, hr.yes h.1 h.2⟩
    · exact ⟨r, hr.no h⟩

/-! ### How many numbers a set has, from f on -/
def cnt (m f len : Nat) : Nat := ((List.range' f len).filter m.testBit).length
theorem cnt_zero (m f : Nat) : cnt m f 0 = 0 := rfl
theorem cnt_yes {m f : Nat} (len : Nat) (h : m.testBit f = true) : cnt m f (len + 1) = cnt m (f + 1) len + 1 := by
  unfold cnt
  rw [List.range'_succ, List.filter_cons_of_pos h, List.length_cons]
theorem cnt_no {m f : Nat} (len : Nat) (h : m.testBit f = false) : cnt m f (len + 1) = cnt m (f + 1) len := by
  unfold cnt
  rw [List.range'_succ, List.filter_cons_of_neg (by simp [h])]
theorem cnt_le (m f len : Nat) : cnt m f len ≤ len := by
  unfold cnt
  exact Nat.le_trans (List.length_filter_le _ _) (by simp)
theorem cnt_none {m f len : Nat} (h : ∀ j, f ≤ j → j < f + len → m.testBit j = false) : cnt m f len = 0 := by
  unfold cnt
  rw [List.length_eq_zero_iff, List.filter_eq_nil_iff]
  intro j hj
  rw [List.mem_range'_1] at hj
  rw [h j hj.1 hj.2]
  simp
theorem cnt_zero_iff {m f len : Nat} : cnt m f len = 0 ↔ ∀ j, f ≤ j → j < f + len → m.testBit j = false := by
  refine ⟨fun h j h1 h2 => ?_, cnt_none⟩
  unfold cnt at h
  rw [List.length_eq_zero_iff, List.filter_eq_nil_iff] at h
  have := h j (List.mem_range'_1.2 ⟨h1, h2⟩)
  simpa using this
theorem cnt_skip {m f : Nat} : ∀ (d len : Nat), (∀ j, f ≤ j → j < f + d → m.testBit j = false) → cnt m f (d + len) = cnt m (f + d) len
  | 0, len, _ => by simp
  | d + 1, len, h => by
    have ih := cnt_skip (m := m) (f := f) d (len + 1) fun j h1 h2 => h j h1 (by omega)
    rw [show d + 1 + len = d + (len + 1) by omega, ih, cnt_no _ (h (f + d) (by omega) (by omega))]
    rfl
/-- The number of a set's numbers. -/
def size (m : Nat) : Nat := (bitsOf m).length
theorem size_cnt {m n : Nat} (hn : n ≤ 32) (h : ∀ i, n ≤ i → m.testBit i = false) : size m = cnt m 0 n := by
  unfold size bitsOf cnt
  obtain ⟨d, hd⟩ : ∃ d, 32 = n + d := ⟨32 - n, by omega⟩
  rw [hd, ← List.range_eq_range', ← filter_range_lt n d m.testBit]
  congr 1
  apply List.filter_congr
  intro i _
  by_cases hi : i < n
  · simp [hi]
  · simp [hi, h i (by omega)]
theorem bits_above {m n : Nat} (h : m < 2 ^ n) : ∀ i, n ≤ i → m.testBit i = false := fun i hi => Nat.testBit_lt_two_pow (Nat.lt_of_lt_of_le h (Nat.pow_le_pow_right (by decide) hi))

/-! ### All sets of so many numbers, in their order -/
def combos (n : Nat) : Nat → Nat → Nat → List Nat
  | 0, _, c => [c]
  | k + 1, f, c => (List.range (n - (f + k))).flatMap fun d => combos n k (f + d + 1) (c ||| 2 ^ (f + d))

theorem bit_or_pow (c v i : Nat) : (c ||| 2 ^ v).testBit i = (c.testBit i || decide (v = i)) := by rw [Nat.testBit_or, Nat.testBit_two_pow]

theorem mem_combos {n : Nat} : ∀ {k f c s : Nat}, (∀ j, f ≤ j → c.testBit j = false) → f ≤ n →
    (s ∈ combos n k f c ↔ (∀ j, j < f → s.testBit j = c.testBit j) ∧ (∀ j, n ≤ j → s.testBit j = false) ∧ cnt s f (n - f) = k)
  | 0, f, c, s, hc, hf => by
    unfold combos
    rw [List.mem_singleton]
    constructor
    · rintro rfl
      exact ⟨fun _ _ => rfl, fun j hj => hc j (by omega), cnt_none fun j h1 _ => hc j h1⟩
    · rintro ⟨h1, h2, h3⟩
      apply Nat.eq_of_testBit_eq
      intro j
      by_cases hj : j < f
      · exact h1 j hj
      · rw [hc j (by omega)]
        by_cases hn : j < n
        · exact cnt_zero_iff.1 h3 j (by omega) (by omega)
        · exact h2 j (by omega)
  | k + 1, f, c, s, hc, hf => by
    unfold combos
    rw [List.mem_flatMap]
    have hc' : ∀ d, ∀ j, f + d + 1 ≤ j → (c ||| 2 ^ (f + d)).testBit j = false := fun d j hj => by
      rw [bit_or_pow, hc j (by omega), Bool.false_or, decide_eq_false_iff_not]; omega
    constructor
    · rintro ⟨d, hd, hs⟩
      rw [List.mem_range] at hd
      obtain ⟨h1, h2, h3⟩ := (mem_combos (hc' d) (by omega)).1 hs
      refine ⟨fun j hj => ?_, h2, ?_⟩
      · rw [h1 j (by omega), bit_or_pow, decide_eq_false (by omega : ¬ f + d = j), Bool.or_false]
      · have e : n - f = d + ((n - (f + d + 1)) + 1) := by omega
        rw [e, cnt_skip d _ fun j j1 j2 => by rw [h1 j (by omega), bit_or_pow, hc j j1, decide_eq_false (by omega : ¬ f + d = j)]; rfl]
        rw [cnt_yes _ (by rw [h1 (f + d) (by omega), bit_or_pow]; simp), h3]
    · rintro ⟨h1, h2, h3⟩
      have hex : ∃ d, f + d < n ∧ s.testBit (f + d) = true ∧ ∀ j, f ≤ j → j < f + d → s.testBit j = false := by
        have h0 : ∃ j, f ≤ j ∧ j < n ∧ s.testBit j = true := by
          apply Classical.byContradiction
          intro hn
          have : cnt s f (n - f) = 0 := cnt_none fun j j1 j2 => by
            cases hb : s.testBit j with
            | false => rfl
            | true => exact (hn ⟨j, j1, by omega, hb⟩).elim
          omega
        obtain ⟨j, j1, j2, j3⟩ := h0
        clear h3
        obtain ⟨d, rfl⟩ : ∃ d, j = f + d := ⟨j - f, by omega⟩
        induction d using Nat.strongRecOn with
        | _ d ih =>
          by_cases hl : ∃ d', d' < d ∧ s.testBit (f + d') = true
          · obtain ⟨d', h4, h5⟩ := hl
            exact ih d' h4 (by omega) (by omega) h5
          · refine ⟨d, j2, j3, fun j i1 i2 => ?_⟩
            cases hb : s.testBit j with
            | false => rfl
            | true => exact (hl ⟨j - f, by omega, by rw [show f + (j - f) = j by omega]; exact hb⟩).elim
      obtain ⟨d, hdn, hb, hlow⟩ := hex
      have e : n - f = d + ((n - (f + d + 1)) + 1) := by omega
      rw [e, cnt_skip d _ hlow, cnt_yes _ hb] at h3
      have hk : cnt s (f + d + 1) (n - (f + d + 1)) = k := by omega
      have hle := cnt_le s (f + d + 1) (n - (f + d + 1))
      refine ⟨d, List.mem_range.2 (by omega), (mem_combos (hc' d) (by omega)).2 ⟨fun j hj => ?_, h2, hk⟩⟩
      rw [bit_or_pow]
      by_cases hjf : j < f
      · rw [h1 j hjf, decide_eq_false (by omega : ¬ f + d = j), Bool.or_false]
      · by_cases hjd : j = f + d
        · subst hjd; rw [hb]; simp
        · rw [hlow j (by omega) (by omega), hc j (by omega), decide_eq_false (by omega : ¬ f + d = j)]; rfl

theorem combos_order {n : Nat} : ∀ {k f c : Nat}, (∀ j, f ≤ j → c.testBit j = false) → f ≤ n → (combos n k f c).Pairwise Lex
  | 0, f, c, _, _ => by unfold combos; exact List.pairwise_singleton _ _
  | k + 1, f, c, hc, hf => by
    have hc' : ∀ d, ∀ j, f + d + 1 ≤ j → (c ||| 2 ^ (f + d)).testBit j = false := fun d j hj => by
      rw [bit_or_pow, hc j (by omega), Bool.false_or, decide_eq_false_iff_not]; omega
    unfold combos
    rw [List.pairwise_flatMap]
    refine ⟨fun d hd => combos_order (hc' d) (by have := List.mem_range.1 hd; omega), ?_⟩
    refine (pairwise_range (n - (f + k))).imp_of_mem fun {d1 d2} h1 h2 hlt x hx y hy => ?_
    have h1' := List.mem_range.1 h1
    have h2' := List.mem_range.1 h2
    obtain ⟨x1, _, _⟩ := (mem_combos (hc' d1) (by omega)).1 hx
    obtain ⟨y1, _, _⟩ := (mem_combos (hc' d2) (by omega)).1 hy
    refine ⟨f + d1, ?_, ?_, fun j hj => ?_⟩
    · rw [x1 _ (by omega), bit_or_pow]; simp
    · rw [y1 _ (by omega), bit_or_pow, hc _ (by omega), decide_eq_false (by omega)]; rfl
    · rw [x1 _ (by omega), y1 _ (by omega), bit_or_pow, bit_or_pow, decide_eq_false (by omega), decide_eq_false (by omega)]

/-- The first one that fits is ahead of all others that fit. -/
theorem find_first {l : List Nat} {fit : Nat → Bool} {s : Nat} (ho : l.Pairwise Lex) (h : l.find? fit = some s) : s ∈ l ∧ fit s = true ∧ ∀ t ∈ l, fit t = true → t = s ∨ Lex s t := by
  rw [List.find?_eq_some_iff_append] at h
  obtain ⟨hf, l1, l2, rfl, has⟩ := h
  rw [List.pairwise_append] at ho
  refine ⟨by simp, hf, fun t ht hft => ?_⟩
  rw [List.mem_append, List.mem_cons] at ht
  rcases ht with ht | rfl | ht
  · have := has t ht
    rw [hft] at this
    cases this
  · exact .inl rfl
  · exact .inr ((List.pairwise_cons.1 ho.2.1).1 t ht)
theorem mem_all {n k s : Nat} (hn : n ≤ 32) : s ∈ combos n k 0 0 ↔ s < 2 ^ n ∧ size s = k := by
  rw [mem_combos (fun j _ => by simp) (Nat.zero_le _)]
  constructor
  · rintro ⟨_, h2, h3⟩
    exact ⟨Nat.lt_pow_two_of_testBit s h2, by rw [size_cnt hn h2]; exact h3⟩
  · rintro ⟨h1, h2⟩
    exact ⟨fun j hj => by omega, bits_above h1, by rw [← h2, size_cnt hn (bits_above h1)]; rfl⟩
end Go.Proofs.YtbhobmngnjfgfaaDoor
