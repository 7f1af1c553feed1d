/-
  'l19Less', 'l18Near', 'l18Goes' of the reference.
-/
import Derived.Test.YtbhobmngnjfgfaaDoorPruP
import Derived.Test.YtbhobmngnjfgfaaDoorNetsOf
import Derived.Test.YtbhobmngnjfgfaaDoorOrder2
namespace Go.Proofs.YtbhobmngnjfgfaaDoor
open Go.RowKit

/-! ### Variables of three cells -/
theorem VC.put3 {t : TypeId} {b : Nat} {c0 c1 c2 : Value} {w : World} (h : VC t b #[c0, c1, c2] w) (u0 u1 u2 : Value) :
    VC t b #[u0, u1, u2] (((w.setCell ⟨b, 0, none⟩ u0).setCell ⟨b, 1, none⟩ u1).setCell ⟨b, 2, none⟩ u2) := by
  unfold VC at h ⊢
  unfold World.setCell
  simp only [Array.getElem?_modify]
  simp [h]
theorem VC.at3 {t : TypeId} {b : Nat} {c0 c1 c2 : Value} {w : World} (h : VC t b #[c0, c1, c2] w) :
    w.cell? ⟨b, 0, none⟩ = some c0 ∧ w.cell? ⟨b, 1, none⟩ = some c1 ∧ w.cell? ⟨b, 2, none⟩ = some c2 := by
  unfold VC at h
  refine ⟨?_, ?_, ?_⟩ <;> simp [World.cell?, h]
theorem VC.frz {t : TypeId} {b : Nat} {cs : Array Value} {w : World} (h : VC t b cs w) (i : Nat) : w.frozen? ⟨b, i, none⟩ = false := by
  unfold VC at h
  simp [World.frozen?, h]
theorem VC.step1 {t : TypeId} {b : Nat} {c0 c1 c2 : Value} {w : World} (h : VC t b #[c0, c1, c2] w) (u0 : Value) : VC t b #[u0, c1, c2] (w.setCell ⟨b, 0, none⟩ u0) := by
  unfold VC at h ⊢
  unfold World.setCell
  simp only [Array.getElem?_modify]
  simp [h]
theorem VC.step2 {t : TypeId} {b : Nat} {c0 c1 c2 : Value} {w : World} (h : VC t b #[c0, c1, c2] w) (u1 : Value) : VC t b #[c0, u1, c2] (w.setCell ⟨b, 1, none⟩ u1) := by
  unfold VC at h ⊢
  unfold World.setCell
  simp only [Array.getElem?_modify]
  simp [h]
def put3 (w : World) (b : Nat) (u0 u1 u2 : Value) : World := ((w.setCell ⟨b, 0, none⟩ u0).setCell ⟨b, 1, none⟩ u1).setCell ⟨b, 2, none⟩ u2
theorem put3_size (w : World) (b : Nat) (u0 u1 u2 : Value) : (put3 w b u0 u1 u2).heap.size = w.heap.size := by simp [put3, World.setCell]
theorem put3_upd (w : World) (b : Nat) (u0 u1 u2 : Value) : Upd b (b + 1) w (put3 w b u0 u1 u2) :=
  ⟨rfl, rfl, rfl, Nat.le_of_eq (put3_size w b u0 u1 u2).symm, fun k _ hn => (Below.heap_setCell _ _ _ _ (fun e => hn (by simp at e; omega))).trans ((Below.heap_setCell _ _ _ _ (fun e => hn (by simp at e; omega))).trans (Below.heap_setCell _ _ _ _ (fun e => hn (by simp at e; omega))))⟩

/-! ### 'l19Less' -/
def lessL (xs : List Int) (x : Int) : List Int := xs.filter fun y => y != x
theorem lessL_rowB (n : Nat) (p : Nat → Bool) (x : Nat) : lessL (rowB n p) (x : Int) = rowB n (lessB p x) := by
  unfold lessL rowB
  rw [List.filter_map, List.filter_filter]
  congr 1
  apply List.filter_congr
  intro i _
  unfold lessB
  rw [Bool.and_comm]
  congr 1
  rw [Bool.eq_iff_iff]
  simp
  omega
theorem lessL_snoc {xs : List Int} {k : Nat} {y : Int} (x : Int) (h : xs[k]? = some y) : lessL (xs.take (k + 1)) x = lessL (xs.take k) x ++ if y = x then [] else [y] := by
  unfold lessL
  rw [take_snoc h, List.filter_append]
  by_cases e : y = x <;> simp [e]

set_option maxHeartbeats 1000000 in
theorem less_any (v : Value) (xs : List Int) (x : Int) (hn : xs.length ≤ 1000000) (w : World) (hr : RdS v xs w) :
    Calls Tryd.prog 163 #[v, .int .i64 x] w (SRes w (lessL xs x)) := by
  obtain ⟨a, c, rfl, -, -, -⟩ := id hr
  obtain ⟨B, hB⟩ : ∃ B, w.heap.size = B := ⟨_, rfl⟩
  have ho0 : (w.alloc (.cells #[] 2)).ownsRow B 2 1 (.slice (some ⟨B, 0, none⟩) 0 0) 0 [] := by subst hB; exact World.ownsRow_lit w #[] 0 (Nat.le_refl _) (by simp [maxLen]) rfl
  have hb0 : Below B w (w.alloc (.cells #[] 2)) := by subst hB; exact (Below.refl _ _).alloc (Nat.le_refl _) _
  go_enter Tryd.func163, Tryd.ntmps163
  go_wp2_with fail
  go_loopw [6, 5] (fun i u wr => ∃ (j m : Nat), j ≤ xs.length ∧ m ≤ j ∧ i = .int .i64 j ∧ Hid ((lessL (xs.take j) x).length = m) ∧ wr.ownsRow B 2 1 u m (ints (lessL (xs.take j) x)) ∧ Below B w wr) (fun i _ _ => xs.length - (intOf i).toNat)
  case atStart => exact ⟨0, 0, Nat.zero_le _, Nat.le_refl _, rfl, Lib.hid rfl, by simpa [ints, lessL] using ho0, hb0⟩
  case round =>
    obtain ⟨j, m, hj, hm, rfl, HM, ho, hb⟩ := hrel
    have hsz := hb.size
    by_cases hlt : j < xs.length
    · obtain ⟨b, o, y, rfl, hc, HY⟩ := (RdS.below hr hb hB).intAt hlt
      have HS := Lib.hid (lessL_snoc x HY.out)
      by_cases hyx : y = x
      · have hd : (y != x) = false := by simp [hyx]
        have HYX := Lib.hid hyx
        clear hyx
        go_wp2_with fail
        go_roundw
        case rel => exact ⟨j + 1, m, by omega, by omega, by go_num, Lib.hid (by rw [HS.out, if_pos HYX.out, List.append_nil]; exact HM.out), by rw [HS.out, if_pos HYX.out, List.append_nil]; exact ho, hb⟩
        case measure => simp [intOf]; omega
      · have hd : (y != x) = true := by simpa using hyx
        have HYX := Lib.hid hyx
        clear hyx
        go_wp2_with (at_builtin; refine wpList_push _ rfl _ _ 30 rfl B 2 _ _ 8 Tryd.underlying30 infoI rfl _ _ _ rfl ho _ rfl rfl (by unfold maxLen; omega) (by omega) (by omega) ?_; intro g' c' w2 ho2 hg)
        go_roundw
        case rel => exact ⟨j + 1, m + 1, by omega, by omega, by go_num, Lib.hid (by rw [HS.out, if_neg HYX.out, List.length_append, HM.out]; rfl), by rw [HS.out, if_neg HYX.out]; simpa [ints] using ho2, hb.grown hg (by omega) fun b hb' => (owns_lt ho hb').1⟩
        case measure => simp [intOf]; omega
    · obtain rfl : j = xs.length := by omega
      rw [List.take_length] at ho HM
      go_wp2_with fail
      go_ret
      exact ⟨_, rfl, by rw [hB, HM.out]; exact ho, by rw [hB]; exact hb⟩

/-! ### 'l18Near' -/
def nearL (xs : List Int) (but : Int) (L : List Int) : List Int := xs.filter fun u => u != but && L.contains u
theorem nearL_snoc {xs : List Int} {k : Nat} {y : Int} (but : Int) (L : List Int) (h : xs[k]? = some y) : nearL (xs.take (k + 1)) but L = nearL (xs.take k) but L ++ if (y != but && L.contains y) = true then [y] else [] := by
  unfold nearL
  rw [take_snoc h, List.filter_append, List.filter_cons, List.filter_nil]
theorem nearL_but (n : Nat) (f S : Nat → Bool) (b : Nat) : nearL (rowB n f) (b : Int) (rowB n S) = rowB n fun u => f u && S u && decide (u ≠ b) := by
  unfold nearL
  have hcc : ∀ i : Nat, i < n → (rowB n S).contains (i : Int) = S i := fun i hi => by rw [contains_rowB]; simp [hi]
  generalize rowB n S = L at *
  unfold rowB
  rw [List.filter_map, List.filter_filter]
  congr 1
  apply List.filter_congr
  intro i hi
  have hi' := List.mem_range.1 hi
  simp only [Function.comp, hcc i hi']
  have : ((i : Int) != (b : Int)) = decide (i ≠ b) := by rw [Bool.eq_iff_iff]; simp; omega
  rw [this]
  cases f i <;> cases S i <;> simp
theorem nearL_all (n : Nat) (f S : Nat → Bool) : nearL (rowB n f) (-1) (rowB n S) = rowB n fun u => f u && S u := by
  unfold nearL
  have hcc : ∀ i : Nat, i < n → (rowB n S).contains (i : Int) = S i := fun i hi => by rw [contains_rowB]; simp [hi]
  generalize rowB n S = L at *
  unfold rowB
  rw [List.filter_map, List.filter_filter]
  congr 1
  apply List.filter_congr
  intro i hi
  have hi' := List.mem_range.1 hi
  simp only [Function.comp, hcc i hi']
  have : ((i : Int) != (-1 : Int)) = true := by rw [bne_iff_ne]; omega
  rw [this]
  cases f i <;> cases S i <;> simp

set_option maxHeartbeats 2000000 in
theorem near_any (g : Value) (xss : List (List Int)) (vl : Value) (L xs : List Int) (v : Nat) (but : Int) (hx : xss[v]? = some xs) (hn : xs.length ≤ 1000000) (w : World) (hr : RdSS g xss w) (hl : RdS vl L w) :
    Calls Tryd.prog 212 #[.agg #[g], vl, .int .i64 v, .int .i64 but] w (SRes w (nearL xs but L)) := by
  obtain ⟨a, c, rfl⟩ := hr.shape
  have hv : v < xss.length := (List.getElem?_eq_some_iff.1 hx).1
  have hlm : xss.length ≤ maxLen := (let ⟨_, h⟩ := hr.ex; by have := h.outer.len; have := h.len; simp at *; omega)
  unfold maxLen at hlm
  obtain ⟨la, lc, rfl, -, -, -⟩ := id hl
  obtain ⟨B, hB⟩ : ∃ B, w.heap.size = B := ⟨_, rfl⟩
  obtain ⟨W0, hW0⟩ : ∃ W0, W0 = w.alloc (.cells #[.slice a xss.length c] 56) := ⟨_, rfl⟩
  obtain ⟨W1, hW1⟩ : ∃ W1, W1 = W0.alloc (.cells #[] 2) := ⟨_, rfl⟩
  have hz0 : W0.heap.size = B + 1 := by simp [hW0, hB]
  have hz1 : W1.heap.size = B + 2 := by simp [hW1, hz0]
  have u0 : Below B w W0 := by rw [hW0, ← hB]; exact below_alloc' _ _
  have u1 : Below (B + 1) W0 W1 := by rw [hW1, ← hz0]; exact below_alloc' _ _
  have VG : VC 56 B #[.slice a xss.length c] W1 := by rw [hW1]; exact (show VC 56 B #[.slice a xss.length c] W0 by rw [hW0]; exact VC.new hB).upd (Upd.alloc _ _) (by omega)
  have ho0 : W1.ownsRow (B + 1) 2 1 (.slice (some ⟨B + 1, 0, none⟩) 0 0) 0 [] := by
    have := World.ownsRow_lit (base := B + 1) (e := 2) (size := 1) W0 #[] 0 (by omega) (by simp [maxLen]) rfl
    rw [hz0, ← hW1] at this
    exact this
  have hbw : Below B w W1 := u0.trans (u1.mono (by omega))
  have hb1 : Below (B + 1) W1 W1 := Below.refl _ _
  have HX := Lib.hid hx
  clear hx
  go_enter Tryd.func212, Tryd.ntmps212
  go_wp2_with fail
  rw [← hW0, ← hW1]
  clear hW0 hW1 u0 u1 hz0
  go_loopw [10, 9] (fun i u wr => ∃ (j m : Nat), j ≤ xs.length ∧ m ≤ j ∧ i = .int .i64 j ∧ Hid ((nearL (xs.take j) but L).length = m) ∧ wr.ownsRow (B + 1) 2 1 u m (ints (nearL (xs.take j) but L)) ∧ Below (B + 1) W1 wr) (fun i _ _ => xs.length - (intOf i).toNat)
  case atStart => exact ⟨0, 0, Nat.zero_le _, Nat.le_refl _, rfl, Lib.hid rfl, by simpa [ints, nearL] using ho0, hb1⟩
  case round =>
    clear ho0 hb1
    obtain ⟨j, m, hj, hm, rfl, HM, ho, hb⟩ := hrel
    have hsz := hb.size
    have hbr := hbw.trans (hb.mono (by omega))
    have hcg := (VG.belowAt hb (by omega)).cell
    obtain ⟨vs, hG⟩ := (hr.below hbr hB).ex
    obtain ⟨rb, ro, rv, ys, hae, hcr, hyr, -, HYY⟩ := hG.intsAt (k := v) hv
    obtain rfl : ys = xs := by have h1 := HYY.out; rw [HX.out] at h1; exact (Option.some.inj h1).symm
    obtain rfl := hae
    obtain ⟨ra, rc, rfl, -, -, -⟩ := id hyr
    have hlr := RdS.below hl hbr hB
    clear HYY hG
    by_cases hlt : j < ys.length
    · obtain ⟨b, o, y, rfl, hc, HY⟩ := hyr.intAt hlt
      have HS := Lib.hid (nearL_snoc but L HY.out)
      clear hyr
      by_cases hyx : y = but
      · have hd : (y != but) = false := by simp [hyx]
        have HD := Lib.hid (show ¬ (y != but && L.contains y) = true by simp [hd])
        clear hyx
        go_wp2_with fail
        go_roundw
        case rel => exact ⟨j + 1, m, by omega, by omega, by go_num, Lib.hid (by rw [HS.out, if_neg HD.out, List.append_nil]; exact HM.out), by rw [HS.out, if_neg HD.out, List.append_nil]; exact ho, hb⟩
        case measure => simp [intOf]; omega
      · have hd : (y != but) = true := by simpa using hyx
        have HC := Lib.hid (has_any _ L y wr hlr)
        obtain ⟨q, hq⟩ : ∃ q, L.contains y = q := ⟨_, rfl⟩
        rw [hq] at HC
        have HD := Lib.hid (show (y != but && L.contains y) = q by rw [hd, hq]; rfl)
        clear hyx hq
        go_wp2_with fail
        refine HC.out.mono ?_
        rintro e1 w' ⟨rfl, rfl⟩
        clear HC
        cases q with
        | false =>
          go_wp2_with fail
          go_roundw
          case rel => exact ⟨j + 1, m, by omega, by omega, by go_num, Lib.hid (by rw [HS.out, HD.out, if_neg (by decide), List.append_nil]; exact HM.out), by rw [HS.out, HD.out, if_neg (by decide), List.append_nil]; exact ho, hb⟩
          case measure => simp [intOf]; omega
        | true =>
          go_wp2_with (at_builtin; refine wpList_push _ rfl _ _ 30 rfl (B + 1) 2 _ _ 8 Tryd.underlying30 infoI rfl _ _ _ rfl ho _ rfl rfl (by unfold maxLen; omega) (by omega) (by omega) ?_; intro g' c' w2 ho2 hg)
          go_roundw
          case rel => exact ⟨j + 1, m + 1, by omega, by omega, by go_num, Lib.hid (by rw [HS.out, HD.out, if_pos rfl, List.length_append, HM.out]; rfl), by rw [HS.out, HD.out, if_pos rfl]; simpa [ints] using ho2, hb.grown hg (by omega) fun b hb' => (owns_lt ho hb').1⟩
          case measure => simp [intOf]; omega
    · obtain rfl : j = ys.length := by omega
      rw [List.take_length] at ho HM
      go_wp2_with fail
      go_ret
      exact ⟨_, rfl, by rw [hB, HM.out]; exact owns_base ho (by omega), by rw [hB]; exact hbr⟩
end Go.Proofs.YtbhobmngnjfgfaaDoor
