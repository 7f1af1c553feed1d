/-
  'OpenOf' of the reference; both.
-/
import Derived.Test.YtcjbobponlpkaaaDoorOpen
import Derived.Test.YtcjbobponlpkaaaDoorOrder2
namespace Go.Proofs.YtcjbobponlpkaaaDoor
open Go.RowKit

/-- Have the first k neighbours of q one outside of the set? -/
def openTo (n : Nat) (e : Nat → Nat → Bool) (p : Nat → Bool) (q k : Nat) : Bool := ((rowB n (e q)).take k).any fun u => !(rowB n p).contains u
theorem openTo_zero (n : Nat) (e : Nat → Nat → Bool) (p : Nat → Bool) (q : Nat) : openTo n e p q 0 = false := by simp [openTo]
theorem openTo_succ {n : Nat} {e : Nat → Nat → Bool} {p : Nat → Bool} {q k : Nat} {x : Int} (h : (rowB n (e q))[k]? = some x) : openTo n e p q (k + 1) = (openTo n e p q k || !(rowB n p).contains x) := by
  unfold openTo
  rw [take_snoc h, List.any_append]
  simp
theorem openTo_all (n : Nat) (e : Nat → Nat → Bool) (p : Nat → Bool) (q : Nat) : openTo n e p q (rowB n (e q)).length = openB n e p q := by
  unfold openTo openB
  rw [List.take_length, Bool.eq_iff_iff, List.any_eq_true, List.any_eq_true]
  constructor
  · rintro ⟨x, hx, h⟩
    obtain ⟨u, hu, he, rfl⟩ := mem_rowB.1 hx
    refine ⟨u, List.mem_range.2 hu, ?_⟩
    rw [contains_rowB] at h
    simpa [hu, he] using h
  · rintro ⟨u, hu, h⟩
    rw [List.mem_range] at hu
    rw [Bool.and_eq_true] at h
    refine ⟨(u : Int), nat_mem_rowB.2 ⟨hu, h.1⟩, ?_⟩
    rw [contains_rowB]
    simpa [hu] using h.2

set_option maxHeartbeats 4000000 in
theorem open_round {n : Nat} {p0 : Nat → Bool} {q : Nat} {x : Bool} (hn : n ≤ 32) (hq : q < n) : into (rowB n fun b => p0 b || (decide (b = q) && x)) (q : Int) = rowB n fun b => p0 b || (decide (b = q) && true) := by
  rw [into_rowB hn _ hq]
  refine rowB_ext fun b _ => ?_
  cases p0 b <;> cases decide (b = q) <;> cases x <;> rfl
theorem open_done {n : Nat} {e : Nat → Nat → Bool} {p t t' : Nat → Bool} {q : Nat} (ht : t' = fun i => t i || decide (i = q)) :
    (rowB n fun b => (t b && openB n e p b) || (decide (b = q) && openTo n e p q (rowB n (e q)).length)) = rowB n fun b => t' b && openB n e p b := by
  subst ht
  refine rowB_ext fun b _ => ?_
  rw [openTo_all]
  by_cases h : b = q
  · subst h; cases t b <;> simp
  · simp [h]

theorem l12Open_any (g : Value) (n : Nat) (e : Nat → Nat → Bool) (hn : n ≤ 16) (v2 : Value) (p : Nat → Bool) (w : World) (hr : RdSS g (rowsB n e) w) (hs : RdS v2 (rowB n p) w) :
    Calls Tryd.prog 53 #[.agg #[g], v2] w (SRes w (rowB n fun b => p b && openB n e p b)) := by
  obtain ⟨a, c, rfl⟩ := hr.shape
  obtain ⟨a2, c2, rfl, -, -, -⟩ := id hs
  rw [rowsB_length] at hr ⊢
  have hpl := rowB_length n p
  obtain ⟨B, hB⟩ : ∃ B, w.heap.size = B := ⟨_, rfl⟩
  have u1 : Below B w (w.alloc (.cells #[.slice a n c] 28)) := by subst hB; exact below_alloc' _ _
  have VG0 : VC 28 B #[.slice a n c] (w.alloc (.cells #[.slice a n c] 28)) := VC.new hB
  have hz0 : (w.alloc (.cells #[.slice a n c] 28)).heap.size = B + 1 := by simp [hB]
  have ho0 := World.ownsRow_lit (base := B + 1) (e := 2) (size := 1) (w.alloc (.cells #[.slice a n c] 28)) #[] 0 (by omega) (by simp [maxLen]) rfl
  rw [hz0] at ho0
  have u2 : Below B w ((w.alloc (.cells #[.slice a n c] 28)).alloc (.cells #[] 2)) := u1.alloc (by omega) _
  have VG1 := VG0.upd (Upd.alloc _ (.cells #[] 2)) (by omega)
  have hz1 : ((w.alloc (.cells #[.slice a n c] 28)).alloc (.cells #[] 2)).heap.size = B + 2 := by simp [hB]
  have hst : rowB n (fun b => inL ((rowB n p).take 0) b && openB n e p b) = [] := by
    rw [List.take_zero, rowB_ext (q := fun _ => false) fun i _ => by rw [inL_nil]; rfl]
    simp [rowB]
  go_enter Tryd.func53, Tryd.ntmps53
  go_wp2_with fail
  generalize (w.alloc (.cells #[.slice a n c] 28)).alloc (.cells #[] 2) = W at *
  have hbW : Below (B + 1) W W := Below.refl _ _
  go_loopw [5, 6] (fun u i wr => ∃ (j : Nat) (os : List Int), j ≤ (rowB n p).length ∧ i = .int .i64 j ∧ os.length ≤ n ∧ Hid (os = rowB n (fun b => inL ((rowB n p).take j) b && openB n e p b)) ∧ wr.ownsRow (B + 1) 2 1 u os.length (ints os) ∧ Below (B + 1) W wr) (fun _ i _ => (rowB n p).length - (intOf i).toNat)
  case atStart => exact ⟨0, [], Nat.zero_le _, rfl, Nat.zero_le _, Lib.hid hst.symm, by simpa [ints] using ho0, hbW⟩
  case round =>
    clear ho0 hbW
    obtain ⟨j, os, hj, rfl, hol, HO, ho, hb⟩ := hrel
    by_cases hlt : j < (rowB n p).length
    · go_wp2_with fail
      have hbw := u2.trans (hb.mono (by omega))
      obtain ⟨yb, yo, y, e0, -, HY⟩ := Row.intAt (RdS.below hs hbw hB) hlt
      obtain ⟨q, hq, hpq, rfl⟩ := row_at HY.out
      have hrl := rowB_length n (e q)
      have HTS := Lib.hid (inL_take_succ HY.out)
      clear e0
      go_loopw [5, 7] (fun u i wr => ∃ (k : Nat) (os : List Int), k ≤ (rowB n (e q)).length ∧ i = .int .i64 k ∧ os.length ≤ n ∧ Hid (os = rowB n (fun b => (inL ((rowB n p).take j) b && openB n e p b) || (decide (b = q) && openTo n e p q k))) ∧ wr.ownsRow (B + 1) 2 1 u os.length (ints os) ∧ Below (B + 1) W wr) (fun _ i _ => (rowB n (e q)).length - (intOf i).toNat)
      case atStart => exact ⟨0, os, Nat.zero_le _, rfl, hol, Lib.hid (by rw [HO.out]; exact rowB_ext fun i _ => by rw [openTo_zero, Bool.and_false, Bool.or_false]), ho, hb⟩
      case round =>
        clear hb ho HO hol os hbw
        obtain ⟨k, os, hk, rfl, hol, HO, ho, hb⟩ := hrel
        have hbw := u2.trans (hb.mono (by omega))
        have hsz := hb.size
        have VGr := VG1.belowAt hb (by omega)
        have hcg := VGr.cell
        have hsr := RdS.below hs hbw hB
        obtain ⟨yb, yo, y, rfl, hcy, HY2⟩ := Row.intAt hsr hlt
        obtain rfl : y = (q : Int) := by have h := HY2.out; rw [HY.out] at h; exact (Option.some.inj h).symm
        obtain ⟨vsr, hGx⟩ := (hr.below hbw hB).ex
        obtain ⟨rb, ro, r, x, rfl, hc, hxr, -, HXX⟩ := hGx.intsAt (k := q) (by simpa using hq)
        obtain rfl : rowB n (e q) = x := by have h := HXX.out; rw [rowsB_at e hq] at h; exact Option.some.inj h
        obtain ⟨ra, rc, rfl, -, -, -⟩ := id hxr
        clear hGx HXX HY2
        by_cases hlk : k < (rowB n (e q)).length
        · obtain ⟨xb, xo, x, rfl, hcx, HX⟩ := hxr.intAt hlk
          have HHA := Lib.hid (has_any (.slice (some ⟨yb, yo, none⟩) (rowB n p).length c2) (rowB n p) x wr.drew.drew (Row.below hsr (below_drewN' wr 2)))
          obtain ⟨bb, HBB⟩ : ∃ b, Hid ((rowB n p).contains x = b) := ⟨_, Lib.hid rfl⟩
          rw [HBB.out] at HHA
          clear hxr
          go_wp2_with fail
          refine wp_region_ord [0, 1, 3, 4, 5] [2, 6, 7, 8, 9, 10] [] [] (by kernel_rfl) (by kernel_rfl) (fun _ _ d _ _ h => by cases d <;> exact h) ?_
          simp only [pickOps, List.filterMap_cons, List.filterMap_nil, List.getElem?_cons_succ, List.getElem?_cons_zero]
          repeat quiet_step (fail)
          simp only [wpQuiet_nil_eq, wpSegs_nil_eq]
          go_wp2_with fail
          refine wp_region_ord [0, 1, 3, 4, 5, 9] [2, 6, 7, 8, 10, 11] [] [12, 13] (by kernel_rfl) (by kernel_rfl) (fun _ _ d _ _ h => by cases d <;> exact h) ?_
          simp only [pickOps, List.filterMap_cons, List.filterMap_nil, List.getElem?_cons_succ, List.getElem?_cons_zero]
          repeat quiet_step (fail)
          simp only [wpQuiet_nil_eq, wpSegs_nil_eq]
          go_wp2_with fail
          refine HHA.out.mono ?_
          rintro e1 w' ⟨rfl, rfl⟩
          have hb2 : Below (B + 1) W wr.drew.drew := hb.trans ((below_drewN' wr 2).mono (by omega))
          have ho2 := owns_below ho (below_drewN' wr 2)
          have hz2 : wr.drew.drew.heap.size = wr.heap.size := rfl
          have HTO := Lib.hid (openTo_succ (p := p) HX.out)
          rw [HBB.out] at HTO
          clear hcg hc hcx hb ho HHA hbw
          cases bb with
          | true =>
            go_wp2_with fail
            go_roundw
            case rel => exact ⟨k + 1, os, by omega, by go_num, hol, Lib.hid (by rw [HTO.out, Bool.not_true, Bool.or_false]; exact HO.out), ho2, hb2⟩
            case measure => simp [intOf]; omega
          | false =>
            have HIR := Lib.hid (open_round (p0 := fun b => inL ((rowB n p).take j) b && openB n e p b) (x := openTo n e p q k) (by omega : n ≤ 32) hq)
            rw [Bool.not_false, Bool.or_true] at HTO
            obtain ⟨ua, uc, rfl⟩ := owns_shape ho2
            have HIN := Lib.hid (into_any (.slice ua os.length uc) os q wr.drew.drew (Row.of_owns ho2) (by omega))
            obtain ⟨os2, HO2⟩ : ∃ os2, Hid (into os q = os2) := ⟨_, Lib.hid rfl⟩
            rw [HO2.out] at HIN
            have HE : Hid (os2 = rowB n (fun b => (inL ((rowB n p).take j) b && openB n e p b) || (decide (b = q) && true))) := Lib.hid (by rw [← HO2.out, HO.out]; exact HIR.out)
            have hol2 : os2.length ≤ n := by rw [HE.out]; exact rowB_length _ _
            have hcy2 : wr.drew.drew.cell? ⟨yb, yo + j, none⟩ = some (.int .i64 q) := hcy
            go_wp2_with fail
            refine HIN.out.mono ?_
            rintro e1 w3 ⟨u3, rfl, hu3, hb3⟩
            have ho3 : w3.ownsRow (B + 1) 2 1 u3 os2.length (ints os2) := by
              rcases hu3 with ⟨rfl, hos⟩ | ho3
              · rw [hos]; exact owns_below ho2 hb3
              · exact owns_base ho3 (by omega)
            have hb4 := hb2.trans (hb3.mono (by omega))
            clear hu3 hb3 ho2 hb2 HIN
            go_wp2_with fail
            go_roundw
            case rel => exact ⟨k + 1, os2, by omega, by go_num, hol2, Lib.hid (by rw [HTO.out]; exact HE.out), ho3, hb4⟩
            case measure => simp [intOf]; omega
        · obtain rfl : k = (rowB n (e q)).length := by omega
          go_wp2_with fail
          refine wp_region_ord [0, 1, 3, 4, 5] [2, 6, 7, 8, 9, 10] [] [] (by kernel_rfl) (by kernel_rfl) (fun _ _ d _ _ h => by cases d <;> exact h) ?_
          simp only [pickOps, List.filterMap_cons, List.filterMap_nil, List.getElem?_cons_succ, List.getElem?_cons_zero]
          repeat quiet_step (fail)
          simp only [wpQuiet_nil_eq, wpSegs_nil_eq]
          have hb2 : Below (B + 1) W wr.drew := hb.trans ((below_drewN' wr 1).mono (by omega))
          have ho2 := owns_below ho (below_drewN' wr 1)
          clear hcg hc hb ho hbw
          go_wp2_with fail
          go_roundw
          case rel => exact ⟨j + 1, os, by omega, by go_num, hol, Lib.hid (by rw [HO.out]; exact open_done HTS.out), ho2, hb2⟩
          case measure => simp [intOf]; omega
    · obtain rfl : j = (rowB n p).length := by omega
      have hre : os = rowB n (fun b => p b && openB n e p b) := by
        rw [HO.out, List.take_length]
        exact rowB_ext fun i hi => by rw [inL_rowB hi]
      have HRE := Lib.hid hre
      clear hre
      go_wp2_with fail
      go_ret
      rw [← HRE.out]
      exact ⟨_, rfl, by rw [hB]; exact owns_base ho (by omega), by rw [hB]; exact u2.trans (hb.mono (by omega))⟩

/-- What 'OpenOf' gives. -/
def OpenP (xss : List (List Int)) (xs rs : List Int) : Prop :=
  ((okB xss && decide (SetP xss.length xs)) = false ∧ rs = []) ∨ ∃ e p, Adj xss.length e ∧ xss = rowsB xss.length e ∧ (okB xss && decide (SetP xss.length xs)) = true ∧ xs = rowB xss.length p ∧ rs = rowB xss.length (fun b => p b && openB xss.length e p b)

set_option maxHeartbeats 1000000 in
theorem specOpen (g : Value) (xss : List (List Int)) (v2 : Value) (xs : List Int) (w : World) (hr : RdSS g xss w) (hs : RdS v2 xs w) (rs : List Int) (h : OpenP xss xs rs) :
    Calls Tryd.prog 16 #[.agg #[g], v2] w (SRes w rs) := by
  obtain ⟨a, c, rfl⟩ := hr.shape
  obtain ⟨B, hB⟩ : ∃ B, w.heap.size = B := ⟨_, rfl⟩
  have u1 : Below B w (w.alloc (.cells #[.slice a xss.length c] 28)) := by subst hB; exact below_alloc' _ _
  have VG0 : VC 28 B #[.slice a xss.length c] (w.alloc (.cells #[.slice a xss.length c] 28)) := VC.new hB
  have hz0 : (w.alloc (.cells #[.slice a xss.length c] 28)).heap.size = B + 1 := by simp [hB]
  have H := Lib.hid h
  have hcg := VG0.cell
  clear h
  go_enter Tryd.func16, Tryd.ntmps16
  go_wp2_with fail
  generalize w.alloc (.cells #[.slice a xss.length c] 28) = W at *
  refine (specOk _ xss W (hr.below u1 hB)).mono ?_
  rintro e1 w1 ⟨rfl, hb1⟩
  have VG1 := VG0.upd (Upd.of_below hb1) (by omega)
  have hb := u1.trans (hb1.mono (by omega))
  have hz1 : B + 1 ≤ w1.heap.size := by have := hb1.size; omega
  clear hb1 hcg u1
  have hcg := VG1.cell
  have hno : (okB xss && decide (SetP xss.length xs)) = false → rs = [] := fun hn => by
    rcases H.out with ⟨_, h⟩ | ⟨e, p, hA, hx, h, _⟩
    · exact h
    · rw [hn] at h; cases h
  have HNO := Lib.hid hno
  clear hno
  cases hok : okB xss with
  | false =>
    obtain rfl : rs = [] := HNO.out (by rw [hok]; rfl)
    have ho0 := World.ownsRow_lit (base := B) (e := 2) (size := 1) w1 #[] 0 (by omega) (by simp [maxLen]) rfl
    clear hok
    go_wp2_with fail
    go_ret
    exact ⟨_, rfl, by rw [hB]; simpa [ints] using ho0, by rw [hB]; exact hb.alloc (by omega) _⟩
  | true =>
    have HK := Lib.hid hok
    clear hok
    have HSK := Lib.hid (specSetOk (.slice a xss.length c) xss v2 xs w1 (hr.below hb hB) (RdS.below hs hb hB))
    go_wp2_with fail
    refine HSK.out.mono ?_
    rintro e1 w2 ⟨rfl, hb2⟩
    replace hb := hb.trans (hb2.mono (by omega))
    have VG2 := VG1.upd (Upd.of_below hb2) (by omega)
    have hz2 := hb2.size
    clear hb2 hcg HSK
    have hcg := VG2.cell
    cases hok : okB xss && decide (SetP xss.length xs) with
    | false =>
      obtain rfl : rs = [] := HNO.out hok
      have ho0 := World.ownsRow_lit (base := B) (e := 2) (size := 1) w2 #[] 0 (by omega) (by simp [maxLen]) rfl
      clear hok
      go_wp2_with fail
      go_ret
      exact ⟨_, rfl, by rw [hB]; simpa [ints] using ho0, by rw [hB]; exact hb.alloc (by omega) _⟩
    | true =>
      obtain ⟨e, p, hA, hx, hp, hrs⟩ : ∃ e p, Adj xss.length e ∧ xss = rowsB xss.length e ∧ xs = rowB xss.length p ∧ rs = rowB xss.length (fun b => p b && openB xss.length e p b) := by
        rcases H.out with ⟨h, _⟩ | ⟨e, p, hA, hx, _, hp, hrs⟩
        · rw [hok] at h; cases h
        · exact ⟨e, p, hA, hx, hp, hrs⟩
      have hr' := hr.below hb hB
      rw [hx, rowsB_length] at hr'
      have HO := Lib.hid (l12Open_any (.slice a xss.length c) xss.length e hA.le v2 p w2 hr' (by rw [← hp]; exact RdS.below hs hb hB))
      rw [← hrs] at HO
      clear hok hx hrs hr' H hA hp
      go_wp2_with fail
      refine HO.out.mono ?_
      rintro e1 w3 ⟨u3, rfl, hL, hb3⟩
      obtain ⟨la, lc, rfl⟩ := owns_shape hL
      have HL := Lib.hid (owns_base hL (show B ≤ w2.heap.size by omega))
      have hbf := hb.trans (hb3.mono (by omega))
      clear hL hb3 HO
      go_wp2_with fail
      go_ret
      exact ⟨_, rfl, by rw [hB]; exact HL.out, by rw [hB]; exact hbf⟩

theorem both_OpenOf (xss : List (List Int)) (xs : List Int) : ∃ rs : List Int, 1 + rs.length ≤ 1000000000 ∧
    (∀ (w : World) (v v2 : Value), Tab w → RdSS v xss w → RdS v2 xs w → Calls Tryd.prog 16 #[.agg #[v], v2] w (SRes w rs)) ∧
    (∀ (w : World) (v v2 : Value), Tab w → RdSS v xss w → RdS v2 xs w → Calls Tryd.prog 19 #[.agg #[v], v2] w (SRes w rs)) := by
  cases hok : okB xss && decide (SetP xss.length xs) with
  | true =>
    have h1 := hok
    rw [Bool.and_eq_true, decide_eq_true_eq] at h1
    obtain ⟨e, hA, hx⟩ := (okB_iff xss).1 h1.1
    have hn := hA.le
    have hl := rowB_length xss.length (fun b => inL xs b && openB xss.length e (inL xs) b)
    have hP : OpenP xss xs _ := .inr ⟨e, inL xs, hA, hx, hok, h1.2.eq, rfl⟩
    exact ⟨_, by omega, fun w g v2 _ hr hs => specOpen g xss v2 xs w hr hs _ hP, fun w g v2 ht hr hs => implOpen g xss v2 xs w ht hr hs _ hP⟩
  | false => exact ⟨[], by simp, fun w g v2 _ hr hs => specOpen g xss v2 xs w hr hs _ (.inl ⟨hok, rfl⟩), fun w g v2 ht hr hs => implOpen g xss v2 xs w ht hr hs _ (.inl ⟨hok, rfl⟩)⟩
end Go.Proofs.YtcjbobponlpkaaaDoor
