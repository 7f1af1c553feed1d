/-
  'Complement' of the reference and of the program.
-/
import Derived.Test.YtbhobmngnjfgfaaDoorOther
namespace Go.Proofs.YtbhobmngnjfgfaaDoor
open Go.RowKit

theorem GRes.put {w0 wr w' : World} {B b : Nat} {u : Value} {vs : List Value} {rows : List (List Int)} (hB : w0.heap.size = B) (hb : Below B w0 wr) (hbb : B ≤ b) (hbr : b < wr.heap.size)
    (hG : OwnG w' wr.heap.size 30 2 u vs (rows.map ints)) (hb' : Below wr.heap.size wr w') (ok : Bool) :
    GRes w0 rows ok (.returned (.tuple #[.agg #[u], .bool ok])) (w'.setCell ⟨b, 0, none⟩ u) := by
  subst hB
  exact ⟨u, vs, rfl, (hG.other hbr _).rebase (by omega), (hb.trans (hb'.mono (by omega))).setCell hbb _⟩

set_option maxHeartbeats 1000000 in
theorem implComplement (v : Value) (xss : List (List Int)) (w : World) (ht : Tab w) (hr : RdSS v xss w) (rows : List (List Int)) (ok : Bool)
    (h : (okB xss = false ∧ rows = [] ∧ ok = false) ∨ ∃ n e, Adj n e ∧ xss = rowsB n e ∧ rows = rowsB n (fun a b => decide (a ≠ b) && !e a b) ∧ ok = true) :
    Calls Tryd.prog 58 #[.agg #[v]] w (GRes w rows ok) := by
  obtain ⟨a, c, rfl⟩ := hr.shape
  obtain ⟨B, hB⟩ : ∃ B, w.heap.size = B := ⟨_, rfl⟩
  have u1 : Below B w (w.alloc (.cells #[.slice a xss.length c] 56)) := by subst hB; exact below_alloc' _ _
  have VG : VC 56 B #[.slice a xss.length c] (w.alloc (.cells #[.slice a xss.length c] 56)) := VC.new hB
  have hz1 : (w.alloc (.cells #[.slice a xss.length c] 56)).heap.size = B + 1 := by simp [hB]
  have u2 := u1.alloc (by omega) (.cells #[.slice none 0 0] 56)
  have VR : VC 56 (B + 1) #[.slice none 0 0] ((w.alloc (.cells #[.slice a xss.length c] 56)).alloc (.cells #[.slice none 0 0] 56)) := VC.new hz1
  replace VG := VG.upd (Upd.alloc _ (.cells #[.slice none 0 0] 56)) (by omega)
  have hz2 : ((w.alloc (.cells #[.slice a xss.length c] 56)).alloc (.cells #[.slice none 0 0] 56)).heap.size = B + 2 := by simp [hB]
  have hTB : 2 < B := by rw [← hB]; exact ht.lt
  have H := Lib.hid h
  clear h u1 hz1
  have hcg := VG.cell
  go_enter Tryd.func58, Tryd.ntmps58
  go_wp2_with fail
  generalize (w.alloc (.cells #[.slice a xss.length c] 56)).alloc (.cells #[.slice none 0 0] 56) = W at *
  refine (implOk _ xss W (hr.below u2 hB)).mono ?_
  rintro e1 w1 ⟨rfl, hb1⟩
  replace VG := VG.upd (Upd.of_below hb1) (by omega)
  replace VR := VR.upd (Upd.of_below hb1) (by omega)
  have hb := u2.trans (hb1.mono (by omega))
  clear hb1 u2 hcg
  have hcg := VG.cell
  have hcr := VR.cell
  have hfr := VR.free
  rcases H.out with ⟨hok, rfl, rfl⟩ | ⟨n, e, hA, rfl, rfl, rfl⟩
  · rw [hok]
    have HCE := Lib.hid (VR.set (.slice none 0 0)).cell
    have HB := Lib.hid (hb.setCell (p := ⟨B + 1, 0, none⟩) (by simp) (.slice none 0 0))
    clear hok
    go_wp2_with fail
    refine bodyPost_ret (v := .tuple #[.agg #[.slice none 0 0], .bool false]) (by simp [results, Tryd.results58, go_sem, HCE.out]) rfl ?_
    exact GRes.nothing _ _ (by rw [hB]; exact HB.out)
  · rw [okB_adj hA]
    rw [rowsB_length] at *
    have hn := hA.le
    go_wp2_with fail
    refine (netsOf_any _ n e hn w1 (hr.below hb hB)).mono ?_
    rintro e1 w2 ⟨u, rfl, hN, hb2⟩
    go_wp2_with fail
    refine (complement_any u n e hn w2 (Row.of_owns hN)).mono ?_
    rintro e1 w3 ⟨u3, rfl, hN3, hb3⟩
    have hb13 := hb2.trans (hb3.mono hb2.size)
    have hsm := NB_small (n := n) (by omega) (fun a b => decide (a ≠ b) && !e a b)
    have hrow : Row w3 1 u3 (NB n fun a b => decide (a ≠ b) && !e a b).length (sets (NB n fun a b => decide (a ≠ b) && !e a b)) := by rw [NB_length]; exact Row.of_owns hN3
    go_wp2_with fail
    refine (graph_any u3 (NB n fun a b => decide (a ≠ b) && !e a b) hsm (by simp; omega) w3 (ht.keep (hb.trans (hb13.mono (by have := VR.lt; omega))) hTB) hrow).mono ?_
    rintro e1 w4 ⟨u4, vs, rfl, hG, hb4⟩
    rw [rowsOf_NB (by omega)] at hG
    obtain ⟨ua, uc, rfl⟩ := owns_shape hG.outer
    have hb14 := hb13.trans (hb4.mono hb13.size)
    have HF := Lib.hid (GRes.put (b := B + 1) hB hb (by omega) (by have := VR.lt; omega) (hG.rebase hb13.size) hb14 true)
    replace VR := VR.upd (Upd.of_below hb14) (by omega)
    have HCE := Lib.hid (VR.set (.slice ua vs.length uc)).cell
    clear hG hb2 hb3 hb4 hb13 hb14 hcg hcr hfr hsm hrow hN hN3
    have hcr := VR.cell
    have hfr := VR.free
    go_wp2_with fail
    refine bodyPost_ret (v := .tuple #[.agg #[.slice ua vs.length uc], .bool true]) (by simp [results, Tryd.results58, go_sem, HCE.out]) rfl ?_
    exact HF.out

theorem total_rowsB (n : Nat) (f : Nat → Nat → Bool) (hn : n ≤ 32) : total (rowsB n f) ≤ 32 * n := by
  have := total_rowsOf (NB n f)
  rw [NB_length, rowsOf_NB hn] at this
  exact this

end Go.Proofs.YtbhobmngnjfgfaaDoor
