/-
  'ApartTriple' of the program.
-/
import Derived.Test.YtehejjmmbjekgaaDoorApartC
import Derived.Test.YtehejjmmbjekgaaDoorNetsOf
import Derived.Test.YtehejjmmbjekgaaDoorGraphOk
namespace Go.Proofs.YtehejjmmbjekgaaDoor
open Go.RowKit

def ApartRP (xss : List (List Int)) (rs : List Int) (ok : Bool) : Prop :=
  (okB xss = false ∧ rs = [] ∧ ok = false) ∨ ∃ e, Adj xss.length e ∧ xss = rowsB xss.length e ∧ ApartC xss.length e rs ok
theorem apart_set {n : Nat} {e : Nat → Nat → Bool} {x y z : Nat} (h : Apart n e x y z) (hn : n ≤ 16) : ∃ t, t < 2 ^ n ∧ size t = 3 ∧ Bits3 t x y z ∧ rowB n t.testBit = [(x : Int), (y : Int), (z : Int)] := by
  have hb := mask3 (n := n) h.xy h.yz h.zn
  have hlt : (maskB n fun b => decide (b = x) || decide (b = y) || decide (b = z)) < 2 ^ n := lt_of_bits fun i hi => by rw [testBit_maskB]; simp; omega
  have hr : rowB n (maskB n fun b => decide (b = x) || decide (b = y) || decide (b = z)).testBit = [(x : Int), (y : Int), (z : Int)] := by
    have h1 := h.xy; have h2 := h.yz; have h3 := h.zn
    refine rising_ext (rowB_rising _ _) (by simp; omega) fun a => ?_
    rw [mem_rowB]
    constructor
    · rintro ⟨b, hbn, hpb, rfl⟩
      rw [hb] at hpb
      simp at hpb ⊢
      omega
    · intro ha
      simp at ha
      rcases ha with rfl | rfl | rfl
      · exact ⟨x, by omega, by rw [hb]; simp, rfl⟩
      · exact ⟨y, by omega, by rw [hb]; simp, rfl⟩
      · exact ⟨z, by omega, by rw [hb]; simp, rfl⟩
  refine ⟨_, hlt, ?_, hb, hr⟩
  rw [← size_row' (n := n) (by omega) hlt, hr]
  rfl
theorem apart_yes {n : Nat} {e : Nat → Nat → Bool} {s : Nat} (hA : Adj n e) (hs : (combos n 3 0 0).find? (fitA n e) = some s) : ∃ x y z, IsApart n e x y z ∧ rowB n s.testBit = [(x : Int), (y : Int), (z : Int)] := by
  have hn := hA.le
  obtain ⟨h1, h2, h3⟩ := find_first (combos_order (fun j _ => by simp) (Nat.zero_le _)) hs
  obtain ⟨h4, h5⟩ := (mem_all (by omega)).1 h1
  obtain ⟨x, y, z, hxy, hyz, hzn, hr, hb⟩ := three_of hn h4 h5
  refine ⟨x, y, z, ⟨(fitA_iff hA hxy hyz hzn hr hb).1 h2, fun x' y' z' hp ha => ?_⟩, hr⟩
  obtain ⟨t, ht1, ht2, ht3, ht4⟩ := apart_set hp hn
  have hl := lex3 hb ht3 hxy hyz hp.xy hp.yz ha
  rcases h3 t ((mem_all (by omega)).2 ⟨ht1, ht2⟩) ((fitA_iff hA hp.xy hp.yz hp.zn ht4 ht3).2 hp) with h7 | h7
  · subst h7; exact hl.irrefl
  · exact h7.asymm hl
theorem apart_no {n : Nat} {e : Nat → Nat → Bool} (hA : Adj n e) (h : (combos n 3 0 0).any (fitA n e) = false) (x y z : Nat) : ¬ Apart n e x y z := fun hp => by
  have hn := hA.le
  obtain ⟨t, ht1, ht2, ht3, ht4⟩ := apart_set hp hn
  rw [List.any_eq_false] at h
  exact h t ((mem_all (by omega)).2 ⟨ht1, ht2⟩) ((fitA_iff hA hp.xy hp.yz hp.zn ht4 ht3).2 hp)
theorem find_any {l : List Nat} {fit : Nat → Bool} (h : l.any fit = true) : ∃ s, l.find? fit = some s := by
  cases hf : l.find? fit with
  | some s => exact ⟨s, rfl⟩
  | none =>
    rw [List.find?_eq_none] at hf
    rw [List.any_eq_true] at h
    obtain ⟨y, hy, hfy⟩ := h
    exact (hf y hy hfy).elim
theorem apartC_has {n : Nat} {e : Nat → Nat → Bool} (hA : Adj n e) : ∃ rs ok, rs.length ≤ 3 ∧ ApartC n e rs ok := by
  cases h : (combos n 3 0 0).any (fitA n e) with
  | false => exact ⟨[], false, by simp, .inr ⟨apart_no hA h, rfl, rfl⟩⟩
  | true =>
    obtain ⟨s, hs⟩ := find_any h
    obtain ⟨x, y, z, hi, _⟩ := apart_yes hA hs
    exact ⟨_, true, by simp, .inl ⟨x, y, z, hi, rfl, rfl⟩⟩

set_option maxHeartbeats 4000000 in
theorem implApartTriple (g : Value) (xss : List (List Int)) (w : World) (ht : Tab w) (hr : RdSS g xss w) (rs : List Int) (ok : Bool) (h : ApartRP xss rs ok) :
    Calls Tryd.prog 50 #[.agg #[g]] w (SBRes w rs ok) := by
  have hmf : ∀ (fn : Fn) (first cap : Array Value) (w : World), (Instr.makeFunc fn first cap).run Tryd.prog w = .ok (.func fn first cap) w := fun _ _ _ _ => rfl
  obtain ⟨a, c, rfl⟩ := hr.shape
  obtain ⟨B, hB⟩ : ∃ B, w.heap.size = B := ⟨_, rfl⟩
  have hTB : 0 < B := by rw [← hB]; exact ht.lt
  have u1 : Below B w (w.alloc (.cells #[.slice a xss.length c] 24)) := by subst hB; exact below_alloc' _ _
  have VG0 : VC 24 B #[.slice a xss.length c] (w.alloc (.cells #[.slice a xss.length c] 24)) := VC.new hB
  have hz0 : (w.alloc (.cells #[.slice a xss.length c] 24)).heap.size = B + 1 := by simp [hB]
  have H := Lib.hid h
  have hcg := VG0.cell
  clear h
  go_enter Tryd.func50, Tryd.ntmps50
  go_wp2_with fail
  generalize w.alloc (.cells #[.slice a xss.length c] 24) = W at *
  refine (implOk _ xss W (hr.below u1 hB)).mono ?_
  rintro e1 w1 ⟨rfl, hb1⟩
  have VG1 := VG0.upd (Upd.of_below hb1) (by omega)
  have hb := u1.trans (hb1.mono (by omega))
  have hz1 : B + 1 ≤ w1.heap.size := by have := hb1.size; omega
  clear hb1 hcg u1
  have hcg := VG1.cell
  cases hok : okB xss with
  | false =>
    obtain ⟨rfl, rfl⟩ : rs = [] ∧ ok = false := by
      rcases H.out with ⟨_, h⟩ | ⟨e, hA, hx, _⟩
      · exact h
      · rw [hx, okB_adj hA] at hok; cases hok
    clear hok
    go_wp2_with fail
    refine bodyPost_ret (v := .tuple #[.slice none 0 0, .bool false]) (by simp [results, Tryd.results50, go_sem]) rfl ?_
    exact ⟨_, rfl, World.ownsRow_nil _ _ _ 1, by rw [hB]; exact hb⟩
  | true =>
    obtain ⟨e, hA, hx, hcase⟩ : ∃ e, Adj xss.length e ∧ xss = rowsB xss.length e ∧ ApartC xss.length e rs ok := by
      rcases H.out with ⟨h, _⟩ | h
      · rw [hok] at h; cases h
      · exact h
    have hn16 := hA.le
    have HC := Lib.hid hcase
    have hr' := hr.below hb hB
    rw [hx, rowsB_length] at hr'
    have HN := Lib.hid (netsOf_any _ xss.length e hn16 w1 hr')
    have HAA := Lib.hid hA
    clear hok hx hcase hr' H hA
    generalize xss.length = n at *
    go_wp2_with fail
    refine HN.out.mono ?_
    rintro e1 w2 ⟨u2, rfl, hN2, hb2⟩
    obtain ⟨na, nc, rfl⟩ := owns_shape hN2
    have hNr := Row.of_owns hN2
    have hb02 := hb.trans (hb2.mono (by omega))
    have hz2 := hb2.size
    obtain ⟨C, hC⟩ : ∃ C, w2.heap.size = C := ⟨_, rfl⟩
    obtain ⟨w3, hw3⟩ : ∃ w3, w3 = w2.alloc (.cells #[.slice na n nc] 94) := ⟨_, rfl⟩
    obtain ⟨w4, hw4⟩ : ∃ w4, w4 = w3.alloc (.cells #[.int .u32 0] 116) := ⟨_, rfl⟩
    have VA3 : VC 94 C #[.slice na n nc] w3 := by rw [hw3]; exact VC.new hC
    have hz3 : w3.heap.size = C + 1 := by rw [hw3]; simp [hC]
    have hz4 : w4.heap.size = C + 2 := by rw [hw4]; simp [hz3]
    have VF4 : VC 116 (C + 1) #[.int .u32 0] w4 := by rw [hw4]; exact VC.new hz3
    have VA4 : VC 94 C #[.slice na n nc] w4 := by rw [hw4]; exact VA3.upd (Upd.alloc _ _) (by omega)
    have hb24 : Below C w2 w4 := by rw [hw4, hw3, ← hC]; exact (below_alloc' w2 _).alloc (by simp) _
    have hb04 := hb02.trans (hb24.mono (by omega))
    have hNr4 := hNr.below (hC.symm ▸ hb24)
    have hca := VA4.cell
    have HCH := Lib.hid (choose_any_ap (C + 1) C n hn16 (fitA n e) (fun s => s < 2 ^ n ∧ size s = 3) (fun W => Below (C + 1) w4 W ∧ ∃ x : Value, VC 116 (C + 1) #[x] W) (fun s W => VC 116 (C + 1) #[.int .u32 (s : Nat)] W) (fun s W ⟨hs, h3⟩ ⟨hbW, x, hF⟩ => by
      have hbS : Below (C + 1) w4 (W.setCell ⟨C + 1, 0, none⟩ (.int .u32 (s : Nat))) := hbW.setCell (by simp) _
      have hzS : (W.setCell ⟨C + 1, 0, none⟩ (.int .u32 (s : Nat))).heap.size = W.heap.size := by simp [World.setCell]
      have hFl := hF.lt
      obtain ⟨x', y', z', hxy, hyz, hzn, hr3, hb3⟩ := three_of hn16 hs h3
      refine (apart1_any (.slice na n nc) n e HAA.out s x' y' z' hs hxy hyz hzn hr3 hb3 (C + 1) C x W _ rfl (ht.keep (hb04.trans (hbS.mono (by omega))) hTB) hF (VA4.belowAt hbS (by omega)) (hNr.below (hC.symm ▸ (hb24.trans (hbS.mono (by omega))))) _ rfl).mono ?_
      · rintro r W' ⟨rfl, hb'⟩
        have hFS := (hF.set (.int .u32 (s : Nat))).belowAt hb' (by omega)
        exact ⟨rfl, ⟨hbS.trans (hb'.mono (by omega)), _, hFS⟩, hFS⟩) 3 (by omega) 0 0 0 3 0 w4 rfl rfl rfl (Nat.zero_le _) (fun j _ => by simp) (fun s hs => (mem_all (by omega)).1 hs) ⟨Below.refl _ _, _, VF4⟩)
    clear hN2 HN hb2 hcg VF4 hNr4
    go_wp2_with fail
    first | rw [hC] | skip
    rw [← hw3, ← hw4]
    clear hw3 hw4
    first | rw [hz3] | skip
    go_wp2_with fail
    refine HCH.out.mono ?_
    rintro e1 w5 ⟨rfl, ⟨hb5, x5, hF5⟩, hA5⟩
    have hb05 := hb04.trans (hb5.mono (by omega))
    have hz5 := hF5.lt
    clear HCH hb5 hca
    cases hany : (combos n 3 0 0).any (fitA n e) with
    | false =>
      have hno := apart_no HAA.out hany
      obtain ⟨rfl, rfl⟩ : rs = [] ∧ ok = false := by
        rcases HC.out with ⟨x, y, z, h1, _, _⟩ | ⟨_, h2, h3⟩
        · exact (hno x y z h1.fits).elim
        · exact ⟨h2, h3⟩
      clear hany hA5 hno
      go_wp2_with fail
      refine bodyPost_ret (v := .tuple #[.slice none 0 0, .bool false]) (by simp [results, Tryd.results50, go_sem]) rfl ?_
      exact ⟨_, rfl, World.ownsRow_nil _ _ _ 1, by rw [hB]; exact hb05⟩
    | true =>
      obtain ⟨s, hs⟩ := find_any hany
      have hFs := hA5 s hs
      obtain ⟨x, y, z, hIA, hrow⟩ := apart_yes HAA.out hs
      have hslt : s < 2 ^ n := by
        have h1 := (find_first (combos_order (fun j _ => by simp) (Nat.zero_le _)) hs).1
        exact ((mem_all (by omega)).1 h1).1
      have hres : rs = rowB n s.testBit ∧ ok = true := by
        rcases HC.out with ⟨x', y', z', h1, h2, h3⟩ | ⟨h1, _, _⟩
        · obtain ⟨rfl, rfl, rfl⟩ := hIA.unique h1
          exact ⟨by rw [h2, hrow], h3⟩
        · exact (h1 x y z hIA.fits).elim
      obtain ⟨hrs, rfl⟩ := hres
      have HRS := Lib.hid hrs
      obtain ⟨si, HSI⟩ : ∃ z : Int, Hid ((s : Int) = z) := ⟨_, Lib.hid rfl⟩
      have hc5 := hFs.cell
      rw [HSI.out] at hc5
      have HNU := Lib.hid (numbersB_any (n := n) (by omega) s.testBit si (by rw [← HSI.out, mask_self' hslt]) w5 (ht.keep hb05 hTB))
      clear hany hs hA5 hIA hrow hrs hslt hFs hF5
      go_wp2_with fail
      refine HNU.out.mono ?_
      rintro e1 w7 ⟨u7, rfl, hL7, hb7⟩
      obtain ⟨ua, uc, rfl⟩ := owns_shape hL7
      have HL7 := Lib.hid hL7
      have HB7 := Lib.hid (hb05.trans (hb7.mono (by have := hb05.size; omega)))
      have hB5 : B ≤ w5.heap.size := by have := hb05.size; omega
      clear HNU hb7 hL7
      go_wp2_with fail
      refine bodyPost_ret (v := .tuple #[.slice ua (rowB n s.testBit).length uc, .bool true]) (by simp [results, Tryd.results50, go_sem]) rfl ?_
      exact ⟨_, rfl, by rw [hB, HRS.out]; exact owns_base HL7.out hB5, by rw [hB]; exact HB7.out⟩
end Go.Proofs.YtehejjmmbjekgaaDoor
