/-
  'ClawOf' of the program.
-/
import Derived.Test.YtehejjmmbjekgaaDoorMissEx
import Derived.Test.YtehejjmmbjekgaaDoorChCl
import Derived.Test.YtehejjmmbjekgaaDoorNetsOf
import Derived.Test.YtehejjmmbjekgaaDoorGraphOk
import Derived.Test.YtehejjmmbjekgaaDoorOther
namespace Go.Proofs.YtehejjmmbjekgaaDoor
open Go.RowKit

theorem row_three {n x y z t : Nat} (hxy : x < y) (hyz : y < z) (hz : z < n) (hb : ∀ b, t.testBit b = (decide (b = x) || decide (b = y) || decide (b = z))) : rowB n t.testBit = [(x : Int), (y : Int), (z : Int)] := by
  refine rising_ext (rowB_rising _ _) (by simp; omega) fun a => ?_
  rw [mem_rowB]
  constructor
  · rintro ⟨b, hbn, hpb, rfl⟩
    rw [hb] at hpb
    simp at hpb ⊢
    omega
  · intro ha
    simp at ha
    rcases ha with rfl | rfl | rfl
    · exact ⟨x, by omega, by rw [hb]; simp, rfl⟩
    · exact ⟨y, by omega, by rw [hb]; simp, rfl⟩
    · exact ⟨z, by omega, by rw [hb]; simp, rfl⟩
theorem Claw.size {n : Nat} {e : Nat → Nat → Bool} {v t : Nat} (hn : n ≤ 16) (h : Claw n e v t) : Go.Proofs.YtehejjmmbjekgaaDoor.size t = 3 := by
  have hl := h.lt
  obtain ⟨x, y, z, h1, h2, h3, -, -, -, -, hb⟩ := h
  rw [← size_row' (by omega) hl, row_three h1 h2 h3 hb]
  rfl
def ClawC (n : Nat) (e : Nat → Nat → Bool) (rs : List Int) (ok : Bool) : Prop :=
  (∃ v s, IsClaw n e v s ∧ rs = (v : Int) :: rowB n s.testBit ∧ ok = true) ∨ ((∀ v, v < n → ∀ t, ¬ Claw n e v t) ∧ rs = [] ∧ ok = false)
def ClawRP (xss : List (List Int)) (rs : List Int) (ok : Bool) : Prop :=
  (okB xss = false ∧ rs = [] ∧ ok = false) ∨ ∃ e, Adj xss.length e ∧ xss = rowsB xss.length e ∧ ClawC xss.length e rs ok
theorem pow_le_32' {n : Nat} (hn : n ≤ 16) : 2 ^ n ≤ 65536 := Nat.pow_le_pow_right (n := 2) (j := 16) (by decide) hn
theorem mask_self' {n s : Nat} (hs : s < 2 ^ n) : maskB n s.testBit = s := by
  apply Nat.eq_of_testBit_eq
  intro i
  rw [testBit_maskB]
  by_cases hi : i < n
  · simp [hi]
  · rw [bits_above hs i (by omega)]; simp

set_option maxHeartbeats 2000000 in
theorem claw1_any (v : Nat) (u : Value) (n : Nat) (e : Nat → Nat → Bool) (hn : n ≤ 16) (s : Nat) (hs : s < 2 ^ n) (F Bn A : Nat) (x : Value) (W WS : World) (hWS : W.setCell ⟨F, 0, none⟩ (.int .u32 (s : Nat)) = WS) (ht : Tab WS) (hF : VC 116 F #[x] W)
    (hN : VC 116 Bn #[.int .u32 (maskB n (e v) : Nat)] WS) (hA : VC 94 A #[u] WS) (hr : Row WS 1 u n (sets (NB n e))) :
    Calls Tryd.prog 105 #[.int .u32 (s : Nat), .pointer (some ⟨F, 0, none⟩), .pointer (some ⟨Bn, 0, none⟩), .pointer (some ⟨A, 0, none⟩)] W fun r W' => r = .returned (.bool (fitI n e v s)) ∧ Below WS.heap.size WS W' := by
  obtain ⟨a, c, rfl, -, -, -⟩ := id hr
  have hc := hF.cell
  have hf := hF.free
  have hcN := hN.cell
  have hcA := hA.cell
  have hp := pow_le_32' hn
  obtain ⟨si, HSI⟩ : ∃ z : Int, Hid ((s : Int) = z) := ⟨_, Lib.hid rfl⟩
  obtain ⟨ni, HNI⟩ : ∃ z : Int, Hid (((maskB n (e v) : Nat) : Int) = z) := ⟨_, Lib.hid rfl⟩
  obtain ⟨z1, HZ1⟩ : ∃ z : Nat, Hid (maskB n (fun b => s.testBit b && !e v b) = z) := ⟨_, Lib.hid rfl⟩
  have hbo : bits BinOp.andNot IntKind.u32 si ni = (z1 : Int) := by rw [← HSI.out, ← HNI.out, ← HZ1.out, ← mask_self' hs, mask_andNot (by omega), mask_self' hs]
  obtain ⟨K, HK⟩ : ∃ K : Nat, Hid (lackSum n e s.testBit (rowB n s.testBit) / 2 = K) := ⟨_, Lib.hid rfl⟩
  have HMI : Hid (Calls Tryd.prog 106 #[.slice a n c, .int .u32 si] WS fun r w' => r = .returned (.int .i64 (K : Nat)) ∧ Below WS.heap.size WS w') := Lib.hid (by rw [← HSI.out, ← HK.out]; exact missing_exact (.slice a n c) n e hn s.testBit s (mask_self' hs).symm WS ht hr)
  have HFI : Hid (fitI n e v s = (decide (z1 = 0) && decide (K = 3))) := Lib.hid (by unfold fitI; rw [HZ1.out, HK.out])
  rw [HNI.out] at hcN
  rw [HSI.out] at hWS ⊢
  clear hs hp
  by_cases h0 : z1 = 0
  · have hd : ((z1 : Int) == 0) = true := by simp [h0]
    have HF : Hid (fitI n e v s = decide (K = 3)) := Lib.hid (by rw [HFI.out, decide_eq_true h0, Bool.true_and])
    clear h0
    go_enter Tryd.func105, Tryd.ntmps105
    go_wp2_with fail
    try rw [hWS]
    go_wp2_with fail
    refine HMI.out.mono ?_
    rintro e1 w1 ⟨rfl, hb1⟩
    by_cases hK : K = 3
    · have hd3 : ((K : Int) == 3) = true := by simp [hK]
      have HF3 : Hid (fitI n e v s = true) := Lib.hid (by rw [HF.out, decide_eq_true hK])
      clear hK
      go_wp2_with fail
      go_ret
      exact ⟨ret_bool HF3.out.symm, hb1⟩
    · have hd3 : ((K : Int) == 3) = false := by rw [beq_eq_false_iff_ne]; omega
      have HF3 : Hid (fitI n e v s = false) := Lib.hid (by rw [HF.out, decide_eq_false hK])
      clear hK
      go_wp2_with fail
      go_ret
      exact ⟨ret_bool HF3.out.symm, hb1⟩
  · have hd : ((z1 : Int) == 0) = false := by rw [beq_eq_false_iff_ne]; omega
    have HF : Hid (fitI n e v s = false) := Lib.hid (by rw [HFI.out, decide_eq_false h0, Bool.false_and])
    clear h0
    go_enter Tryd.func105, Tryd.ntmps105
    go_wp2_with fail
    try rw [hWS]
    go_wp2_with fail
    go_ret
    exact ⟨ret_bool HF.out.symm, Below.refl _ _⟩
/-- What the search of the sets of three tells. -/
theorem claw_yes {n : Nat} {e : Nat → Nat → Bool} {v s : Nat} (hA : Adj n e) (hv : v < n) (hf : ∀ u, u < v → ∀ t, ¬ Claw n e u t) (hs : (combos n 3 0 0).find? (fitI n e v) = some s) : IsClaw n e v s := by
  have hn := hA.le
  obtain ⟨h1, h2, h3⟩ := find_first (combos_order (fun j _ => by simp) (Nat.zero_le _)) hs
  obtain ⟨h4, h5⟩ := (mem_all (by omega)).1 h1
  refine ⟨hv, (fitI_claw hA h4 h5).1 h2, fun t ht hl => ?_, hf⟩
  have h6 := ht.size hn
  rcases h3 t ((mem_all (by omega)).2 ⟨ht.lt, h6⟩) ((fitI_claw hA ht.lt h6).2 ht) with h7 | h7
  · subst h7; exact hl.irrefl
  · exact h7.asymm hl
theorem claw_no {n : Nat} {e : Nat → Nat → Bool} {v : Nat} (hA : Adj n e) (h : (combos n 3 0 0).any (fitI n e v) = false) (t : Nat) : ¬ Claw n e v t := fun ht => by
  have hn := hA.le
  have h6 := ht.size hn
  rw [List.any_eq_false] at h
  exact h t ((mem_all (by omega)).2 ⟨ht.lt, h6⟩) ((fitI_claw hA ht.lt h6).2 ht)

set_option maxHeartbeats 4000000 in
theorem implClawOf (g : Value) (xss : List (List Int)) (w : World) (ht : Tab w) (hr : RdSS g xss w) (rs : List Int) (ok : Bool) (h : ClawRP xss rs ok) :
    Calls Tryd.prog 47 #[.agg #[g]] w (SBRes w rs ok) := by
  have hmf : ∀ (fn : Fn) (first cap : Array Value) (w : World), (Instr.makeFunc fn first cap).run Tryd.prog w = .ok (.func fn first cap) w := fun _ _ _ _ => rfl
  obtain ⟨a, c, rfl⟩ := hr.shape
  obtain ⟨B, hB⟩ : ∃ B, w.heap.size = B := ⟨_, rfl⟩
  have hTB : 0 < B := by rw [← hB]; exact ht.lt
  have u1 : Below B w (w.alloc (.cells #[.slice a xss.length c] 24)) := by subst hB; exact below_alloc' _ _
  have VG0 : VC 24 B #[.slice a xss.length c] (w.alloc (.cells #[.slice a xss.length c] 24)) := VC.new hB
  have hz0 : (w.alloc (.cells #[.slice a xss.length c] 24)).heap.size = B + 1 := by simp [hB]
  have H := Lib.hid h
  have hcg := VG0.cell
  clear h
  go_enter Tryd.func47, Tryd.ntmps47
  go_wp2_with fail
  generalize w.alloc (.cells #[.slice a xss.length c] 24) = W at *
  refine (implOk _ xss W (hr.below u1 hB)).mono ?_
  rintro e1 w1 ⟨rfl, hb1⟩
  have VG1 := VG0.upd (Upd.of_below hb1) (by omega)
  have hb := u1.trans (hb1.mono (by omega))
  have hz1 : B + 1 ≤ w1.heap.size := by have := hb1.size; omega
  clear hb1 hcg u1
  have hcg := VG1.cell
  cases hok : okB xss with
  | false =>
    obtain ⟨rfl, rfl⟩ : rs = [] ∧ ok = false := by
      rcases H.out with ⟨_, h⟩ | ⟨e, hA, hx, _⟩
      · exact h
      · rw [hx, okB_adj hA] at hok; cases hok
    clear hok
    go_wp2_with fail
    refine bodyPost_ret (v := .tuple #[.slice none 0 0, .bool false]) (by simp [results, Tryd.results47, go_sem]) rfl ?_
    exact ⟨_, rfl, World.ownsRow_nil _ _ _ 1, by rw [hB]; exact hb⟩
  | true =>
    obtain ⟨e, hA, hx, hcase⟩ : ∃ e, Adj xss.length e ∧ xss = rowsB xss.length e ∧ ClawC xss.length e rs ok := by
      rcases H.out with ⟨h, _⟩ | h
      · rw [hok] at h; cases h
      · exact h
    have hn16 := hA.le
    have HC := Lib.hid hcase
    have hr' := hr.below hb hB
    rw [hx, rowsB_length] at hr'
    have HN := Lib.hid (netsOf_any _ xss.length e hn16 w1 hr')
    have HAA := Lib.hid hA
    have HF0 : Hid (∀ u, u < 0 → ∀ t, ¬ Claw xss.length e u t) := Lib.hid fun u h => by omega
    clear hok hx hcase hr' H hA
    generalize xss.length = n at *
    go_wp2_with fail
    refine HN.out.mono ?_
    rintro e1 w2 ⟨u2, rfl, hN2, hb2⟩
    obtain ⟨na, nc, rfl⟩ := owns_shape hN2
    have hNr := Row.of_owns hN2
    have hb02 := hb.trans (hb2.mono (by omega))
    have hz2 := hb2.size
    obtain ⟨C, hC⟩ : ∃ C, w2.heap.size = C := ⟨_, rfl⟩
    obtain ⟨w3, hw3⟩ : ∃ w3, w3 = w2.alloc (.cells #[.slice na n nc] 94) := ⟨_, rfl⟩
    have VA3 : VC 94 C #[.slice na n nc] w3 := by rw [hw3]; exact VC.new hC
    have hz3 : w3.heap.size = C + 1 := by rw [hw3]; simp [hC]
    have hb23 : Below C w2 w3 := by rw [hw3, ← hC]; exact below_alloc' _ _
    have hb03 := hb02.trans (hb23.mono (by omega))
    have hNr3 := hNr.below (hC.symm ▸ hb23)
    have hca := VA3.cell
    have hcl : Below (C + 1) w3 w3 := Below.refl _ _
    clear hN2 HN hb2 hcg hNr
    go_wp2_with fail
    rw [← hw3]
    clear hw3
    go_wp2_with fail
    go_loopw [15] (fun i wr => ∃ v : Nat, v ≤ n ∧ i = .int .i64 v ∧ Hid (∀ u, u < v → ∀ t, ¬ Claw n e u t) ∧ Below (C + 1) w3 wr) (fun i _ => n - (intOf i).toNat)
    case atStart => exact ⟨0, Nat.zero_le _, rfl, HF0, hcl⟩
    case round =>
      clear hcl hca
      obtain ⟨v, hv, rfl, HFS, hbr⟩ := hrel
      have hszr := hbr.size
      by_cases hlt : v < n
      · obtain ⟨gb, go, x, rfl, hcx, HX⟩ := (hNr3.below (hz3.symm ▸ hbr)).setAt (j := v) (by simpa using hlt)
        obtain rfl : maskB n (e v) = x := by have h := HX.out; rw [NB_at e hlt] at h; exact Option.some.inj h
        obtain ⟨ni, HNI⟩ : ∃ z : Int, Hid (((maskB n (e v) : Nat) : Int) = z) := ⟨_, Lib.hid rfl⟩
        obtain ⟨Bn, hBn⟩ : ∃ S, wr.heap.size = S := ⟨_, rfl⟩
        obtain ⟨Wn, hWn⟩ : ∃ Wn, Wn = wr.alloc (.cells #[.int .u32 ni] 116) := ⟨_, rfl⟩
        obtain ⟨Wf, hWf⟩ : ∃ Wf, Wf = Wn.alloc (.cells #[.int .u32 0] 116) := ⟨_, rfl⟩
        have hzn : Wn.heap.size = Bn + 1 := by rw [hWn]; simp [hBn]
        have hzf : Wf.heap.size = Bn + 2 := by rw [hWf]; simp [hzn]
        have VN : VC 116 Bn #[.int .u32 (maskB n (e v) : Nat)] Wf := by rw [hWf, HNI.out]; exact (by rw [hWn]; exact VC.new hBn : VC 116 Bn #[.int .u32 ni] Wn).upd (Upd.alloc _ _) (by omega)
        have VF : VC 116 (Bn + 1) #[.int .u32 0] Wf := by rw [hWf]; exact VC.new hzn
        have hbf : Below Bn wr Wf := by rw [hWf, hWn, ← hBn]; exact (below_alloc' wr _).alloc (by simp) _
        have hb3f := hbr.trans (hbf.mono (by omega))
        have VAf := VA3.belowAt hb3f (by omega)
        have hcf := VAf.cell
        have hbwf := hb03.trans (hb3f.mono (by omega))
        have HCH := Lib.hid (choose_any_cl (Bn + 1) Bn C n hn16 (fitI n e v) (fun W => Below (Bn + 1) Wf W ∧ ∃ x : Value, VC 116 (Bn + 1) #[x] W) (fun s W => VC 116 (Bn + 1) #[.int .u32 (s : Nat)] W) (fun s W hs ⟨hbW, x, hF⟩ => by
          have hbS : Below (Bn + 1) Wf (W.setCell ⟨Bn + 1, 0, none⟩ (.int .u32 (s : Nat))) := hbW.setCell (by simp) _
          have hzS : (W.setCell ⟨Bn + 1, 0, none⟩ (.int .u32 (s : Nat))).heap.size = W.heap.size := by simp [World.setCell]
          have hFl := hF.lt
          refine (claw1_any v (.slice (some ⟨gb, go, none⟩) n nc) n e hn16 s hs (Bn + 1) Bn C x W _ rfl (ht.keep (hbwf.trans (hbS.mono (by omega))) hTB) hF (VN.belowAt hbS (by omega)) (VAf.belowAt hbS (by omega)) (hNr3.below (hz3.symm ▸ hb3f.trans (hbS.mono (by omega))))).mono ?_
          rintro r W' ⟨rfl, hb'⟩
          have hFS := (hF.set (.int .u32 (s : Nat))).belowAt hb' (by omega)
          exact ⟨rfl, ⟨hbS.trans (hb'.mono (by omega)), _, hFS⟩, hFS⟩) 3 (by omega) 0 0 0 3 0 Wf rfl rfl rfl (Nat.zero_le _) (fun j _ => by simp) ⟨Below.refl _ _, _, VF⟩)
        have hni : ((maskB n (e v) : Nat) : Int) = ni := HNI.out
        rw [hni] at hcx
        rw [hWf, hWn] at hcf
        clear hni HX VF VN
        go_wp2_with fail
        rw [← hWn, ← hWf]
        clear hWn hWf hcf
        refine HCH.out.mono ?_
        rintro e1 w5 ⟨rfl, ⟨hb5, x5, hF5⟩, hA5⟩
        have hbr5 := hb3f.trans (hb5.mono (by omega))
        have hb05 := hb03.trans (hbr5.mono (by omega))
        have hz5 := hF5.lt
        clear HCH hb5 hbf hcx
        cases hany : (combos n 3 0 0).any (fitI n e v) with
        | false =>
          have HN2 := Lib.hid (claw_no HAA.out hany)
          clear hany hA5
          go_wp2_with fail
          go_roundw
          case rel => exact ⟨v + 1, by omega, by go_num, Lib.hid fun u hu t => (by
            by_cases h : u = v
            · subst h; exact HN2.out t
            · exact HFS.out u (by omega) t), hbr5⟩
          case measure => simp [intOf]; omega
        | true =>
          obtain ⟨s, hs⟩ : ∃ s, (combos n 3 0 0).find? (fitI n e v) = some s := by
            cases hf : (combos n 3 0 0).find? (fitI n e v) with
            | some s => exact ⟨s, rfl⟩
            | none =>
              rw [List.find?_eq_none] at hf
              rw [List.any_eq_true] at hany
              obtain ⟨y, hy, hfy⟩ := hany
              exact (hf y hy hfy).elim
          have hFs := hA5 s hs
          have hIC := claw_yes HAA.out hlt HFS.out hs
          have hres : rs = (v : Int) :: rowB n s.testBit ∧ ok = true := by
            rcases HC.out with ⟨v', s', h1, h2, h3⟩ | ⟨h1, _, _⟩
            · obtain ⟨rfl, rfl⟩ := hIC.unique hn16 h1
              exact ⟨h2, h3⟩
            · exact (h1 v hlt s hIC.fits).elim
          obtain ⟨hrs, rfl⟩ := hres
          have HRS := Lib.hid hrs
          have hslt := hIC.fits.lt
          obtain ⟨si, HSI⟩ : ∃ z : Int, Hid ((s : Int) = z) := ⟨_, Lib.hid rfl⟩
          obtain ⟨D, hD⟩ : ∃ D, w5.heap.size = D := ⟨_, rfl⟩
          obtain ⟨w6, hw6⟩ : ∃ w6, w6 = w5.alloc (.cells #[.int .i64 (v : Int)] 2) := ⟨_, rfl⟩
          have ho6 : w6.ownsRow D 2 1 (.slice (some ⟨D, 0, none⟩) 1 1) 1 [.int .i64 (v : Int)] := by rw [hw6, ← hD]; exact World.ownsRow_lit w5 #[.int .i64 (v : Int)] 1 (Nat.le_refl _) (by simp [maxLen]) rfl
          have hb6 : Below D w5 w6 := by rw [hw6, ← hD]; exact below_alloc' _ _
          have hz6 : w6.heap.size = D + 1 := by rw [hw6]; simp [hD]
          have hF6 := hFs.belowAt hb6 (by omega)
          have hc6 := hF6.cell
          have hb06 := hb05.trans (hb6.mono (by have := hb05.size; omega))
          have HNU := Lib.hid (numbersB_any (n := n) (by omega) s.testBit si (by rw [← HSI.out, mask_self' hslt]) w6 (ht.keep hb06 hTB))
          have hrl := rowB_length n s.testBit
          rw [HSI.out, hw6] at hc6
          clear hany hs hA5 hIC hrs hslt hFs hF5 hF6 hb6
          go_wp2_with fail
          first | rw [hD] | skip
          rw [← hw6]
          clear hw6 hc6
          refine HNU.out.mono ?_
          rintro e1 w7 ⟨u7, rfl, hL7, hb7⟩
          have ho7 := owns_below ho6 hb7
          have hRow := Row.of_owns hL7
          have hz7 : D + 1 ≤ w7.heap.size := by rw [← hz6]; exact hb7.size
          have HB7 := Lib.hid (hb06.trans (hb7.mono (by have := hb06.size; omega)))
          have HBD : B ≤ D := by have := hb05.size; omega
          have HO7 := Lib.hid ho7
          obtain ⟨ua, uc, rfl, -, -, -⟩ := id hRow
          clear HNU hb7 hL7 ho6 ho7
          go_wp2_with (at_builtin; refine wpList_extend w7 rfl _ _ 38 rfl D 2 _ 8 Tryd.underlying38 infoI rfl (.slice (some ⟨D, 0, none⟩) 1 1) 1 _ rfl HO7.out _ (rowB n s.testBit).length _ rfl hRow (ints_one (rowB n s.testBit)) (by unfold maxLen; omega) (by omega) (by omega) ?_; intro a2 c2 w8 ho8 hg8)
          refine bodyPost_ret (v := .tuple #[.slice a2 (1 + (rowB n s.testBit).length) c2, .bool true]) (by simp [results, Tryd.results47, go_sem]) rfl ?_
          refine ⟨_, rfl, ?_, ?_⟩
          · have ho9 := owns_base ho8 HBD
            have e1 : ((v : Int) :: rowB n s.testBit).length = 1 + (rowB n s.testBit).length := by simp [Nat.add_comm]
            rw [hB, HRS.out, e1]
            exact ho9
          · rw [hB]; exact HB7.out.grown hg8 (by have := HB7.out.size; omega) fun y hy => by have := (owns_lt HO7.out hy).1; omega
      · obtain rfl : v = n := by omega
        have hres : rs = [] ∧ ok = false := by
          rcases HC.out with ⟨v', s', h1, _, _⟩ | ⟨_, h2, h3⟩
          · exact (HFS.out v' h1.lt s' h1.fits).elim
          · exact ⟨h2, h3⟩
        obtain ⟨rfl, rfl⟩ := hres
        have hbe := hb03.trans (hbr.mono (by omega))
        go_wp2_with fail
        refine bodyPost_ret (v := .tuple #[.slice none 0 0, .bool false]) (by simp [results, Tryd.results47, go_sem]) rfl ?_
        exact ⟨_, rfl, World.ownsRow_nil _ _ _ 1, by rw [hB]; exact hbe⟩
end Go.Proofs.YtehejjmmbjekgaaDoor
