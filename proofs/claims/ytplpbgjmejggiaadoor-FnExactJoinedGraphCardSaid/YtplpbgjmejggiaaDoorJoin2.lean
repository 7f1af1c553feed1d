/-
  'JoinedGraph' of the reference and of the program.
-/
import Derived.Test.YtplpbgjmejggiaaDoorBeside2
namespace Go.Proofs.YtplpbgjmejggiaaDoor
open Go.RowKit

/-- The edges of E, and those from each vertex below k (of n) to all of the m others, from k to the first j of them. -/
def crossE (n m : Nat) (E : Nat → Nat → Bool) (k j : Nat) : Nat → Nat → Bool := fun a b =>
  E a b || (decide (a < n) && decide (n ≤ b) && decide (b < n + m) && (decide (a < k) || (decide (a = k) && decide (b < n + j)))) ||
    (decide (b < n) && decide (n ≤ a) && decide (a < n + m) && (decide (b < k) || (decide (b = k) && decide (a < n + j))))
theorem cross_step (n m : Nat) (E : Nat → Nat → Bool) {k j : Nat} (hk : k < n) (hj : j < m) : plus (crossE n m E k j) k (n + j) = crossE n m E k (j + 1) := by
  funext a b
  unfold plus crossE
  by_cases h1 : a = k ∧ b = n + j
  · obtain ⟨rfl, rfl⟩ := h1
    simp [hk, hj]
  · by_cases h2 : a = n + j ∧ b = k
    · obtain ⟨rfl, rfl⟩ := h2
      simp [hk, hj]
    · have e1 : (decide (a = k) && decide (b = n + j)) = false := by simp; intro h; exact fun h' => h1 ⟨h, h'⟩
      have e2 : (decide (a = n + j) && decide (b = k)) = false := by simp; intro h; exact fun h' => h2 ⟨h, h'⟩
      have e3 : (decide (a = k) && decide (b < n + (j + 1))) = (decide (a = k) && decide (b < n + j)) := by rw [Bool.eq_iff_iff]; simp; intro h; omega
      have e4 : (decide (b = k) && decide (a < n + (j + 1))) = (decide (b = k) && decide (a < n + j)) := by rw [Bool.eq_iff_iff]; simp; intro h; omega
      rw [e1, e2, e3, e4]
      simp
theorem cross_next (n m : Nat) (E : Nat → Nat → Bool) (k : Nat) : crossE n m E k m = crossE n m E (k + 1) 0 := by
  funext a b
  unfold crossE
  have e1 : (decide (a < n) && decide (n ≤ b) && decide (b < n + m) && (decide (a < k) || (decide (a = k) && decide (b < n + m)))) = (decide (a < n) && decide (n ≤ b) && decide (b < n + m) && (decide (a < k + 1) || (decide (a = k + 1) && decide (b < n + 0)))) := by
    rw [Bool.eq_iff_iff]; simp; omega
  have e2 : (decide (b < n) && decide (n ≤ a) && decide (a < n + m) && (decide (b < k) || (decide (b = k) && decide (a < n + m)))) = (decide (b < n) && decide (n ≤ a) && decide (a < n + m) && (decide (b < k + 1) || (decide (b = k + 1) && decide (a < n + 0)))) := by
    rw [Bool.eq_iff_iff]; simp; omega
  rw [e1, e2]
theorem cross_start (n m : Nat) (E : Nat → Nat → Bool) : crossE n m E 0 0 = E := by
  funext a b
  unfold crossE
  have e1 : (decide (a < n) && decide (n ≤ b) && decide (b < n + m) && (decide (a < 0) || (decide (a = 0) && decide (b < n + 0)))) = false := by
    simp; omega
  have e2 : (decide (b < n) && decide (n ≤ a) && decide (a < n + m) && (decide (b < 0) || (decide (b = 0) && decide (a < n + 0)))) = false := by
    simp; omega
  rw [e1, e2]
  simp

/-- What 'JoinedGraph' gives. -/
def JoinP (xss yss : List (List Int)) (rows : List (List Int)) (ok : Bool) : Prop :=
  ((okB xss = false ∨ okB yss = false ∨ 16 < xss.length + yss.length) ∧ rows = [] ∧ ok = false) ∨
  (okB xss = true ∧ okB yss = true ∧ xss.length + yss.length ≤ 16 ∧ ∃ e f, Adj xss.length e ∧ Adj yss.length f ∧ xss = rowsB xss.length e ∧ yss = rowsB yss.length f ∧
    rows = rowsB (xss.length + yss.length) (crossE xss.length yss.length (besideE xss.length e f) xss.length 0) ∧ ok = true)
theorem JoinP.beside {xss yss rows : List (List Int)} {ok : Bool} (h : JoinP xss yss rows ok) : ∃ rows1, BesideP xss yss rows1 ok ∧
    ((ok = false ∧ rows = [] ∧ rows1 = []) ∨ (ok = true ∧ 1 ≤ xss.length ∧ 1 ≤ yss.length ∧ xss.length + yss.length ≤ 16 ∧ ∃ E, rows1 = rowsB (xss.length + yss.length) E ∧ rows = rowsB (xss.length + yss.length) (crossE xss.length yss.length E xss.length 0))) := by
  rcases h with ⟨h1, h2, h3⟩ | ⟨h1, h2, h3, e, f, hA, hB, hx, hy, hr, hok⟩
  · exact ⟨[], .inl ⟨h1, rfl, h3⟩, .inl ⟨h3, h2, rfl⟩⟩
  · exact ⟨_, .inr ⟨h1, h2, h3, e, f, hA, hB, hx, hy, rfl, hok⟩, .inr ⟨hok, hA.pos, hB.pos, h3, _, rfl, hr⟩⟩

set_option maxHeartbeats 4000000 in
theorem specJoined (v : Value) (xss : List (List Int)) (v2 : Value) (yss : List (List Int)) (w : World) (hr : RdSS v xss w) (hr2 : RdSS v2 yss w) (rows : List (List Int)) (ok : Bool) (h : JoinP xss yss rows ok) :
    Calls Tryd.prog 50 #[.agg #[v], .agg #[v2]] w (GRes w rows ok) := by
  obtain ⟨rows1, hP, hcase⟩ := h.beside
  obtain ⟨a, c, rfl⟩ := hr.shape
  obtain ⟨a2, c2, rfl⟩ := hr2.shape
  obtain ⟨B, hB⟩ : ∃ B, w.heap.size = B := ⟨_, rfl⟩
  have u1 : Below B w (w.alloc (.cells #[.slice a xss.length c] 35)) := by subst hB; exact below_alloc' _ _
  have VA : VC 35 B #[.slice a xss.length c] (w.alloc (.cells #[.slice a xss.length c] 35)) := VC.new hB
  have z1 : (w.alloc (.cells #[.slice a xss.length c] 35)).heap.size = B + 1 := by simp [hB]
  have u2 := u1.alloc (by omega) (.cells #[.slice a2 yss.length c2] 35)
  have VB : VC 35 (B + 1) #[.slice a2 yss.length c2] ((w.alloc (.cells #[.slice a xss.length c] 35)).alloc (.cells #[.slice a2 yss.length c2] 35)) := VC.new z1
  replace VA := VA.upd (Upd.alloc _ (.cells #[.slice a2 yss.length c2] 35)) (by omega)
  have z2 : ((w.alloc (.cells #[.slice a xss.length c] 35)).alloc (.cells #[.slice a2 yss.length c2] 35)).heap.size = B + 2 := by simp [hB]
  have u3 := u2.alloc (by omega) (.cells #[.slice none 0 0] 35)
  have VR : VC 35 (B + 2) #[.slice none 0 0] (((w.alloc (.cells #[.slice a xss.length c] 35)).alloc (.cells #[.slice a2 yss.length c2] 35)).alloc (.cells #[.slice none 0 0] 35)) := VC.new z2
  replace VA := VA.upd (Upd.alloc _ (.cells #[.slice none 0 0] 35)) (by omega)
  replace VB := VB.upd (Upd.alloc _ (.cells #[.slice none 0 0] 35)) (by omega)
  have z3 : (((w.alloc (.cells #[.slice a xss.length c] 35)).alloc (.cells #[.slice a2 yss.length c2] 35)).alloc (.cells #[.slice none 0 0] 35)).heap.size = B + 3 := by simp [hB]
  clear u1 u2 z1 z2
  have hca := VA.cell
  have hcb := VB.cell
  have HP := Lib.hid hP
  have HCS := Lib.hid hcase
  clear hP hcase h
  go_enter Tryd.func50, Tryd.ntmps50
  go_wp2_with fail
  generalize ((w.alloc (.cells #[.slice a xss.length c] 35)).alloc (.cells #[.slice a2 yss.length c2] 35)).alloc (.cells #[.slice none 0 0] 35) = W at *
  refine (specBeside _ xss _ yss W (hr.below u3 hB) (hr2.below u3 hB) rows1 ok HP.out).mono ?_
  rintro e1 w1 ⟨u, vs, rfl, hG, hb1⟩
  obtain ⟨a3, c3, rfl⟩ := owns_shape hG.outer
  obtain ⟨C, hC⟩ : ∃ C, w1.heap.size = C := ⟨_, rfl⟩
  have hzC : B + 3 ≤ C := by have := hb1.size; omega
  have VO : VC 35 C #[.slice a3 vs.length c3] (w1.alloc (.cells #[.slice a3 vs.length c3] 35)) := VC.new hC
  have u4 := Upd.alloc w1 (.cells #[.slice a3 vs.length c3] 35)
  have VR1 := (VR.upd (Upd.of_below hb1) (by omega)).upd u4 (by omega)
  have hbW : Below (B + 2) W (w1.alloc (.cells #[.slice a3 vs.length c3] 35)) := (hb1.mono (by omega)).alloc (by omega) _
  have hO := (hG.rebase (base' := B + 3) (by omega)).below (below_alloc' w1 (.cells #[.slice a3 vs.length c3] 35))
  clear hca hcb hG hb1 u4
  have hcr := VR1.cell
  have hfr := VR1.free
  rcases HCS.out with ⟨rfl, rfl, rfl⟩ | ⟨rfl, hn1, hm1, hnm, E, rfl, rfl⟩
  · have HCE := Lib.hid (VR1.set (.slice none 0 0)).cell
    have HB := Lib.hid ((u3.trans (hbW.mono (by omega))).setCell (p := ⟨B + 2, 0, none⟩) (by simp) (.slice none 0 0))
    clear hO hbW
    go_wp2_with fail
    refine bodyPost_ret (v := .tuple #[.agg #[.slice none 0 0], .bool false]) (by simp [results, Tryd.results50, go_sem, HCE.out]) rfl ?_
    exact GRes.nothing _ _ (by rw [hB]; exact HB.out)
  have hvl : vs.length = xss.length + yss.length := by rw [hO.len]; simp
  rw [hvl] at VO hO hbW VR1 hcr hfr ⊢
  have hS : SG W (B + 2) C a3 (xss.length + yss.length) c3 vs (NB (xss.length + yss.length) (crossE xss.length yss.length E 0 0)) (w1.alloc (.cells #[.slice a3 (xss.length + yss.length) c3] 35)) :=
    ⟨VR1, VO, by rw [rowsOf_NB (by omega), cross_start]; exact hO, hbW, by omega, by simp⟩
  clear VO VR1 hO hbW hcr hfr hvl
  go_wp2_with fail
  go_loopw [8] (fun i wr => ∃ (k : Nat) (vs : List Value), k ≤ xss.length ∧ i = .int .i64 k ∧ SG W (B + 2) C a3 (xss.length + yss.length) c3 vs (NB (xss.length + yss.length) (crossE xss.length yss.length E k 0)) wr) (fun i _ => xss.length - (intOf i).toNat)
  case atStart => exact ⟨0, vs, Nat.zero_le _, rfl, hS⟩
  case round =>
    clear hS
    obtain ⟨k, vs, hk, rfl, hS⟩ := hrel
    have hca := (VA.belowAt hS.bel (by omega)).cell
    go_wp2_with fail
    refine (size_any a xss.length c wr).mono ?_
    rintro e1 w4 ⟨rfl, hb4⟩
    replace hS := hS.below hb4
    clear hb4 hca
    by_cases hlt : k < xss.length
    · have hca := (VA.belowAt hS.bel (by omega)).cell
      go_wp2_with fail
      refine (size_any a xss.length c w4).mono ?_
      rintro e1 w5 ⟨rfl, hb5⟩
      replace hS := hS.below hb5
      clear hb5 hca
      go_wp2_with fail
      go_loopw [9] (fun i wr => ∃ (j : Nat) (vs : List Value), j ≤ yss.length ∧ i = .int .i64 ((xss.length + j : Nat) : Int) ∧ SG W (B + 2) C a3 (xss.length + yss.length) c3 vs (NB (xss.length + yss.length) (crossE xss.length yss.length E k j)) wr) (fun i _ => xss.length + yss.length - (intOf i).toNat)
      case atStart => exact ⟨0, vs, Nat.zero_le _, rfl, hS⟩
      case round =>
        clear hS
        obtain ⟨j, vs, hj, rfl, hS⟩ := hrel
        have hcC := hS.var.cell
        go_wp2_with fail
        refine (size_any a3 (xss.length + yss.length) c3 wr).mono ?_
        rintro e1 w6 ⟨rfl, hb6⟩
        replace hS := hS.below hb6
        clear hb6 hcC
        by_cases hjt : j < yss.length
        · have hcC := hS.var.cell
          have HL := Lib.hid (cross_step xss.length yss.length E hlt hjt)
          have HLK := Lib.hid (hS.link k (xss.length + j) (k : Int) ((xss.length + j : Nat) : Int) rfl rfl (by omega) (by omega) (by omega))
          have hjt2 : xss.length + j < xss.length + yss.length := by omega
          clear hS
          go_wp2_with fail
          refine HLK.out.mono ?_
          rintro e1 w7 ⟨rfl, vs7, hS7⟩
          rw [joinS_NB _ (by omega) (by omega), HL.out] at hS7
          have hcC7 := hS7.var.cell
          have hfC7 := hS7.var.free
          clear hcC HLK
          go_wp2_with fail
          go_roundw
          case rel => exact ⟨j + 1, vs7, by omega, by go_num, hS7.store⟩
          case measure => simp [intOf]; omega
        · obtain rfl : j = yss.length := by omega
          rw [cross_next] at hS
          go_wp2_with fail
          go_roundw
          case rel => exact ⟨k + 1, vs, by omega, by go_num, hS⟩
          case measure => simp [intOf]; omega
    · obtain rfl : k = xss.length := by omega
      have hcC := hS.var.cell
      have hcR := hS.res.cell
      have hfR := hS.res.free
      have HF := Lib.hid (GRes.fin (b := B + 2) hB (u3.trans (hS.bel.mono (by omega))) (by omega) hS.own (by omega) true)
      have HCE := Lib.hid (hS.res.set (.slice a3 (xss.length + yss.length) c3)).cell
      go_wp2_with fail
      refine bodyPost_ret (v := .tuple #[.agg #[.slice a3 (xss.length + yss.length) c3], .bool true]) (by simp [results, Tryd.results50, go_sem, HCE.out]) rfl ?_
      have := HF.out
      rw [rowsOf_NB (by omega)] at this
      exact this

set_option maxHeartbeats 4000000 in
theorem implJoined (v : Value) (xss : List (List Int)) (v2 : Value) (yss : List (List Int)) (w : World) (ht : Tab w) (hr : RdSS v xss w) (hr2 : RdSS v2 yss w) (rows : List (List Int)) (ok : Bool) (h : JoinP xss yss rows ok) :
    Calls Tryd.prog 51 #[.agg #[v], .agg #[v2]] w (GRes w rows ok) := by
  obtain ⟨rows1, hP, hcase⟩ := h.beside
  have hxl : xss.length ≤ maxLen := (let ⟨_, h⟩ := hr.ex; by have := h.outer.len; have := h.len; simp at *; omega)
  have hyl : yss.length ≤ maxLen := (let ⟨_, h⟩ := hr2.ex; by have := h.outer.len; have := h.len; simp at *; omega)
  unfold maxLen at hxl hyl
  obtain ⟨a, c, rfl⟩ := hr.shape
  obtain ⟨a2, c2, rfl⟩ := hr2.shape
  obtain ⟨B, hB⟩ : ∃ B, w.heap.size = B := ⟨_, rfl⟩
  have hTB : 0 < B := by rw [← hB]; exact ht.lt
  have u1 : Below B w (w.alloc (.cells #[.slice a xss.length c] 35)) := by subst hB; exact below_alloc' _ _
  have VA : VC 35 B #[.slice a xss.length c] (w.alloc (.cells #[.slice a xss.length c] 35)) := VC.new hB
  have z1 : (w.alloc (.cells #[.slice a xss.length c] 35)).heap.size = B + 1 := by simp [hB]
  have u2 := u1.alloc (by omega) (.cells #[.slice a2 yss.length c2] 35)
  have VB : VC 35 (B + 1) #[.slice a2 yss.length c2] ((w.alloc (.cells #[.slice a xss.length c] 35)).alloc (.cells #[.slice a2 yss.length c2] 35)) := VC.new z1
  replace VA := VA.upd (Upd.alloc _ (.cells #[.slice a2 yss.length c2] 35)) (by omega)
  have z2 : ((w.alloc (.cells #[.slice a xss.length c] 35)).alloc (.cells #[.slice a2 yss.length c2] 35)).heap.size = B + 2 := by simp [hB]
  have u3 := u2.alloc (by omega) (.cells #[.slice none 0 0] 35)
  have VR : VC 35 (B + 2) #[.slice none 0 0] (((w.alloc (.cells #[.slice a xss.length c] 35)).alloc (.cells #[.slice a2 yss.length c2] 35)).alloc (.cells #[.slice none 0 0] 35)) := VC.new z2
  replace VA := VA.upd (Upd.alloc _ (.cells #[.slice none 0 0] 35)) (by omega)
  replace VB := VB.upd (Upd.alloc _ (.cells #[.slice none 0 0] 35)) (by omega)
  have z3 : (((w.alloc (.cells #[.slice a xss.length c] 35)).alloc (.cells #[.slice a2 yss.length c2] 35)).alloc (.cells #[.slice none 0 0] 35)).heap.size = B + 3 := by simp [hB]
  clear u1 u2 z1 z2
  have hca := VA.cell
  have hcb := VB.cell
  have HP := Lib.hid hP
  have HCS := Lib.hid hcase
  have HTT := Lib.hid ht
  clear hP hcase h
  go_enter Tryd.func51, Tryd.ntmps51
  go_wp2_with fail
  generalize ((w.alloc (.cells #[.slice a xss.length c] 35)).alloc (.cells #[.slice a2 yss.length c2] 35)).alloc (.cells #[.slice none 0 0] 35) = W at *
  refine (implBeside _ xss _ yss W (ht.keep u3 hTB) (hr.below u3 hB) (hr2.below u3 hB) rows1 ok HP.out).mono ?_
  rintro e1 w1 ⟨u, vs, rfl, hG, hb1⟩
  obtain ⟨a3, c3, rfl⟩ := owns_shape hG.outer
  obtain ⟨C, hC⟩ : ∃ C, w1.heap.size = C := ⟨_, rfl⟩
  have hzC : B + 3 ≤ C := by have := hb1.size; omega
  have VO : VC 35 C #[.slice a3 vs.length c3] (w1.alloc (.cells #[.slice a3 vs.length c3] 35)) := VC.new hC
  have u4 := Upd.alloc w1 (.cells #[.slice a3 vs.length c3] 35)
  have VR1 := (VR.upd (Upd.of_below hb1) (by omega)).upd u4 (by omega)
  have VA1 := (VA.upd (Upd.of_below hb1) (by omega)).upd u4 (by omega)
  have VB1 := (VB.upd (Upd.of_below hb1) (by omega)).upd u4 (by omega)
  have hb := u3.trans ((hb1.mono (by omega)).alloc (by omega) (.cells #[.slice a3 vs.length c3] 35))
  have hO := (hG.rebase (base' := B + 3) (by omega)).below (below_alloc' w1 (.cells #[.slice a3 vs.length c3] 35))
  have hzW : (w1.alloc (.cells #[.slice a3 vs.length c3] 35)).heap.size = C + 1 := by simp [hC]
  clear hca hcb hG hb1 u4 VA VB VR
  have hcr := VR1.cell
  have hfr := VR1.free
  have hco := VO.cell
  rcases HCS.out with ⟨rfl, rfl, rfl⟩ | ⟨rfl, hn1, hm1, hnm, E, rfl, rfl⟩
  · have HCE := Lib.hid (VR1.set (.slice none 0 0)).cell
    have HB := Lib.hid (hb.setCell (p := ⟨B + 2, 0, none⟩) (by simp) (.slice none 0 0))
    clear hO hb
    go_wp2_with fail
    refine bodyPost_ret (v := .tuple #[.agg #[.slice none 0 0], .bool false]) (by simp [results, Tryd.results51, go_sem, HCE.out]) rfl ?_
    exact GRes.nothing _ _ (by rw [hB]; exact HB.out)
  have hvl : vs.length = xss.length + yss.length := by rw [hO.len]; simp
  have hRO : RdSS (.slice a3 vs.length c3) (rowsB (xss.length + yss.length) E) (w1.alloc (.cells #[.slice a3 vs.length c3] 35)) := ⟨vs, hO.rd⟩
  have HNO := Lib.hid (netsOf_any _ (xss.length + yss.length) E hnm _ hRO)
  clear hO hRO
  have HVL := Lib.hid hvl
  clear hvl
  generalize hW1 : w1.alloc (.cells #[.slice a3 vs.length c3] 35) = W1 at *
  have HW1 := Lib.hid hW1
  clear hW1
  go_wp2_with fail
  rw [HW1.out]
  go_wp2_with fail
  refine HNO.out.mono ?_
  rintro e1 w2 ⟨u2, rfl, hN, hb2⟩
  obtain ⟨an, cn, rfl⟩ := owns_shape hN
  rw [hzW] at hN hb2
  have hN2 : NS (C + 1) W1 (.slice an (xss.length + yss.length) cn) (NB (xss.length + yss.length) (crossE xss.length yss.length E 0 0)) w2 := ⟨by rw [NB_length, cross_start]; exact hN, NB_small (by omega) _, hb2⟩
  have hca := (VA1.belowAt hb2 (by omega)).cell
  clear hN hb2 HNO hcr hfr hco
  go_wp2_with fail
  clear hca
  go_loopw [25] (fun i wr => ∃ k : Nat, k ≤ xss.length ∧ i = .int .i64 k ∧ NS (C + 1) W1 (.slice an (xss.length + yss.length) cn) (NB (xss.length + yss.length) (crossE xss.length yss.length E k 0)) wr) (fun i _ => xss.length - (intOf i).toNat)
  case atStart => exact ⟨0, Nat.zero_le _, rfl, hN2⟩
  case round =>
    clear hN2
    obtain ⟨k, hk, rfl, hN⟩ := hrel
    have hsz := hN.bel.size
    by_cases hlt : k < xss.length
    · have hcb := (VB1.belowAt hN.bel (by omega)).cell
      go_wp2_with fail
      clear hcb
      go_loopw [31] (fun i wr => ∃ j : Nat, j ≤ yss.length ∧ i = .int .i64 j ∧ NS (C + 1) W1 (.slice an (xss.length + yss.length) cn) (NB (xss.length + yss.length) (crossE xss.length yss.length E k j)) wr) (fun i _ => yss.length - (intOf i).toNat)
      case atStart => exact ⟨0, Nat.zero_le _, rfl, hN⟩
      case round =>
        clear hN hsz
        obtain ⟨j, hj, rfl, hN⟩ := hrel
        have hsz := hN.bel.size
        by_cases hjt : j < yss.length
        · have hca := (VA1.belowAt hN.bel (by omega)).cell
          have HL := Lib.hid (cross_step xss.length yss.length E hlt hjt)
          have HJ := Lib.hid (hN.join (by omega) k (xss.length + j) (k : Int) ((xss.length : Int) + (j : Int)) rfl (by omega) (by simp; omega) (by simp; omega) (by simp; omega))
          clear hN
          go_wp2_with fail
          refine HJ.out.mono ?_
          rintro e1 w5 ⟨rfl, hN5, -⟩
          rw [joinS_NB _ (by omega) (by omega), HL.out] at hN5
          go_wp2_with fail
          go_roundw
          case rel => exact ⟨j + 1, by omega, by go_num, hN5⟩
          case measure => simp [intOf]; omega
        · obtain rfl : j = yss.length := by omega
          rw [cross_next] at hN
          go_wp2_with fail
          go_roundw
          case rel => exact ⟨k + 1, by omega, by go_num, hN⟩
          case measure => simp [intOf]; omega
    · obtain rfl : k = xss.length := by omega
      have VR2 := VR1.belowAt hN.bel (by omega)
      have hb5 := hb.trans (hN.bel.mono (by omega))
      have HGR := Lib.hid (hN.graph (HTT.out.keep hb hTB) (by omega) (by simp; omega))
      go_wp2_with fail
      refine HGR.out.mono ?_
      rintro e1 w6 ⟨u6, us, rfl, hG6, hb6⟩
      rw [rowsOf_NB (by omega)] at hG6
      obtain ⟨uua, uuc, rfl⟩ := owns_shape hG6.outer
      have HF := Lib.hid (GRes.put (b := B + 2) hB hb5 (by omega) (by omega) hG6 hb6 true)
      replace VR2 := VR2.upd (Upd.of_below hb6) (by omega)
      have HCE := Lib.hid (VR2.set (.slice uua us.length uuc)).cell
      clear hG6 hb6 hN HGR hb5
      have hcr := VR2.cell
      have hfr := VR2.free
      go_wp2_with fail
      refine bodyPost_ret (v := .tuple #[.agg #[.slice uua us.length uuc], .bool true]) (by simp [results, Tryd.results51, go_sem, HCE.out]) rfl ?_
      exact HF.out
end Go.Proofs.YtplpbgjmejggiaaDoor
