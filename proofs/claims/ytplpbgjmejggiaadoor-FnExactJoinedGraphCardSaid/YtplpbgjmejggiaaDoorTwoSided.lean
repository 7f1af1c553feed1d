/-
  'TwoSided' of the reference and of the program.
-/
import Derived.Test.YtplpbgjmejggiaaDoorJoin2
namespace Go.Proofs.YtplpbgjmejggiaaDoor
open Go.RowKit

theorem zero_adj {n : Nat} (h1 : 1 ≤ n) (h2 : n ≤ 16) : Adj n (fun _ _ => false) := ⟨h1, h2, fun _ _ => rfl, fun _ _ _ _ => rfl⟩
theorem beside_zero (n : Nat) : besideE n (fun _ _ => false) (fun _ _ => false) = fun _ _ => false := by
  funext a b; simp [besideE]

/-- What 'TwoSided' asks. -/
def OkT (a b : Int) : Prop := (1 ≤ a ∧ a ≤ 16) ∧ (1 ≤ b ∧ b ≤ 16) ∧ a + b ≤ 16

set_option maxHeartbeats 2000000 in
theorem specTwo (n m : Int) (w : World) (rows : List (List Int)) (ok : Bool)
    (h : (¬ OkT n m ∧ rows = [] ∧ ok = false) ∨ (OkT n m ∧ rows = rowsB (n.toNat + m.toNat) (crossE n.toNat m.toNat (fun _ _ => false) n.toNat 0) ∧ ok = true)) :
    Calls Tryd.prog 42 #[.int .i64 n, .int .i64 m] w (GRes w rows ok) := by
  obtain ⟨B, hB⟩ : ∃ B, w.heap.size = B := ⟨_, rfl⟩
  have u1 : Below B w (w.alloc (.cells #[.slice none 0 0] 35)) := by subst hB; exact below_alloc' _ _
  have VR : VC 35 B #[.slice none 0 0] (w.alloc (.cells #[.slice none 0 0] 35)) := VC.new hB
  have hz1 : (w.alloc (.cells #[.slice none 0 0] 35)).heap.size = B + 1 := by simp [hB]
  have H := Lib.hid h
  have hno : ¬ OkT n m → rows = [] ∧ ok = false := fun hn => by
    rcases H.out with ⟨_, h2⟩ | ⟨h1, _⟩
    · exact h2
    · exact (hn h1).elim
  have HNO := Lib.hid hno
  clear h hno
  have hcr := VR.cell
  have hfr := VR.free
  by_cases hn : 1 ≤ n ∧ n ≤ 16
  case neg =>
    have H1 := Lib.hid (l1In_is n 1 16 false (by simpa using hn))
    obtain ⟨rfl, rfl⟩ := HNO.out fun h => hn h.1
    clear hn hz1
    go_enter Tryd.func42, Tryd.ntmps42
    go_wp2_with fail
    refine (H1.out _).mono ?_
    rintro e1 w1 ⟨rfl, rfl⟩
    go_wp2_with fail
    refine bodyPost_ret (v := .tuple #[.agg #[.slice none 0 0], .bool false]) (by simp [results, Tryd.results42, go_sem, hcr]) rfl ?_
    exact GRes.nothing _ _ (by rw [hB]; exact u1)
  have H1 := Lib.hid (l1In_is n 1 16 true (by simpa using hn))
  by_cases hm : 1 ≤ m ∧ m ≤ 16
  case neg =>
    have H2 := Lib.hid (l1In_is m 1 16 false (by simpa using hm))
    obtain ⟨rfl, rfl⟩ := HNO.out fun h => hm h.2.1
    clear hn hm hz1
    go_enter Tryd.func42, Tryd.ntmps42
    go_wp2_with fail
    refine (H1.out _).mono ?_
    rintro e1 w1 ⟨rfl, rfl⟩
    go_wp2_with fail
    refine (H2.out _).mono ?_
    rintro e1 w1 ⟨rfl, rfl⟩
    go_wp2_with fail
    refine bodyPost_ret (v := .tuple #[.agg #[.slice none 0 0], .bool false]) (by simp [results, Tryd.results42, go_sem, hcr]) rfl ?_
    exact GRes.nothing _ _ (by rw [hB]; exact u1)
  have H2 := Lib.hid (l1In_is m 1 16 true (by simpa using hm))
  obtain ⟨n, rfl⟩ := Int.eq_ofNat_of_zero_le (show 0 ≤ n by omega)
  obtain ⟨m, rfl⟩ := Int.eq_ofNat_of_zero_le (show 0 ≤ m by omega)
  have hJ : JoinP (rowsB n fun _ _ => false) (rowsB m fun _ _ => false) rows ok := by
    have hA := zero_adj (n := n) (by omega) (by omega)
    have hB' := zero_adj (n := m) (by omega) (by omega)
    unfold JoinP
    simp only [rowsB_length]
    rcases H.out with ⟨h1, h2, h3⟩ | ⟨h1, h2, h3⟩
    · refine .inl ⟨.inr (.inr ?_), h2, h3⟩
      unfold OkT at h1
      omega
    · refine .inr ⟨okB_adj hA, okB_adj hB', by have := h1.2.2; omega, _, _, hA, hB', rfl, rfl, ?_, h3⟩
      rw [beside_zero]
      simpa using h2
  have HJ := Lib.hid hJ
  clear hJ hcr hfr
  go_enter Tryd.func42, Tryd.ntmps42
  go_wp2_with fail
  generalize w.alloc (.cells #[.slice none 0 0] 35) = W at *
  refine (H1.out _).mono ?_
  rintro e1 w1 ⟨rfl, rfl⟩
  go_wp2_with fail
  refine (H2.out _).mono ?_
  rintro e1 w1 ⟨rfl, rfl⟩
  go_wp2_with fail
  refine (empty_any n (by omega) W).mono ?_
  rintro e1 w1 ⟨u1', vs1, rfl, hG1, hb1⟩
  go_wp2_with fail
  refine (empty_any m (by omega) w1).mono ?_
  rintro e1 w2 ⟨u2', vs2, rfl, hG2, hb2⟩
  have hb12 := hb1.trans (hb2.mono hb1.size)
  rw [← rowsB_zeros] at hG1 hG2
  have hR1 : RdSS u1' (rowsB n fun _ _ => false) w2 := RdSS.below ⟨vs1, hG1.rd⟩ hb2 rfl
  have hR2 : RdSS u2' (rowsB m fun _ _ => false) w2 := ⟨vs2, hG2.rd⟩
  have HC := Lib.hid (specJoined u1' _ u2' _ w2 hR1 hR2 rows ok HJ.out)
  replace VR := VR.upd (Upd.of_below hb12) (by omega)
  have hb := u1.trans (hb12.mono (by omega))
  have hlt := VR.lt
  clear hG1 hG2 hb1 hb2 hb12 hR1 hR2
  go_wp2_with fail
  refine HC.out.mono ?_
  rintro e1 w4 ⟨u4, us, rfl, hG4, hb4⟩
  obtain ⟨ua, uc, rfl⟩ := owns_shape hG4.outer
  have HF := Lib.hid (GRes.put (b := B) hB hb (by omega) hlt hG4 hb4 ok)
  replace VR := VR.upd (Upd.of_below hb4) (by omega)
  have HCE := Lib.hid (VR.set (.slice ua us.length uc)).cell
  clear hG4 hb4 HC hb
  have hcr := VR.cell
  have hfr := VR.free
  go_wp2_with fail
  refine bodyPost_ret (v := .tuple #[.agg #[.slice ua us.length uc], .bool ok]) (by simp [results, Tryd.results42, go_sem, HCE.out]) rfl ?_
  exact HF.out

set_option maxHeartbeats 2000000 in
theorem implTwo (n m : Int) (w : World) (ht : Tab w) (rows : List (List Int)) (ok : Bool)
    (h : (¬ OkT n m ∧ rows = [] ∧ ok = false) ∨ (OkT n m ∧ rows = rowsB (n.toNat + m.toNat) (crossE n.toNat m.toNat (fun _ _ => false) n.toNat 0) ∧ ok = true)) :
    Calls Tryd.prog 43 #[.int .i64 n, .int .i64 m] w (GRes w rows ok) := by
  obtain ⟨B, hB⟩ : ∃ B, w.heap.size = B := ⟨_, rfl⟩
  have hTB : 0 < B := by rw [← hB]; exact ht.lt
  have u1 : Below B w (w.alloc (.cells #[.slice none 0 0] 35)) := by subst hB; exact below_alloc' _ _
  have VR : VC 35 B #[.slice none 0 0] (w.alloc (.cells #[.slice none 0 0] 35)) := VC.new hB
  have hz1 : (w.alloc (.cells #[.slice none 0 0] 35)).heap.size = B + 1 := by simp [hB]
  have ht1 := ht.keep u1 hTB
  have H := Lib.hid h
  have hno : ¬ OkT n m → rows = [] ∧ ok = false := fun hn => by
    rcases H.out with ⟨_, h2⟩ | ⟨h1, _⟩
    · exact h2
    · exact (hn h1).elim
  have HNO := Lib.hid hno
  clear h hno
  have hcr := VR.cell
  have hfr := VR.free
  by_cases hn : 1 ≤ n ∧ n ≤ 16
  case neg =>
    have H1 := Lib.hid (inRange_is n 1 16 false (by simpa using hn))
    obtain ⟨rfl, rfl⟩ := HNO.out fun h => hn h.1
    clear hn hz1
    go_enter Tryd.func43, Tryd.ntmps43
    go_wp2_with fail
    refine (H1.out _).mono ?_
    rintro e1 w1 ⟨rfl, rfl⟩
    go_wp2_with fail
    refine bodyPost_ret (v := .tuple #[.agg #[.slice none 0 0], .bool false]) (by simp [results, Tryd.results43, go_sem, hcr]) rfl ?_
    exact GRes.nothing _ _ (by rw [hB]; exact u1)
  have H1 := Lib.hid (inRange_is n 1 16 true (by simpa using hn))
  by_cases hm : 1 ≤ m ∧ m ≤ 16
  case neg =>
    have H2 := Lib.hid (inRange_is m 1 16 false (by simpa using hm))
    obtain ⟨rfl, rfl⟩ := HNO.out fun h => hm h.2.1
    clear hn hm hz1
    go_enter Tryd.func43, Tryd.ntmps43
    go_wp2_with fail
    refine (H1.out _).mono ?_
    rintro e1 w1 ⟨rfl, rfl⟩
    go_wp2_with fail
    refine (H2.out _).mono ?_
    rintro e1 w1 ⟨rfl, rfl⟩
    go_wp2_with fail
    refine bodyPost_ret (v := .tuple #[.agg #[.slice none 0 0], .bool false]) (by simp [results, Tryd.results43, go_sem, hcr]) rfl ?_
    exact GRes.nothing _ _ (by rw [hB]; exact u1)
  have H2 := Lib.hid (inRange_is m 1 16 true (by simpa using hm))
  obtain ⟨n, rfl⟩ := Int.eq_ofNat_of_zero_le (show 0 ≤ n by omega)
  obtain ⟨m, rfl⟩ := Int.eq_ofNat_of_zero_le (show 0 ≤ m by omega)
  by_cases h16 : n + m ≤ 16
  case neg =>
    obtain ⟨rfl, rfl⟩ := HNO.out fun h => by have := h.2.2; omega
    have hgt : (16 : Int) < (n : Int) + m := by omega
    clear hz1 h16
    go_enter Tryd.func43, Tryd.ntmps43
    go_wp2_with fail
    refine (H1.out _).mono ?_
    rintro e1 w1 ⟨rfl, rfl⟩
    go_wp2_with fail
    refine (H2.out _).mono ?_
    rintro e1 w1 ⟨rfl, rfl⟩
    go_wp2_with fail
    refine bodyPost_ret (v := .tuple #[.agg #[.slice none 0 0], .bool false]) (by simp [results, Tryd.results43, go_sem, hcr]) rfl ?_
    exact GRes.nothing _ _ (by rw [hB]; exact u1)
  have hgt : ¬ (16 : Int) < (n : Int) + m := by omega
  obtain ⟨rfl, rfl⟩ : rows = rowsB (n + m) (crossE n m (fun _ _ => false) n 0) ∧ ok = true := by
    rcases H.out with ⟨h1, _⟩ | ⟨_, h2⟩
    · exact (h1 ⟨hn, hm, by omega⟩).elim
    · simpa using h2
  have hn1 : 1 ≤ n := by omega
  have hm1 : 1 ≤ m := by omega
  clear hn hm H HNO hcr hfr
  go_enter Tryd.func43, Tryd.ntmps43
  go_wp2_with fail
  generalize w.alloc (.cells #[.slice none 0 0] 35) = W at *
  refine (H1.out _).mono ?_
  rintro e1 w1 ⟨rfl, rfl⟩
  go_wp2_with fail
  refine (H2.out _).mono ?_
  rintro e1 w1 ⟨rfl, rfl⟩
  go_wp2_with (at_make; refine wpList_make _ rfl _ _ 82 rfl (B + 1) 78 (.int .u32 0) 4 Tryd.underlying82 infoV rfl .i64 .i64 _ _ (n + m) rfl rfl (by omega) (by omega) (by omega) (by unfold maxLen; omega) (by simp [hz1]) ?_; intro w1 ho1 hb1)
  rw [hz1] at ho1 hb1
  have hN := NS.made (w0 := W) ho1 (by rw [hz1]; exact hb1) (by omega) (Below.refl _ _)
  rw [← NB_zeros, ← cross_start n m (fun _ _ => false)] at hN
  clear ho1 hb1 H1 H2
  go_wp2_with fail
  go_loopw [29] (fun i wr => ∃ k : Nat, k ≤ n ∧ i = .int .i64 k ∧ NS (B + 1) W (.slice (some ⟨B + 1, 0, none⟩) (n + m) (n + m)) (NB (n + m) (crossE n m (fun _ _ => false) k 0)) wr) (fun i _ => n - (intOf i).toNat)
  case atStart => exact ⟨0, Nat.zero_le _, rfl, hN⟩
  case round =>
    clear hN
    obtain ⟨k, hk, rfl, hN⟩ := hrel
    by_cases hlt : k < n
    · go_wp2_with fail
      go_loopw [33] (fun i wr => ∃ j : Nat, j ≤ m ∧ i = .int .i64 j ∧ NS (B + 1) W (.slice (some ⟨B + 1, 0, none⟩) (n + m) (n + m)) (NB (n + m) (crossE n m (fun _ _ => false) k j)) wr) (fun i _ => m - (intOf i).toNat)
      case atStart => exact ⟨0, Nat.zero_le _, rfl, hN⟩
      case round =>
        clear hN
        obtain ⟨j, hj, rfl, hN⟩ := hrel
        have hsz := hN.bel.size
        by_cases hjt : j < m
        · have HL := Lib.hid (cross_step n m (fun _ _ => false) hlt hjt)
          have HJ := Lib.hid (hN.join (by omega) k (n + j) (k : Int) ((n : Int) + (j : Int)) rfl (by omega) (by simp; omega) (by simp; omega) (by simp; omega))
          clear hN
          go_wp2_with fail
          refine HJ.out.mono ?_
          rintro e1 w5 ⟨rfl, hN5, -⟩
          rw [joinS_NB _ (by omega) (by omega), HL.out] at hN5
          go_wp2_with fail
          go_roundw
          case rel => exact ⟨j + 1, by omega, by go_num, hN5⟩
          case measure => simp [intOf]; omega
        · obtain rfl : j = m := by omega
          rw [cross_next] at hN
          go_wp2_with fail
          go_roundw
          case rel => exact ⟨k + 1, by omega, by go_num, hN⟩
          case measure => simp [intOf]; omega
    · obtain rfl : k = n := by omega
      have VR2 := VR.belowAt hN.bel (by omega)
      have hb5 := u1.trans (hN.bel.mono (by omega))
      have hsz := hN.bel.size
      have HGR := Lib.hid (hN.graph ht1 (by omega) (by simp; omega))
      go_wp2_with fail
      refine HGR.out.mono ?_
      rintro e1 w6 ⟨u6, us, rfl, hG6, hb6⟩
      rw [rowsOf_NB (by omega)] at hG6
      obtain ⟨uua, uuc, rfl⟩ := owns_shape hG6.outer
      have HF := Lib.hid (GRes.put (b := B) hB hb5 (by omega) (by omega) hG6 hb6 true)
      replace VR2 := VR2.upd (Upd.of_below hb6) (by omega)
      have HCE := Lib.hid (VR2.set (.slice uua us.length uuc)).cell
      clear hG6 hb6 hN HGR hb5
      have hcr := VR2.cell
      have hfr := VR2.free
      go_wp2_with fail
      refine bodyPost_ret (v := .tuple #[.agg #[.slice uua us.length uuc], .bool true]) (by simp [results, Tryd.results43, go_sem, HCE.out]) rfl ?_
      exact HF.out

theorem both_TwoSided (n m : Int) : ∃ rows ok, 1 + total rows ≤ 1000000000 ∧ rows.length ≤ 1000000000 ∧
    (∀ (w : World), Tab w → Calls Tryd.prog 42 #[.int .i64 n, .int .i64 m] w (GRes w rows ok)) ∧
    (∀ (w : World), Tab w → Calls Tryd.prog 43 #[.int .i64 n, .int .i64 m] w (GRes w rows ok)) := by
  by_cases h : OkT n m
  · have hnm : n.toNat + m.toNat ≤ 16 := by have := h.1; have := h.2.1; have := h.2.2; omega
    have ht := total_rowsB (n.toNat + m.toNat) (crossE n.toNat m.toNat (fun _ _ => false) n.toNat 0) (by omega)
    exact ⟨_, true, by omega, by simp; omega, fun w _ => specTwo n m w _ _ (.inr ⟨h, rfl, rfl⟩), fun w ht => implTwo n m w ht _ _ (.inr ⟨h, rfl, rfl⟩)⟩
  · exact ⟨[], false, by simp [total], by simp, fun w _ => specTwo n m w _ _ (.inl ⟨h, rfl, rfl⟩), fun w ht => implTwo n m w ht _ _ (.inl ⟨h, rfl, rfl⟩)⟩

theorem both_Beside (xss yss : List (List Int)) : ∃ rows ok, 1 + total rows ≤ 1000000000 ∧ rows.length ≤ 1000000000 ∧
    (∀ (w : World) (v v2 : Value), Tab w → RdSS v xss w → RdSS v2 yss w → Calls Tryd.prog 47 #[.agg #[v], .agg #[v2]] w (GRes w rows ok)) ∧
    (∀ (w : World) (v v2 : Value), Tab w → RdSS v xss w → RdSS v2 yss w → Calls Tryd.prog 49 #[.agg #[v], .agg #[v2]] w (GRes w rows ok)) := by
  by_cases h : okB xss = false ∨ okB yss = false ∨ 16 < xss.length + yss.length
  · exact ⟨[], false, by simp [total], by simp, fun w v v2 _ hr hs => specBeside v xss v2 yss w hr hs _ _ (.inl ⟨h, rfl, rfl⟩), fun w v v2 ht hr hs => implBeside v xss v2 yss w ht hr hs _ _ (.inl ⟨h, rfl, rfl⟩)⟩
  · have h1 : okB xss = true := by by_cases h1 : okB xss = true; (· exact h1); exact (h (.inl (by simpa using h1))).elim
    have h2 : okB yss = true := by by_cases h1 : okB yss = true; (· exact h1); exact (h (.inr (.inl (by simpa using h1)))).elim
    have h3 : xss.length + yss.length ≤ 16 := by by_cases h3 : xss.length + yss.length ≤ 16; (· exact h3); exact (h (.inr (.inr (by omega)))).elim
    obtain ⟨e, hA, hx⟩ := (okB_iff xss).1 h1
    obtain ⟨f, hB, hy⟩ := (okB_iff yss).1 h2
    have ht := total_rowsB (xss.length + yss.length) (besideE xss.length e f) (by omega)
    have hP : BesideP xss yss (rowsB (xss.length + yss.length) (besideE xss.length e f)) true := .inr ⟨h1, h2, h3, e, f, hA, hB, hx, hy, rfl, rfl⟩
    exact ⟨_, true, by omega, by simp; omega, fun w v v2 _ hr hs => specBeside v xss v2 yss w hr hs _ _ hP, fun w v v2 ht hr hs => implBeside v xss v2 yss w ht hr hs _ _ hP⟩
theorem both_JoinedGraph (xss yss : List (List Int)) : ∃ rows ok, 1 + total rows ≤ 1000000000 ∧ rows.length ≤ 1000000000 ∧
    (∀ (w : World) (v v2 : Value), Tab w → RdSS v xss w → RdSS v2 yss w → Calls Tryd.prog 50 #[.agg #[v], .agg #[v2]] w (GRes w rows ok)) ∧
    (∀ (w : World) (v v2 : Value), Tab w → RdSS v xss w → RdSS v2 yss w → Calls Tryd.prog 51 #[.agg #[v], .agg #[v2]] w (GRes w rows ok)) := by
  by_cases h : okB xss = false ∨ okB yss = false ∨ 16 < xss.length + yss.length
  · exact ⟨[], false, by simp [total], by simp, fun w v v2 _ hr hs => specJoined v xss v2 yss w hr hs _ _ (.inl ⟨h, rfl, rfl⟩), fun w v v2 ht hr hs => implJoined v xss v2 yss w ht hr hs _ _ (.inl ⟨h, rfl, rfl⟩)⟩
  · have h1 : okB xss = true := by by_cases h1 : okB xss = true; (· exact h1); exact (h (.inl (by simpa using h1))).elim
    have h2 : okB yss = true := by by_cases h1 : okB yss = true; (· exact h1); exact (h (.inr (.inl (by simpa using h1)))).elim
    have h3 : xss.length + yss.length ≤ 16 := by by_cases h3 : xss.length + yss.length ≤ 16; (· exact h3); exact (h (.inr (.inr (by omega)))).elim
    obtain ⟨e, hA, hx⟩ := (okB_iff xss).1 h1
    obtain ⟨f, hB, hy⟩ := (okB_iff yss).1 h2
    have ht := total_rowsB (xss.length + yss.length) (crossE xss.length yss.length (besideE xss.length e f) xss.length 0) (by omega)
    have hP : JoinP xss yss (rowsB (xss.length + yss.length) (crossE xss.length yss.length (besideE xss.length e f) xss.length 0)) true := .inr ⟨h1, h2, h3, e, f, hA, hB, hx, hy, rfl, rfl⟩
    exact ⟨_, true, by omega, by simp; omega, fun w v v2 _ hr hs => specJoined v xss v2 yss w hr hs _ _ hP, fun w v v2 ht hr hs => implJoined v xss v2 yss w ht hr hs _ _ hP⟩
end Go.Proofs.YtplpbgjmejggiaaDoor
