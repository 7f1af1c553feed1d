/-
  'PatternOf' of the program; both.
-/
import Derived.Test.YtehejjmmbjekgaaDoorPatS2
import Derived.Test.YtehejjmmbjekgaaDoorGraphOk
namespace Go.Proofs.YtehejjmmbjekgaaDoor
open Go.RowKit

theorem hubs_any (k : Int) (w : World) :
    Calls Tryd.prog 70 #[.int .i64 k] w fun e w' => e = .returned (.tuple #[.int .i64 (sideA k : Nat), .int .i64 (sideB k : Nat)]) ∧ w = w' := by
  by_cases h1 : k = 1
  · subst h1
    go_enter Tryd.func70, Tryd.ntmps70
    go_wp2_with fail
    refine bodyPost_ret (v := .tuple #[.int .i64 5, .int .i64 0]) (by simp [results, Tryd.results70, go_sem]) rfl ?_
    exact ⟨rfl, rfl⟩
  by_cases h2 : k = 2
  · subst h2
    go_enter Tryd.func70, Tryd.ntmps70
    go_wp2_with fail
    refine bodyPost_ret (v := .tuple #[.int .i64 3, .int .i64 3]) (by simp [results, Tryd.results70, go_sem]) rfl ?_
    exact ⟨rfl, rfl⟩
  by_cases h3 : k = 3
  · subst h3
    go_enter Tryd.func70, Tryd.ntmps70
    go_wp2_with fail
    refine bodyPost_ret (v := .tuple #[.int .i64 4, .int .i64 0]) (by simp [results, Tryd.results70, go_sem]) rfl ?_
    exact ⟨rfl, rfl⟩
  by_cases h4 : k = 4
  · subst h4
    go_enter Tryd.func70, Tryd.ntmps70
    go_wp2_with fail
    refine bodyPost_ret (v := .tuple #[.int .i64 2, .int .i64 3]) (by simp [results, Tryd.results70, go_sem]) rfl ?_
    exact ⟨rfl, rfl⟩
  have HF : Hid (sideA k = 0 ∧ sideB k = 0) := Lib.hid (by unfold sideA sideB; simp [h1, h2, h3, h4])
  have d1 : (k == 1) = false := by rw [beq_eq_false_iff_ne]; exact h1
  have d2 : (k == 2) = false := by rw [beq_eq_false_iff_ne]; exact h2
  have d3 : (k == 3) = false := by rw [beq_eq_false_iff_ne]; exact h3
  have d4 : (k == 4) = false := by rw [beq_eq_false_iff_ne]; exact h4
  go_enter Tryd.func70, Tryd.ntmps70
  go_wp2_with fail
  refine bodyPost_ret (v := .tuple #[.int .i64 0, .int .i64 0]) (by simp [results, Tryd.results70, go_sem]) rfl ?_
  exact ⟨by rw [HF.out.1, HF.out.2]; rfl, rfl⟩

/-! ### A row of pairs, two cells each -/
def cells2 (L : List (Nat × Nat)) : List Value := L.flatMap fun p => [.int .i64 (p.1 : Int), .int .i64 (p.2 : Int)]
theorem cells2_snoc (L : List (Nat × Nat)) (p : Nat × Nat) : cells2 (L ++ [p]) = cells2 L ++ [.int .i64 (p.1 : Int), .int .i64 (p.2 : Int)] := by simp [cells2]
theorem cells2_at {L : List (Nat × Nat)} : ∀ {k : Nat} {p : Nat × Nat}, L[k]? = some p → (cells2 L)[2 * k]? = some (.int .i64 (p.1 : Int)) ∧ (cells2 L)[2 * k + 1]? = some (.int .i64 (p.2 : Int)) := by
  induction L with
  | nil => intro k p h; simp at h
  | cons q L ih =>
    intro k p h
    cases k with
    | zero => simp at h; subst h; simp [cells2]
    | succ k =>
      have := ih (k := k) (p := p) (by simpa using h)
      rw [show 2 * (k + 1) = (2 * k + 1) + 1 by omega]
      have e : cells2 (q :: L) = .int .i64 (q.1 : Int) :: .int .i64 (q.2 : Int) :: cells2 L := by simp [cells2]
      rw [e]
      simpa using this
theorem infoA : (Tryd.prog.info? 98).map (fun i => (i.zero, i.size, i.bytes)) = some (some (.agg #[.int .i64 0, .int .i64 0]), 2, 16) := by kernel_rfl

theorem owns_head2 {w : World} {base size : Nat} {e : TypeId} {v : Value} {n : Nat} {cs : List Value} (h : w.ownsRow base e size v n cs) (hn : 0 < n) : ∃ g cap, v = .slice (some ⟨g, 0, none⟩) n cap := by
  obtain ⟨_, ⟨rfl, rfl⟩ | ⟨g, cap, cur, rfl, _⟩⟩ := h
  · omega
  · exact ⟨g, cap, rfl⟩
theorem wpList_push2 {P : Program} (wr : World) {ops : Array Oper} {rest : List Oper} {o : Oper} {a : Act} {Q : Exit → Act → World → Prop} (hgd : o.guard = none) (s x : Operand) (t : TypeId)
    (ho : o.op = .call { callee := .builtin .append, args := #[s, x], argTypes := #[t, t] })
    (base : Nat) (e e2 : TypeId) (z : Value) (bytes : Nat) (ht : P.underlying t = some (.slice e)) (hinfo : (P.info? e).map (fun i => (i.zero, i.size, i.bytes)) = some (some z, 2, bytes)) (hzs : z.cells.size = 2)
    (v : Value) (n : Nat) (xs : List Value) (hs : a.eval s = v) (hown : wr.ownsRow base e 2 v n xs)
    (y1 y2 : Value) (hx : a.eval x = .slice (some ⟨wr.heap.size, 0, none⟩) 1 1) (hy1 : y1.oneCell' = true) (hy2 : y2.oneCell' = true)
    (h63 : n + 1 ≤ maxLen) (hbytes : (n + 1) * bytes ≤ 140737488355328) (hbase : base ≤ wr.heap.size)
    (h : ∀ g' c' w', w'.ownsRow base e 2 (.slice (some ⟨g', 0, none⟩) (n + 1) c') (n + 1) (xs ++ [y1, y2]) → wr.grownBy w' v.ownBlock → wpList P ops Q rest (a.put o.dst (.slice (some ⟨g', 0, none⟩) (n + 1) c')) w') :
    wpList P ops Q (o :: rest) a (wr.alloc (.cells #[y1, y2] e2)) := by
  obtain ⟨i, hi, hz, hsize, hby⟩ := info_parts hinfo
  refine wpList_append_own _ hgd s x t ho base e i z 2 bytes ht hi hz hsize hby hzs (by decide) v n xs hs (hown.alloc _) ⟨wr.heap.size, 0, none⟩ 1 1 [y1, y2] hx rfl ?_ ?_ h63 hbytes (by simp; omega) ?_
  · intro j u hj
    match j, hj with
    | 0, hj => simp at hj; subst hj; simp [Addr.add]
    | 1, hj => simp at hj; subst hj; simp [Addr.add]
  · intro u hu
    simp at hu
    rcases hu with rfl | rfl <;> assumption
  · intro v' w' h1 h2 _
    obtain ⟨g', c', rfl⟩ := owns_head2 h1 (by omega)
    refine h g' c' w' h1 ⟨h2.os, h2.tape, h2.output, ?_, fun k hk hne => ?_⟩
    · have := h2.size; simp at this; omega
    · exact (h2.block k (by simp; omega) hne).trans (Below.heap_alloc _ _ _ hk)

theorem under95 : Tryd.prog.underlying 95 = some (.slice 98) := by kernel_rfl

theorem cellsA : (Value.agg #[.int .i64 0, .int .i64 0]).cells.size = 2 := by kernel_rfl

set_option maxHeartbeats 4000000 in
theorem pairsOf_any (kd : Int) (w : World) :
    Calls Tryd.prog 71 #[.int .i64 kd] w fun e w' => ∃ u, e = .returned u ∧ w'.ownsRow w.heap.size 98 2 u (pairsL (sideA kd) (sideB kd) (sideA kd)).length (cells2 (pairsL (sideA kd) (sideB kd) (sideA kd))) ∧ Below w.heap.size w w' := by
  obtain ⟨B, hB⟩ : ∃ B, w.heap.size = B := ⟨_, rfl⟩
  have HS := Lib.hid (hubs_any kd w)
  obtain ⟨ha5, hb3⟩ := side_le kd
  generalize sideA kd = a at *
  generalize sideB kd = b at *
  have ho0 : (w.alloc (.cells #[] 98)).ownsRow B 98 2 (.slice (some ⟨B, 0, none⟩) 0 0) 0 (cells2 []) := by subst hB; exact World.ownsRow_lit w #[] 0 (Nat.le_refl _) (by simp [maxLen]) rfl
  have hb0 : Below B w (w.alloc (.cells #[] 98)) := by subst hB; exact below_alloc' _ _
  have HL0 : Hid (([] : List (Nat × Nat)) = pairsL a b 0) := Lib.hid rfl
  go_enter Tryd.func71, Tryd.ntmps71
  go_wp2_with fail
  refine HS.out.mono ?_
  rintro e1 w' ⟨rfl, rfl⟩
  clear HS
  go_wp2_with fail
  go_loopw [5, 16] (fun u i wr => ∃ (j : Nat) (L : List (Nat × Nat)), j ≤ a ∧ i = .int .i64 j ∧ L.length ≤ 8 * j ∧ Hid (L = pairsL a b j) ∧ wr.ownsRow B 98 2 u L.length (cells2 L) ∧ Below B w wr) (fun _ i _ => a - (intOf i).toNat)
  case atStart => exact ⟨0, [], Nat.zero_le _, rfl, by simp, HL0, ho0, hb0⟩
  case round =>
    clear ho0 hb0
    obtain ⟨j, L, hj, rfl, hL, HL, ho, hb⟩ := hrel
    by_cases hlt : j < a
    · have HA0 : Hid (L = pairsL a b j ++ rowA j 0) := Lib.hid (by rw [HL.out]; simp [rowA])
      by_cases hb0 : b = 0
      · have hd : ((b : Int) == 0) = true := by rw [beq_iff_eq]; omega
        have hd2 : ¬ (0 : Int) < b := by omega
        have HB0 := Lib.hid hb0
        clear hb0
        go_wp2_with fail
        go_loopw [5, 7] (fun u i wr => ∃ (k : Nat) (L : List (Nat × Nat)), j + 1 + k ≤ a ∧ i = .int .i64 ((j + 1 + k : Nat) : Int) ∧ L.length ≤ 8 * j + k ∧ Hid (L = pairsL a b j ++ rowA j k) ∧ wr.ownsRow B 98 2 u L.length (cells2 L) ∧ Below B w wr) (fun _ i _ => a - (intOf i).toNat)
        case atStart => exact ⟨0, L, by omega, by go_num, by omega, HA0, ho, hb⟩
        case round =>
          clear ho hb HA0 HL hL
          obtain ⟨k, L, hk, rfl, hL, HL, ho, hb⟩ := hrel
          by_cases hlk : j + 1 + k < a
          · have hsz : B ≤ wr.heap.size := by rw [← hB]; exact hB ▸ hb.size
            obtain ⟨ua, uc, rfl⟩ := owns_shape ho
            have HBE := Lib.hid hb
            have HOO := Lib.hid ho
            have hll : L.length ≤ 64 := by omega
            clear hb ho
            go_wp2_with (at_builtin; refine wpList_push2 wr rfl _ _ 95 rfl B 98 _ _ 16 under95 infoA cellsA (.slice ua L.length uc) L.length (cells2 L) rfl HOO.out _ _ rfl rfl rfl (by unfold maxLen; omega) (by omega) (by omega) ?_; intro g2 c2 w2 ho2 hg2)
            go_roundw
            case rel => exact ⟨k + 1, L ++ [(j, j + 1 + k)], by omega, by go_num, by simp; omega, Lib.hid (by rw [HL.out, rowA_succ, List.append_assoc]), by rw [cells2_snoc, List.length_append]; simpa using ho2, HBE.out.grown hg2 hsz fun y hy => (owns_lt HOO.out hy).1⟩
            case measure => simp [intOf]; omega
          · obtain rfl : a = j + 1 + k := by omega
            have HN : Hid (L = pairsL (j + 1 + k) b (j + 1)) := Lib.hid (by rw [HL.out, pairsL_succ]; simp [rowP, rowC, HB0.out])
            obtain ⟨ua, uc, rfl⟩ := owns_shape ho
            go_wp2_with fail
            generalize hw9 : wr = w9 at *
            go_loopw [5, 35] (fun u i wr' => u = .slice ua L.length uc ∧ i = .int .i64 0 ∧ wr' = w9) (fun _ _ _ => 0)
            case atStart => exact ⟨rfl, rfl, rfl⟩
            case round =>
              obtain ⟨rfl, rfl, rfl⟩ := hrel
              go_wp2_with fail
              go_roundw
              case rel => exact ⟨j + 1, L, by omega, by go_num, by omega, HN, ho, hb⟩
              case measure => simp [intOf]; omega
      · have hd : ((b : Int) == 0) = false := by rw [beq_eq_false_iff_ne]; omega
        have HC0 : Hid (L = pairsL a b j ++ rowC a j 0) := Lib.hid (by rw [HL.out]; simp [rowC])
        go_wp2_with fail
        go_loopw [5, 35] (fun u i wr => ∃ (k : Nat) (L : List (Nat × Nat)), k ≤ b ∧ i = .int .i64 (k : Nat) ∧ L.length ≤ 8 * j + k ∧ Hid (L = pairsL a b j ++ rowC a j k) ∧ wr.ownsRow B 98 2 u L.length (cells2 L) ∧ Below B w wr) (fun _ i _ => b - (intOf i).toNat)
        case atStart => exact ⟨0, L, by omega, by go_num, by omega, HC0, ho, hb⟩
        case round =>
          clear ho hb HC0 HL hL
          obtain ⟨k, L, hk, rfl, hL, HL, ho, hb⟩ := hrel
          by_cases hlk : k < b
          · have hsz : B ≤ wr.heap.size := by rw [← hB]; exact hB ▸ hb.size
            obtain ⟨ua, uc, rfl⟩ := owns_shape ho
            have HBE := Lib.hid hb
            have HOO := Lib.hid ho
            have hll : L.length ≤ 64 := by omega
            clear hb ho
            go_wp2_with (at_builtin; refine wpList_push2 wr rfl _ _ 95 rfl B 98 _ _ 16 under95 infoA cellsA (.slice ua L.length uc) L.length (cells2 L) rfl HOO.out _ _ rfl rfl rfl (by unfold maxLen; omega) (by omega) (by omega) ?_; intro g2 c2 w2 ho2 hg2)
            go_roundw
            case rel => exact ⟨k + 1, L ++ [(j, a + k)], by omega, by go_num, by simp; omega, Lib.hid (by rw [HL.out, rowC_succ, List.append_assoc]), by rw [cells2_snoc, List.length_append]; simpa using ho2, HBE.out.grown hg2 hsz fun y hy => (owns_lt HOO.out hy).1⟩
            case measure => simp [intOf]; omega
          · obtain rfl : k = b := by omega
            have HN : Hid (L = pairsL a k (j + 1)) := Lib.hid (by rw [HL.out, pairsL_succ]; simp [rowP, hb0])
            go_wp2_with fail
            go_roundw
            case rel => exact ⟨j + 1, L, by omega, by go_num, by omega, HN, ho, hb⟩
            case measure => simp [intOf]; omega
    · obtain rfl : j = a := by omega
      obtain ⟨ua, uc, rfl⟩ := owns_shape ho
      go_wp2_with fail
      go_ret
      exact ⟨_, rfl, by rw [hB, ← HL.out]; exact ho, by rw [hB]; exact hb⟩

theorem pair2_at {w : World} {a : Option Addr} {n c : Nat} {L : List (Nat × Nat)} (h : Row w 2 (.slice a n c) n (cells2 L)) {k : Nat} {p : Nat × Nat} (hp : L[k]? = some p) :
    ∃ b o, a = some ⟨b, o, none⟩ ∧ w.cell? ⟨b, o + k * 2, none⟩ = some (.int .i64 (p.1 : Int)) ∧ w.cell? ⟨b, o + k * 2 + 1, none⟩ = some (.int .i64 (p.2 : Int)) := by
  obtain ⟨a', cap', e, h1, h2, h3, h4, h5⟩ := h
  obtain ⟨rfl, -, -⟩ : a = a' ∧ n = n ∧ c = cap' := by simpa using e
  obtain ⟨g1, g2⟩ := cells2_at hp
  obtain ⟨b, o, rfl, hc⟩ := h5 _ _ g1
  obtain ⟨b', o', e', hc'⟩ := h5 _ _ g2
  obtain ⟨rfl, rfl⟩ : b = b' ∧ o = o' := by simpa using e'
  exact ⟨b, o, rfl, by rw [Nat.mul_comm k 2]; exact hc, by rw [Nat.mul_comm k 2, Nat.add_assoc]; exact hc'⟩

set_option maxHeartbeats 4000000 in
theorem implPatternOf (kd : Int) (w : World) (ht : Tab w) :
    Calls Tryd.prog 13 #[.int .i64 kd] w (G1Res w (rowsOf (jm (pairsL (sideA kd) (sideB kd) (sideA kd)) (sideA kd + sideB kd)))) := by
  obtain ⟨B, hB⟩ : ∃ B, w.heap.size = B := ⟨_, rfl⟩
  have hTB : 0 < B := by rw [← hB]; exact ht.lt
  have HS := fun W => Lib.hid (hubs_any kd W)
  have HPR := fun W => Lib.hid (pairsOf_any kd W)
  have hside := side_le kd
  have hlt := Lib.hid (pairsL_lt (Nat.le_refl (sideA kd)) (b := sideB kd))
  have hz : Hid (sideA kd = 0 → sideB kd = 0) := Lib.hid (by unfold sideA sideB; intro h; repeat' (split at h) <;> simp_all)
  generalize sideA kd = a at *
  generalize sideB kd = b at *
  obtain ⟨ha5, hb3⟩ := hside
  have hR0 : GC (w.alloc (.cells #[.slice none 0 0] 24)) B (.slice none 0 0) := by have := GC.new w (.slice none 0 0); rwa [hB] at this
  have ht1 : Tab (w.alloc (.cells #[.slice none 0 0] 24)) := ht.alloc _
  by_cases h0 : a = 0
  · have hd : ((a : Int) == 0) = true := by rw [beq_iff_eq]; omega
    have HR : Hid (rowsOf (jm (pairsL a b a) (a + b)) = []) := Lib.hid (by
      have := hz.out h0
      subst h0; subst this
      simp [jm, pairsL, rowsOf])
    have hcR := hR0.cell
    have hfR := hR0.free
    clear h0 hlt HPR
    go_enter Tryd.func13, Tryd.ntmps13
    go_wp2_with fail
    refine (HS _).out.mono ?_
    rintro e1 w' ⟨rfl, rfl⟩
    go_wp2_with fail
    refine bodyPost_ret (v := .agg #[.slice none 0 0]) (by simp [results, Tryd.results13, go_sem, hcR]) rfl ?_
    rw [HR.out]
    exact ⟨_, [], rfl, OwnG.nil _ _ (by decide) (World.ownsRow_nil _ _ _ 1), below_alloc' w _⟩
  · have hd : ((a : Int) == 0) = false := by rw [beq_eq_false_iff_ne]; omega
    obtain ⟨n, hn⟩ : ∃ n, a + b = n := ⟨_, rfl⟩
    have hn8 : n ≤ 8 := by omega
    have hni : (a : Int) + b = (n : Int) := by omega
    rw [hn] at hlt ⊢
    obtain ⟨L, HL⟩ : ∃ L, Hid (pairsL a b a = L) := ⟨_, Lib.hid rfl⟩
    have hL40 : L.length ≤ 40 := by have := pairsL_len ha5 hb3 a; rw [HL.out] at this; omega
    rw [HL.out] at hlt HPR ⊢
    clear h0 hz hn
    have hz0 : (w.alloc (.cells #[.slice none 0 0] 24)).heap.size = B + 1 := by simp [hB]
    have u0 : Below B w (w.alloc (.cells #[.slice none 0 0] 24)) := by subst hB; exact below_alloc' _ _
    have HNI := Lib.hid hni
    clear hni
    go_enter Tryd.func13, Tryd.ntmps13
    go_wp2_with fail
    generalize w.alloc (.cells #[.slice none 0 0] 24) = W at *
    refine (HS _).out.mono ?_
    rintro e1 w' ⟨rfl, rfl⟩
    clear HS
    have hni2 : (a : Int) + b ≤ 8 := by have := HNI.out; omega
    go_wp2_with (at_make; refine wpList_make _ rfl _ _ 94 rfl (B + 1) 116 (.int .u32 0) 4 Tryd.underlying94 infoV rfl .i64 .i64 _ _ n rfl rfl (by have := HNI.out; omega) (by have := HNI.out; omega) (by omega) (by unfold maxLen; omega) (by omega) ?_; intro w1 ho1 hb1)
    have hN0 : NS (B + 1) W (.slice (some ⟨B + 1, 0, none⟩) n n) (jm (L.take 0) n) w1 := by
      have := NS.made (w0 := W) (by simpa [hz0] using ho1) hb1 (by omega) (Below.refl _ _)
      exact this
    have hz1 : B + 2 ≤ w1.heap.size := by
      have h5 : W.heap.size < w1.heap.size := (owns_lt ho1 rfl).2
      omega
    clear ho1 hb1
    try rw [hz0]
    obtain ⟨D, hD⟩ : ∃ D, w1.heap.size = D := ⟨_, rfl⟩
    go_wp2_with fail
    refine (HPR _).out.mono ?_
    rintro e1 w5 ⟨u, rfl, hO, hb5⟩
    rw [hD] at hO
    have hN5 : NS (B + 1) W (.slice (some ⟨B + 1, 0, none⟩) n n) (jm (L.take 0) n) w5 := ⟨owns_below hN0.own hb5, hN0.small, hN0.bel.trans (hb5.mono (by omega))⟩
    have hz5 : D ≤ w5.heap.size := by rw [← hD]; exact hb5.size
    obtain ⟨ua, uc, rfl⟩ := owns_shape hO
    clear hb5 HPR hN0
    go_wp2_with fail
    go_loopw [23] (fun i wr => ∃ (k : Nat), k ≤ L.length ∧ i = .int .i64 k ∧ D ≤ wr.heap.size ∧ NS (B + 1) W (.slice (some ⟨B + 1, 0, none⟩) n n) (jm (L.take k) n) wr ∧ wr.ownsRow D 98 2 (.slice ua L.length uc) L.length (cells2 L)) (fun i _ => L.length - (intOf i).toNat)
    case atStart => exact ⟨0, Nat.zero_le _, rfl, hz5, hN5, hO⟩
    case round =>
      clear hN5 hO
      obtain ⟨k, hk, rfl, hzr, hN, hO⟩ := hrel
      by_cases hlk : k < L.length
      · obtain ⟨p, hp⟩ : ∃ p, L[k]? = some p := ⟨_, List.getElem?_eq_getElem hlk⟩
        obtain ⟨pb, po, rfl, hc1, hc2⟩ := pair2_at (Row.of_owns hO) hp
        have HJ : Hid (jm (L.take (k + 1)) n = joinS (jm (L.take k) n) p.1 p.2) := Lib.hid (by rw [take_snoc hp, jm_snoc])
        obtain ⟨hp1, hp2⟩ := hlt.out p (List.mem_of_getElem? hp)
        have hJL := jm_length (L.take k) n
        obtain ⟨wq, hwq⟩ : ∃ wq, wq = wr.alloc (.cells #[.int .i64 (p.1 : Int), .int .i64 (p.2 : Int)] 98) := ⟨_, rfl⟩
        have hbq : Below wr.heap.size wr wq := by rw [hwq]; exact below_alloc' _ _
        have hNq : NS (B + 1) W (.slice (some ⟨B + 1, 0, none⟩) n n) (jm (L.take k) n) wq := ⟨owns_below hN.own hbq, hN.small, hN.bel.trans (hbq.mono (by omega))⟩
        have hOq := owns_below hO hbq
        have hzq : D ≤ wq.heap.size := by have := hbq.size; omega
        have HJO := Lib.hid (hNq.join (by omega) p.1 p.2 (p.1 : Int) (p.2 : Int) rfl rfl (by rw [hJL]; exact hp1) (by rw [hJL]; exact hp2) (by rw [hJL]; omega))
        clear hp hJL hN hO hbq
        go_wp2_with fail
        rw [← hwq]
        clear hwq
        refine HJO.out.mono ?_
        rintro e1 w6 ⟨rfl, hN6, hg6⟩
        rw [← HJ.out] at hN6
        have hO6 := owns_wrote hOq (Wrote.of_grown hg6) (fun y hy h => by have := (owns_lt hOq hy).1; simp [Value.ownBlock] at h; omega)
        have hz6 : D ≤ w6.heap.size := by have := hg6.size; omega
        clear hNq hOq hg6 HJO
        go_wp2_with fail
        go_roundw
        case rel => exact ⟨k + 1, by omega, by go_num, hz6, hN6, hO6⟩
        case measure => simp [intOf]; omega
      · obtain rfl : k = L.length := by omega
        have HG := Lib.hid (hN.graph ht1 (by omega) (by rw [jm_length]; omega))
        have hRr := hR0.belowAt hN.bel (by omega)
        have hbr := hN.bel
        clear hN hO
        go_wp2_with fail
        refine HG.out.mono ?_
        rintro e1 w6 ⟨u, vs, rfl, hG, hb6⟩
        obtain ⟨ga, gc, rfl⟩ := owns_shape hG.outer
        have hR6 := hRr.below hb6
        have hcR := hR6.cell
        have hfR := hR6.free
        have HB6 := Lib.hid (u0.trans ((hbr.trans (hb6.mono (by omega))).mono (by omega)))
        have HGG := Lib.hid hG
        clear hb6 hbr hG HG
        go_wp2_with fail
        have hce := cell_of_one (one_setCell (u := .slice ga vs.length gc) hR6)
        refine bodyPost_ret (v := .agg #[.slice ga vs.length gc]) (by simp [results, Tryd.results13, go_sem, hce]) rfl ?_
        refine ⟨_, vs, rfl, ?_, by rw [hB]; exact HB6.out.setCell (by simp) _⟩
        have hGG := HGG.out
        rw [List.take_length] at hGG
        rw [hB]
        exact (hR6.own hGG).rebase (by omega)
theorem both_PatternOf (kd : Int) : ∃ rows : List (List Int), 1 + total rows ≤ 1000000000 ∧ rows.length ≤ 1000000000 ∧
    (∀ (w : World), Tab w → Calls Tryd.prog 12 #[.int .i64 kd] w (G1Res w rows)) ∧
    (∀ (w : World), Tab w → Calls Tryd.prog 13 #[.int .i64 kd] w (G1Res w rows)) := by
  have h := side_le kd
  have hl := jm_length (pairsL (sideA kd) (sideB kd) (sideA kd)) (sideA kd + sideB kd)
  have ht : total (rowsOf (jm (pairsL (sideA kd) (sideB kd) (sideA kd)) (sideA kd + sideB kd))) ≤ 32 * _ := total_rowsOf _
  rw [hl] at ht
  exact ⟨_, by omega, by simp [hl]; omega, fun w _ => specPatternOf kd w, fun w ht => implPatternOf kd w ht⟩
end Go.Proofs.YtehejjmmbjekgaaDoor
