/-
  'l14Path' and 'l14Way' of the reference.
-/
import Derived.Test.YtehejjmmbjekgaaDoorWayL
namespace Go.Proofs.YtehejjmmbjekgaaDoor
open Go.RowKit

theorem OwnG.kept {w w' : World} {base : Nat} {e1 e2 : TypeId} {v : Value} {vs : List Value} {css : List (List Value)} {r : Option Nat} (h : OwnG w base e1 e2 v vs css) (hg : w.grownBy w' r) (h1 : ∀ k, v.ownBlock = some k → r ≠ some k) (h2 : ∀ u ∈ vs, ∀ k, u.ownBlock = some k → r ≠ some k) : OwnG w' base e1 e2 v vs css := by
  refine ⟨h.len, h.outer.kept hg ?_, fun i u cs hu hc => (h.rows i u cs hu hc).kept hg ?_, h.apart, h.unlike⟩
  · cases hv : v.ownBlock with
    | none => exact .inl rfl
    | some k => exact .inr fun e => h1 k hv e.symm
  · cases hv : u.ownBlock with
    | none => exact .inl rfl
    | some k => exact .inr fun e => h2 u (List.mem_of_getElem? hu) k hv e.symm
theorem last_cell {w : World} {a : Option Addr} {m c : Nat} {pre : List Int} {x : Int} (h : Row w 1 (.slice a (m + 1) c) (m + 1) (ints (pre ++ [x]))) (hm : pre.length = m) : ∃ b o, a = some ⟨b, o, none⟩ ∧ w.cell? ⟨b, o + m, none⟩ = some (.int .i64 x) := by
  have hl : m < (pre ++ [x]).length := by simp; omega
  have hl2 : (pre ++ [x]).length = m + 1 := by simp; omega
  obtain ⟨b, o, y, rfl, hc, HY⟩ := Row.intAt (xs := pre ++ [x]) h hl
  refine ⟨b, o, rfl, ?_⟩
  have h2 := HY.out
  rw [List.getElem?_append_right (by omega), hm, Nat.sub_self] at h2
  rw [hc]
  simp at h2
  rw [h2]

/-- 'append(s, y)' in one step; the row stays where it was, or lies in new memory. -/
theorem wpList_push_where {P : Program} (wr : World) {ops : Array Oper} {rest : List Oper} {o : Oper} {a : Act} {Q : Exit → Act → World → Prop} (hgd : o.guard = none) (s x : Operand) (t : TypeId)
    (ho : o.op = .call { callee := .builtin .append, args := #[s, x], argTypes := #[t, t] })
    (base : Nat) (e e2 : TypeId) (z : Value) (bytes : Nat) (ht : P.underlying t = some (.slice e)) (hinfo : (P.info? e).map (fun i => (i.zero, i.size, i.bytes)) = some (some z, 1, bytes)) (hzs : z.cells.size = 1)
    (v : Value) (n : Nat) (xs : List Value) (hs : a.eval s = v) (hown : wr.ownsRow base e 1 v n xs)
    (y : Value) (hx : a.eval x = .slice (some ⟨wr.heap.size, 0, none⟩) 1 1) (hy : y.oneCell' = true)
    (h63 : n + 1 ≤ maxLen) (hbytes : (n + 1) * bytes ≤ 140737488355328) (hbase : base ≤ wr.heap.size)
    (h : ∀ g' c' w', w'.ownsRow base e 1 (.slice (some ⟨g', 0, none⟩) (n + 1) c') (n + 1) (xs ++ [y]) → wr.grownBy w' v.ownBlock → (v.ownBlock = some g' ∨ wr.heap.size ≤ g') → wpList P ops Q rest (a.put o.dst (.slice (some ⟨g', 0, none⟩) (n + 1) c')) w') :
    wpList P ops Q (o :: rest) a (wr.alloc (.cells #[y] e2)) := by
  have hlit : (wr.alloc (.cells #[y] e2)).ownsRow wr.heap.size e2 1 (.slice (some ⟨wr.heap.size, 0, none⟩) 1 1) 1 [y] := World.ownsRow_lit wr #[y] 1 (Nat.le_refl _) (by simp [maxLen]) rfl
  refine wpList_extend_where (wr.alloc (.cells #[y] e2)) hgd s x t ho base e z bytes ht hinfo hzs v n xs hs (hown.alloc _) _ 1 [y] (by omega) hx (Row.of_owns hlit) (by simp [hy]) h63 hbytes (by simp; omega) ?_
  intro g' c' w' h1 h2 h3
  refine h g' c' w' h1 ⟨h2.os, h2.tape, h2.output, ?_, fun k hk hne => ?_⟩ ?_
  · have := h2.size; simp at this; omega
  · exact (h2.block k (by simp; omega) hne).trans (Below.heap_alloc _ _ _ hk)
  · rcases h3 with h3 | h3
    · exact .inl h3
    · right; simp at h3; omega

set_option maxHeartbeats 8000000 in
set_option maxRecDepth 100000 in
theorem path_any (g : Value) (n : Nat) (e : Nat → Nat → Bool) (hn : n ≤ 16) (v2 : Value) (p : Nat → Bool) (s t : Nat) (hs : s < n) (ht : t < n) (w : World) (hr : RdSS g (rowsB n e) w) (hp : RdS v2 (rowB n p) w) (b : Bool) (hb : (p s && (p t && wayB n e p s t)) = b) :
    Calls Tryd.prog 144 #[.agg #[g], v2, .int .i64 s, .int .i64 t] w fun r w' => ∃ a l c, r = .returned (.slice a l c) ∧ Hid (decide (0 < l) = b ∧ l ≤ 1000) ∧ Below w.heap.size w w' := by
  obtain ⟨a, c, rfl⟩ := hr.shape
  obtain ⟨a2, c2, rfl, -, -, -⟩ := id hp
  rw [rowsB_length] at hr ⊢
  have hpl := rowB_length n p
  obtain ⟨B, hB⟩ : ∃ B, w.heap.size = B := ⟨_, rfl⟩
  obtain ⟨W0, hW0⟩ : ∃ W0, W0 = w.alloc (.cells #[.slice a n c] 24) := ⟨_, rfl⟩
  have hz0 : W0.heap.size = B + 1 := by simp [hW0, hB]
  have u0 : Below B w W0 := by rw [hW0, ← hB]; exact below_alloc' _ _
  have VG0 : VC 24 B #[.slice a n c] W0 := by rw [hW0]; exact VC.new hB
  have hp0 := RdS.below hp u0 hB
  obtain ⟨b1, HB1⟩ : ∃ b1, Hid (p s = b1) := ⟨_, Lib.hid rfl⟩
  obtain ⟨b2, HB2⟩ : ∃ b2, Hid (p t = b2) := ⟨_, Lib.hid rfl⟩
  have HH1 := Lib.hid (has_any (.slice a2 (rowB n p).length c2) (rowB n p) (s : Int) W0 hp0)
  have HH2 := Lib.hid (has_any (.slice a2 (rowB n p).length c2) (rowB n p) (t : Int) W0 hp0)
  rw [has_rowB hs, HB1.out] at HH1
  rw [has_rowB ht, HB2.out] at HH2
  have HBB := Lib.hid hb
  rw [HB1.out, HB2.out] at HBB
  clear hb hp0
  cases b1 with
  | false =>
    have HF : Hid (b = false) := Lib.hid (by rw [← HBB.out]; rfl)
    go_enter Tryd.func144, Tryd.ntmps144
    go_wp2_with fail
    rw [← hW0]
    clear hW0
    refine HH1.out.mono ?_
    rintro e1 w' ⟨rfl, rfl⟩
    go_wp2_with fail
    go_ret
    exact ⟨_, 0, _, rfl, Lib.hid ⟨by rw [HF.out]; rfl, by omega⟩, by rw [hB]; exact u0.alloc (by omega) _⟩
  | true =>
    cases b2 with
    | false =>
      have HF : Hid (b = false) := Lib.hid (by rw [← HBB.out]; rfl)
      go_enter Tryd.func144, Tryd.ntmps144
      go_wp2_with fail
      rw [← hW0]
      clear hW0
      refine HH1.out.mono ?_
      rintro e1 w' ⟨rfl, rfl⟩
      go_wp2_with fail
      refine HH2.out.mono ?_
      rintro e1 w' ⟨rfl, rfl⟩
      go_wp2_with fail
      go_ret
      exact ⟨_, 0, _, rfl, Lib.hid ⟨by rw [HF.out]; rfl, by omega⟩, by rw [hB]; exact u0.alloc (by omega) _⟩
    | true =>
      have HW : Hid (wayB n e p s t = b) := Lib.hid (by have := HBB.out; simpa using this)
      -- the three blocks: the first way, the list of ways, what has been seen
      obtain ⟨W1, hW1⟩ : ∃ W1, W1 = W0.alloc (.cells #[.int .i64 (s : Int)] 2) := ⟨_, rfl⟩
      obtain ⟨W2, hW2⟩ : ∃ W2, W2 = W1.alloc (.cells #[.slice (some ⟨B + 1, 0, none⟩) 1 1] 38) := ⟨_, rfl⟩
      obtain ⟨W3, hW3⟩ : ∃ W3, W3 = W2.alloc (.cells #[.int .i64 (s : Int)] 2) := ⟨_, rfl⟩
      have hz1 : W1.heap.size = B + 2 := by simp [hW1, hz0]
      have hz2 : W2.heap.size = B + 3 := by simp [hW2, hz1]
      have hz3 : W3.heap.size = B + 4 := by simp [hW3, hz2]
      have u1 : Below (B + 1) W0 W1 := by rw [hW1, ← hz0]; exact below_alloc' _ _
      have u2 : Below (B + 2) W1 W2 := by rw [hW2, ← hz1]; exact below_alloc' _ _
      have u3 : Below (B + 3) W2 W3 := by rw [hW3, ← hz2]; exact below_alloc' _ _
      have u13 : Below (B + 1) W0 W3 := (u1.trans (u2.mono (by omega))).trans (u3.mono (by omega))
      have hrow1 : W1.ownsRow (B + 1) 2 1 (.slice (some ⟨B + 1, 0, none⟩) 1 1) 1 (ints [(s : Int)]) := by
        rw [hW1, ← hz0]; exact World.ownsRow_lit W0 #[.int .i64 (s : Int)] 1 (Nat.le_refl _) (by simp [maxLen]) rfl
      have hout2 : W2.ownsRow (B + 2) 38 1 (.slice (some ⟨B + 2, 0, none⟩) 1 1) 1 [.slice (some ⟨B + 1, 0, none⟩) 1 1] := by
        rw [hW2, ← hz1]; exact World.ownsRow_lit W1 #[.slice (some ⟨B + 1, 0, none⟩) 1 1] 1 (Nat.le_refl _) (by simp [maxLen]) rfl
      have hrow2 := owns_below hrow1 (hz1.symm ▸ u2)
      have hG2 : OwnG W2 (B + 1) 38 2 (.slice (some ⟨B + 2, 0, none⟩) 1 1) [.slice (some ⟨B + 1, 0, none⟩) 1 1] ([[(s : Int)]].map ints) := by
        refine ⟨rfl, owns_base hout2 (by omega), fun i u cs h1 h2 => ?_, List.pairwise_singleton _ _, by decide⟩
        cases i with
        | zero => simp at h1 h2; subst h1; subst h2; exact hrow2
        | succ i => simp at h1
      have hG3 := hG2.below (hz2.symm ▸ u3)
      have hseen3 : W3.ownsRow (B + 3) 2 1 (.slice (some ⟨B + 3, 0, none⟩) 1 1) 1 (ints (natI [s])) := by
        rw [hW3, ← hz2]; exact World.ownsRow_lit W2 #[.int .i64 (s : Int)] 1 (Nat.le_refl _) (by simp [maxLen]) rfl
      have hs3 := owns_base hseen3 (show B + 1 ≤ B + 3 by omega)
      have VG3 := VG0.belowAt u13 (by omega)
      have hb03 := u0.trans (u13.mono (by omega))
      have HQ0 := Lib.hid (Bq.first (e := e) (p := p) (t := t) hs)
      have HPL0 := Lib.hid (PL.first s)
      have hdj0 : ∀ u ∈ [Value.slice (some ⟨B + 1, 0, none⟩) 1 1], ∀ y, u.ownBlock = some y → (Value.slice (some ⟨B + 3, 0, none⟩) 1 1).ownBlock ≠ some y := fun u hu y hy h => by
        rw [List.mem_singleton] at hu
        subst hu
        simp [Value.ownBlock] at hy h
        omega
      clear hseen3 hG2 hrow2 hout2 hrow1 u1 u2 u3
      go_enter Tryd.func144, Tryd.ntmps144
      go_wp2_with fail
      rw [← hW0]
      clear hW0
      refine HH1.out.mono ?_
      rintro e1 w' ⟨rfl, rfl⟩
      go_wp2_with fail
      refine HH2.out.mono ?_
      rintro e1 w' ⟨rfl, rfl⟩
      go_wp2_with fail
      first | rw [hz0] | skip
      rw [← hW1]
      first | rw [hz1] | skip
      rw [← hW2]
      first | rw [hz2] | skip
      rw [← hW3]
      clear hW1 hW2 hW3
      go_wp2_with fail
      have hbW : Below (B + 1) W3 W3 := Below.refl _ _
      have HDJ0 := Lib.hid hdj0
      clear hdj0
      go_loopw [9, 10, 11] (fun lv sv kv wr => ∃ (k : Nat) (vs : List Value) (PS : List (List Int)) (M : List Nat), kv = .int .i64 k ∧ k ≤ M.length ∧ Hid (Bq n e p s t k M) ∧ Hid (PL PS M) ∧ vs.length = M.length ∧
        Hid (∀ u ∈ vs, ∀ y, u.ownBlock = some y → sv.ownBlock ≠ some y) ∧ OwnG wr (B + 1) 38 2 lv vs (PS.map ints) ∧ wr.ownsRow (B + 1) 2 1 sv M.length (ints (natI M)) ∧ Below (B + 1) W3 wr) (fun _ _ kv _ => n - (intOf kv).toNat)
      case atStart => exact ⟨0, _, [[(s : Int)]], [s], rfl, by simp, HQ0, HPL0, rfl, HDJ0, hG3, hs3, hbW⟩
      case round =>
        clear hG3 hs3 hbW HDJ0 HQ0 HPL0
        obtain ⟨k, vs, PS, M, rfl, hk, HQ, HPL, hvl, HDJ, hG, ho, hb⟩ := hrel
        have hMn := HQ.out.le
        have hsz := hb.size
        have hPS := HPL.out.len
        obtain ⟨oa, oc, rfl⟩ := owns_shape hG.outer
        obtain ⟨sa, sc, rfl⟩ := owns_shape ho
        rw [hvl] at hG ⊢
        by_cases hlt : k < M.length
        · obtain ⟨x, hx⟩ : ∃ x, M[k]? = some x := ⟨M[k], List.getElem?_eq_getElem hlt⟩
          have hxn : x < n := (HQ.out.ways x (List.mem_of_getElem? hx)).1
          have HXM := Lib.hid hx
          have hkP : k < PS.length := by omega
          obtain ⟨path, hpath⟩ : ∃ path, PS[k]? = some path := ⟨PS[k], List.getElem?_eq_getElem hkP⟩
          obtain ⟨hpl1, pre, rfl⟩ := HPL.out.ends k path x hpath hx
          obtain ⟨m, hm⟩ : ∃ m, pre.length = m := ⟨_, rfl⟩
          obtain ⟨lb, lo, u, cs, rfl, hcu, hru, HU, HC⟩ := hG.rd.rowAt (k := k) (by simpa using hkP)
          obtain rfl : ints (pre ++ [(x : Int)]) = cs := by
            have := HC.out
            rw [List.getElem?_map, hpath] at this
            exact Option.some.inj this
          have hcl : (ints (pre ++ [(x : Int)])).length = m + 1 := by simp; omega
          rw [hcl] at hru
          obtain ⟨ra, rc, rfl, -, -, -⟩ := id hru
          obtain ⟨rb, ro, rfl, hcx⟩ := last_cell hru hm
          have hm16 : m ≤ 16 := by simp at hpl1; omega
          have hGd : OwnG wr.drew (B + 1) 38 2 (.slice (some ⟨lb, lo, none⟩) M.length oc) vs (PS.map ints) := hG.below (below_drewN' wr 1)
          have hod : wr.drew.ownsRow (B + 1) 2 1 (.slice sa M.length sc) M.length (ints (natI M)) := ho.drew
          have hbd : Below (B + 1) W3 wr.drew := hb.drew
          have hbwd := hb03.trans (hbd.mono (by omega))
          have hmi : (m : Int) < (m : Int) + 1 := by omega
          clear hru HC hpl1 hpath hx hcl hm
          by_cases hxt : x = t
          · have hd : ((x : Int) == (t : Int)) = true := by simp [hxt]
            have HBT : Hid (b = true) := Lib.hid (by rw [← HW.out, wayB_iff, ← hxt]; exact (HQ.out.ways x (List.mem_of_getElem? HXM.out)).2)
            clear hxt
            go_wp2_with fail
            refine wp_region_ord [0, 1, 2, 4, 5, 6] [3, 7, 8, 9, 10, 11, 12] [] [] (by kernel_rfl) (by kernel_rfl) (fun _ _ d _ _ h => by cases d <;> exact h) ?_
            simp only [pickOps, List.filterMap_cons, List.filterMap_nil, List.getElem?_cons_succ, List.getElem?_cons_zero]
            repeat quiet_step (fail)
            rw [show IntKind.i64.wrap (m : Int) = (m : Int) by rw [IntKind.wrap_i64]; omega]
            repeat quiet_step (fail)
            simp only [wpQuiet_nil_eq, wpSegs_nil_eq]
            go_wp2_with fail
            go_ret
            exact ⟨_, m + 1, _, rfl, Lib.hid ⟨by rw [HBT.out]; simp, by omega⟩, by rw [hB]; exact hbwd⟩
          · have hd : ((x : Int) == (t : Int)) = false := by rw [beq_eq_false_iff_ne]; omega
            have HXT := Lib.hid hxt
            have HNR0 : Hid (Nr n e p x 0 M) := Lib.hid ⟨fun b hb => by simp at hb⟩
            clear hxt
            go_wp2_with fail
            refine wp_region_ord [0, 1, 2, 4, 5, 6] [3, 7, 8, 9, 10, 11, 12] [] [] (by kernel_rfl) (by kernel_rfl) (fun _ _ d _ _ h => by cases d <;> exact h) ?_
            simp only [pickOps, List.filterMap_cons, List.filterMap_nil, List.getElem?_cons_succ, List.getElem?_cons_zero]
            repeat quiet_step (fail)
            rw [show IntKind.i64.wrap (m : Int) = (m : Int) by rw [IntKind.wrap_i64]; omega]
            repeat quiet_step (fail)
            simp only [wpQuiet_nil_eq, wpSegs_nil_eq]
            go_wp2_with fail
            clear hcu hcx hG ho hb
            generalize wr.drew = wq at *
            go_loopw [9, 10, 13] (fun lv sv iv wr => ∃ (i : Nat) (vs : List Value) (PS : List (List Int)) (M : List Nat), iv = .int .i64 i ∧ i ≤ (rowB n (e x)).length ∧ k < M.length ∧ Hid (M[k]? = some x) ∧ Hid (Bq n e p s t k M) ∧ Hid (PL PS M) ∧ Hid (Nr n e p x i M) ∧ vs.length = M.length ∧
              Hid (∀ u ∈ vs, ∀ y, u.ownBlock = some y → sv.ownBlock ≠ some y) ∧ OwnG wr (B + 1) 38 2 lv vs (PS.map ints) ∧ wr.ownsRow (B + 1) 2 1 sv M.length (ints (natI M)) ∧ Below (B + 1) W3 wr) (fun _ _ iv _ => (rowB n (e x)).length - (intOf iv).toNat)
            case atStart => exact ⟨0, vs, PS, M, rfl, Nat.zero_le _, hlt, HXM, HQ, HPL, HNR0, hvl, HDJ, hGd, hod, hbd⟩
            case round =>
              clear hGd hod hbd hbwd HDJ HNR0 HPL HQ HXM hlt hvl HU hPS hMn hkP hsz hk
              obtain ⟨i, vs, PS, M, rfl, hi, hlt, HXM, HQ, HPL, HNR, hvl, HDJ, hG, ho, hb⟩ := hrel
              have hMn := HQ.out.le
              have hsz := hb.size
              have hPS := HPL.out.len
              obtain ⟨oa, oc, rfl⟩ := owns_shape hG.outer
              obtain ⟨sa, sc, rfl⟩ := owns_shape ho
              rw [hvl] at hG ⊢
              have hbw := hb03.trans (hb.mono (by omega))
              obtain ⟨gb, go, gv, rfl, hcv, hxr⟩ := RdSS.at3 (hr.below hbw hB) hxn
              obtain ⟨va, vc, rfl, -, -, -⟩ := id hxr
              have hcg := (VG3.belowAt hb (by omega)).cell
              have hrl := rowB_length n (e x)
              by_cases htl : i < (rowB n (e x)).length
              · obtain ⟨yb, yo, y, rfl, hcy, HY⟩ := Row.intAt hxr htl
                obtain ⟨q, hqn, heq, rfl⟩ := row_at HY.out
                obtain ⟨bp, HBP⟩ : ∃ bp, Hid (p q = bp) := ⟨_, Lib.hid rfl⟩
                have HHI := Lib.hid (has_any (.slice a2 (rowB n p).length c2) (rowB n p) (q : Int) wr (RdS.below hp hbw hB))
                rw [has_rowB hqn, HBP.out] at HHI
                cases bp with
                | false =>
                  have HN2 := Lib.hid (HNR.out.skip HY.out (fun h => by rw [HBP.out] at h; cases h))
                  go_wp2_with fail
                  refine HHI.out.mono ?_
                  rintro e1 w' ⟨rfl, rfl⟩
                  go_wp2_with fail
                  go_roundw
                  case rel => exact ⟨i + 1, vs, PS, M, by go_num, by omega, hlt, HXM, HQ, HPL, HN2, hvl, HDJ, hG, ho, hb⟩
                  case measure => simp [intOf]; omega
                | true =>
                  have HHS := Lib.hid (has_any (.slice sa M.length sc) (natI M) (q : Int) wr (by rw [natI_length]; exact Row.of_owns ho))
                  rw [natI_contains] at HHS
                  by_cases hqM : q ∈ M
                  · have HN2 := Lib.hid (HNR.out.skip HY.out (fun _ => hqM))
                    rw [decide_eq_true hqM] at HHS
                    clear hqM
                    go_wp2_with fail
                    refine HHI.out.mono ?_
                    rintro e1 w' ⟨rfl, rfl⟩
                    go_wp2_with fail
                    refine HHS.out.mono ?_
                    rintro e1 w' ⟨rfl, rfl⟩
                    go_wp2_with fail
                    go_roundw
                    case rel => exact ⟨i + 1, vs, PS, M, by go_num, by omega, hlt, HXM, HQ, HPL, HN2, hvl, HDJ, hG, ho, hb⟩
                    case measure => simp [intOf]; omega
                  · rw [decide_eq_false hqM] at HHS
                    have HN2 := Lib.hid (HNR.out.put HY.out)
                    have HQ2 := Lib.hid (HQ.out.put (List.mem_of_getElem? HXM.out) hqn heq HBP.out hqM (by omega))
                    have hkP : k < PS.length := by omega
                    obtain ⟨path, hpath⟩ : ∃ path, PS[k]? = some path := ⟨PS[k], List.getElem?_eq_getElem hkP⟩
                    have HPL2 := Lib.hid (HPL.out.put (q := q) hpath)
                    have HXM2 : Hid ((M ++ [q])[k]? = some x) := Lib.hid (by rw [List.getElem?_append_left hlt]; exact HXM.out)
                    have hpl1 := (HPL.out.ends k path x hpath HXM.out).1
                    obtain ⟨lb2, lo2, u, cs, rfl, hcu, hru, HU, HC⟩ := hG.rd.rowAt (k := k) (by simpa using hkP)
                    obtain rfl : ints path = cs := by
                      have := HC.out
                      rw [List.getElem?_map, hpath] at this
                      exact Option.some.inj this
                    rw [ints_length] at hru
                    obtain ⟨ra2, rc2, rfl, -, -, -⟩ := id hru
                    have hout := hG.outer
                    rw [hvl] at hout
                    have HK5 : Hid (∀ g5 c5 w5, w5.ownsRow (B + 1) 2 1 (.slice (some ⟨g5, 0, none⟩) (M.length + 1) c5) (M.length + 1) (ints (natI M) ++ [.int .i64 (q : Int)]) → wr.grownBy w5 (Value.slice sa M.length sc).ownBlock → ((Value.slice sa M.length sc).ownBlock = some g5 ∨ wr.heap.size ≤ g5) →
                        OwnG w5 (B + 1) 38 2 (.slice (some ⟨lb2, lo2, none⟩) M.length oc) vs (PS.map ints) ∧ w5.cell? ⟨lb2, lo2 + k, none⟩ = some (.slice ra2 path.length rc2) ∧ Row w5 1 (.slice ra2 path.length rc2) path.length (ints path) ∧ Below (B + 1) W3 w5 ∧ wr.heap.size ≤ w5.heap.size ∧
                        (∀ u ∈ vs, ∀ y, u.ownBlock = some y → (Value.slice (some ⟨g5, 0, none⟩) (M.length + 1) c5).ownBlock ≠ some y)) := Lib.hid fun g5 c5 w5 ho5 hg5 hwh => by
                      have hG5 := hG.kept hg5 (fun y hy h => owns_unlike hG.outer ho (by decide) hy h) (fun u hu y hy => HDJ.out u hu y hy)
                      have hr5 := hG5.rd.rows k _ _ HU.out HC.out
                      rw [ints_length] at hr5
                      have ho5' := hG5.outer
                      refine ⟨hG5, ?_, hr5, hb.grown hg5 (by omega) (fun y hy => (owns_lt ho hy).1), hg5.size, fun u hu y hy h => ?_⟩
                      · obtain ⟨lb3, lo3, u3, cs3, e3, hcu3, -, HU3, -⟩ := hG5.rd.rowAt (k := k) (by simpa using hkP)
                        obtain ⟨rfl, rfl⟩ : lb2 = lb3 ∧ lo2 = lo3 := by simpa using e3
                        rw [hcu3]
                        have := HU3.out
                        rw [HU.out] at this
                        exact this.symm
                      · simp only [Value.ownBlock, Option.some.injEq] at h
                        subst h
                        rcases hwh with hwh | hwh
                        · exact HDJ.out u hu _ hy hwh
                        · have := (hG.lt (.inr ⟨u, hu, hy⟩)).2; omega
                    have hoo := Lib.hid ho
                    clear hqM hpath hcu hru hout hxr
                    go_wp2_with fail
                    refine HHI.out.mono ?_
                    rintro e1 w' ⟨rfl, rfl⟩
                    go_wp2_with fail
                    refine HHS.out.mono ?_
                    rintro e1 w' ⟨rfl, rfl⟩
                    have ho := hoo.out
                    go_wp2_with (at_builtin; refine wpList_push_where wr rfl _ _ 38 rfl (B + 1) 2 _ _ 8 Tryd.underlying38 infoI rfl (.slice sa M.length sc) M.length (ints (natI M)) rfl ho (.int .i64 (q : Int)) rfl rfl (by unfold maxLen; omega) (by omega) (by omega) ?_; intro g5 c5 w5 ho5 hg5 hwh5; have H5 := Lib.hid (HK5.out g5 c5 w5 ho5 hg5 hwh5); have hc5 := H5.out.2.1; have HO5 := Lib.hid ho5; clear ho5 hg5 hwh5 ho)
                    obtain ⟨S5, hS5⟩ : ∃ S, w5.heap.size = S := ⟨_, rfl⟩
                    have hz5 : B + 1 ≤ S5 := by have := H5.out.2.2.2.2.1; omega
                    have HCP := Lib.hid (copy_any (.slice ra2 path.length rc2) path w5 H5.out.2.2.1 (by omega))
                    rw [hS5] at HCP
                    refine HCP.out.mono ?_
                    rintro e1 w6 ⟨u6, rfl, hL6, hb6⟩
                    obtain ⟨la6, lc6, rfl⟩ := owns_shape hL6
                    have hz6 := hb6.size
                    have HK7 : Hid (∀ g7 c7 w7, w7.ownsRow S5 2 1 (.slice (some ⟨g7, 0, none⟩) (path.length + 1) c7) (path.length + 1) (ints path ++ [.int .i64 (q : Int)]) → w6.grownBy w7 (Value.slice la6 path.length lc6).ownBlock →
                        Below S5 w5 w7 ∧ w7.ownsRow (B + 1) 38 1 (.slice (some ⟨lb2, lo2, none⟩) M.length oc) M.length vs ∧ S5 ≤ w7.heap.size) := Lib.hid fun g7 c7 w7 ho7 hg7 => by
                      have h1 : Below S5 w5 w7 := hb6.grown hg7 (by omega) (fun y hy => (owns_lt hL6 hy).1)
                      have h2 := (H5.out.1.below (hS5.symm ▸ h1)).outer
                      rw [hvl] at h2
                      exact ⟨h1, h2, by have := h1.size; omega⟩
                    clear hc5 HCP hb6
                    go_wp2_with (first
                      | (at_builtin; refine wpList_push w6 rfl (.tmp 92) _ 38 rfl S5 2 _ _ 8 Tryd.underlying38 infoI rfl (.slice la6 path.length lc6) path.length (ints path) rfl hL6 (.int .i64 (q : Int)) rfl rfl (by unfold maxLen; omega) (by omega) (by omega) ?_; intro g7 c7 w7 ho7 hg7; have H7 := Lib.hid (HK7.out g7 c7 w7 ho7 hg7); have HO7 := Lib.hid ho7; have hz7 := H7.out.2.2; clear ho7 hg7)
                      | (at_builtin; refine wpList_push _ rfl (.tmp 87) _ 22 rfl (B + 1) 38 _ _ 24 Tryd.underlying22 infoR rfl (.slice (some ⟨lb2, lo2, none⟩) M.length oc) M.length vs rfl H7.out.2.1 _ rfl rfl (by unfold maxLen; omega) (by omega) (by omega) ?_; intro g8 c8 w8 ho8 hg8))
                    have hG8 : OwnG w8 (B + 1) 38 2 (.slice (some ⟨g8, 0, none⟩) (M.length + 1) c8) (vs ++ [.slice (some ⟨g7, 0, none⟩) (path.length + 1) c7]) ((PS ++ [path ++ [(q : Int)]]).map ints) := by
                      have h1 := OwnG.push (w2 := w8) (v' := .slice (some ⟨g8, 0, none⟩) (M.length + 1) c8) (cs := ints path ++ [.int .i64 (q : Int)]) H5.out.1 (hS5.symm ▸ H7.out.1) (by rw [List.length_append, ints_length]; exact HO7.out) (Nat.le_of_eq hS5) (by omega) (by rw [hvl]; exact ho8) hg8
                      rw [List.map_append]
                      simpa [ints] using h1
                    have hs7 := owns_below HO5.out (hS5.symm ▸ H7.out.1)
                    have hs8 : w8.ownsRow (B + 1) 2 1 (.slice (some ⟨g5, 0, none⟩) (M.length + 1) c5) (M ++ [q]).length (ints (natI (M ++ [q]))) := by
                      have h1 := hs7.kept hg8 (.inr fun h => owns_unlike hs7 H7.out.2.1 (by decide) (b := g5) rfl h.symm)
                      rw [natI_snoc, ints_snoc]
                      simpa using h1
                    have hb8 : Below (B + 1) W3 w8 := (H5.out.2.2.2.1.trans (H7.out.1.mono hz5)).grown hg8 (by omega) (fun y hy => (owns_lt H7.out.2.1 hy).1)
                    have HDJ8 : Hid (∀ u ∈ vs ++ [.slice (some ⟨g7, 0, none⟩) (path.length + 1) c7], ∀ y, u.ownBlock = some y → (Value.slice (some ⟨g5, 0, none⟩) (M.length + 1) c5).ownBlock ≠ some y) := Lib.hid fun u hu y hy h => by
                      rcases List.mem_append.1 hu with hu | hu
                      · exact H5.out.2.2.2.2.2 u hu y hy h
                      · rw [List.mem_singleton] at hu
                        subst hu
                        have h1 := (owns_lt HO7.out hy).1
                        have h2 := (owns_lt HO5.out h).2
                        omega
                    go_roundw
                    case rel => exact ⟨i + 1, _, PS ++ [path ++ [(q : Int)]], M ++ [q], by go_num, by omega, by simp; omega, HXM2, HQ2, HPL2, HN2, by simp [hvl], HDJ8, hG8, hs8, hb8⟩
                    case measure => simp [intOf]; omega
              · obtain rfl : i = (rowB n (e x)).length := by omega
                have HQ2 := Lib.hid (HQ.out.next HXM.out HXT.out HNR.out)
                go_wp2_with fail
                go_roundw
                case rel => exact ⟨k + 1, vs, PS, M, by go_num, by omega, HQ2, HPL, hvl, HDJ, hG, ho, hb⟩
                case measure => simp [intOf]; omega
        · obtain rfl : k = M.length := by omega
          have HBF : Hid (b = false) := Lib.hid (by rw [← HW.out]; exact HQ.out.none)
          have hbw := hb03.trans (hb.mono (by omega))
          go_wp2_with fail
          go_ret
          exact ⟨_, 0, _, rfl, Lib.hid ⟨by rw [HBF.out]; rfl, by omega⟩, by rw [hB]; exact hbw.alloc (by have := hbw.size; omega) _⟩
end Go.Proofs.YtehejjmmbjekgaaDoor
