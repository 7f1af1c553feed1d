/-
  'l18Prune', 'DistHereditary' of the reference.
-/
import Derived.Test.YtbhobmngnjfgfaaDoorPruU
import Derived.Deep.DeepCutAuto
import Derived.Test.YtbhobmngnjfgfaaDoorGraphOk
namespace Go.Proofs.YtbhobmngnjfgfaaDoor
open Go.RowKit

/-! ### A row of structs of three cells -/
theorem owns_head3 {w : World} {base size : Nat} {e : TypeId} {v : Value} {n : Nat} {cs : List Value} (h : w.ownsRow base e size v n cs) (hn : 0 < n) : ∃ g cap, v = .slice (some ⟨g, 0, none⟩) n cap := by
  obtain ⟨_, ⟨rfl, rfl⟩ | ⟨g, cap, cur, rfl, _⟩⟩ := h
  · omega
  · exact ⟨g, cap, rfl⟩
theorem wpList_push3 {P : Program} (wr : World) {ops : Array Oper} {rest : List Oper} {o : Oper} {a : Act} {Q : Exit → Act → World → Prop} (hgd : o.guard = none) (s x : Operand) (t : TypeId)
    (ho : o.op = .call { callee := .builtin .append, args := #[s, x], argTypes := #[t, t] })
    (base : Nat) (e e2 : TypeId) (z : Value) (bytes : Nat) (ht : P.underlying t = some (.slice e)) (hinfo : (P.info? e).map (fun i => (i.zero, i.size, i.bytes)) = some (some z, 3, bytes)) (hzs : z.cells.size = 3)
    (v : Value) (n : Nat) (xs : List Value) (hs : a.eval s = v) (hown : wr.ownsRow base e 3 v n xs)
    (y1 y2 y3 : Value) (hx : a.eval x = .slice (some ⟨wr.heap.size, 0, none⟩) 1 1) (hy1 : y1.oneCell' = true) (hy2 : y2.oneCell' = true) (hy3 : y3.oneCell' = true)
    (h63 : n + 1 ≤ maxLen) (hbytes : (n + 1) * bytes ≤ 140737488355328) (hbase : base ≤ wr.heap.size)
    (h : ∀ g' c' w', w'.ownsRow base e 3 (.slice (some ⟨g', 0, none⟩) (n + 1) c') (n + 1) (xs ++ [y1, y2, y3]) → wr.grownBy w' v.ownBlock → wpList P ops Q rest (a.put o.dst (.slice (some ⟨g', 0, none⟩) (n + 1) c')) w') :
    wpList P ops Q (o :: rest) a (wr.alloc (.cells #[y1, y2, y3] e2)) := by
  obtain ⟨i, hi, hz, hsize, hby⟩ := info_parts hinfo
  refine wpList_append_own _ hgd s x t ho base e i z 3 bytes ht hi hz hsize hby hzs (by decide) v n xs hs (hown.alloc _) ⟨wr.heap.size, 0, none⟩ 1 1 [y1, y2, y3] hx rfl ?_ ?_ h63 hbytes (by simp; omega) ?_
  · intro j u hj
    match j, hj with
    | 0, hj => simp at hj; subst hj; simp [Addr.add]
    | 1, hj => simp at hj; subst hj; simp [Addr.add]
    | 2, hj => simp at hj; subst hj; simp [Addr.add]
  · intro u hu
    simp at hu
    rcases hu with rfl | rfl | rfl <;> assumption
  · intro v' w' h1 h2 _
    obtain ⟨g', c', rfl⟩ := owns_head3 h1 (by omega)
    refine h g' c' w' h1 ⟨h2.os, h2.tape, h2.output, ?_, fun k hk hne => ?_⟩
    · have := h2.size; simp at this; omega
    · exact (h2.block k (by simp; omega) hne).trans (Below.heap_alloc _ _ _ hk)
theorem infoPr : (Tryd.prog.info? 175).map (fun i => (i.zero, i.size, i.bytes)) = some (some (.agg #[.int .i64 0, .int .i64 0, .int .i64 0]), 3, 24) := by kernel_rfl
theorem cellsPr : (Value.agg #[.int .i64 0, .int .i64 0, .int .i64 0]).cells.size = 3 := by kernel_rfl
def lenV : Value → Nat
  | .slice _ n _ => n
  | _ => 0

theorem row_lt {n : Nat} {p : Nat → Bool} {j k u b : Nat} (hj : (rowB n p)[j]? = some ((u : Nat) : Int)) (hk : (rowB n p)[k]? = some ((b : Nat) : Int)) (hu : u < b) : j < k := by
  have hr := rowB_rising n p
  obtain ⟨hjl, ej⟩ := List.getElem?_eq_some_iff.1 hj
  obtain ⟨hkl, ek⟩ := List.getElem?_eq_some_iff.1 hk
  rcases Nat.lt_trichotomy j k with h | h | h
  · exact h
  · subst h
    rw [ej] at ek
    omega
  · have := List.pairwise_iff_getElem.1 hr k j hkl hjl h
    rw [ej, ek] at this
    omega
/-- What is left at last. -/
def LeftRes (n : Nat) (e : Nat → Nat → Bool) (S0 : Nat → Bool) (w : World) (r : Ending) (w' : World) : Prop :=
  ∃ (o : Value) (u : Value) (S : Nat → Bool), r = .returned (.tuple #[o, u]) ∧ Fin' n e S0 (decide ((rowB n S).length = 0)) ∧ RdS u (rowB n S) w' ∧ Below w.heap.size w w'

set_option maxHeartbeats 8000000 in
set_option maxRecDepth 100000 in
theorem specPrune (g : Value) (n : Nat) (e : Nat → Nat → Bool) (S0 : Nat → Bool) (xss : List (List Int)) (hg : Gr n e xss) (vl : Value) (w : World) (hr : RdSS g xss w) (base0 : Nat) (hl : w.ownsRow base0 2 1 vl (rowB n S0).length (ints (rowB n S0))) :
    Calls Tryd.prog 91 #[.agg #[g], vl] w (LeftRes n e S0 w) := by
  have hn := hg.adj.le
  obtain ⟨a, c, rfl⟩ := hr.shape
  obtain ⟨B, hB⟩ : ∃ B, w.heap.size = B := ⟨_, rfl⟩
  obtain ⟨W0, hW0⟩ : ∃ W0, W0 = (w.alloc (.cells #[.slice a xss.length c] 56)).alloc (.cells #[] 175) := ⟨_, rfl⟩
  have u0 : Below B w W0 := by rw [hW0]; exact ((Below.refl _ _ : Below B w w).alloc (by omega) _).alloc (by simp; omega) _
  have VG : VC 56 B #[.slice a xss.length c] W0 := by rw [hW0]; exact (VC.new hB).upd (Upd.alloc _ _) (by omega)
  have hz0 : W0.heap.size = B + 2 := by rw [hW0]; simp [hB]
  have ho0 : W0.ownsRow (B + 1) 175 3 (.slice (some ⟨B + 1, 0, none⟩) 0 0) 0 [] := by
    have := World.ownsRow_lit (base := B + 1) (e := 175) (size := 3) (w.alloc (.cells #[.slice a xss.length c] 56)) #[] 0 (by simp; omega) (by simp [maxLen]) rfl
    rw [← hW0] at this
    simpa [hB] using this
  have hl0 : W0.ownsRow 0 2 1 vl (rowB n S0).length (ints (rowB n S0)) := owns_below (owns_base hl (Nat.zero_le _)) (hB ▸ u0)
  obtain ⟨la, lc, hv⟩ := owns_shape hl
  have CA : Hid (∀ (W : World) (S : Nat → Bool) (ul : Value) (v : Nat), Below B w W → RdS ul (rowB n S) W → v < n → Calls Tryd.prog 162 #[.agg #[.slice a xss.length c], ul, .int .i64 v] W (PRes W (goesB n e S v))) :=
    Lib.hid fun W S ul v hW hu hv => specAt (.slice a xss.length c) n e S xss hg v hv ul W (hr.below hW hB) hu
  have hrow : ∀ S : Nat → Bool, (rowB n S).length ≤ 16 := fun S => by have := rowB_length n S; omega
  have HROW := Lib.hid hrow
  have hlen0 := hrow S0
  have HF0 : Hid (∀ r, Fin' n e S0 r → Fin' n e S0 r) := Lib.hid fun _ h => h
  have HL0 := Lib.hid hl0
  have hb0 : Below (B + 1) W0 W0 := Below.refl _ _
  obtain ⟨N0, hN0⟩ : ∃ N, (rowB n S0).length = N := ⟨_, rfl⟩
  rw [hN0] at hv hlen0
  have HN0 := Lib.hid hN0
  subst hv
  have HG0 : Hid (∀ j b : Nat, j < 0 → (rowB n S0)[j]? = some (b : Int) → goesB n e S0 b = false) := Lib.hid fun j b h => by omega
  clear hN0 hg hr hl hl0 hrow
  go_enter Tryd.func91, Tryd.ntmps91
  go_wp2_with fail
  rw [← hW0]
  clear hW0
  go_loopw [1, 6, 7] (fun l u i wr => ∃ (S : Nat → Bool) (la : Option Addr) (lc len m k : Nat) (cs : List Value), l = .slice la len lc ∧ i = .int .i64 k ∧ k ≤ len ∧ len + m ≤ 16 ∧ Hid ((rowB n S).length = len) ∧ Hid (∀ r, Fin' n e S r → Fin' n e S0 r) ∧ Hid (∀ j b : Nat, j < k → (rowB n S)[j]? = some (b : Int) → goesB n e S b = false) ∧ Hid (wr.ownsRow 0 2 1 (.slice la len lc) len (ints (rowB n S))) ∧ wr.ownsRow (B + 1) 175 3 u m cs ∧ Below (B + 1) W0 wr) (fun l _ i _ => lenV l * 17 + (lenV l - (intOf i).toNat))
  case atStart => exact ⟨S0, la, lc, N0, 0, 0, [], rfl, rfl, Nat.zero_le _, by omega, HN0, HF0, HG0, Lib.hid (by have := HL0.out; rw [HN0.out] at this; exact this), ho0, hb0⟩
  case round =>
    clear HF0 HG0 HL0 ho0 hb0 hlen0 HN0
    obtain ⟨S, la, lc, len, m, k, cs, rfl, rfl, hk, hlm, HN, HF, HG, HL, ho, hb⟩ := hrel
    have hsz := hb.size
    have hbw : Below B w wr := u0.trans (hb.mono (by omega))
    by_cases hlt : k < len
    · have hlr : RdS (.slice la len lc) (rowB n S) wr := by unfold RdS; rw [HN.out]; exact Row.of_owns HL.out
      obtain ⟨lb, lo, y, rfl, hc, HY⟩ := hlr.intAt (by rw [HN.out]; exact hlt)
      obtain ⟨b, hbn, hSb, rfl⟩ := row_at HY.out
      have hcg := (VG.belowAt hb (by omega)).cell
      obtain ⟨gq, hgq⟩ : ∃ q, goesB n e S b = q := ⟨_, rfl⟩
      obtain ⟨SW, hSW⟩ : ∃ s, wr.heap.size = s := ⟨_, rfl⟩
      have CC : Hid (∀ W, Below SW wr W → Calls Tryd.prog 162 #[.agg #[.slice a xss.length c], .slice (some ⟨lb, lo, none⟩) len lc, .int .i64 b] W (PRes W gq)) := Lib.hid fun W hW => by
        rw [← hgq]
        exact CA.out W S _ b (hbw.trans (hW.mono (by omega))) (hlr.below hW hSW) hbn
      have HGQ := Lib.hid hgq
      have HSB := Lib.hid (And.intro hbn hSb)
      have HB := Lib.hid (And.intro hb hbw)
      have HO := Lib.hid ho
      have hszw : B + 2 ≤ SW := by omega
      clear hgq hlr hbn hSb hb hbw ho hsz
      go_upto_region 5 with (fail)
      go_cut [8, 9] (fun p q wx => ∃ (V : Nat) (x y z : Int), p = .pointer (some ⟨V, 0, none⟩) ∧ q = .bool gq ∧ VC 175 V #[.int .i64 x, .int .i64 y, .int .i64 z] wx ∧ SW ≤ V ∧ Below SW wr wx)
      case first =>
        have hbd : Below SW wr wr.drew := (Below.refl _ _).drew
        refine wp_region_take [1, 2, 3, 4] [0, 5] 6 7 #[true, true, true, true, true, true, false, false, false, false, false, false, false] (by kernel_rfl) (by kernel_rfl) (by kernel_rfl) (by kernel_rfl) (fun _ _ d _ _ h => by cases d <;> exact h) ?_
        simp only [pickOps, List.filterMap_cons, List.filterMap_nil, List.getElem?_cons_succ, List.getElem?_cons_zero]
        repeat quiet_step (fail)
        simp only [wpQuiet_nil_eq]
        have hSD : wr.drew.heap.size = SW := hSW
        generalize hwv : wr.drew = wv at *
        refine wpAnyG_2 6 10 (by kernel_rfl) rfl rfl ?_ ?_
        · unfold wpNext
          go_wp2_with fail
          refine (CC.out wv hbd).mono ?_
          rintro e1 w1 ⟨x, y, z, rfl, hb1⟩
          have hbx := hbd.trans (hb1.mono (by omega))
          obtain ⟨S1, hS1⟩ : ∃ s, w1.heap.size = s := ⟨_, rfl⟩
          have hs1 : SW ≤ S1 := by have := hb1.size; omega
          obtain ⟨W1, hW1⟩ : ∃ W1, W1 = w1.alloc (.cells #[.int .i64 x, .int .i64 y, .int .i64 z] 175) := ⟨_, rfl⟩
          have V1 : VC 175 S1 #[.int .i64 x, .int .i64 y, .int .i64 z] W1 := by rw [hW1]; exact VC.new hS1
          have hbx1 : Below SW wr W1 := by rw [hW1]; exact hbx.alloc (by omega) _
          have HX := Lib.hid (And.intro V1 hbx1)
          clear V1 hbx1 hbx hb1
          go_wp2_with fail
          refine ⟨fun h => by simp at h, ?_⟩
          refine wpAnyG_mid [7, 8, 9] 3 #[true, true, true, true, true, true, true, true, true, true, false, false, false] rfl (by kernel_rfl) (by kernel_rfl) (by kernel_rfl) (fun _ _ d _ _ h => by cases d <;> exact h) (fun h => by simp at h) ?_
          simp only [pickOps, List.filterMap_cons, List.filterMap_nil, List.getElem?_cons_succ, List.getElem?_cons_zero]
          repeat quiet_step (fail)
          simp only [wpQuiet_nil_eq]
          refine wpAnyG_tail [10, 11, 12] rfl (.inl (by kernel_rfl)) (by kernel_rfl) ?_
          simp only [pickOps, List.filterMap_cons, List.filterMap_nil, List.getElem?_cons_succ, List.getElem?_cons_zero]
          go_wp2_with fail
          go_meet
          exact ⟨S1, x, y, z, by first | rfl | rw [hS1], rfl, by first | exact HX.out.1 | (rw [← hW1]; exact HX.out.1), hs1, by first | exact HX.out.2 | (rw [← hW1]; exact HX.out.2)⟩
        · unfold wpNext
          go_wp2_with fail
          obtain ⟨W1, hW1⟩ : ∃ W1, W1 = wv.alloc (.cells #[.int .i64 0, .int .i64 0, .int .i64 0] 175) := ⟨_, rfl⟩
          have V1 : VC 175 SW #[.int .i64 0, .int .i64 0, .int .i64 0] W1 := by rw [hW1]; exact VC.new hSD
          have hb1 : Below SW wr W1 := by rw [hW1]; exact hbd.alloc (by omega) _
          have hz1 : W1.heap.size = SW + 1 := by rw [hW1]; simp [hSD]
          rw [← hW1]
          try rw [hSD]
          clear hW1
          refine ⟨fun _ => over_of_below (by rw [hSW]; exact hb1), ?_⟩
          refine wpAnyG_1 6 (by kernel_rfl) rfl ?_
          unfold wpNext
          go_wp2_with fail
          refine (CC.out W1 hb1).mono ?_
          rintro e1 w1 ⟨x, y, z, rfl, hb2⟩
          have V2 := V1.belowAt hb2 (by omega)
          have hbx := hb1.trans (hb2.mono (by omega))
          have hs2 := hb2.size
          go_wp2_with fail
          refine ⟨fun h => by simp at h, ?_⟩
          refine wpAnyG_mid [7, 8, 9] 2 #[true, true, true, true, true, true, true, true, true, true, true, false, false] rfl (by kernel_rfl) (by kernel_rfl) (by kernel_rfl) (fun _ _ d _ _ h => by cases d <;> exact h) (fun h => by simp at h) ?_
          simp only [pickOps, List.filterMap_cons, List.filterMap_nil, List.getElem?_cons_succ, List.getElem?_cons_zero]
          repeat quiet_step (fail)
          simp only [wpQuiet_nil_eq]
          refine wpAnyG_tail [11, 12] rfl (.inl (by kernel_rfl)) (by kernel_rfl) ?_
          simp only [pickOps, List.filterMap_cons, List.filterMap_nil, List.getElem?_cons_succ, List.getElem?_cons_zero]
          have V3 := V2.step1 (.int .i64 x)
          have V4 := V3.step2 (.int .i64 y)
          have V5 := V2.put3 (.int .i64 x) (.int .i64 y) (.int .i64 z)
          obtain ⟨g0, -, -⟩ := V2.at3
          obtain ⟨-, g1, -⟩ := V3.at3
          obtain ⟨-, -, g2⟩ := V4.at3
          have f0 := V2.frz 0
          have f1 := V3.frz 1
          have f2 := V4.frz 2
          have hbe : Below SW wr (put3 w1 SW (.int .i64 x) (.int .i64 y) (.int .i64 z)) := (put3_upd w1 SW _ _ _).below hbx (by omega) (by omega)
          unfold put3 at hbe
          have HX := Lib.hid (And.intro V5 hbe)
          clear V1 V2 V3 V4 V5 hbe hbx hb1 hb2
          go_wp2_with fail
          go_meet
          exact ⟨SW, x, y, z, rfl, rfl, HX.out.1, Nat.le_refl _, HX.out.2⟩
      case rest =>
        obtain ⟨V, x, y, z, rfl, rfl, VX, hSV, hbx⟩ := hcut
        rename World => wx
        have hl2 : wx.ownsRow 0 2 1 (.slice (some ⟨lb, lo, none⟩) len lc) len (ints (rowB n S)) := owns_below HL.out (hSW ▸ hbx)
        have ho2 := owns_below HO.out (hSW ▸ hbx)
        have hbw2 : Below (B + 1) W0 wx := HB.out.1.trans (hbx.mono (by omega))
        have hszx := hbx.size
        obtain ⟨p0, p1, p2⟩ := VX.at3
        clear hc hcg CC
        cases gq with
        | true =>
          obtain ⟨ua, uc, rfl⟩ := owns_shape ho2
          have HO2 := Lib.hid ho2
          have HL2 := Lib.hid hl2
          have HBW2 := Lib.hid hbw2
          have hm16 : m ≤ 16 := by omega
          have HCF : Hid (∀ w2 : World, wx.grownBy w2 (Value.slice ua m uc).ownBlock → w2.ownsRow 0 2 1 (.slice (some ⟨lb, lo, none⟩) len lc) len (ints (rowB n S)) ∧ w2.cell? ⟨lb, lo + k, none⟩ = some (.int .i64 (b : Int))) := Lib.hid fun w2 hg3 => by
            have hl3 : w2.ownsRow 0 2 1 (.slice (some ⟨lb, lo, none⟩) len lc) len (ints (rowB n S)) := owns_keep HL2.out fun b hb hlt => hg3.block b hlt fun e => owns_unlike HL2.out HO2.out (by decide) hb e.symm
            have hlr3 : RdS (.slice (some ⟨lb, lo, none⟩) len lc) (rowB n S) w2 := by unfold RdS; rw [HN.out]; exact Row.of_owns hl3
            obtain ⟨lb', lo', y', e8, hc3, HY3⟩ := hlr3.intAt (by rw [HN.out]; exact hlt)
            obtain ⟨rfl, rfl⟩ : lb = lb' ∧ lo = lo' := by simpa using e8
            obtain rfl : y' = (b : Int) := by have h1 := HY3.out; rw [HY.out] at h1; exact (Option.some.inj h1).symm
            exact ⟨hl3, hc3⟩
          clear ho2 hl2 hbw2 VX hbx HB HO HL
          go_wp2_with (at_builtin; refine wpList_push3 wx rfl _ _ 110 rfl (B + 1) 175 _ _ 24 Tryd.underlying110 infoPr cellsPr (.slice ua m uc) m cs rfl HO2.out (.int .i64 x) (.int .i64 y) (.int .i64 z) rfl rfl rfl rfl (by unfold maxLen; omega) (by omega) (by omega) ?_; intro g2 c2 w2 ho3 hg3; have hc3 := (HCF.out w2 hg3).2)
          have hl3 := (HCF.out w2 hg3).1
          have hb3 : Below (B + 1) W0 w2 := HBW2.out.grown hg3 (by omega) fun y hy => (owns_lt HO2.out hy).1
          have hlr3 : RdS (.slice (some ⟨lb, lo, none⟩) len lc) (rowB n S) w2 := by unfold RdS; rw [HN.out]; exact Row.of_owns hl3
          have CL := Lib.hid (less_any _ (rowB n S) (b : Int) (by have := HROW.out S; omega) w2 hlr3)
          have HLS := Lib.hid (lessL_rowB n S b)
          have HB3 := Lib.hid hb3
          have HO3 := Lib.hid ho3
          have hs3 := hb3.size
          clear p0 p1 p2 hg3 hl3 hb3 hlr3 ho3
          refine CL.out.mono ?_
          rintro e1 w3 ⟨u3, rfl, ho4, hb4⟩
          rw [HLS.out] at ho4
          obtain ⟨va, vc, rfl⟩ := owns_shape ho4
          obtain ⟨len2, hlen2⟩ : ∃ q, (rowB n (lessB S b)).length = q := ⟨_, rfl⟩
          have hll := rowB_lessB HSB.out.1 HSB.out.2
          rw [hlen2] at ho4 hll
          have hlq : len2 + 1 = len := by have := HN.out; omega
          have ho5 := owns_below HO3.out hb4
          have hb5 := HB3.out.trans (hb4.mono (by omega))
          have HE := Lib.hid (And.intro (owns_base ho4 (Nat.zero_le _)) (And.intro ho5 hb5))
          have HN2 := Lib.hid hlen2
          clear ho4 ho5 hb5 hb4 CL hc3 hlen2 hll
          try rw [HN2.out]
          go_wp2_with fail
          go_roundw
          case rel => exact ⟨lessB S b, va, vc, len2, m + 1, 0, _, rfl, by go_num, by omega, by omega, HN2, Lib.hid fun r h => HF.out r (.step HSB.out.1 HSB.out.2 HGQ.out (fun u hu hSu => by
              have hun : u < n := by have := HSB.out.1; omega
              obtain ⟨j, hj⟩ := List.getElem?_of_mem ((nat_mem_rowB (n := n) (p := S) (i := u)).2 ⟨hun, hSu⟩)
              refine HG.out j u ?_ hj
              exact row_lt hj HY.out hu) h), Lib.hid fun j b h => by omega, Lib.hid HE.out.1, HE.out.2.1, HE.out.2.2⟩
          case measure => simp [intOf, lenV]; omega
        | false =>
          have HE := Lib.hid (And.intro hl2 (And.intro ho2 hbw2))
          clear hl2 ho2 hbw2 VX hbx HB HO HL
          go_wp2_with fail
          go_roundw
          case rel => exact ⟨S, some ⟨lb, lo, none⟩, lc, len, m, k + 1, cs, rfl, by go_num, by omega, by omega, HN, HF, Lib.hid fun j b' hj hy => by
              by_cases hjk : j = k
              · subst hjk
                rw [HY.out] at hy
                obtain rfl : b' = b := by have := Option.some.inj hy; omega
                exact HGQ.out
              · exact HG.out j b' (by omega) hy, Lib.hid HE.out.1, HE.out.2.1, HE.out.2.2⟩
          case measure => simp [intOf, lenV]; omega
    · obtain rfl : k = len := by omega
      have HE := Lib.hid (And.intro ho hbw)
      clear ho hb hbw
      go_wp2_with fail
      refine bodyPost_ret (v := .tuple #[_, .slice la k lc]) (by simp [results, Tryd.results91, go_sem]; rfl) rfl ?_
      refine ⟨_, _, S, rfl, HF.out _ (.stop fun v hv hSv => ?_), by unfold RdS; rw [HN.out]; exact Row.of_owns HL.out, by rw [hB]; exact HE.out.2⟩
      obtain ⟨j, hj⟩ := List.getElem?_of_mem ((nat_mem_rowB (n := n) (p := S) (i := v)).2 ⟨hv, hSv⟩)
      exact HG.out j v (by have := (List.getElem?_eq_some_iff.1 hj).1; have := HN.out; omega) hj
end Go.Proofs.YtbhobmngnjfgfaaDoor
