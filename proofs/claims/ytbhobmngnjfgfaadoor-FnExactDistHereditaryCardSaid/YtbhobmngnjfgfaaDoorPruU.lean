/-
  'l18At' of the reference.
-/
import Derived.Test.YtbhobmngnjfgfaaDoorPruT
namespace Go.Proofs.YtbhobmngnjfgfaaDoor
open Go.RowKit

def PRes (w : World) (q : Bool) (e : Ending) (w' : World) : Prop := ∃ x y z : Int, e = .returned (.tuple #[.agg #[.int .i64 x, .int .i64 y, .int .i64 z], .bool q]) ∧ Below w.heap.size w w'
/-- The variables of 'l18At' as they lie. -/
structure AtI (B : Nat) (gv : Value) (w wr : World) : Prop where
  bel : Below B w wr
  vg : VC 56 B #[gv] wr
  vo : VC 175 (B + 1) #[.int .i64 0, .int .i64 0, .int .i64 0] wr
  vx : ∃ x y z : Int, VC 175 (B + 2) #[.int .i64 x, .int .i64 y, .int .i64 z] wr
theorem AtI.sz {B : Nat} {gv : Value} {w wr : World} (h : AtI B gv w wr) : B + 3 ≤ wr.heap.size := by
  obtain ⟨x, y, z, hv⟩ := h.vx
  have := hv.lt
  omega
theorem AtI.call {B : Nat} {gv : Value} {w wr w' : World} (h : AtI B gv w wr) (hb : Below wr.heap.size wr w') : AtI B gv w w' := by
  obtain ⟨x, y, z, hv⟩ := h.vx
  have hs := h.sz
  exact ⟨h.bel.trans (hb.mono (by omega)), h.vg.belowAt hb (by omega), h.vo.belowAt hb (by omega), x, y, z, hv.belowAt hb (by omega)⟩
theorem AtI.put {B : Nat} {gv : Value} {w wr : World} (h : AtI B gv w wr) (x y z : Int) :
    AtI B gv w (put3 wr (B + 2) (.int .i64 x) (.int .i64 y) (.int .i64 z)) ∧ VC 175 (B + 2) #[.int .i64 x, .int .i64 y, .int .i64 z] (put3 wr (B + 2) (.int .i64 x) (.int .i64 y) (.int .i64 z)) := by
  obtain ⟨x', y', z', hv⟩ := h.vx
  have hs := h.sz
  have u := put3_upd wr (B + 2) (.int .i64 x) (.int .i64 y) (.int .i64 z)
  have hv' := hv.put3 (.int .i64 x) (.int .i64 y) (.int .i64 z)
  exact ⟨⟨u.below h.bel (by omega) (by omega), h.vg.upd u (by omega), h.vo.upd u (by omega), x, y, z, hv'⟩, hv'⟩

set_option maxHeartbeats 8000000 in
theorem specAt (g : Value) (n : Nat) (e : Nat → Nat → Bool) (S : Nat → Bool) (xss : List (List Int)) (hg : Gr n e xss) (v : Nat) (hv : v < n) (vl : Value) (w : World) (hr : RdSS g xss w) (hl : RdS vl (rowB n S) w) :
    Calls Tryd.prog 162 #[.agg #[g], vl, .int .i64 v] w (PRes w (goesB n e S v)) := by
  obtain ⟨a, c, rfl⟩ := hr.shape
  obtain ⟨B, hB⟩ : ∃ B, w.heap.size = B := ⟨_, rfl⟩
  obtain ⟨W0, hW0⟩ : ∃ W0, W0 = ((w.alloc (.cells #[.slice a xss.length c] 56)).alloc (.cells #[.int .i64 0, .int .i64 0, .int .i64 0] 175)).alloc (.cells #[.int .i64 v, .int .i64 (-1), .int .i64 1] 175) := ⟨_, rfl⟩
  have u0 : Below B w W0 := by rw [hW0]; exact (((Below.refl _ _ : Below B w w).alloc (by omega) _).alloc (by simp; omega) _).alloc (by simp; omega) _
  have VG : VC 56 B #[.slice a xss.length c] W0 := by rw [hW0]; exact ((VC.new hB).upd (Upd.alloc _ _) (by omega)).upd (Upd.alloc _ _) (by omega)
  have VO : VC 175 (B + 1) #[.int .i64 0, .int .i64 0, .int .i64 0] W0 := by rw [hW0]; exact (VC.new (by simp [hB])).upd (Upd.alloc _ _) (by omega)
  have VX : VC 175 (B + 2) #[.int .i64 v, .int .i64 (-1), .int .i64 1] W0 := by rw [hW0]; exact VC.new (by simp [hB])
  have hz0 : W0.heap.size = B + 3 := by rw [hW0]; simp [hB]
  have I0 : AtI B (.slice a xss.length c) w W0 := ⟨u0, VG, VO, _, _, _, VX⟩
  have CA := Lib.hid (goesAlone (.slice a xss.length c) n e S xss hg v hv vl W0 (hr.below u0 hB) (RdS.below hl u0 hB))
  have CW : Hid (∀ W, Below B w W → ∀ b k : Nat, b < n → S b = true → (k = 2 ∨ k = 3 ∨ k = 4) → ∀ K : Int, K = k → Calls Tryd.prog 198 #[.agg #[.slice a xss.length c], vl, .agg #[.int .i64 v, .int .i64 b, .int .i64 K]] W fun e' w' => e' = .returned (.bool (goB n e S v b k)) ∧ Below W.heap.size W w') :=
    Lib.hid fun W hW b k hb hS hk K hK => goesWith (.slice a xss.length c) n e S xss hg v hv vl b k hb hS hk K hK W (hr.below hW hB) (RdS.below hl hW hB)
  have HRL : Hid (∀ W, Below B w W → RdS vl (rowB n S) W) := Lib.hid fun W hW => RdS.below hl hW hB
  have hLl : (rowB n S).length ≤ 16 := by have := rowB_length n S; have := hg.adj.le; omega
  obtain ⟨la, lc, rfl, -, -, -⟩ := id hl
  have hcg := VG.cell
  obtain ⟨p0, p1, p2⟩ := VX.at3
  have HI0 := Lib.hid I0
  obtain ⟨qa, hqa⟩ : ∃ q, aloneB n e S v = q := ⟨_, rfl⟩
  rw [hqa] at CA
  have HQA := Lib.hid hqa
  obtain ⟨L, hL⟩ : ∃ L, rowB n S = L := ⟨_, rfl⟩
  rw [hL] at HRL CA CW hLl ⊢
  have HL := Lib.hid hL
  clear hqa hr hl hg VG VO VX I0 u0 hL
  go_enter Tryd.func162, Tryd.ntmps162
  go_wp2_with fail
  rw [← hW0]
  clear hW0
  refine CA.out.mono ?_
  rintro e1 w1 ⟨rfl, hb1⟩
  have I1 := HI0.out.call hb1
  clear hcg p0 p1 p2 CA HI0 hb1 hz0
  cases qa with
  | true =>
    have V0 := I1.vo
    obtain ⟨x, y, z, VX⟩ := I1.vx
    obtain ⟨p0, p1, p2⟩ := VX.at3
    have V1 := V0.step1 (.int .i64 x)
    have V2 := V1.step2 (.int .i64 y)
    have V3 := V0.put3 (.int .i64 x) (.int .i64 y) (.int .i64 z)
    obtain ⟨g0, -, -⟩ := V0.at3
    obtain ⟨-, g1, -⟩ := V1.at3
    obtain ⟨-, -, g2⟩ := V2.at3
    have f0 := V0.frz 0
    have f1 := V1.frz 1
    have f2 := V2.frz 2
    obtain ⟨r0, r1, r2⟩ := V3.at3
    have HR := Lib.hid (And.intro r0 (And.intro r1 r2))
    have HBE := Lib.hid ((put3_upd w1 (B + 1) (.int .i64 x) (.int .i64 y) (.int .i64 z)).below I1.bel (by have := I1.sz; omega) (by omega))
    clear V0 V1 V2 V3 VX I1 r0 r1 r2
    go_wp2_with fail
    refine bodyPost_ret (v := .tuple #[.agg #[.int .i64 x, .int .i64 y, .int .i64 z], .bool true]) (by simp [results, Tryd.results162, go_sem, HR.out.1, HR.out.2.1, HR.out.2.2]) rfl ?_
    exact ⟨x, y, z, by rw [goesB_alone HQA.out], by rw [hB]; exact HBE.out⟩
  | false =>
    go_wp2_with fail
    go_loopw [9] (fun kv wr => ∃ k : Nat, 2 ≤ k ∧ k ≤ 5 ∧ kv = .int .i64 k ∧ Hid (∀ k' b, 2 ≤ k' → k' < k → b < n → goB n e S v b k' = false) ∧ AtI B (.slice a xss.length c) w wr) (fun kv _ => 5 - (intOf kv).toNat)
    case atStart => exact ⟨2, by omega, by omega, rfl, Lib.hid fun k' b h1 h2 => by omega, I1⟩
    case round =>
      clear I1
      obtain ⟨k, hk2, hk5, rfl, HK, I⟩ := hrel
      by_cases hlt : k < 5
      · have hle : (k : Int) ≤ 4 := by omega
        go_wp2_with fail
        go_loopw [10] (fun iv wr => ∃ i : Nat, i ≤ L.length ∧ iv = .int .i64 i ∧ Hid (∀ j b, j < i → L[j]? = some ((b : Nat) : Int) → goB n e S v b k = false) ∧ AtI B (.slice a xss.length c) w wr) (fun iv _ => L.length - (intOf iv).toNat)
        case atStart => exact ⟨0, Nat.zero_le _, rfl, Lib.hid fun j b h => by omega, I⟩
        case round =>
          clear I
          obtain ⟨i, hi, rfl, HI, I⟩ := hrel
          have hsz := I.sz
          by_cases hli : i < L.length
          · have hrl := HRL.out _ I.bel
            obtain ⟨lb, lo, y, rfl, hc, HY⟩ := hrl.intAt hli
            have HY' := HY.out
            rw [← HL.out] at HY'
            obtain ⟨b, hb, hS, rfl⟩ := row_at HY'
            obtain ⟨I2, VX2⟩ := I.put v b k
            obtain ⟨x', y', z', VX⟩ := I.vx
            have V1 := VX.step1 (.int .i64 v)
            have V2 := V1.step2 (.int .i64 b)
            obtain ⟨g0, -, -⟩ := VX.at3
            obtain ⟨-, g1, -⟩ := V1.at3
            obtain ⟨-, -, g2⟩ := V2.at3
            have f0 := VX.frz 0
            have f1 := V1.frz 1
            have f2 := V2.frz 2
            obtain ⟨p0, p1, p2⟩ := VX2.at3
            have hcg := I2.vg.cell
            have CC := Lib.hid (CW.out _ I2.bel b k hb hS (by omega) k rfl)
            obtain ⟨qw, hqw⟩ : ∃ q, goB n e S v b k = q := ⟨_, rfl⟩
            rw [hqw] at CC
            have HQW := Lib.hid hqw
            have HI2 := Lib.hid I2
            have HBN := Lib.hid hb
            clear V1 V2 VX VX2 I2 I hqw HY' hrl hb hS
            unfold put3 at p0 p1 p2 hcg CC
            go_wp2_with fail
            refine CC.out.mono ?_
            rintro e1 w2 ⟨rfl, hb2⟩
            have I3 := HI2.out.call hb2
            clear p0 p1 p2 hcg CC g0 g1 g2 f0 f1 f2 HI2 hb2
            cases qw with
            | true =>
              have V0 := I3.vo
              obtain ⟨x, y, z, VX⟩ := I3.vx
              obtain ⟨p0, p1, p2⟩ := VX.at3
              have V1 := V0.step1 (.int .i64 x)
              have V2 := V1.step2 (.int .i64 y)
              have V3 := V0.put3 (.int .i64 x) (.int .i64 y) (.int .i64 z)
              obtain ⟨g0, -, -⟩ := V0.at3
              obtain ⟨-, g1, -⟩ := V1.at3
              obtain ⟨-, -, g2⟩ := V2.at3
              have f0 := V0.frz 0
              have f1 := V1.frz 1
              have f2 := V2.frz 2
              obtain ⟨r0, r1, r2⟩ := V3.at3
              have HR := Lib.hid (And.intro r0 (And.intro r1 r2))
              have HBE := Lib.hid ((put3_upd w2 (B + 1) (.int .i64 x) (.int .i64 y) (.int .i64 z)).below I3.bel (by have := I3.sz; omega) (by omega))
              clear V0 V1 V2 V3 VX I3 r0 r1 r2
              go_wp2_with fail
              refine bodyPost_ret (v := .tuple #[.agg #[.int .i64 x, .int .i64 y, .int .i64 z], .bool true]) (by simp [results, Tryd.results162, go_sem, HR.out.1, HR.out.2.1, HR.out.2.2]) rfl ?_
              exact ⟨x, y, z, by rw [goesB_some HBN.out hk2 (by omega) HQW.out], by rw [hB]; exact HBE.out⟩
            | false =>
              have HI3 := Lib.hid I3
              clear I3
              go_wp2_with fail
              go_roundw
              case rel =>
                refine ⟨i + 1, by omega, by go_num, Lib.hid fun j b' hj hy => ?_, HI3.out⟩
                by_cases hji : j = i
                · subst hji
                  rw [HY.out] at hy
                  have : b' = b := by have := Option.some.inj hy; omega
                  subst this
                  exact HQW.out
                · exact HI.out j b' (by omega) hy
              case measure => simp [intOf]; omega
          · obtain rfl : i = L.length := by omega
            have HII := Lib.hid I
            clear I
            go_wp2_with fail
            go_roundw
            case rel =>
              refine ⟨k + 1, by omega, by omega, by go_num, Lib.hid fun k' b h1 h2 h3 => ?_, HII.out⟩
              by_cases hkk : k' = k
              · subst hkk
                by_cases hSb : S b = true
                · have hmem := (nat_mem_rowB (n := n) (p := S) (i := b)).2 ⟨h3, hSb⟩
                  rw [HL.out] at hmem
                  obtain ⟨j, hj⟩ := List.getElem?_of_mem hmem
                  exact HI.out j b (List.getElem?_eq_some_iff.1 hj).1 hj
                · unfold goB
                  simp [hSb]
              · exact HK.out k' b h1 (by omega) h3
            case measure => simp [intOf]; omega
      · have hle : ¬ (k : Int) ≤ 4 := by omega
        have HF : Hid (goesB n e S v = false) := Lib.hid (goesB_none HQA.out fun k' b h1 h2 h3 => HK.out k' b h1 (by omega) h3)
        have V0 := I.vo
        have V1 := V0.step1 (.int .i64 0)
        have V2 := V1.step2 (.int .i64 0)
        have V3 := V0.put3 (.int .i64 0) (.int .i64 0) (.int .i64 0)
        obtain ⟨g0, -, -⟩ := V0.at3
        obtain ⟨-, g1, -⟩ := V1.at3
        obtain ⟨-, -, g2⟩ := V2.at3
        have f0 := V0.frz 0
        have f1 := V1.frz 1
        have f2 := V2.frz 2
        obtain ⟨r0, r1, r2⟩ := V3.at3
        have HR := Lib.hid (And.intro r0 (And.intro r1 r2))
        have HBE := Lib.hid ((put3_upd wr (B + 1) (.int .i64 0) (.int .i64 0) (.int .i64 0)).below I.bel (by have := I.sz; omega) (by omega))
        clear V0 V1 V2 V3 I r0 r1 r2
        go_wp2_with fail
        refine bodyPost_ret (v := .tuple #[.agg #[.int .i64 0, .int .i64 0, .int .i64 0], .bool false]) (by simp [results, Tryd.results162, go_sem, HR.out.1, HR.out.2.1, HR.out.2.2]) rfl ?_
        exact ⟨0, 0, 0, by rw [HF.out], by rw [hB]; exact HBE.out⟩
end Go.Proofs.YtbhobmngnjfgfaaDoor
