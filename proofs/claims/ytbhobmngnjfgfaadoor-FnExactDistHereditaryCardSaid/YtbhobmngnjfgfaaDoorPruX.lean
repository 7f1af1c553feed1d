/-
  'prunedOf', 'PrunedOf', 'DistHereditary' of the program; both.
-/
import Derived.Test.YtbhobmngnjfgfaaDoorPruW
import Derived.Test.YtbhobmngnjfgfaaDoorParts
namespace Go.Proofs.YtbhobmngnjfgfaaDoor
open Go.RowKit

def bitV : Value → Nat
  | .bool true => 1
  | _ => 0
theorem wpList_push3_at {P : Program} (wr : World) {ops : Array Oper} {rest : List Oper} {o : Oper} {a : Act} {Q : Exit → Act → World → Prop} (hgd : o.guard = none) (s x : Operand) (t : TypeId)
    (ho : o.op = .call { callee := .builtin .append, args := #[s, x], argTypes := #[t, t] })
    (base : Nat) (e e2 : TypeId) (z : Value) (bytes : Nat) (ht : P.underlying t = some (.slice e)) (hinfo : (P.info? e).map (fun i => (i.zero, i.size, i.bytes)) = some (some z, 3, bytes)) (hzs : z.cells.size = 3)
    (v : Value) (n : Nat) (xs : List Value) (hs : a.eval s = v) (hown : wr.ownsRow base e 3 v n xs)
    (y1 y2 y3 : Value) (g0 : Nat) (hg0 : g0 = wr.heap.size) (hx : a.eval x = .slice (some ⟨g0, 0, none⟩) 1 1) (hy1 : y1.oneCell' = true) (hy2 : y2.oneCell' = true) (hy3 : y3.oneCell' = true)
    (h63 : n + 1 ≤ maxLen) (hbytes : (n + 1) * bytes ≤ 140737488355328) (hbase : base ≤ wr.heap.size)
    (h : ∀ g' c' w', w'.ownsRow base e 3 (.slice (some ⟨g', 0, none⟩) (n + 1) c') (n + 1) (xs ++ [y1, y2, y3]) → wr.grownBy w' v.ownBlock → wpList P ops Q rest (a.put o.dst (.slice (some ⟨g', 0, none⟩) (n + 1) c')) w') :
    wpList P ops Q (o :: rest) a (wr.alloc (.cells #[y1, y2, y3] e2)) := by
  subst hg0
  exact wpList_push3 wr hgd s x t ho base e e2 z bytes ht hinfo hzs v n xs hs hown y1 y2 y3 hx hy1 hy2 hy3 h63 hbytes hbase h
def StuckP (n : Nat) (e : Nat → Nat → Bool) (S : Nat → Bool) (fb : Bool) : Prop := fb = false → ∀ v, v < n → S v = true → goesB n e S v = false
/-- What is left at last, as a mask. -/
def LeftM (n : Nat) (e : Nat → Nat → Bool) (w : World) (r : Ending) (w' : World) : Prop :=
  ∃ (o : Value) (z : Int) (S : Nat → Bool), r = .returned (.tuple #[o, .int .u32 z]) ∧ z = (maskB n S : Nat) ∧ Fin' n e (fun _ => true) (decide ((rowB n S).length = 0)) ∧ Below w.heap.size w w'

set_option maxHeartbeats 8000000 in
set_option maxRecDepth 100000 in
theorem prunedOf_any (va : Value) (n : Nat) (e : Nat → Nat → Bool) (hA : Adj n e) (z0 : Int) (hz : z0 = (maskB n (fun _ => true) : Nat)) (w : World) (ht : Tab w) (hr : Row w 1 va n (sets (NB n e))) :
    Calls Tryd.prog 166 #[va, .int .u32 z0] w (LeftM n e w) := by
  have hn := hA.le
  obtain ⟨B, hB⟩ : ∃ B, w.heap.size = B := ⟨_, rfl⟩
  have hTB : 2 < B := by rw [← hB]; exact ht.lt
  obtain ⟨W0, hW0⟩ : ∃ W0, W0 = w.alloc (.cells #[] 175) := ⟨_, rfl⟩
  have u0 : Below B w W0 := by rw [hW0, ← hB]; exact below_alloc' _ _
  have hz0 : W0.heap.size = B + 1 := by rw [hW0]; simp [hB]
  have ho0 : W0.ownsRow B 175 3 (.slice (some ⟨B, 0, none⟩) 0 0) 0 [] := by
    have := World.ownsRow_lit (base := B) (e := 175) (size := 3) w #[] 0 (by omega) (by simp [maxLen]) rfl
    rw [← hW0] at this
    simpa [hB] using this
  have CL : Hid (∀ (W : World) (S : Nat → Bool) (z : Int), Below B w W → z = (maskB n S : Nat) → Calls Tryd.prog 123 #[.int .u32 z] W fun e w' => ∃ v, e = .returned v ∧ w'.ownsRow W.heap.size 3 1 v (rowB n S).length (ints (rowB n S)) ∧ Below W.heap.size W w') :=
    Lib.hid fun W S z hW hz => listB_any (by omega) S z hz W (ht.keep hW hTB)
  have CP : Hid (∀ (W : World) (S : Nat → Bool) (z : Int) (v : Nat), Below B w W → z = (maskB n S : Nat) → v < n → S v = true → Calls Tryd.prog 200 #[va, .int .u32 z, .int .i64 v] W (PRes W (goesB n e S v))) :=
    Lib.hid fun W S z v hW hz hv hS => pruneOf_any va n e S hA v hv hS z hz W (hr.below (hB.symm ▸ hW))
  have HROW : Hid (∀ S : Nat → Bool, (rowB n S).length ≤ 16) := Lib.hid fun S => by have := rowB_length n S; omega
  have hlen0 := HROW.out (fun _ => true)
  obtain ⟨a, c, rfl, -, -, -⟩ := id hr
  have hb0 : Below B W0 W0 := Below.refl _ _
  have HZ := Lib.hid hz
  have HF0 : Hid (∀ r, Fin' n e (fun _ => true) r → Fin' n e (fun _ => true) r) := Lib.hid fun _ h => h
  have HG0 : Hid (StuckP n e (fun _ => true) true) := Lib.hid fun h => by cases h
  obtain ⟨N0, hN0⟩ : ∃ N, (rowB n fun _ => true).length = N := ⟨_, rfl⟩
  rw [hN0] at hlen0
  have HN0 := Lib.hid hN0
  clear hr hz hN0
  go_enter Tryd.func166, Tryd.ntmps166
  go_wp2_with fail
  rw [← hW0]
  clear hW0
  go_loopw [1, 6, 7] (fun t u f wr => ∃ (S : Nat → Bool) (z : Int) (fb : Bool) (len m : Nat) (cs : List Value), t = .int .u32 z ∧ f = .bool fb ∧ len + m ≤ 16 ∧ Hid (z = (maskB n S : Nat)) ∧ Hid ((rowB n S).length = len) ∧ Hid (∀ r, Fin' n e S r → Fin' n e (fun _ => true) r) ∧ Hid (StuckP n e S fb) ∧ wr.ownsRow B 175 3 u m cs ∧ Below B W0 wr) (fun t _ f _ => (intOf t).toNat * 2 + bitV f)
  case atStart => exact ⟨_, z0, true, N0, 0, [], rfl, rfl, by omega, HZ, HN0, HF0, HG0, ho0, hb0⟩
  case round =>
    clear HF0 HG0 ho0 hb0 hlen0 HN0 HZ
    obtain ⟨S, z, fb, len, m, cs, rfl, rfl, hlm, HZ, HN, HF, HG, ho, hb⟩ := hrel
    have hsz := hb.size
    have hbw : Below B w wr := u0.trans hb
    cases fb with
    | false =>
      have HB := Lib.hid hbw
      clear hb hbw ho
      go_wp2_with fail
      refine bodyPost_ret (v := .tuple #[_, .int .u32 z]) (by simp [results, Tryd.results166, go_sem]; rfl) rfl ?_
      exact ⟨_, z, S, rfl, HZ.out, HF.out _ (.stop (HG.out rfl)), by rw [hB]; exact HB.out⟩
    | true =>
      have CC := Lib.hid (CL.out wr S z hbw HZ.out)
      go_wp2_with fail
      refine CC.out.mono ?_
      rintro e1 w1 ⟨lv, rfl, hl, hb1⟩
      obtain ⟨la, lc, rfl⟩ := owns_shape hl
      rw [HN.out] at hl
      rw [HN.out]
      have ho1 := owns_below ho hb1
      have hb01 := hb.trans (hb1.mono (by omega))
      have hs1 := hb1.size
      have hb11 : Below w1.heap.size w1 w1 := Below.refl _ _
      obtain ⟨ua, uc, rfl⟩ := owns_shape ho
      obtain ⟨S1, hS1⟩ : ∃ s, w1.heap.size = s := ⟨_, rfl⟩
      rw [hS1] at hb11 hs1
      have HL1 : Hid (∀ W, Below S1 w1 W → RdS (.slice la len lc) (rowB n S) W ∧ W.ownsRow B 175 3 (.slice ua m uc) m cs ∧ Below B W0 W ∧ Below B w W ∧ S1 ≤ W.heap.size) := Lib.hid fun W hW => by
        refine ⟨?_, owns_below ho1 (hS1 ▸ hW), hb01.trans (hW.mono (by omega)), u0.trans (hb01.trans (hW.mono (by omega))), hS1 ▸ hW.size⟩
        unfold RdS
        rw [HN.out]
        exact (Row.of_owns hl).below (hS1 ▸ hW)
      clear CC hl hb1 ho hb hbw ho1 hb01
      go_wp2_with fail
      go_loopw [1, 6, 7, 17] (fun t u f i wr => ∃ j : Nat, t = .int .u32 z ∧ u = .slice ua m uc ∧ f = .bool false ∧ j ≤ len ∧ i = .int .i64 j ∧ Hid (∀ j' b : Nat, j' < j → (rowB n S)[j']? = some (b : Int) → goesB n e S b = false) ∧ Below S1 w1 wr) (fun _ _ _ i _ => len - (intOf i).toNat)
      case atStart => exact ⟨0, rfl, rfl, rfl, Nat.zero_le _, rfl, Lib.hid fun j b h => by omega, hb11⟩
      case round =>
        clear hb11
        obtain ⟨j, rfl, rfl, rfl, hj, rfl, HJ, hbr⟩ := hrel
        by_cases hlt : j < len
        · obtain ⟨hlr, hor, hb0r, hbwr, hszr⟩ := HL1.out _ hbr
          obtain ⟨lb, lo, y, rfl, hc, HY⟩ := hlr.intAt (by rw [HN.out]; exact hlt)
          obtain ⟨b, hbn, hSb, rfl⟩ := row_at HY.out
          obtain ⟨gq, hgq⟩ : ∃ q, goesB n e S b = q := ⟨_, rfl⟩
          have CC := Lib.hid (CP.out _ S z b hbwr HZ.out hbn hSb)
          rw [hgq] at CC
          have HGQ := Lib.hid hgq
          have HSB := Lib.hid (And.intro hbn hSb)
          clear hgq hlr hbn hSb
          go_wp2_with fail
          refine CC.out.mono ?_
          rintro e1 w2 ⟨x, y, u3, rfl, hb2⟩
          obtain ⟨S2, hS2⟩ : ∃ s, w2.heap.size = s := ⟨_, rfl⟩
          have hs2 : S1 ≤ S2 := by have := hb2.size; omega
          obtain ⟨W3, hW3⟩ : ∃ W3, W3 = w2.alloc (.cells #[.int .i64 x, .int .i64 y, .int .i64 u3] 175) := ⟨_, rfl⟩
          have V3 : VC 175 S2 #[.int .i64 x, .int .i64 y, .int .i64 u3] W3 := by rw [hW3]; exact VC.new hS2
          have hbr2 : Below S1 w1 w2 := hbr.trans (hb2.mono (by omega))
          have hbr3 : Below S1 w1 W3 := by rw [hW3]; exact hbr2.alloc (by omega) _
          obtain ⟨p0, p1, p2⟩ := V3.at3
          rw [hW3] at p0 p1 p2
          have HBR := Lib.hid hbr3
          have HW3 := Lib.hid hW3
          clear CC hb2 hbr hbr2 hbr3 V3 hW3 hor hb0r hbwr hc
          cases gq with
          | true =>
            obtain ⟨-, ho3, hb3, -, hs3⟩ := HL1.out _ HBR.out
            rw [HW3.out] at ho3 hb3 hs3
            have hm16 : m ≤ 16 := by omega
            have HO3 := Lib.hid ho3
            have HB3 := Lib.hid hb3
            obtain ⟨yb, HYB⟩ : ∃ y : Int, Hid (y = ((2 ^ b : Nat) : Int)) := ⟨_, Lib.hid rfl⟩
            have CO : Hid (∀ W : World, Calls Tryd.prog 106 #[.int .i64 b] W fun r w' => r = .returned (.int .u32 yb) ∧ W = w') := Lib.hid fun W => one_at b b rfl (by have := HSB.out.1; omega) yb HYB.out W
            obtain ⟨z2, HZ2⟩ : ∃ y : Int, Hid (y = ((maskB n (lessB S b) : Nat) : Int)) := ⟨_, Lib.hid rfl⟩
            have hand : bits BinOp.andNot IntKind.u32 z yb = z2 := by rw [HZ.out, HYB.out, one_mask HSB.out.1, mask_andNot (by omega), HZ2.out]; rfl
            obtain ⟨len2, hlen2⟩ : ∃ q, (rowB n (lessB S b)).length = q := ⟨_, rfl⟩
            have hll := rowB_lessB HSB.out.1 HSB.out.2
            rw [hlen2] at hll
            have hlq : len2 + 1 = len := by have := HN.out; omega
            have HN2 := Lib.hid hlen2
            have HLT : Hid (maskB n (lessB S b) < maskB n S) := Lib.hid (mask_less HSB.out.1 HSB.out.2 (by simp [lessB]) fun i hi => by unfold lessB at hi; rw [Bool.and_eq_true] at hi; exact hi.1)
            clear ho3 hb3 hlen2 hll HL1
            go_wp2_with (at_builtin; refine wpList_push3_at (w2.alloc (.cells #[.int .i64 x, .int .i64 y, .int .i64 u3] 175)) rfl _ _ 110 rfl B 175 _ _ 24 Tryd.underlying110 infoPr cellsPr (.slice ua m uc) m cs rfl HO3.out (.int .i64 x) (.int .i64 y) (.int .i64 u3) (S2 + 1) (by simp [hS2]) rfl rfl rfl rfl (by unfold maxLen; omega) (by omega) (by omega) ?_; intro g2 c2 w4 ho4 hg4)
            refine (CO.out _).mono ?_
            rintro e1 w' ⟨rfl, rfl⟩
            have hb4 : Below B W0 w4 := HB3.out.grown hg4 (by omega) fun y hy => (owns_lt HO3.out hy).1
            have HE := Lib.hid (And.intro ho4 hb4)
            clear ho4 hb4 hg4 p0 p1 p2
            go_wp2_with fail
            go_roundw
            case rel => exact ⟨lessB S b, z2, true, len2, m + 1, _, rfl, rfl, by omega, HZ2, HN2, Lib.hid fun r h => HF.out r (.step HSB.out.1 HSB.out.2 HGQ.out (fun u hu hSu => by
                have hun : u < n := by have := HSB.out.1; omega
                obtain ⟨i, hi⟩ := List.getElem?_of_mem ((nat_mem_rowB (n := n) (p := S) (i := u)).2 ⟨hun, hSu⟩)
                exact HJ.out i u (row_lt hi HY.out hu) hi) h), Lib.hid (fun h => by cases h), HE.out.1, HE.out.2⟩
            case measure => rw [HZ2.out, HZ.out]; have := HLT.out; simp [intOf, bitV]; omega
          | false =>
            go_wp2_with fail
            go_roundw
            case rel => exact ⟨j + 1, rfl, rfl, rfl, by omega, by go_num, Lib.hid fun j' b' hj' hy => by
                by_cases hjk : j' = j
                · subst hjk
                  rw [HY.out] at hy
                  obtain rfl : b' = b := by have := Option.some.inj hy; omega
                  exact HGQ.out
                · exact HJ.out j' b' (by omega) hy, by rw [← HW3.out]; exact HBR.out⟩
            case measure => simp [intOf]; omega
        · obtain rfl : j = len := by omega
          obtain ⟨-, hor, hb0r, -, -⟩ := HL1.out _ hbr
          have HE := Lib.hid (And.intro hor hb0r)
          clear hor hb0r hbr
          go_wp2_with fail
          go_roundw
          case rel => exact ⟨S, z, false, j, m, cs, rfl, rfl, hlm, HZ, HN, HF, Lib.hid fun _ v hv hSv => by
              obtain ⟨i, hi⟩ := List.getElem?_of_mem ((nat_mem_rowB (n := n) (p := S) (i := v)).2 ⟨hv, hSv⟩)
              exact HJ.out i v (by have := (List.getElem?_eq_some_iff.1 hi).1; have := HN.out; omega) hi, HE.out.1, HE.out.2⟩
          case measure => simp [intOf, bitV]

/-- What 'PrunedOf' says of what is left. -/
def PrunedRes (n : Nat) (e : Nat → Nat → Bool) (w : World) (r : Ending) (w' : World) : Prop :=
  ∃ (o u : Value) (S : Nat → Bool), r = .returned (.tuple #[o, u]) ∧ Fin' n e (fun _ => true) (decide ((rowB n S).length = 0)) ∧ RdS u (rowB n S) w' ∧ Below w.heap.size w w'

set_option maxHeartbeats 4000000 in
theorem implPrunedOf (g : Value) (xss : List (List Int)) (n : Nat) (e : Nat → Nat → Bool) (hA : Adj n e) (hx : xss = rowsB n e) (w : World) (ht : Tab w) (hr : RdSS g xss w) :
    Calls Tryd.prog 95 #[.agg #[g]] w (PrunedRes n e w) := by
  have hn := hA.le
  obtain ⟨a, c, rfl⟩ := hr.shape
  obtain ⟨B, hB⟩ : ∃ B, w.heap.size = B := ⟨_, rfl⟩
  have hTB : 2 < B := by rw [← hB]; exact ht.lt
  obtain ⟨W0, hW0⟩ : ∃ W0, W0 = w.alloc (.cells #[.slice a xss.length c] 56) := ⟨_, rfl⟩
  have u0 : Below B w W0 := by rw [hW0, ← hB]; exact below_alloc' _ _
  have VG : VC 56 B #[.slice a xss.length c] W0 := by rw [hW0]; exact VC.new hB
  have hz0 : W0.heap.size = B + 1 := by rw [hW0]; simp [hB]
  have hok : okB xss = true := by rw [hx]; exact okB_adj hA
  have CK := Lib.hid (implOk (.slice a xss.length c) xss W0 (hr.below u0 hB))
  rw [hok] at CK
  have CN : Hid (∀ W, Below B w W → Calls Tryd.prog 103 #[.agg #[.slice a xss.length c]] W fun r w' => ∃ u, r = .returned u ∧ w'.ownsRow W.heap.size 98 1 u n (sets (NB n e)) ∧ Below W.heap.size W w') := Lib.hid fun W hW => netsOf_any _ n e hn W (hx ▸ hr.below hW hB)
  have hcg := VG.cell
  have HA := Lib.hid hA
  clear hok hx hr hA
  go_enter Tryd.func95, Tryd.ntmps95
  go_wp2_with fail
  rw [← hW0]
  refine CK.out.mono ?_
  rintro e1 w1 ⟨rfl, hb1⟩
  have hb := u0.trans (hb1.mono (by omega))
  have VG1 := VG.belowAt hb1 (by omega)
  clear hb1 u0 VG hcg CK hW0 hz0
  have hcg := VG1.cell
  go_wp2_with fail
  refine (CN.out w1 hb).mono ?_
  rintro e1 w2 ⟨u, rfl, ho, hb2⟩
  obtain ⟨ua, uc, rfl⟩ := owns_shape ho
  have hb3 := hb.trans (hb2.mono (by have := hb.size; omega))
  obtain ⟨z1, HZ1⟩ : ∃ y : Int, Hid (y = (maskB n (fun _ => true) : Nat)) := ⟨_, Lib.hid rfl⟩
  have CP := Lib.hid (prunedOf_any (.slice ua n uc) n e HA.out z1 HZ1.out w2 (ht.keep hb3 hTB) (Row.of_owns ho))
  clear hb2 hb ho VG1 hcg CN
  go_wp2_with fail
  refine (all_netsAt _ n hn z1 HZ1.out ⟨_, _, rfl⟩ _).mono ?_
  rintro e1 w' ⟨rfl, rfl⟩
  go_wp2_with fail
  refine CP.out.mono ?_
  rintro e1 w4 ⟨o, z, S, rfl, hz, hF, hb4⟩
  have hb5 := hb3.trans (hb4.mono (by have := hb3.size; omega))
  have CNU := Lib.hid (numbersB_any (by omega) S z hz w4 (ht.keep hb5 hTB))
  have HF := Lib.hid hF
  clear hz hF hb4 CP hb3
  go_wp2_with fail
  refine CNU.out.mono ?_
  rintro e1 w5 ⟨v, rfl, hv, hb6⟩
  have hb7 := hb5.trans (hb6.mono (by have := hb5.size; omega))
  obtain ⟨va, vc, rfl⟩ := owns_shape hv
  have HV : Hid (RdS (.slice va (rowB n S).length vc) (rowB n S) w5) := Lib.hid (Row.of_owns hv)
  clear hv hb6 CNU
  go_wp2_with fail
  refine bodyPost_ret (v := .tuple #[o, .slice va (rowB n S).length vc]) (by simp [results, Tryd.results95, go_sem]) rfl ?_
  exact ⟨_, _, S, rfl, HF.out, HV.out, by rw [hB]; exact hb7⟩

set_option maxHeartbeats 4000000 in
theorem implDist (g : Value) (xss : List (List Int)) (r : Bool) (hP : DistP xss r) (w : World) (ht : Tab w) (hr : RdSS g xss w) :
    Calls Tryd.prog 33 #[.agg #[g]] w (BRes w r) := by
  obtain ⟨a, c, rfl⟩ := hr.shape
  obtain ⟨B, hB⟩ : ∃ B, w.heap.size = B := ⟨_, rfl⟩
  have hTB : 2 < B := by rw [← hB]; exact ht.lt
  obtain ⟨W0, hW0⟩ : ∃ W0, W0 = w.alloc (.cells #[.slice a xss.length c] 56) := ⟨_, rfl⟩
  have u0 : Below B w W0 := by rw [hW0, ← hB]; exact below_alloc' _ _
  have VG : VC 56 B #[.slice a xss.length c] W0 := by rw [hW0]; exact VC.new hB
  have hz0 : W0.heap.size = B + 1 := by rw [hW0]; simp [hB]
  have CK := Lib.hid (implOk (.slice a xss.length c) xss W0 (hr.below u0 hB))
  have hcg := VG.cell
  rcases hP with ⟨hok, rfl⟩ | ⟨e, hA, hx, hF⟩
  · rw [hok] at CK
    clear hok
    go_enter Tryd.func33, Tryd.ntmps33
    go_wp2_with fail
    rw [← hW0]
    refine CK.out.mono ?_
    rintro e1 w1 ⟨rfl, hb1⟩
    have hb := u0.trans (hb1.mono (by omega))
    clear hb1 u0 hr VG hcg CK hW0
    go_wp2_with fail
    go_ret
    exact ⟨rfl, by rw [hB]; exact hb⟩
  · have hok : okB xss = true := (okB_iff xss).2 ⟨e, hA, hx⟩
    rw [hok] at CK
    have HF := Lib.hid hF
    have CP : Hid (∀ W, Below B w W → Calls Tryd.prog 95 #[.agg #[.slice a xss.length c]] W (PrunedRes xss.length e W)) := Lib.hid fun W hW => implPrunedOf _ xss xss.length e hA hx W (ht.keep hW hTB) (hr.below hW hB)
    clear hok hF hA hx hr
    go_enter Tryd.func33, Tryd.ntmps33
    go_wp2_with fail
    rw [← hW0]
    refine CK.out.mono ?_
    rintro e1 w1 ⟨rfl, hb1⟩
    have hb := u0.trans (hb1.mono (by omega))
    have VG1 := VG.belowAt hb1 (by omega)
    clear hb1 u0 VG hcg CK hW0 hz0
    have hcg := VG1.cell
    go_wp2_with fail
    refine (CP.out w1 hb).mono ?_
    rintro e1 w4 ⟨o, v, S, rfl, hf, hv, hb4⟩
    obtain ⟨va, vc, rfl, -, -, -⟩ := id hv
    have hb5 := hb.trans (hb4.mono (by have := hb.size; omega))
    obtain ⟨q, hq⟩ : ∃ q, decide ((rowB xss.length S).length = 0) = q := ⟨_, rfl⟩
    rw [hq] at hf
    have hq2 := cast_zero (rowB xss.length S).length
    rw [hq] at hq2
    obtain rfl : q = r := hf.det HF.out
    obtain ⟨L, hL⟩ : ∃ L, rowB xss.length S = L := ⟨_, rfl⟩
    rw [hL] at hq2
    rw [hL]
    clear hL hf hq hv hb4 hb CP HF VG1 hcg
    go_wp2_with fail
    go_ret
    exact ⟨rfl, by rw [hB]; exact hb5⟩

theorem both_DistHereditary (xss : List (List Int)) : ∃ r : Bool,
    (∀ (w : World) (g : Value), Tab w → RdSS g xss w → Calls Tryd.prog 31 #[.agg #[g]] w (BRes w r)) ∧
    (∀ (w : World) (g : Value), Tab w → RdSS g xss w → Calls Tryd.prog 33 #[.agg #[g]] w (BRes w r)) := by
  obtain ⟨r, hr⟩ := distP_has xss
  exact ⟨r, fun w g _ h => specDist g xss r hr w h, fun w g ht h => implDist g xss r hr w ht h⟩
end Go.Proofs.YtbhobmngnjfgfaaDoor
