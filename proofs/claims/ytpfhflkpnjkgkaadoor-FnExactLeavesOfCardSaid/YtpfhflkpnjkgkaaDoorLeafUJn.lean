import Derived.Test.YtpfhflkpnjkgkaaDoorLeafZJn
import Derived.Test.YtpfhflkpnjkgkaaDoorOnesExJn
import Derived.Test.YtpfhflkpnjkgkaaDoorOtherJn
/-
  'subtreeLeaves' of the program.
-/



namespace Go.Proofs.YtpfhflkpnjkgkaaDoor
open Go.RowKit

theorem sets_snoc' (ms : List Nat) (x : Nat) : sets (ms ++ [x]) = sets ms ++ [.int .u32 (x : Nat)] := by simp [sets]
theorem owns_cut {w : World} {base : Nat} {e : TypeId} {a : Option Addr} {n c : Nat} {xs : List Value} (h : w.ownsRow base e 1 (.slice a n c) n xs) {m : Nat} (hm : m ≤ n) : w.ownsRow base e 1 (.slice a m c) m (xs.take m) := by
  obtain ⟨hl, h⟩ := h
  refine ⟨by simp; omega, ?_⟩
  rcases h with ⟨h1, rfl⟩ | ⟨g, cap, cur, hv, h1, h2, h3, h4, h5, h6⟩
  · obtain rfl : m = 0 := by omega
    exact .inl ⟨h1, rfl⟩
  · obtain ⟨rfl, rfl⟩ : a = some ⟨g, 0, none⟩ ∧ c = cap := by simpa using hv
    refine .inr ⟨g, c, cur, rfl, h1, h2, by omega, h4, h5, ?_⟩
    rw [← h6, List.take_take]
    congr 1
    omega
theorem owns_apart {w : World} {base : Nat} {e1 e2 : TypeId} {v1 v2 : Value} {n1 n2 : Nat} {xs ys : List Value} (h1 : w.ownsRow base e1 1 v1 n1 xs) (h2 : w.ownsRow base e2 1 v2 n2 ys) (he : e1 ≠ e2) : v2.ownBlock = none ∨ v2.ownBlock ≠ v1.ownBlock := by
  cases hv : v2.ownBlock with
  | none => exact .inl rfl
  | some q => exact .inr fun h => owns_unlike h1 h2 he h.symm hv
theorem RdP.fix' {a : Option Addr} {n c : Nat} {ps : List PartD} {w : World} (h : RdP (.slice a n c) ps w) {k : Nat} {p : PartD} (hp : ps[k]? = some p) :
    ∃ b o u, a = some ⟨b, o, none⟩ ∧ ∀ W, Below w.heap.size w W → W.cell? ⟨b, o + k * 3, none⟩ = some (.int .i64 p.1) ∧ W.cell? ⟨b, o + k * 3 + 1, none⟩ = some (.int .i64 p.2.1) ∧ W.cell? ⟨b, o + k * 3 + 2, none⟩ = some u ∧ RdS u p.2.2 W := by
  obtain ⟨b, o, u, rfl, h0, h1, h2, h3⟩ := h.at hp
  have hb := block_lt h0
  exact ⟨b, o, u, rfl, fun W hW => ⟨(hW.cell (p := ⟨b, o + k * 3, none⟩) hb).trans h0, (hW.cell (p := ⟨b, o + k * 3 + 1, none⟩) hb).trans h1, (hW.cell (p := ⟨b, o + k * 3 + 2, none⟩) hb).trans h2, Row.below h3 hW⟩⟩
theorem bitsOf_bitL_size {m : Nat} (h : m < 65536) : (bitL m).length = size m := bitL_length h
theorem mask_full (c : Nat) : maskB c (fun _ => true) = 2 ^ c - 1 := by
  apply Nat.eq_of_testBit_eq
  intro i
  rw [testBit_maskB, Nat.testBit_two_pow_sub_one]
  simp

set_option maxHeartbeats 4000000 in
set_option maxRecDepth 100000 in
theorem subtree_any (L : List PartD) (v : Value) (b : Bool) (hb0 : okLB L = b) (hL : L.length ≤ 1048576) (w : World) (ht : Tab w) (hr : RdP v L w) :
    Calls Tryd.prog 25 #[v] w fun e w' => ∃ u, e = .returned (.tuple #[u, .bool b]) ∧ (b = true → w'.ownsRow w.heap.size 54 1 u L.length (sets (maskL L L.length))) ∧ Below w.heap.size w w' := by
  have hlen := hr.len
  unfold maxLen at hlen
  obtain ⟨a, c, rfl, -⟩ := hr.outer
  obtain ⟨B, hB⟩ : ∃ B, w.heap.size = B := ⟨_, rfl⟩
  have hTB : 0 < B := by rw [← hB]; exact ht.lt
  have HF0 : Hid (∀ k p, L[k]? = some p → ∃ b o u, a = some ⟨b, o, none⟩ ∧ ∀ W, Below B w W → W.cell? ⟨b, o + k * 3, none⟩ = some (.int .i64 p.1) ∧ W.cell? ⟨b, o + k * 3 + 1, none⟩ = some (.int .i64 p.2.1) ∧ W.cell? ⟨b, o + k * 3 + 2, none⟩ = some u ∧ RdS u p.2.2 W) := Lib.hid fun k p hp => hB ▸ RdP.fix' hr hp
  have HNB : Hid (¬ progOk L → b = false) := Lib.hid fun h => hb0.symm.trans (okLB_not h)
  have HYB : Hid (b = true ↔ progOk L) := Lib.hid (by rw [← hb0]; exact okLB_iff)
  obtain ⟨W0, hW0⟩ : ∃ W0, W0 = (w.alloc (.cells #[] 3)).alloc (.cells #[] 54) := ⟨_, rfl⟩
  have oo0 : W0.ownsRow B 3 1 (.slice (some ⟨B, 0, none⟩) 0 0) ([] : List Nat).length (ints (OI [])) := by rw [hW0]; subst hB; exact (World.ownsRow_lit w #[] 0 (Nat.le_refl _) (by simp [maxLen]) rfl).alloc _
  have ol0 : W0.ownsRow B 54 1 (.slice (some ⟨B + 1, 0, none⟩) 0 0) 0 (sets (maskL L 0)) := by
    rw [hW0]; subst hB
    have := World.ownsRow_lit (base := w.heap.size) (e := 54) (size := 1) (w.alloc (.cells #[] 3)) #[] 0 (by simp) (by simp [maxLen]) rfl
    rw [show sets (maskL L 0) = [] from rfl]
    simpa using this
  have hb0' : Below B w W0 := by rw [hW0]; subst hB; exact (below_alloc' _ _).alloc (by simp) _
  have hd0 : Hid (disN L 0) := Lib.hid (fun i p hi => by omega)
  have hf0 : Hid (fallN L 0) := Lib.hid (fun i p hi => by omega)
  have hr0 : Hid (runO L 0 = some []) := Lib.hid rfl
  clear hb0 hr
  go_enter Tryd.func25, Tryd.ntmps25
  go_wp2_with fail
  rw [← hW0]
  clear hW0
  go_loopw [4, 5, 16] (fun uo ul i wr => ∃ (k : Nat) (O : List Nat), k ≤ L.length ∧ Hid (runO L k = some O) ∧ Hid (disN L k) ∧ Hid (fallN L k) ∧ wr.ownsRow B 3 1 uo O.length (ints (OI O)) ∧ wr.ownsRow B 54 1 ul k (sets (maskL L k)) ∧ i = .int .i64 k ∧ Below B w wr) (fun _ _ i _ => L.length - (intOf i).toNat)
  case atStart => exact ⟨0, [], Nat.zero_le _, hr0, hd0, hf0, oo0, ol0, rfl, hb0'⟩
  case round =>
    clear hr0 hd0 hf0 oo0 ol0 hb0'
    obtain ⟨k, O, hk, HRN, HDN, HFN, oo, ol, rfl, hb⟩ := hrel
    have hOk := run_len L k O HRN.out
    have hsz : B ≤ wr.heap.size := by have := hb.size; omega
    by_cases hlt : k < L.length
    · obtain ⟨p, hp⟩ : ∃ p, L[k]? = some p := ⟨_, List.getElem?_eq_getElem hlt⟩
      obtain ⟨pb, po, u, rfl, hcells⟩ := HF0.out k p hp
      have HP := Lib.hid hp
      obtain ⟨kd, vx, ks⟩ := p
      obtain ⟨hc0, hc1, hc2, hru⟩ := hcells wr hb
      dsimp only at hc0 hc1 hc2 hru
      obtain ⟨W1, hW1⟩ : ∃ W, W = wr.alloc (.cells #[.int .i64 kd, .int .i64 vx, u] 48) := ⟨_, rfl⟩
      obtain ⟨S, hS⟩ : ∃ S, wr.heap.size = S := ⟨_, rfl⟩
      have hz1 : W1.heap.size = S + 1 := by rw [hW1]; simp [hS]
      have hb1 : Below B w W1 := by rw [hW1]; exact hb.alloc hsz _
      have hru1 : RdS u ks W1 := (hcells W1 hb1).2.2.2
      have oo1 : W1.ownsRow B 3 1 u4 O.length (ints (OI O)) := by rw [hW1]; exact oo.alloc _
      have ol1 : W1.ownsRow B 54 1 u5 k (sets (maskL L k)) := by rw [hW1]; exact ol.alloc _
      have V1 : VC 48 S #[.int .i64 kd, .int .i64 vx, u] W1 := by rw [hW1]; exact VC.new hS
      obtain ⟨d0, d1, d2⟩ := V1.at3
      rw [hW1] at d0 d1 d2
      have HW1 := Lib.hid hW1
      have HV1 := Lib.hid V1
      have hmlen := maskL_length L k
      obtain ⟨ka, kc, rfl, -, -, -⟩ := id hru
      have hkl := hru.len
      unfold maxLen at hkl
      have HCE := Lib.hid hcells
      clear hp hcells hW1 V1 oo ol hru
      by_cases hk1 : kd = 1
      · subst hk1
        obtain ⟨bi, hbi⟩ : ∃ b, decide (0 ≤ vx ∧ vx ≤ 15) = b := ⟨_, rfl⟩
        have HI := fun W => Lib.hid (inRange_is vx 0 15 bi hbi W)
        have hnn : ¬ nodeOk (1, vx, ks) := fun h => by have := h.1; simp at this
        cases bi with
        | false =>
          have hbf := HNB.out (bad_shape hlt HP.out (fun h => by have h2 := h.2.2; rw [decide_eq_false_iff_not] at hbi; exact hbi h2) hnn)
          subst hbf
          clear hbi oo1 ol1 hru1
          go_wp2_with fail
          refine (HI _).out.mono ?_
          rintro e1 w1 ⟨rfl, rfl⟩
          go_wp2_with fail
          refine bodyPost_ret (v := .tuple #[.slice none 0 0, .bool false]) (by simp [results, Tryd.results25, go_sem]) rfl ?_
          first | exact ⟨.slice none 0 0, rfl, fun h => (by cases h), by rw [hB, ← HW1.out]; exact hb1⟩ | exact ⟨⟨_, rfl⟩, by first | exact hb1 | (rw [← HW1.out]; exact hb1)⟩
        | true =>
          by_cases hk0 : 0 < ks.length
          · have hbf := HNB.out (bad_shape hlt HP.out (fun h => by have := h.2.1; simp at this; subst this; simp at hk0) hnn)
            subst hbf
            have hki : ((0 : Int) < ks.length) := by omega
            clear hbi oo1 ol1 hru1
            go_wp2_with fail
            refine (HI _).out.mono ?_
            rintro e1 w1 ⟨rfl, rfl⟩
            go_wp2_with fail
            refine bodyPost_ret (v := .tuple #[.slice none 0 0, .bool false]) (by simp [results, Tryd.results25, go_sem]) rfl ?_
            first | exact ⟨.slice none 0 0, rfl, fun h => (by cases h), by rw [hB, ← HW1.out]; exact hb1⟩ | exact ⟨⟨_, rfl⟩, by first | exact hb1 | (rw [← HW1.out]; exact hb1)⟩
          · have hks : ks = [] := List.length_eq_zero_iff.1 (by omega)
            subst hks
            rw [decide_eq_true_eq] at hbi
            obtain ⟨x, hx⟩ : ∃ x : Nat, vx = (x : Int) := ⟨vx.toNat, by omega⟩
            subst hx
            have hlf : leafOk (1, (x : Int), []) := ⟨rfl, rfl, by simpa using hbi⟩
            have hx16 : x < 16 := by omega
            obtain ⟨t1, t2, t3, t4⟩ := leaf_step HRN.out HP.out hlf HDN.out HFN.out
            rw [Int.toNat_natCast] at t4
            obtain ⟨sv, hsv⟩ : ∃ sv, sv = 2 ^ x := ⟨_, rfl⟩
            have HO1 := fun W => Lib.hid (one_any (x : Int) x rfl (by omega) W)
            rw [← hsv] at HO1 t4
            have HR := Lib.hid t1
            have HD := Lib.hid t2
            have HF := Lib.hid t3
            have HM : Hid (sv = msk L k) := Lib.hid t4.symm
            have HWX : Hid (W1 = wr.alloc (.cells #[.int .i64 1, .int .i64 (x : Int), .slice ka 0 kc] 48)) := Lib.hid HW1.out
            have HSX : Hid (S + 1 = W1.heap.size) := Lib.hid hz1.symm
            have hki : ¬ ((0 : Int) < (([] : List Int).length : Int)) := by simp
            have hb := hb1
            have oo := oo1
            have ol := ol1
            clear hbi hsv t1 t2 t3 t4 oo1 ol1 hru1 hb1
            go_wp2_with fail
            refine (HI _).out.mono ?_
            rintro e1 w1 ⟨rfl, rfl⟩
            go_wp2_with fail
            refine (HO1 _).out.mono ?_
            rintro e1 w1 ⟨rfl, rfl⟩
            obtain ⟨oa, oc, rfl⟩ := owns_shape oo
            obtain ⟨la, lc, rfl⟩ := owns_shape ol
            have hne := owns_apart oo ol (by decide)
            have HNE := Lib.hid hne
            have hzx : B ≤ W1.heap.size := by have := hb.size; omega
            have HOO := Lib.hid oo
            have HOL := Lib.hid ol
            have HBX := Lib.hid hb
            clear oo ol hne hb
            go_wp2_with (first
              | (at_builtin; ((try rw [← HWX.out]); refine wpList_push_at W1 rfl _ _ 77 rfl B 3 _ _ 8 Tryd.underlying77 infoN rfl (.slice oa O.length oc) O.length (ints (OI O)) rfl HOO.out (S + 1) HSX.out (.int .i64 (k : Int)) rfl rfl (by unfold maxLen; omega) (by omega) (by omega) ?_; intro g5 d5 wa hoa hga; have HOA := Lib.hid hoa; have hola := HOL.out.kept hga HNE.out; have HOLA := Lib.hid hola; have hba := HBX.out.grown hga hzx (fun y hy => (owns_lt HOO.out hy).1); have HBA := Lib.hid hba; have HNA := Lib.hid (owns_apart hoa hola (by decide)); have HGA := Lib.hid (owns_apart hola hoa (by decide)); have hza : B ≤ wa.heap.size := (by have := hba.size; omega); clear hoa hga hola hba))
              | (at_builtin; refine wpList_push wa rfl _ _ 50 rfl B 54 _ _ 4 Tryd.underlying50 infoV rfl (.slice la k lc) k (sets (maskL L k)) rfl HOLA.out (.int .u32 (sv : Nat)) rfl rfl (by unfold maxLen; omega) (by omega) (by omega) ?_; intro g6 d6 wb hob hgb))
            have ho2 := HOA.out.kept hgb HGA.out
            have hb2 := HBA.out.grown hgb hza (fun y hy => (owns_lt HOLA.out hy).1)
            have ho3 : wb.ownsRow B 3 1 (.slice (some ⟨g5, 0, none⟩) (O.length + 1) d5) (k :: O).length (ints (OI (k :: O))) := by
              rw [OI_cons, ints_snoc, List.length_cons]
              first
                | exact ho2
                | (rw [HO2L.out]; exact ho2)
            have ho4 : wb.ownsRow B 54 1 (.slice (some ⟨g6, 0, none⟩) (k + 1) d6) (k + 1) (sets (maskL L (k + 1))) := by
              rw [maskL_succ, sets_snoc', ← HM.out]
              exact hob
            clear hob hgb ho2
            go_roundw
            case rel => exact ⟨k + 1, k :: O, by omega, HR, HD, HF, ho3, ho4, by go_num, hb2⟩
            case measure => simp [intOf]; omega
      · by_cases hk24 : kd = 2 ∨ kd = 3 ∨ kd = 4
        · rcases hk24 with rfl | rfl | rfl
          · have hnl : ¬ leafOk (2, vx, ks) := fun h => by have := h.1; simp at this
            obtain ⟨oa, oc, rfl⟩ := owns_shape oo1
            obtain ⟨la, lc, rfl⟩ := owns_shape ol1
            by_cases hv0 : vx = 0
            · subst hv0
              have hvb : ((0 : Int) != 0) = false := rfl
              obtain ⟨bg, HBG⟩ : ∃ bg : Bool, Hid (bg = true ↔ GoodK ks (OI O) (maskL L k)) := ⟨@decide _ (Classical.propDecidable _), Lib.hid (@decide_eq_true_iff _ (Classical.propDecidable _))⟩
              have hro : RdS (.slice oa O.length oc) (OI O) W1 := by have := Row.of_owns oo1; unfold RdS; rwa [OI_length]
              have hrl : Row W1 1 (.slice la k lc) (maskL L k).length (sets (maskL L k)) := by rw [hmlen]; exact Row.of_owns ol1
              have HGK := Lib.hid (goodKids_any (.slice ka ks.length kc) _ _ ks (OI O) (maskL L k) bg HBG.out W1 (ht.keep hb1 hTB) hru1 hro hrl (OI_mem HRN.out) (mask_mem HRN.out))
              clear hro hrl hb
              go_wp2_with fail
              rw [← HW1.out]
              refine HGK.out.mono ?_
              rintro e2 w2 ⟨rfl, hb2⟩
              have hb := hb1.trans (hb2.mono (by omega))
              have oo2 := owns_below oo1 hb2
              have ol2 := owns_below ol1 hb2
              have V2 := HV1.out.upd (Upd.of_below hb2) (by omega)
              obtain ⟨e0, e1, e2⟩ := V2.at3
              have hru2 := RdS.below hru1 hb2 rfl
              clear HGK hb2 oo1 ol1 hru1 hb1 d0 d1 d2 hc0 hc1 hc2
              cases bg with
              | false =>
                have hbf := HNB.out (bad_good HRN.out hlt HP.out hnl (fun h => by have := HBG.out.2 h; cases this))
                subst hbf
                go_wp2_with fail
                refine bodyPost_ret (v := .tuple #[.slice none 0 0, .bool false]) (by simp [results, Tryd.results25, go_sem]) rfl ?_
                first | exact ⟨.slice none 0 0, rfl, fun h => (by cases h), by rw [hB]; exact hb⟩ | exact ⟨⟨_, rfl⟩, by first | exact hb | (rw [← HW1.out]; exact hb)⟩
              | true =>
                have HG := Lib.hid (HBG.out.1 rfl)
                have hg1 := HG.out.1
                have hg2 := HG.out.2.1
                rw [OI_length] at hg2
                obtain ⟨og, oc', hoe⟩ := owns_head oo2 (by omega)
                obtain ⟨rfl, rfl⟩ : oa = some ⟨og, 0, none⟩ ∧ oc = oc' := by simpa using hoe
                obtain ⟨_, _, hoe2, hoc, -, -⟩ := Row.of_owns oo2
                obtain ⟨-, rfl⟩ : _ ∧ oc = _ := by simpa using hoe2
                clear hoe hoe2
                have hm0 : Hid (0 = mor (kidM L (2, 0, ks) 0)) := Lib.hid (by simp [kidM, mor])
                have hdz : Hid (disR (kidM L (2, 0, ks) 0)) := Lib.hid (by simp [kidM, disR])
                have HOO2 := Lib.hid oo2
                have HB2 := Lib.hid hb
                have HRU2 := Lib.hid hru2
                have hrl2 : Row w2 1 (.slice la k lc) (maskL L k).length (sets (maskL L k)) := by rw [hmlen]; exact Row.of_owns ol2
                have HRL2 := Lib.hid hrl2
                have HOL2 := Lib.hid ol2
                clear oo2 hb hru2 ol2 hrl2
                go_wp2_with fail
                go_loopw [8, 56] (fun s i wx => ∃ j m : Nat, j ≤ ks.length ∧ i = .int .i64 j ∧ s = .int .u32 m ∧ Hid (m = mor (kidM L (2, 0, ks) j)) ∧ Hid (disR (kidM L (2, 0, ks) j)) ∧ m < 65536 ∧ wx = w2) (fun _ i _ => ks.length - (intOf i).toNat)
                case atStart => exact ⟨0, 0, Nat.zero_le _, rfl, rfl, hm0, hdz, by decide, rfl⟩
                case round =>
                  clear hm0 hdz
                  obtain ⟨j, m, hj, rfl, rfl, HMJ, HDJ, hm16, rfl⟩ := hrel
                  by_cases hjl : j < ks.length
                  · obtain ⟨yb, yo, y, rfl, hcy, HY⟩ := HRU2.out.intAt hjl
                    obtain ⟨r, rfl, hrk⟩ := kid_lt (p := (2, 0, ks)) HRN.out HG.out y (List.mem_of_getElem? HY.out)
                    obtain ⟨gb, go, x, rfl, hcx, HX⟩ := HRL2.out.setAt (j := r) (by rw [hmlen]; exact hrk)
                    have hxe : x = msk L r := by have h1 := HX.out; rw [mask_at hrk] at h1; exact (Option.some.inj h1).symm
                    have hx16 : x < 65536 := by rw [hxe]; exact msk_lt L r
                    have HKS : Hid (kidM L (2, 0, ks) (j + 1) = x :: kidM L (2, 0, ks) j) := Lib.hid (by rw [hxe]; exact kidM_succ HY.out)
                    obtain ⟨q, hq⟩ : ∃ q, m &&& x = q := ⟨_, rfl⟩
                    have hand : bits BinOp.and IntKind.u32 (m : Int) (x : Int) = (q : Int) := by rw [← hq]; exact u32_and_nat _ _ (by omega) (by omega)
                    obtain ⟨z, hz⟩ : ∃ z, m ||| x = z := ⟨_, rfl⟩
                    have hor : bits BinOp.or IntKind.u32 (m : Int) (x : Int) = (z : Int) := by rw [← hz]; exact bits_or (by omega) (by omega)
                    have hz16 : z < 65536 := by rw [← hz]; exact Nat.or_lt_two_pow (n := 16) hm16 hx16
                    have HQ := Lib.hid hq
                    have HZ := Lib.hid hz
                    clear hxe hq hz
                    by_cases hq0 : q = 0
                    · have hqb : ((q : Int) != 0) = false := by rw [hq0]; rfl
                      have HD2 : Hid (disR (kidM L (2, 0, ks) (j + 1))) := Lib.hid (by rw [HKS.out]; exact ⟨HDJ.out, by rw [← HMJ.out, HQ.out]; exact hq0⟩)
                      have HM2 : Hid (z = mor (kidM L (2, 0, ks) (j + 1))) := Lib.hid (by rw [HKS.out]; unfold mor; rw [← HMJ.out, HZ.out])
                      clear hq0
                      go_wp2_with fail
                      go_roundw
                      case rel => exact ⟨j + 1, z, by omega, by go_num, rfl, HM2, HD2, hz16, by first | rfl | trivial⟩
                      case measure => simp [intOf]; omega
                    · have hqb : ((q : Int) != 0) = true := by rw [bne_iff_ne]; omega
                      have hbf := HNB.out (bad_dis hlt HP.out hnl (fun h => by
                        have h2 := kidM_dis (j + 1) h
                        rw [HKS.out] at h2
                        have h3 := h2.2
                        rw [← HMJ.out, HQ.out] at h3
                        exact hq0 h3))
                      subst hbf
                      go_wp2_with fail
                      refine bodyPost_ret (v := .tuple #[.slice none 0 0, .bool false]) (by simp [results, Tryd.results25, go_sem]) rfl ?_
                      first | exact ⟨.slice none 0 0, rfl, fun h => (by cases h), by rw [hB]; exact HB2.out⟩ | exact ⟨⟨_, rfl⟩, by first | exact HB2.out | (rw [← HW1.out]; exact HB2.out)⟩
                  · obtain rfl : j = ks.length := by omega
                    have hka := kidM_all L (2, 0, ks)
                    have hx : disR (((2, 0, ks) : PartD).2.2.reverse.map fun c => msk L c.toNat) := by rw [← hka]; exact HDJ.out
                    obtain ⟨t1, t2, t3, t4⟩ := node_step HRN.out HP.out hnl ⟨by show (2 : Int) ≤ 2; omega, by show (2 : Int) ≤ 4; omega, rfl⟩ HG.out hx HDN.out HFN.out
                    have HR := Lib.hid t1
                    have HD := Lib.hid t2
                    have HF := Lib.hid t3
                    have HM : Hid (m = msk L k) := Lib.hid (by rw [t4, HMJ.out, hka])
                    obtain ⟨M, hM⟩ : ∃ M, O.length - ks.length = M := ⟨_, rfl⟩
                    have hMi : (O.length : Int) - (ks.length : Int) = (M : Int) := by omega
                    have hMO : M ≤ O.length := by omega
                    have hMc : M ≤ oc := by omega
                    have hoc0 : ¬ oc = 0 := by omega
                    have HO2L : Hid ((O.drop ks.length).length = M) := Lib.hid (by simp [hM])
                    have oo := owns_cut HOO2.out hMO
                    have hOD : (ints (OI O)).take M = ints (OI (O.drop ks.length)) := by
                      rw [OI_drop, hM]
                      simp [ints, List.map_take]
                    rw [hOD] at oo
                    have ol := HOL2.out
                    have hb := HB2.out
                    clear hka hx t1 t2 t3 t4 hM hOD
                    have hne := owns_apart oo ol (by decide)
                    have HNE := Lib.hid hne
                    have hzx : B ≤ wr.heap.size := by have := hb.size; omega
                    have HOO := Lib.hid oo
                    have HOL := Lib.hid ol
                    have HBX := Lib.hid hb
                    clear oo ol hne hb
                    go_wp2_with (first
                      | (at_builtin; ((try rw [← HWX.out]); refine wpList_push_at wr rfl _ _ 77 rfl B 3 _ _ 8 Tryd.underlying77 infoN rfl (.slice (some ⟨og, 0, none⟩) M oc) M (ints (OI (O.drop ks.length))) rfl HOO.out wr.heap.size rfl (.int .i64 (k : Int)) rfl rfl (by unfold maxLen; omega) (by omega) (by omega) ?_; intro g5 d5 wa hoa hga; have HOA := Lib.hid hoa; have hola := HOL.out.kept hga HNE.out; have HOLA := Lib.hid hola; have hba := HBX.out.grown hga hzx (fun y hy => (owns_lt HOO.out hy).1); have HBA := Lib.hid hba; have HNA := Lib.hid (owns_apart hoa hola (by decide)); have HGA := Lib.hid (owns_apart hola hoa (by decide)); have hza : B ≤ wa.heap.size := (by have := hba.size; omega); clear hoa hga hola hba))
                      | (at_builtin; refine wpList_push wa rfl _ _ 50 rfl B 54 _ _ 4 Tryd.underlying50 infoV rfl (.slice la k lc) k (sets (maskL L k)) rfl HOLA.out (.int .u32 (m : Nat)) rfl rfl (by unfold maxLen; omega) (by omega) (by omega) ?_; intro g6 d6 wb hob hgb))
                    have ho2 := HOA.out.kept hgb HGA.out
                    have hb2 := HBA.out.grown hgb hza (fun y hy => (owns_lt HOLA.out hy).1)
                    have ho3 : wb.ownsRow B 3 1 (.slice (some ⟨g5, 0, none⟩) (M + 1) d5) (k :: (O.drop ks.length)).length (ints (OI (k :: (O.drop ks.length)))) := by
                      rw [OI_cons, ints_snoc, List.length_cons]
                      first
                        | exact ho2
                        | (rw [HO2L.out]; exact ho2)
                    have ho4 : wb.ownsRow B 54 1 (.slice (some ⟨g6, 0, none⟩) (k + 1) d6) (k + 1) (sets (maskL L (k + 1))) := by
                      rw [maskL_succ, sets_snoc', ← HM.out]
                      exact hob
                    clear hob hgb ho2
                    go_roundw
                    case rel => exact ⟨k + 1, k :: (O.drop ks.length), by omega, HR, HD, HF, ho3, ho4, by go_num, hb2⟩
                    case measure => simp [intOf]; omega
            · have hvb : (vx != 0) = true := by rw [bne_iff_ne]; exact hv0
              have hbf := HNB.out (bad_shape hlt HP.out hnl (fun h => hv0 h.2.2.1))
              subst hbf
              clear oo1 ol1 hru1
              go_wp2_with fail
              refine bodyPost_ret (v := .tuple #[.slice none 0 0, .bool false]) (by simp [results, Tryd.results25, go_sem]) rfl ?_
              first | exact ⟨.slice none 0 0, rfl, fun h => (by cases h), by rw [hB, ← HW1.out]; exact hb1⟩ | exact ⟨⟨_, rfl⟩, by first | exact hb1 | (rw [← HW1.out]; exact hb1)⟩
          · have hnl : ¬ leafOk (3, vx, ks) := fun h => by have := h.1; simp at this
            obtain ⟨oa, oc, rfl⟩ := owns_shape oo1
            obtain ⟨la, lc, rfl⟩ := owns_shape ol1
            by_cases hv0 : vx = 0
            · subst hv0
              have hvb : ((0 : Int) != 0) = false := rfl
              obtain ⟨bg, HBG⟩ : ∃ bg : Bool, Hid (bg = true ↔ GoodK ks (OI O) (maskL L k)) := ⟨@decide _ (Classical.propDecidable _), Lib.hid (@decide_eq_true_iff _ (Classical.propDecidable _))⟩
              have hro : RdS (.slice oa O.length oc) (OI O) W1 := by have := Row.of_owns oo1; unfold RdS; rwa [OI_length]
              have hrl : Row W1 1 (.slice la k lc) (maskL L k).length (sets (maskL L k)) := by rw [hmlen]; exact Row.of_owns ol1
              have HGK := Lib.hid (goodKids_any (.slice ka ks.length kc) _ _ ks (OI O) (maskL L k) bg HBG.out W1 (ht.keep hb1 hTB) hru1 hro hrl (OI_mem HRN.out) (mask_mem HRN.out))
              clear hro hrl hb
              go_wp2_with fail
              rw [← HW1.out]
              refine HGK.out.mono ?_
              rintro e2 w2 ⟨rfl, hb2⟩
              have hb := hb1.trans (hb2.mono (by omega))
              have oo2 := owns_below oo1 hb2
              have ol2 := owns_below ol1 hb2
              have V2 := HV1.out.upd (Upd.of_below hb2) (by omega)
              obtain ⟨e0, e1, e2⟩ := V2.at3
              have hru2 := RdS.below hru1 hb2 rfl
              clear HGK hb2 oo1 ol1 hru1 hb1 d0 d1 d2 hc0 hc1 hc2
              cases bg with
              | false =>
                have hbf := HNB.out (bad_good HRN.out hlt HP.out hnl (fun h => by have := HBG.out.2 h; cases this))
                subst hbf
                go_wp2_with fail
                refine bodyPost_ret (v := .tuple #[.slice none 0 0, .bool false]) (by simp [results, Tryd.results25, go_sem]) rfl ?_
                first | exact ⟨.slice none 0 0, rfl, fun h => (by cases h), by rw [hB]; exact hb⟩ | exact ⟨⟨_, rfl⟩, by first | exact hb | (rw [← HW1.out]; exact hb)⟩
              | true =>
                have HG := Lib.hid (HBG.out.1 rfl)
                have hg1 := HG.out.1
                have hg2 := HG.out.2.1
                rw [OI_length] at hg2
                obtain ⟨og, oc', hoe⟩ := owns_head oo2 (by omega)
                obtain ⟨rfl, rfl⟩ : oa = some ⟨og, 0, none⟩ ∧ oc = oc' := by simpa using hoe
                obtain ⟨_, _, hoe2, hoc, -, -⟩ := Row.of_owns oo2
                obtain ⟨-, rfl⟩ : _ ∧ oc = _ := by simpa using hoe2
                clear hoe hoe2
                have hm0 : Hid (0 = mor (kidM L (3, 0, ks) 0)) := Lib.hid (by simp [kidM, mor])
                have hdz : Hid (disR (kidM L (3, 0, ks) 0)) := Lib.hid (by simp [kidM, disR])
                have HOO2 := Lib.hid oo2
                have HB2 := Lib.hid hb
                have HRU2 := Lib.hid hru2
                have hrl2 : Row w2 1 (.slice la k lc) (maskL L k).length (sets (maskL L k)) := by rw [hmlen]; exact Row.of_owns ol2
                have HRL2 := Lib.hid hrl2
                have HOL2 := Lib.hid ol2
                clear oo2 hb hru2 ol2 hrl2
                go_wp2_with fail
                go_loopw [8, 56] (fun s i wx => ∃ j m : Nat, j ≤ ks.length ∧ i = .int .i64 j ∧ s = .int .u32 m ∧ Hid (m = mor (kidM L (3, 0, ks) j)) ∧ Hid (disR (kidM L (3, 0, ks) j)) ∧ m < 65536 ∧ wx = w2) (fun _ i _ => ks.length - (intOf i).toNat)
                case atStart => exact ⟨0, 0, Nat.zero_le _, rfl, rfl, hm0, hdz, by decide, rfl⟩
                case round =>
                  clear hm0 hdz
                  obtain ⟨j, m, hj, rfl, rfl, HMJ, HDJ, hm16, rfl⟩ := hrel
                  by_cases hjl : j < ks.length
                  · obtain ⟨yb, yo, y, rfl, hcy, HY⟩ := HRU2.out.intAt hjl
                    obtain ⟨r, rfl, hrk⟩ := kid_lt (p := (3, 0, ks)) HRN.out HG.out y (List.mem_of_getElem? HY.out)
                    obtain ⟨gb, go, x, rfl, hcx, HX⟩ := HRL2.out.setAt (j := r) (by rw [hmlen]; exact hrk)
                    have hxe : x = msk L r := by have h1 := HX.out; rw [mask_at hrk] at h1; exact (Option.some.inj h1).symm
                    have hx16 : x < 65536 := by rw [hxe]; exact msk_lt L r
                    have HKS : Hid (kidM L (3, 0, ks) (j + 1) = x :: kidM L (3, 0, ks) j) := Lib.hid (by rw [hxe]; exact kidM_succ HY.out)
                    obtain ⟨q, hq⟩ : ∃ q, m &&& x = q := ⟨_, rfl⟩
                    have hand : bits BinOp.and IntKind.u32 (m : Int) (x : Int) = (q : Int) := by rw [← hq]; exact u32_and_nat _ _ (by omega) (by omega)
                    obtain ⟨z, hz⟩ : ∃ z, m ||| x = z := ⟨_, rfl⟩
                    have hor : bits BinOp.or IntKind.u32 (m : Int) (x : Int) = (z : Int) := by rw [← hz]; exact bits_or (by omega) (by omega)
                    have hz16 : z < 65536 := by rw [← hz]; exact Nat.or_lt_two_pow (n := 16) hm16 hx16
                    have HQ := Lib.hid hq
                    have HZ := Lib.hid hz
                    clear hxe hq hz
                    by_cases hq0 : q = 0
                    · have hqb : ((q : Int) != 0) = false := by rw [hq0]; rfl
                      have HD2 : Hid (disR (kidM L (3, 0, ks) (j + 1))) := Lib.hid (by rw [HKS.out]; exact ⟨HDJ.out, by rw [← HMJ.out, HQ.out]; exact hq0⟩)
                      have HM2 : Hid (z = mor (kidM L (3, 0, ks) (j + 1))) := Lib.hid (by rw [HKS.out]; unfold mor; rw [← HMJ.out, HZ.out])
                      clear hq0
                      go_wp2_with fail
                      go_roundw
                      case rel => exact ⟨j + 1, z, by omega, by go_num, rfl, HM2, HD2, hz16, by first | rfl | trivial⟩
                      case measure => simp [intOf]; omega
                    · have hqb : ((q : Int) != 0) = true := by rw [bne_iff_ne]; omega
                      have hbf := HNB.out (bad_dis hlt HP.out hnl (fun h => by
                        have h2 := kidM_dis (j + 1) h
                        rw [HKS.out] at h2
                        have h3 := h2.2
                        rw [← HMJ.out, HQ.out] at h3
                        exact hq0 h3))
                      subst hbf
                      go_wp2_with fail
                      refine bodyPost_ret (v := .tuple #[.slice none 0 0, .bool false]) (by simp [results, Tryd.results25, go_sem]) rfl ?_
                      first | exact ⟨.slice none 0 0, rfl, fun h => (by cases h), by rw [hB]; exact HB2.out⟩ | exact ⟨⟨_, rfl⟩, by first | exact HB2.out | (rw [← HW1.out]; exact HB2.out)⟩
                  · obtain rfl : j = ks.length := by omega
                    have hka := kidM_all L (3, 0, ks)
                    have hx : disR (((3, 0, ks) : PartD).2.2.reverse.map fun c => msk L c.toNat) := by rw [← hka]; exact HDJ.out
                    obtain ⟨t1, t2, t3, t4⟩ := node_step HRN.out HP.out hnl ⟨by show (2 : Int) ≤ 3; omega, by show (3 : Int) ≤ 4; omega, rfl⟩ HG.out hx HDN.out HFN.out
                    have HR := Lib.hid t1
                    have HD := Lib.hid t2
                    have HF := Lib.hid t3
                    have HM : Hid (m = msk L k) := Lib.hid (by rw [t4, HMJ.out, hka])
                    obtain ⟨M, hM⟩ : ∃ M, O.length - ks.length = M := ⟨_, rfl⟩
                    have hMi : (O.length : Int) - (ks.length : Int) = (M : Int) := by omega
                    have hMO : M ≤ O.length := by omega
                    have hMc : M ≤ oc := by omega
                    have hoc0 : ¬ oc = 0 := by omega
                    have HO2L : Hid ((O.drop ks.length).length = M) := Lib.hid (by simp [hM])
                    have oo := owns_cut HOO2.out hMO
                    have hOD : (ints (OI O)).take M = ints (OI (O.drop ks.length)) := by
                      rw [OI_drop, hM]
                      simp [ints, List.map_take]
                    rw [hOD] at oo
                    have ol := HOL2.out
                    have hb := HB2.out
                    clear hka hx t1 t2 t3 t4 hM hOD
                    have hne := owns_apart oo ol (by decide)
                    have HNE := Lib.hid hne
                    have hzx : B ≤ wr.heap.size := by have := hb.size; omega
                    have HOO := Lib.hid oo
                    have HOL := Lib.hid ol
                    have HBX := Lib.hid hb
                    clear oo ol hne hb
                    go_wp2_with (first
                      | (at_builtin; ((try rw [← HWX.out]); refine wpList_push_at wr rfl _ _ 77 rfl B 3 _ _ 8 Tryd.underlying77 infoN rfl (.slice (some ⟨og, 0, none⟩) M oc) M (ints (OI (O.drop ks.length))) rfl HOO.out wr.heap.size rfl (.int .i64 (k : Int)) rfl rfl (by unfold maxLen; omega) (by omega) (by omega) ?_; intro g5 d5 wa hoa hga; have HOA := Lib.hid hoa; have hola := HOL.out.kept hga HNE.out; have HOLA := Lib.hid hola; have hba := HBX.out.grown hga hzx (fun y hy => (owns_lt HOO.out hy).1); have HBA := Lib.hid hba; have HNA := Lib.hid (owns_apart hoa hola (by decide)); have HGA := Lib.hid (owns_apart hola hoa (by decide)); have hza : B ≤ wa.heap.size := (by have := hba.size; omega); clear hoa hga hola hba))
                      | (at_builtin; refine wpList_push wa rfl _ _ 50 rfl B 54 _ _ 4 Tryd.underlying50 infoV rfl (.slice la k lc) k (sets (maskL L k)) rfl HOLA.out (.int .u32 (m : Nat)) rfl rfl (by unfold maxLen; omega) (by omega) (by omega) ?_; intro g6 d6 wb hob hgb))
                    have ho2 := HOA.out.kept hgb HGA.out
                    have hb2 := HBA.out.grown hgb hza (fun y hy => (owns_lt HOLA.out hy).1)
                    have ho3 : wb.ownsRow B 3 1 (.slice (some ⟨g5, 0, none⟩) (M + 1) d5) (k :: (O.drop ks.length)).length (ints (OI (k :: (O.drop ks.length)))) := by
                      rw [OI_cons, ints_snoc, List.length_cons]
                      first
                        | exact ho2
                        | (rw [HO2L.out]; exact ho2)
                    have ho4 : wb.ownsRow B 54 1 (.slice (some ⟨g6, 0, none⟩) (k + 1) d6) (k + 1) (sets (maskL L (k + 1))) := by
                      rw [maskL_succ, sets_snoc', ← HM.out]
                      exact hob
                    clear hob hgb ho2
                    go_roundw
                    case rel => exact ⟨k + 1, k :: (O.drop ks.length), by omega, HR, HD, HF, ho3, ho4, by go_num, hb2⟩
                    case measure => simp [intOf]; omega
            · have hvb : (vx != 0) = true := by rw [bne_iff_ne]; exact hv0
              have hbf := HNB.out (bad_shape hlt HP.out hnl (fun h => hv0 h.2.2.1))
              subst hbf
              clear oo1 ol1 hru1
              go_wp2_with fail
              refine bodyPost_ret (v := .tuple #[.slice none 0 0, .bool false]) (by simp [results, Tryd.results25, go_sem]) rfl ?_
              first | exact ⟨.slice none 0 0, rfl, fun h => (by cases h), by rw [hB, ← HW1.out]; exact hb1⟩ | exact ⟨⟨_, rfl⟩, by first | exact hb1 | (rw [← HW1.out]; exact hb1)⟩
          · have hnl : ¬ leafOk (4, vx, ks) := fun h => by have := h.1; simp at this
            obtain ⟨oa, oc, rfl⟩ := owns_shape oo1
            obtain ⟨la, lc, rfl⟩ := owns_shape ol1
            by_cases hv0 : vx = 0
            · subst hv0
              have hvb : ((0 : Int) != 0) = false := rfl
              obtain ⟨bg, HBG⟩ : ∃ bg : Bool, Hid (bg = true ↔ GoodK ks (OI O) (maskL L k)) := ⟨@decide _ (Classical.propDecidable _), Lib.hid (@decide_eq_true_iff _ (Classical.propDecidable _))⟩
              have hro : RdS (.slice oa O.length oc) (OI O) W1 := by have := Row.of_owns oo1; unfold RdS; rwa [OI_length]
              have hrl : Row W1 1 (.slice la k lc) (maskL L k).length (sets (maskL L k)) := by rw [hmlen]; exact Row.of_owns ol1
              have HGK := Lib.hid (goodKids_any (.slice ka ks.length kc) _ _ ks (OI O) (maskL L k) bg HBG.out W1 (ht.keep hb1 hTB) hru1 hro hrl (OI_mem HRN.out) (mask_mem HRN.out))
              clear hro hrl hb
              go_wp2_with fail
              rw [← HW1.out]
              refine HGK.out.mono ?_
              rintro e2 w2 ⟨rfl, hb2⟩
              have hb := hb1.trans (hb2.mono (by omega))
              have oo2 := owns_below oo1 hb2
              have ol2 := owns_below ol1 hb2
              have V2 := HV1.out.upd (Upd.of_below hb2) (by omega)
              obtain ⟨e0, e1, e2⟩ := V2.at3
              have hru2 := RdS.below hru1 hb2 rfl
              clear HGK hb2 oo1 ol1 hru1 hb1 d0 d1 d2 hc0 hc1 hc2
              cases bg with
              | false =>
                have hbf := HNB.out (bad_good HRN.out hlt HP.out hnl (fun h => by have := HBG.out.2 h; cases this))
                subst hbf
                go_wp2_with fail
                refine bodyPost_ret (v := .tuple #[.slice none 0 0, .bool false]) (by simp [results, Tryd.results25, go_sem]) rfl ?_
                first | exact ⟨.slice none 0 0, rfl, fun h => (by cases h), by rw [hB]; exact hb⟩ | exact ⟨⟨_, rfl⟩, by first | exact hb | (rw [← HW1.out]; exact hb)⟩
              | true =>
                have HG := Lib.hid (HBG.out.1 rfl)
                have hg1 := HG.out.1
                have hg2 := HG.out.2.1
                rw [OI_length] at hg2
                obtain ⟨og, oc', hoe⟩ := owns_head oo2 (by omega)
                obtain ⟨rfl, rfl⟩ : oa = some ⟨og, 0, none⟩ ∧ oc = oc' := by simpa using hoe
                obtain ⟨_, _, hoe2, hoc, -, -⟩ := Row.of_owns oo2
                obtain ⟨-, rfl⟩ : _ ∧ oc = _ := by simpa using hoe2
                clear hoe hoe2
                have hm0 : Hid (0 = mor (kidM L (4, 0, ks) 0)) := Lib.hid (by simp [kidM, mor])
                have hdz : Hid (disR (kidM L (4, 0, ks) 0)) := Lib.hid (by simp [kidM, disR])
                have HOO2 := Lib.hid oo2
                have HB2 := Lib.hid hb
                have HRU2 := Lib.hid hru2
                have hrl2 : Row w2 1 (.slice la k lc) (maskL L k).length (sets (maskL L k)) := by rw [hmlen]; exact Row.of_owns ol2
                have HRL2 := Lib.hid hrl2
                have HOL2 := Lib.hid ol2
                clear oo2 hb hru2 ol2 hrl2
                go_wp2_with fail
                go_loopw [8, 56] (fun s i wx => ∃ j m : Nat, j ≤ ks.length ∧ i = .int .i64 j ∧ s = .int .u32 m ∧ Hid (m = mor (kidM L (4, 0, ks) j)) ∧ Hid (disR (kidM L (4, 0, ks) j)) ∧ m < 65536 ∧ wx = w2) (fun _ i _ => ks.length - (intOf i).toNat)
                case atStart => exact ⟨0, 0, Nat.zero_le _, rfl, rfl, hm0, hdz, by decide, rfl⟩
                case round =>
                  clear hm0 hdz
                  obtain ⟨j, m, hj, rfl, rfl, HMJ, HDJ, hm16, rfl⟩ := hrel
                  by_cases hjl : j < ks.length
                  · obtain ⟨yb, yo, y, rfl, hcy, HY⟩ := HRU2.out.intAt hjl
                    obtain ⟨r, rfl, hrk⟩ := kid_lt (p := (4, 0, ks)) HRN.out HG.out y (List.mem_of_getElem? HY.out)
                    obtain ⟨gb, go, x, rfl, hcx, HX⟩ := HRL2.out.setAt (j := r) (by rw [hmlen]; exact hrk)
                    have hxe : x = msk L r := by have h1 := HX.out; rw [mask_at hrk] at h1; exact (Option.some.inj h1).symm
                    have hx16 : x < 65536 := by rw [hxe]; exact msk_lt L r
                    have HKS : Hid (kidM L (4, 0, ks) (j + 1) = x :: kidM L (4, 0, ks) j) := Lib.hid (by rw [hxe]; exact kidM_succ HY.out)
                    obtain ⟨q, hq⟩ : ∃ q, m &&& x = q := ⟨_, rfl⟩
                    have hand : bits BinOp.and IntKind.u32 (m : Int) (x : Int) = (q : Int) := by rw [← hq]; exact u32_and_nat _ _ (by omega) (by omega)
                    obtain ⟨z, hz⟩ : ∃ z, m ||| x = z := ⟨_, rfl⟩
                    have hor : bits BinOp.or IntKind.u32 (m : Int) (x : Int) = (z : Int) := by rw [← hz]; exact bits_or (by omega) (by omega)
                    have hz16 : z < 65536 := by rw [← hz]; exact Nat.or_lt_two_pow (n := 16) hm16 hx16
                    have HQ := Lib.hid hq
                    have HZ := Lib.hid hz
                    clear hxe hq hz
                    by_cases hq0 : q = 0
                    · have hqb : ((q : Int) != 0) = false := by rw [hq0]; rfl
                      have HD2 : Hid (disR (kidM L (4, 0, ks) (j + 1))) := Lib.hid (by rw [HKS.out]; exact ⟨HDJ.out, by rw [← HMJ.out, HQ.out]; exact hq0⟩)
                      have HM2 : Hid (z = mor (kidM L (4, 0, ks) (j + 1))) := Lib.hid (by rw [HKS.out]; unfold mor; rw [← HMJ.out, HZ.out])
                      clear hq0
                      go_wp2_with fail
                      go_roundw
                      case rel => exact ⟨j + 1, z, by omega, by go_num, rfl, HM2, HD2, hz16, by first | rfl | trivial⟩
                      case measure => simp [intOf]; omega
                    · have hqb : ((q : Int) != 0) = true := by rw [bne_iff_ne]; omega
                      have hbf := HNB.out (bad_dis hlt HP.out hnl (fun h => by
                        have h2 := kidM_dis (j + 1) h
                        rw [HKS.out] at h2
                        have h3 := h2.2
                        rw [← HMJ.out, HQ.out] at h3
                        exact hq0 h3))
                      subst hbf
                      go_wp2_with fail
                      refine bodyPost_ret (v := .tuple #[.slice none 0 0, .bool false]) (by simp [results, Tryd.results25, go_sem]) rfl ?_
                      first | exact ⟨.slice none 0 0, rfl, fun h => (by cases h), by rw [hB]; exact HB2.out⟩ | exact ⟨⟨_, rfl⟩, by first | exact HB2.out | (rw [← HW1.out]; exact HB2.out)⟩
                  · obtain rfl : j = ks.length := by omega
                    have hka := kidM_all L (4, 0, ks)
                    have hx : disR (((4, 0, ks) : PartD).2.2.reverse.map fun c => msk L c.toNat) := by rw [← hka]; exact HDJ.out
                    obtain ⟨t1, t2, t3, t4⟩ := node_step HRN.out HP.out hnl ⟨by show (2 : Int) ≤ 4; omega, by show (4 : Int) ≤ 4; omega, rfl⟩ HG.out hx HDN.out HFN.out
                    have HR := Lib.hid t1
                    have HD := Lib.hid t2
                    have HF := Lib.hid t3
                    have HM : Hid (m = msk L k) := Lib.hid (by rw [t4, HMJ.out, hka])
                    obtain ⟨M, hM⟩ : ∃ M, O.length - ks.length = M := ⟨_, rfl⟩
                    have hMi : (O.length : Int) - (ks.length : Int) = (M : Int) := by omega
                    have hMO : M ≤ O.length := by omega
                    have hMc : M ≤ oc := by omega
                    have hoc0 : ¬ oc = 0 := by omega
                    have HO2L : Hid ((O.drop ks.length).length = M) := Lib.hid (by simp [hM])
                    have oo := owns_cut HOO2.out hMO
                    have hOD : (ints (OI O)).take M = ints (OI (O.drop ks.length)) := by
                      rw [OI_drop, hM]
                      simp [ints, List.map_take]
                    rw [hOD] at oo
                    have ol := HOL2.out
                    have hb := HB2.out
                    clear hka hx t1 t2 t3 t4 hM hOD
                    have hne := owns_apart oo ol (by decide)
                    have HNE := Lib.hid hne
                    have hzx : B ≤ wr.heap.size := by have := hb.size; omega
                    have HOO := Lib.hid oo
                    have HOL := Lib.hid ol
                    have HBX := Lib.hid hb
                    clear oo ol hne hb
                    go_wp2_with (first
                      | (at_builtin; ((try rw [← HWX.out]); refine wpList_push_at wr rfl _ _ 77 rfl B 3 _ _ 8 Tryd.underlying77 infoN rfl (.slice (some ⟨og, 0, none⟩) M oc) M (ints (OI (O.drop ks.length))) rfl HOO.out wr.heap.size rfl (.int .i64 (k : Int)) rfl rfl (by unfold maxLen; omega) (by omega) (by omega) ?_; intro g5 d5 wa hoa hga; have HOA := Lib.hid hoa; have hola := HOL.out.kept hga HNE.out; have HOLA := Lib.hid hola; have hba := HBX.out.grown hga hzx (fun y hy => (owns_lt HOO.out hy).1); have HBA := Lib.hid hba; have HNA := Lib.hid (owns_apart hoa hola (by decide)); have HGA := Lib.hid (owns_apart hola hoa (by decide)); have hza : B ≤ wa.heap.size := (by have := hba.size; omega); clear hoa hga hola hba))
                      | (at_builtin; refine wpList_push wa rfl _ _ 50 rfl B 54 _ _ 4 Tryd.underlying50 infoV rfl (.slice la k lc) k (sets (maskL L k)) rfl HOLA.out (.int .u32 (m : Nat)) rfl rfl (by unfold maxLen; omega) (by omega) (by omega) ?_; intro g6 d6 wb hob hgb))
                    have ho2 := HOA.out.kept hgb HGA.out
                    have hb2 := HBA.out.grown hgb hza (fun y hy => (owns_lt HOLA.out hy).1)
                    have ho3 : wb.ownsRow B 3 1 (.slice (some ⟨g5, 0, none⟩) (M + 1) d5) (k :: (O.drop ks.length)).length (ints (OI (k :: (O.drop ks.length)))) := by
                      rw [OI_cons, ints_snoc, List.length_cons]
                      first
                        | exact ho2
                        | (rw [HO2L.out]; exact ho2)
                    have ho4 : wb.ownsRow B 54 1 (.slice (some ⟨g6, 0, none⟩) (k + 1) d6) (k + 1) (sets (maskL L (k + 1))) := by
                      rw [maskL_succ, sets_snoc', ← HM.out]
                      exact hob
                    clear hob hgb ho2
                    go_roundw
                    case rel => exact ⟨k + 1, k :: (O.drop ks.length), by omega, HR, HD, HF, ho3, ho4, by go_num, hb2⟩
                    case measure => simp [intOf]; omega
            · have hvb : (vx != 0) = true := by rw [bne_iff_ne]; exact hv0
              have hbf := HNB.out (bad_shape hlt HP.out hnl (fun h => hv0 h.2.2.1))
              subst hbf
              clear oo1 ol1 hru1
              go_wp2_with fail
              refine bodyPost_ret (v := .tuple #[.slice none 0 0, .bool false]) (by simp [results, Tryd.results25, go_sem]) rfl ?_
              first | exact ⟨.slice none 0 0, rfl, fun h => (by cases h), by rw [hB, ← HW1.out]; exact hb1⟩ | exact ⟨⟨_, rfl⟩, by first | exact hb1 | (rw [← HW1.out]; exact hb1)⟩
        · have hbf := HNB.out (bad_shape hlt HP.out (fun h => hk1 h.1) (fun h => by have h1 := h.1; have h2 := h.2.1; simp at h1 h2; omega))
          subst hbf
          have hb1k : (kd == 1) = false := by rw [beq_eq_false_iff_ne]; exact hk1
          have hb2k : (kd == 2) = false := by rw [beq_eq_false_iff_ne]; omega
          have hb3k : (kd == 3) = false := by rw [beq_eq_false_iff_ne]; omega
          have hb4k : (kd == 4) = false := by rw [beq_eq_false_iff_ne]; omega
          clear oo1 ol1 hru1
          go_wp2_with fail
          refine bodyPost_ret (v := .tuple #[.slice none 0 0, .bool false]) (by simp [results, Tryd.results25, go_sem]) rfl ?_
          first
            | first | exact ⟨.slice none 0 0, rfl, fun h => (by cases h), by rw [hB, ← HW1.out]; exact hb1⟩ | exact ⟨⟨_, rfl⟩, by first | exact hb1 | (rw [← HW1.out]; exact hb1)⟩
            | exact ⟨⟨_, rfl⟩, by rw [← HW1.out]; exact hb1⟩
    · obtain rfl : k = L.length := by omega
      by_cases h1 : O.length = 1
      · obtain ⟨hn, hiff⟩ := end_iff HRN.out HDN.out HFN.out h1
        obtain ⟨oa, oc, rfl⟩ := owns_shape oo
        obtain ⟨la, lc, rfl⟩ := owns_shape ol
        have hmlen := maskL_length L L.length
        have hrl : Row wr 1 (.slice la L.length lc) (maskL L L.length).length (sets (maskL L L.length)) := by rw [hmlen]; exact Row.of_owns ol
        obtain ⟨gb, go, x, rfl, hcx, HX⟩ := hrl.setAt (j := L.length - 1) (by rw [hmlen]; omega)
        have hxe : x = msk L (L.length - 1) := by have h2 := HX.out; rw [mask_at (by omega)] at h2; exact (Option.some.inj h2).symm
        have hx16 : x < 65536 := by rw [hxe]; exact msk_lt L _
        obtain ⟨cz, hcz⟩ : ∃ c, size x = c := ⟨_, rfl⟩
        have hc16 : cz ≤ 16 := by
          rw [← hcz, ← bitsOf_bitL_size hx16]
          have := List.length_filter_le x.testBit (List.range 16)
          simpa [bitL] using this
        have HSZ := fun W => Lib.hid (size_exact x (by omega) W)
        rw [hcz] at HSZ
        have HFO := fun W => Lib.hid (firstOf_any cz hc16 W)
        rw [mask_full] at HFO
        obtain ⟨fl, hfl⟩ : ∃ f, 2 ^ cz - 1 = f := ⟨_, rfl⟩
        rw [hfl] at HFO
        have HIF : Hid (progOk L ↔ x = fl) := Lib.hid (by rw [hiff, ← hxe, hcz, hfl])
        have hli : (L.length : Int) - 1 = ((L.length - 1 : Nat) : Int) := by omega
        have hl1 : ((O.length : Int) != 1) = false := by rw [h1]; rfl
        have HOL := Lib.hid ol
        have HBW := Lib.hid hb
        clear hxe hcz hfl hiff hrl ol oo
        go_wp2_with fail
        refine (HSZ _).out.mono ?_
        rintro e1 w1 ⟨rfl, hb1⟩
        have hb2 := HBW.out.trans (hb1.mono (by omega))
        have ol1 := owns_below HOL.out hb1
        go_wp2_with fail
        refine (HFO _).out.mono ?_
        rintro e1 w2 ⟨rfl, rfl⟩
        by_cases hxf : x = fl
        · obtain rfl : b = true := HYB.out.2 (HIF.out.2 hxf)
          have hxb : ((x : Int) == (fl : Int)) = true := by rw [hxf]; simp
          go_wp2_with fail
          refine bodyPost_ret (v := .tuple #[.slice (some ⟨gb, go, none⟩) L.length lc, .bool true]) (by simp [results, Tryd.results25, go_sem]) rfl ?_
          first | exact ⟨_, rfl, ol1, hb2⟩ | exact ⟨_, rfl, fun _ => by rw [hB]; exact ol1, by rw [hB]; exact hb2⟩
        · obtain rfl : b = false := HNB.out (fun h => hxf (HIF.out.1 h))
          have hxb : ((x : Int) == (fl : Int)) = false := by rw [beq_eq_false_iff_ne]; omega
          go_wp2_with fail
          refine bodyPost_ret (v := .tuple #[.slice (some ⟨gb, go, none⟩) L.length lc, .bool false]) (by simp [results, Tryd.results25, go_sem]) rfl ?_
          exact ⟨_, rfl, fun h => (by cases h), by rw [hB]; exact hb2⟩
      · have hbf := HNB.out (end_no HRN.out h1)
        subst hbf
        have hl1 : ((O.length : Int) != 1) = true := by rw [bne_iff_ne]; omega
        obtain ⟨oa, oc, rfl⟩ := owns_shape oo
        go_wp2_with fail
        refine bodyPost_ret (v := .tuple #[.slice none 0 0, .bool false]) (by simp [results, Tryd.results25, go_sem]) rfl ?_
        first | exact ⟨.slice none 0 0, rfl, fun h => (by cases h), by rw [hB]; exact hb⟩ | exact ⟨⟨_, rfl⟩, by first | exact hb | (rw [← HW1.out]; exact hb)⟩
end Go.Proofs.YtpfhflkpnjkgkaaDoor
