/-
  'pathOf' of the program: nil exactly where there is no way.
-/
import Derived.Test.YtehejjmmbjekgaaDoorLayI
namespace Go.Proofs.YtehejjmmbjekgaaDoor
open Go.RowKit

/-- What pathOf gives: nil where there is no way, else a slice that is not nil. -/
def IsPath (b : Bool) (x : Value) : Prop := (b = false ∧ x = .slice none 0 0) ∨ (b = true ∧ ∃ g n c, x = .slice (some g) n c)
theorem lay_step {n : Nat} {e : Nat → Nat → Bool} {p : Nat → Bool} {s d : Nat} {l sn : Nat → Bool} {ds : List Int} (hA : Adj n e) (h : Lay n e p s d l sn ds) (hps : p s = true) {k m : Nat} (hk : k < n) (hd : ds.getD k (-1) = ((m + 1 : Nat) : Int)) :
    ∃ x, x < n ∧ (x : Int) ∈ rowB n (fun i => e k i && p i) ∧ ds.getD x (-1) = (m : Int) := by
  obtain ⟨_, x, hx, he, hdx⟩ := h.back k (m : Int) hk (by omega) (by omega)
  refine ⟨x, hx, nat_mem_rowB.2 ⟨hx, ?_⟩, hdx⟩
  have hpx : p x = true := by
    cases m with
    | zero => rw [h.zero x hx (by simpa using hdx)]; exact hps
    | succ q => exact (h.back x (q : Int) hx (by omega) (by omega)).1
  rw [hA.sym k x hk hx, he, hpx]
  rfl

set_option maxHeartbeats 4000000 in
theorem pathOf_any (v : Value) (n : Nat) (e : Nat → Nat → Bool) (hA : Adj n e) (p : Nat → Bool) (u0 s : Nat) (hu0 : u0 < n) (hs : s < n) (hps : p s = true) (z : Int) (hz : z = (maskB n p : Nat)) (w : World) (ht : Tab w) (hr : Row w 1 v n (sets (NB n e))) (b : Bool) (hb : wayB n e p s u0 = b) :
    Calls Tryd.prog 157 #[v, .int .i64 u0, .int .i64 s, .int .u32 z] w fun r w' => ∃ x, r = .returned x ∧ Hid (IsPath b x) ∧ Below w.heap.size w w' := by
  have hn := hA.le
  obtain ⟨a, c, rfl, -, -, -⟩ := id hr
  obtain ⟨B, hB⟩ : ∃ B, w.heap.size = B := ⟨_, rfl⟩
  have hTB : 0 < B := by rw [← hB]; exact ht.lt
  have HZ := Lib.hid hz
  have HD := Lib.hid (distances_any (.slice a n c) n e hn p s hs (s : Int) rfl z hz w ht hr)
  have HAA := Lib.hid hA
  have HPS := Lib.hid hps
  have HBW := Lib.hid hb
  clear hz hps hb hA
  go_enter Tryd.func157, Tryd.ntmps157
  go_wp2_with fail
  refine HD.out.mono ?_
  rintro e1 w1 ⟨u1, ds, dd, l, sn, rfl, HL, hF, hb1⟩
  rw [hB] at hF hb1
  have hlen : ds.length = n := HL.out.1.len
  have HLEN := Lib.hid hlen
  obtain ⟨fa, fc, rfl⟩ := owns_shape hF
  obtain ⟨fg, fcap, hfe⟩ := owns_head hF (by omega)
  obtain ⟨rfl, rfl⟩ : fa = some ⟨fg, 0, none⟩ ∧ fc = fcap := by simpa using hfe
  obtain ⟨d0, HD0⟩ : ∃ d0 : Int, Hid (ds.getD u0 (-1) = d0) := ⟨_, Lib.hid rfl⟩
  have hcell : ∀ W : World, W.ownsRow B 3 1 (.slice (some ⟨fg, 0, none⟩) n fc) n (ints ds) → ∀ k, k < n → W.cell? ⟨fg, k, none⟩ = some (.int .i64 (ds.getD k (-1))) := fun W h k hk => by
    rw [h.cellAt k (by omega), ints, List.getElem?_map, List.getD_eq_getElem?_getD, List.getElem?_eq_getElem (by omega)]
    rfl
  have HCELL := Lib.hid hcell
  have hc0 := hcell w1 hF u0 hu0
  rw [HD0.out] at hc0
  have hw0 : decide (0 ≤ d0) = b := by rw [← HD0.out, ← HBW.out]; exact HL.out.1.done hs HL.out.2.1 u0 hu0
  have HW0 := Lib.hid hw0
  have hd0b : d0 ≤ 65537 := by rw [← HD0.out]; have := HL.out.1.le u0 hu0; have := HL.out.2.2; omega
  clear hcell hw0 HD hfe hlen
  by_cases hneg : d0 < 0
  · have HBF : Hid (b = false) := Lib.hid (by rw [← HW0.out]; simp; omega)
    go_wp2_with fail
    go_ret
    exact ⟨_, rfl, Lib.hid (.inl ⟨HBF.out, rfl⟩), by rw [hB]; exact hb1⟩
  · have HBT : Hid (b = true) := Lib.hid (by rw [← HW0.out]; simp; omega)
    obtain ⟨E, hE⟩ : ∃ E, w1.heap.size = E := ⟨_, rfl⟩
    have hfE : fg < E := by rw [← hE]; exact (owns_lt hF rfl).2
    have hBE : B ≤ E := by rw [← hE]; have := hb1.size; omega
    obtain ⟨w2, hw2⟩ : ∃ w2, w2 = w1.alloc (.cells #[.int .i64 (u0 : Int)] 3) := ⟨_, rfl⟩
    have ho2 : w2.ownsRow E 3 1 (.slice (some ⟨E, 0, none⟩) 1 1) 1 (ints [(u0 : Int)]) := by rw [hw2, ← hE]; exact World.ownsRow_lit w1 #[.int .i64 (u0 : Int)] 1 (Nat.le_refl _) (by simp [maxLen]) rfl
    have hb12 : Below E w1 w2 := by rw [hw2, ← hE]; exact below_alloc' _ _
    have hF2 := owns_below hF (hE.symm ▸ hb12)
    have hb2 := hb1.trans (hb12.mono hBE)
    have hdn : ∃ m : Nat, d0 = m := ⟨d0.toNat, by omega⟩
    obtain ⟨m0, hm0⟩ := hdn
    have HM0 : Hid (ds.getD u0 (-1) = (m0 : Int)) := Lib.hid (by rw [HD0.out, hm0])
    have hm0b : m0 ≤ 65537 := by omega
    clear hb1 hF hb12 hm0
    go_wp2_with fail
    try rw [hE]
    rw [← hw2]
    clear hw2 hc0
    go_loopw [1, 10] (fun uv out wr => ∃ (k m cnt : Nat) (xs : List Int), k < n ∧ uv = .int .i64 k ∧ 0 < cnt ∧ cnt + m ≤ 65538 ∧ xs.length = cnt ∧ Hid (ds.getD k (-1) = (m : Int)) ∧ wr.ownsRow E 3 1 out cnt (ints xs) ∧ wr.ownsRow B 3 1 (.slice (some ⟨fg, 0, none⟩) n fc) n (ints ds) ∧ Below B w wr) (fun uv _ _ => (ds.getD (intOf uv).toNat (-1)).toNat)
    case atStart => exact ⟨u0, m0, 1, [(u0 : Int)], hu0, rfl, by omega, by omega, rfl, HM0, ho2, hF2, hb2⟩
    case round =>
      clear ho2 hF2 hb2
      obtain ⟨k, m, cnt, xs, hk, rfl, hc1, hcm, hxl, HM, ho, hF, hb⟩ := hrel
      have hsz := hb.size
      obtain ⟨og, oc, rfl⟩ := owns_head ho hc1
      have hEz : E < wr.heap.size := by have := owns_lt ho (b := og) rfl; omega
      by_cases hks : k = s
      · have hd : ((k : Int) != (s : Int)) = false := by simp [hks]
        clear hks
        go_wp2_with fail
        go_ret
        exact ⟨_, rfl, Lib.hid (.inr ⟨HBT.out, _, _, _, rfl⟩), by rw [hB]; exact hb⟩
      · have hd : ((k : Int) != (s : Int)) = true := by simp; omega
        obtain ⟨q, rfl⟩ : ∃ q, m = q + 1 := by
          cases m with
          | zero => exact (hks (HL.out.1.zero k hk (by simpa using HM.out))).elim
          | succ q => exact ⟨q, rfl⟩
        have HX := Lib.hid (lay_step HAA.out HL.out.1 HPS.out hk HM.out)
        obtain ⟨gb, go, xx, rfl, hcx, HXX⟩ := (hr.below (hB.symm ▸ hb)).setAt (j := k) (by simpa using hk)
        obtain rfl : maskB n (e k) = xx := by have h := HXX.out; rw [NB_at e hk] at h; exact Option.some.inj h
        obtain ⟨xi, HXI⟩ : ∃ z : Int, Hid (((maskB n (e k) : Nat) : Int) = z) := ⟨_, Lib.hid rfl⟩
        obtain ⟨z2, HZ2⟩ : ∃ z : Int, Hid (z = (maskB n (fun i => e k i && p i) : Nat)) := ⟨_, Lib.hid rfl⟩
        have hba : bits BinOp.and IntKind.u32 xi z = z2 := by rw [← HXI.out, HZ.out, HZ2.out, mask_and (by omega)]
        have HLI := Lib.hid (listB_any (n := n) (by omega) (fun i => e k i && p i) z2 HZ2.out wr (ht.keep hb hTB))
        have hll := rowB_length n (fun i => e k i && p i)
        obtain ⟨R, hR⟩ : ∃ R, rowB n (fun i => e k i && p i) = R := ⟨_, rfl⟩
        have HR := Lib.hid hR
        rw [hR] at HLI hll
        rw [HXI.out] at hcx
        clear hks HXX hR
        go_wp2_with fail
        refine HLI.out.mono ?_
        rintro e1 w5 ⟨u5, rfl, hL5, hb5⟩
        obtain ⟨la5, lc5, rfl⟩ := owns_shape hL5
        have hRL := Row.of_owns hL5
        obtain ⟨C, hC⟩ : ∃ C, w5.heap.size = C := ⟨_, rfl⟩
        have hF5 := owns_below hF hb5
        have ho5 := owns_below ho hb5
        have hz5 : wr.heap.size ≤ C := by rw [← hC]; exact hb5.size
        have hb05 := hb.trans (hb5.mono (by omega))
        have hcl : Below C w5 w5 := Below.refl _ _
        have HN0 : Hid (∀ x ∈ R.take 0, ds.getD x.toNat (-1) ≠ (q : Int)) := Lib.hid (by simp)
        clear hL5 HLI hb5 hcx hF ho hb
        go_wp2_with fail
        go_loopw [1, 35] (fun uv i wr => ∃ (j : Nat), j ≤ R.length ∧ uv = .int .i64 k ∧ i = .int .i64 j ∧ Hid (∀ x ∈ R.take j, ds.getD x.toNat (-1) ≠ (q : Int)) ∧ Below C w5 wr) (fun _ i _ => R.length - (intOf i).toNat)
        case atStart => exact ⟨0, Nat.zero_le _, rfl, rfl, HN0, hcl⟩
        case round =>
          clear hcl HN0
          obtain ⟨j, hj, rfl, rfl, HN, hb⟩ := hrel
          by_cases hlt : j < R.length
          · obtain ⟨yb, yo, y, rfl, hcy, HY⟩ := Row.intAt (Row.below hRL (hC.symm ▸ hb)) hlt
            obtain ⟨x, hx, hpx, rfl⟩ := row_at (by rw [HR.out]; exact HY.out)
            have hFr := owns_below hF5 (hC.symm ▸ hb)
            have hcx := HCELL.out _ hFr x hx
            have hck := HCELL.out _ hFr k hk
            rw [HM.out] at hck
            obtain ⟨dx, HDX⟩ : ∃ dx : Int, Hid (ds.getD x (-1) = dx) := ⟨_, Lib.hid rfl⟩
            rw [HDX.out] at hcx
            have hbd : Below C w5 wr.drew := hb.drew
            by_cases hxq : dx = (q : Int)
            · subst hxq
              have HDQ : Hid (ds.getD x (-1) = (q : Int)) := HDX
              have hFd : wr.drew.ownsRow B 3 1 (.slice (some ⟨fg, 0, none⟩) n fc) n (ints ds) := hFr.drew
              have hod : wr.drew.ownsRow E 3 1 (.slice (some ⟨og, 0, none⟩) cnt oc) cnt (ints xs) := (owns_below ho5 (hC.symm ▸ hb)).drew
              have hb0d := hb05.trans (hbd.mono (by omega))
              have hszd : C ≤ wr.drew.heap.size := by have := hbd.size; omega
              have hdq : ((q : Int) == ((q + 1 : Nat) : Int) - 1) = true := by rw [beq_iff_eq]; omega
              have hwq : wrap64 (((q + 1 : Nat) : Int) - 1) = (q : Int) := by unfold wrap64; omega
              clear hb hFr ho5 hF5
              go_wp2_with fail
              refine wp_region_ord [0, 1, 2, 4, 5, 6] [3, 7, 8, 9] [] [] (by kernel_rfl) (by kernel_rfl) (fun _ _ d _ _ h => by cases d <;> exact h) ?_
              simp only [pickOps, List.filterMap_cons, List.filterMap_nil, List.getElem?_cons_succ, List.getElem?_cons_zero]
              repeat quiet_step (fail)
              simp only [wpQuiet_nil_eq, wpSegs_nil_eq]
              rw [show IntKind.i64.wrap (q : Int) = (q : Int) by rw [IntKind.wrap_i64]; omega]
              have hdt : ((q : Int) == (q : Int)) = true := by simp
              clear hcy hcx hck
              generalize wr.drew = wd at *
              go_wp2_with (at_builtin; refine wpList_push _ rfl _ _ 92 rfl E 3 _ _ 8 Tryd.underlying92 infoN rfl (.slice (some ⟨og, 0, none⟩) cnt oc) cnt (ints xs) rfl hod (.int .i64 (x : Int)) rfl rfl (by unfold maxLen; omega) (by omega) (by omega) ?_; intro g' c' w7 ho7 hg7)
              have hF7 := hFd.kept hg7 (.inr fun h => by have h2 : og = fg := (by simpa [Value.ownBlock] using h.symm); have := owns_lt hod (b := og) rfl; omega)
              have hb7 := hb0d.grown hg7 (by omega) (fun y hy => by have := (owns_lt hod hy).1; omega)
              go_roundw
              case rel => exact ⟨x, q, cnt + 1, xs ++ [(x : Int)], hx, rfl, by omega, by omega, by simp [hxl], HDQ, by rw [ints_snoc]; exact ho7, hF7, hb7⟩
              case measure =>
                have h1 := HM.out
                have h2 := HDQ.out
                simp only [intOf, Int.toNat_natCast]
                rw [h1, h2]
                omega
            · have hdq : (dx == (q : Int)) = false := by rw [beq_eq_false_iff_ne]; exact hxq
              have HN2 : Hid (∀ x ∈ R.take (j + 1), ds.getD x.toNat (-1) ≠ (q : Int)) := Lib.hid (by
                rw [take_snoc HY.out]
                intro y hy
                rcases List.mem_append.1 hy with hy | hy
                · exact HN.out y hy
                · rw [List.mem_singleton.1 hy, Int.toNat_natCast, HDX.out]; exact hxq)
              clear hxq hb hFr
              go_wp2_with fail
              refine wp_region_ord [0, 1, 2, 4, 5, 6] [3, 7, 8, 9] [] [] (by kernel_rfl) (by kernel_rfl) (fun _ _ d _ _ h => by cases d <;> exact h) ?_
              simp only [pickOps, List.filterMap_cons, List.filterMap_nil, List.getElem?_cons_succ, List.getElem?_cons_zero]
              repeat quiet_step (fail)
              simp only [wpQuiet_nil_eq, wpSegs_nil_eq]
              rw [show IntKind.i64.wrap (q : Int) = (q : Int) by rw [IntKind.wrap_i64]; omega]
              go_wp2_with fail
              go_roundw
              case rel => exact ⟨j + 1, by omega, rfl, by go_num, HN2, hbd⟩
              case measure => simp [intOf]; omega
          · exfalso
            obtain rfl : j = R.length := by omega
            have h1 := HN.out
            rw [List.take_length] at h1
            obtain ⟨x, hx, hxr, hdx⟩ := HX.out
            rw [HR.out] at hxr
            exact h1 _ hxr (by rw [Int.toNat_natCast]; exact hdx)
end Go.Proofs.YtehejjmmbjekgaaDoor
