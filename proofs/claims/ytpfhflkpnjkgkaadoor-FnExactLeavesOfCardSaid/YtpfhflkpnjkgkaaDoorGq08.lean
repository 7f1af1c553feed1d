import Derived.Test.YtpfhflkpnjkgkaaDoorGq03
import Derived.Test.YtpfhflkpnjkgkaaDoorGq06
import Derived.Test.YtpfhflkpnjkgkaaDoorGq07
/-
  'l16Has' of the reference.
-/



namespace Go.Proofs.YtpfhflkpnjkgkaaDoor
open Go.RowKit

theorem run_pre (L : List PartD) : ∀ n O, runO L n = some O → ∀ k, k ≤ n → ∃ O', runO L k = some O' := by
  intro n
  induction n with
  | zero => intro O h k hk; obtain rfl : k = 0 := by omega
            exact ⟨O, h⟩
  | succ n ih =>
    intro O h k hk
    by_cases hkn : k = n + 1
    · subst hkn; exact ⟨O, h⟩
    · unfold runO at h
      cases hr : runO L n with
      | none => rw [hr] at h; cases h
      | some O' => exact ih O' hr k (by omega)
/-- A part of a list that the stack takes. -/
theorem run_part (L : List PartD) {n : Nat} {O : List Nat} (h : runO L n = some O) {i : Nat} (hi : i < n) :
    ∃ p, L[i]? = some p ∧ (leafOk p ∨ (¬ leafOk p ∧ nodeOk p ∧ ∀ c ∈ p.2.2, ∃ r : Nat, c = (r : Int) ∧ r < i)) := by
  obtain ⟨O1, h1⟩ := run_pre L n O h (i + 1) (by omega)
  unfold runO at h1
  cases hr : runO L i with
  | none => rw [hr] at h1; cases h1
  | some O' =>
    rw [hr] at h1
    cases hp : L[i]? with
    | none => rw [hp] at h1; cases h1
    | some p =>
      rw [hp] at h1
      change stepO O' i p = some O1 at h1
      refine ⟨p, rfl, ?_⟩
      unfold stepO at h1
      split at h1
      · rename_i hl; exact .inl hl
      · rename_i hl
        split at h1
        · rename_i hn
          refine .inr ⟨hl, hn.1, fun c hc => ?_⟩
          have hc' : c ∈ p.2.2.reverse := by simpa using hc
          rw [hn.2.2] at hc'
          obtain ⟨r, hr', rfl⟩ := List.mem_map.1 hc'
          exact ⟨r, rfl, (run_sizes L i O' hr).1 r (List.mem_of_mem_take hr')⟩
        · cases h1
theorem msk_leaf {L : List PartD} {i : Nat} {p : PartD} (hp : L[i]? = some p) (hl : leafOk p) : msk L i = 2 ^ p.2.1.toNat := by
  unfold msk mask1
  rw [show L.getD i (0, 0, []) = p by rw [List.getD_eq_getElem?_getD, hp]; rfl, if_pos hl]
theorem msk_node {L : List PartD} {i : Nat} {p : PartD} (hp : L[i]? = some p) (hl : ¬ leafOk p) (hk : ∀ c ∈ p.2.2, ∃ r : Nat, c = (r : Int) ∧ r < i) : msk L i = mor (p.2.2.reverse.map fun c => msk L c.toNat) := by
  conv => lhs; unfold msk mask1
  rw [show L.getD i (0, 0, []) = p by rw [List.getD_eq_getElem?_getD, hp]; rfl, if_neg hl]
  congr 1
  refine List.map_congr_left fun c hc => ?_
  obtain ⟨r, rfl, hr⟩ := hk c (by simpa using hc)
  exact maskL_getD L i _ (by simpa using hr)
/-- A set of numbers in a list, put into a set. -/
def putN (m : Nat) (l : List Nat) : Nat := l.foldl (fun a q => a ||| 2 ^ q) m
theorem testBit_putN : ∀ (l : List Nat) (m i : Nat), (putN m l).testBit i = (m.testBit i || decide (i ∈ l)) := by
  intro l
  induction l with
  | nil => intro m i; simp [putN]
  | cons q l ih =>
    intro m i
    have : putN m (q :: l) = putN (m ||| 2 ^ q) l := rfl
    rw [this, ih, Nat.testBit_or, Nat.testBit_two_pow, Bool.or_assoc]
    congr 1
    rw [Bool.eq_iff_iff]
    simp only [Bool.or_eq_true, decide_eq_true_eq, List.mem_cons]
    constructor
    · rintro (h | h)
      · exact .inl h.symm
      · exact .inr h
    · rintro (h | h)
      · exact .inl h.symm
      · exact .inr h
theorem putN_bits {m k : Nat} (hk : k < 2 ^ 16) : putN m (bitsOf k) = m ||| k := by
  apply Nat.eq_of_testBit_eq
  intro i
  rw [testBit_putN, Nat.testBit_or]
  congr 1
  rw [Bool.eq_iff_iff, decide_eq_true_eq, mem_bitsOf]
  constructor
  · exact fun h => h.2
  · intro h
    refine ⟨?_, h⟩
    by_cases hi : i < 16
    · omega
    · rw [bits_above hk i (by omega)] at h; cases h
theorem putN_take {m q : Nat} {l : List Nat} {j : Nat} (h : l[j]? = some q) : putN m (l.take (j + 1)) = putN m (l.take j) ||| 2 ^ q := by
  rw [take_snoc h]
  simp [putN]
theorem putN_small {m : Nat} {l : List Nat} (hm : m < 2 ^ 16) (hl : ∀ q ∈ l, q < 16) : putN m l < 2 ^ 16 := by
  refine Nat.lt_pow_two_of_testBit _ fun i hi => ?_
  rw [testBit_putN, bits_above hm i hi, Bool.false_or, decide_eq_false_iff_not]
  intro h
  have := hl i h
  omega
theorem nums_pow {x : Nat} (hx : x < 32) : nums (2 ^ x) = [(x : Int)] := by
  have h := into_nums 0 x hx
  rw [Nat.zero_or] at h
  rw [← h]
  have h0 : nums 0 = [] := by unfold nums; rw [bitsOf_zero]; rfl
  rw [h0]
  have := into_above [] x (by simp)
  simpa using this

set_option maxHeartbeats 4000000 in
theorem leafHas_any (L : List PartD) (n : Nat) (O : List Nat) (hO : runO L n = some O) (v : Value) : ∀ i, i < n → ∀ (w : World), RdP v L w →
    Calls Tryd.prog 23 #[v, .int .i64 (i : Nat)] w (SRes w (nums (msk L i))) := by
  intro i
  induction i using Nat.strongRecOn with
  | ind i ih =>
    intro hi w hr
    obtain ⟨p, hp, hpart⟩ := run_part L hO hi
    have hlen := hr.len
    unfold maxLen at hlen
    have hil : i < L.length := (List.getElem?_eq_some_iff.1 hp).1
    obtain ⟨a, c, rfl, -⟩ := hr.outer
    obtain ⟨b, o, u, rfl, hc0, hc1, hc2, hru⟩ := hr.at hp
    obtain ⟨B, hB⟩ : ∃ B, w.heap.size = B := ⟨_, rfl⟩
    rcases hpart with hl | ⟨hl, hn, hk⟩
    · have hm := msk_leaf hp hl
      obtain ⟨x, hx⟩ : ∃ x : Nat, p.2.1 = (x : Int) := ⟨p.2.1.toNat, by have := hl.2.2.1; omega⟩
      have hx16 : x < 16 := by have := hl.2.2.2; omega
      rw [hx, Int.toNat_natCast] at hm
      have HN : Hid (nums (2 ^ x) = [(x : Int)]) := Lib.hid (nums_pow (by omega))
      rw [hm]
      clear hm
      have ho := World.ownsRow_lit (base := B) (e := 2) (size := 1) w #[.int .i64 (x : Int)] 1 (by omega) (by simp [maxLen]) rfl
      have hbl : Below B w (w.alloc (.cells #[.int .i64 (x : Int)] 2)) := by rw [← hB]; exact below_alloc' _ _
      rw [hB] at ho
      rw [hl.1] at hc0
      rw [hx] at hc1
      have HO := Lib.hid ho
      have HB := Lib.hid hbl
      clear ho hbl hl hru
      go_enter Tryd.func23, Tryd.ntmps23
      go_wp2_with fail
      go_ret
      exact ⟨_, rfl, by rw [HN.out, hB]; exact HO.out, by rw [hB]; exact HB.out⟩
    · have hk1 : (p.1 == 1) = false := by rw [beq_eq_false_iff_ne]; have := hn.1; omega
      have HM := Lib.hid (msk_node hp hl hk)
      have HC2 : Hid (∀ W, Below B w W → W.cell? ⟨b, o + i * 3 + 2, none⟩ = some u) := Lib.hid fun W h => (h.cell (p := ⟨b, o + i * 3 + 2, none⟩) (by have := World.block_lt_of_cell? _ _ hc2; rw [← hB]; exact this)).trans hc2
      have HRU : Hid (∀ W, Below B w W → RdS u p.2.2 W) := Lib.hid fun W h => hru.below h hB
      have HRD : Hid (∀ W, Below B w W → RdP (.slice (some ⟨b, o, none⟩) L.length c) L W) := Lib.hid fun W h => hr.below h hB
      have HK := Lib.hid hk
      have HIH : Hid (∀ r, r < i → ∀ W, RdP (.slice (some ⟨b, o, none⟩) L.length c) L W → Calls Tryd.prog 23 #[.slice (some ⟨b, o, none⟩) L.length c, .int .i64 (r : Nat)] W (SRes W (nums (msk L r)))) := Lib.hid fun r h W hW => ih r h (by omega) W hW
      obtain ⟨ua, uc, rfl, -, -, -⟩ := id hru
      have ho0 := World.ownsRow_lit (base := B) (e := 2) (size := 1) w #[] 0 (by omega) (by simp [maxLen]) rfl
      have hb0 : Below B w (w.alloc (.cells #[] 2)) := by rw [← hB]; exact below_alloc' _ _
      have hn0 : nums 0 = [] := by unfold nums; rw [bitsOf_zero]; rfl
      have ho1 : (w.alloc (.cells #[] 2)).ownsRow B 2 1 (.slice (some ⟨B, 0, none⟩) 0 0) (nums 0).length (ints (nums 0)) := by rw [hn0, ← hB]; rw [← hB] at ho0; exact ho0
      have hlk := hru.len
      unfold maxLen at hlk
      clear ho0 hn0 hru hk hl hr ih hn
      go_enter Tryd.func23, Tryd.ntmps23
      go_wp2_with fail
      generalize w.alloc (.cells #[] 2) = W0 at *
      go_loopw [5, 6] (fun ov t wr => ∃ (k m : Nat), k ≤ p.2.2.length ∧ t = .int .i64 k ∧ m < 65536 ∧ Hid (m = mor ((p.2.2.take k).reverse.map fun c => msk L c.toNat)) ∧ wr.ownsRow B 2 1 ov (nums m).length (ints (nums m)) ∧ Below B w wr) (fun _ t _ => p.2.2.length - (intOf t).toNat)
      case atStart => exact ⟨0, 0, Nat.zero_le _, rfl, by decide, Lib.hid (by simp [mor]), by first | exact ho1 | simpa [hB] using ho1, hb0⟩
      case round =>
        clear ho1 hb0 hc2
        obtain ⟨k, m, hkl, rfl, hm16, HMK, ho, hb⟩ := hrel
        have hcu := HC2.out wr hb
        have hbs := hb.size
        by_cases hlt : k < p.2.2.length
        · obtain ⟨kb, ko, y, rfl, hck, HY⟩ := (HRU.out wr hb).intAt hlt
          obtain ⟨r, rfl, hri⟩ := HK.out y (List.mem_of_getElem? HY.out)
          have HC := Lib.hid (HIH.out r hri wr (HRD.out wr hb))
          obtain ⟨M, hM⟩ : ∃ M, msk L r = M := ⟨_, rfl⟩
          have hM16 : M < 2 ^ 16 := by rw [← hM]; exact msk_lt L r
          have HMN : Hid (m ||| M = mor ((p.2.2.take (k + 1)).reverse.map fun c => msk L c.toNat)) := Lib.hid (by
            rw [take_snoc HY.out, List.reverse_append, List.map_append, HMK.out, ← hM]
            rfl)
          rw [hM] at HC
          clear hM
          go_wp2_with fail
          refine HC.out.mono ?_
          rintro e1 w2 ⟨lv, rfl, hL2, hb2⟩
          obtain ⟨S2, hS2⟩ : ∃ S, w2.heap.size = S := ⟨_, rfl⟩
          have hLr := Row.of_owns hL2
          obtain ⟨la, lc, rfl⟩ := owns_shape hL2
          have HLR : Hid (∀ W, Below S2 w2 W → RdS (.slice la (nums M).length lc) (nums M) W) := Lib.hid fun W h => Row.below hLr (by rw [hS2]; exact h)
          have ho2 := owns_keep ho fun b _ hlt => hb2.block b hlt
          have hb2' := hb.trans (hb2.mono (by omega))
          have hz2 : B ≤ S2 := by have := hb2.size; omega
          have hML : (nums M).length ≤ 32 := nums_length M
          have hb22 : Below S2 w2 w2 := Below.refl _ _
          have HP0 : Hid (m = putN m ((bitsOf M).take 0)) := Lib.hid (by simp [putN])
          clear hL2 hLr ho hb hb2 HC hcu hck
          go_wp2_with fail
          go_loopw [5, 8] (fun ov t wx => ∃ (j m' : Nat), j ≤ (nums M).length ∧ t = .int .i64 j ∧ m' < 65536 ∧ Hid (m' = putN m ((bitsOf M).take j)) ∧ wx.ownsRow B 2 1 ov (nums m').length (ints (nums m')) ∧ Below B w wx ∧ Below S2 w2 wx) (fun _ t _ => (nums M).length - (intOf t).toNat)
          case atStart => exact ⟨0, m, Nat.zero_le _, rfl, hm16, HP0, ho2, hb2', hb22⟩
          case round =>
            clear ho2 hb2' hb22 HP0
            obtain ⟨j, m', hj, rfl, hm16', HPJ, ho, hb, hbx⟩ := hrel
            have hbs2 := hb.size
            by_cases hjl : j < (nums M).length
            · obtain ⟨yb, yo, z, rfl, hcz, HZ⟩ := (HLR.out wr hbx).intAt hjl
              obtain ⟨q, hq1, rfl⟩ : ∃ q : Nat, (bitsOf M)[j]? = some q ∧ z = (q : Int) := by
                have h := HZ.out
                unfold nums at h
                rw [List.getElem?_map] at h
                cases hb' : (bitsOf M)[j]? with
                | none => rw [hb'] at h; cases h
                | some q => rw [hb'] at h; exact ⟨q, rfl, (Option.some.inj h).symm⟩
              have hq16 : q < 16 := by
                have h := (mem_bitsOf.1 (List.mem_of_getElem? hq1)).2
                by_cases hq : q < 16
                · exact hq
                · rw [bits_above hM16 q (by omega)] at h; cases h
              have HPN := Lib.hid (putN_take (m := m) hq1)
              have HIN := Lib.hid (into_nums m' q (by omega))
              have hlm : (nums m').length ≤ 32 := nums_length m'
              have hI := Lib.hid (into_any u5 (nums m') (q : Int) wr (Row.of_owns ho) (by omega))
              have hmq : m' ||| 2 ^ q < 65536 := Nat.or_lt_two_pow (n := 16) hm16' (Nat.pow_lt_pow_right (by decide) hq16)
              have HO := Lib.hid ho
              clear hq1 ho
              go_wp2_with fail
              refine hI.out.mono ?_
              rintro e1 w4 ⟨v4, rfl, hv4, hb4⟩
              rw [HIN.out] at hv4
              have HO4 : Hid (w4.ownsRow B 2 1 v4 (nums (m' ||| 2 ^ q)).length (ints (nums (m' ||| 2 ^ q)))) := Lib.hid (by
                rcases hv4 with ⟨rfl, h⟩ | h
                · rw [h]; exact owns_keep HO.out fun b _ hlt => hb4.block b hlt
                · exact owns_base h (by omega))
              have hb4' := hb.trans (hb4.mono (by omega))
              have hbx4 := hbx.trans (hb4.mono (by have := hbx.size; omega))
              clear hv4 hb4 hb hbx hI hcz
              go_wp2_with fail
              go_roundw
              case rel => exact ⟨j + 1, m' ||| 2 ^ q, by omega, by go_num, hmq, Lib.hid (by rw [HPN.out, HPJ.out]), HO4.out, hb4', hbx4⟩
              case measure => simp [intOf]; omega
            · obtain rfl : j = (nums M).length := by omega
              have HE : Hid (m' = m ||| M) := Lib.hid (by
                rw [HPJ.out, List.take_of_length_le (by simp [nums]), putN_bits hM16])
              go_wp2_with fail
              go_roundw
              case rel => exact ⟨k + 1, m', by omega, by go_num, hm16', Lib.hid (by rw [HE.out, HMN.out]), ho, hb⟩
              case measure => simp [intOf]; omega
        · obtain rfl : k = p.2.2.length := by omega
          have HMF : Hid (m = msk L i) := Lib.hid (by rw [HMK.out, HM.out, List.take_length])
          have HO := Lib.hid ho
          have HB := Lib.hid hb
          clear ho hb
          go_wp2_with fail
          go_ret
          exact ⟨_, rfl, by rw [hB, ← HMF.out]; exact HO.out, by rw [hB]; exact HB.out⟩
end Go.Proofs.YtpfhflkpnjkgkaaDoor
/-
  First leaves. No program in sight.
-/

namespace Go.Proofs.YtpfhflkpnjkgkaaDoor

/-- On a list that the stack takes no set is empty. -/
theorem msk_ne (L : List PartD) {n : Nat} {O : List Nat} (hO : runO L n = some O) : ∀ i, i < n → msk L i ≠ 0 := by
  intro i
  induction i using Nat.strongRecOn with
  | ind i ih =>
    intro hi
    obtain ⟨p, hp, hl | ⟨hl, hn, hk⟩⟩ := run_part L hO hi
    · rw [msk_leaf hp hl]
      exact Nat.pos_iff_ne_zero.1 (Nat.two_pow_pos _)
    · rw [msk_node hp hl hk]
      refine mor_ne ?_ fun a ha => ?_
      · intro h
        have := congrArg List.length h
        have h2 := hn.2.2.2
        simp at this
        rw [this] at h2
        simp at h2
      · obtain ⟨c, hc, rfl⟩ := List.mem_map.1 ha
        obtain ⟨r, rfl, hr⟩ := hk c (by simpa using hc)
        simpa using ih r hr (by omega)
/-- The least number of a set. -/
def lst (m : Nat) : Nat := (bitsOf m).headD 0
theorem lst_mem {m : Nat} (h : m < 2 ^ 16) (h0 : m ≠ 0) : m.testBit (lst m) = true := by
  have hne : bitsOf m ≠ [] := by
    intro he
    apply h0
    apply Nat.eq_of_testBit_eq
    intro i
    rw [Nat.zero_testBit]
    cases hb : m.testBit i with
    | false => rfl
    | true =>
      have hi : i < 32 := by
        by_cases hi : i < 16
        · omega
        · rw [bits_above h i (by omega)] at hb; cases hb
      have : i ∈ bitsOf m := mem_bitsOf.2 ⟨hi, hb⟩
      rw [he] at this
      cases this
  unfold lst
  cases hb : bitsOf m with
  | nil => exact (hne hb).elim
  | cons a l => exact (mem_bitsOf.1 (show a ∈ bitsOf m by rw [hb]; simp)).2
/-- Of sets that are apart the first numbers differ. -/
theorem lst_apart {a b : Nat} (ha : a < 2 ^ 16) (hb : b < 2 ^ 16) (ha0 : a ≠ 0) (hb0 : b ≠ 0) (h : a &&& b = 0) : lst a ≠ lst b := by
  intro he
  have h1 := lst_mem ha ha0
  have h2 := lst_mem hb hb0
  rw [← he] at h2
  have h3 : (a &&& b).testBit (lst a) = true := by rw [Nat.testBit_and, h1, h2]; rfl
  rw [h, Nat.zero_testBit] at h3
  cases h3
end Go.Proofs.YtpfhflkpnjkgkaaDoor
/-
  The walk without fuel. No program in sight.
-/

namespace Go.Proofs.YtpfhflkpnjkgkaaDoor

theorem walkK_congr {w w' : Nat → Option Nat} : ∀ (ks : List Int) (m : Nat), (∀ j, j < m → w j = w' j) → walkK w ks m = walkK w' ks m := by
  intro ks
  induction ks with
  | nil => exact fun m _ => rfl
  | cons k ks ih =>
    intro m h
    unfold walkK
    by_cases hm : m = 0 ∨ k ≠ (m : Int) - 1
    · rw [if_pos hm, if_pos hm]
    · rw [if_neg hm, if_neg hm]
      have hm0 : m ≠ 0 := fun e => hm (.inl e)
      rw [h (m - 1) (by omega)]
      cases w' (m - 1) with
      | none => rfl
      | some s => simp only; rw [ih (m - s) fun j hj => h j (by omega)]
theorem walkP_eq (L : List PartD) (f i : Nat) : walkP L (f + 1) i = match L[i]? with
    | none => none
    | some p => if leafOk p then some 1 else if nodeOk p then (walkK (walkP L f) p.2.2.reverse i).map (· + 1) else none := by
  conv => lhs; unfold walkP
  cases L[i]? <;> rfl
theorem walkP_fuel (L : List PartD) : ∀ i f, i < f → walkP L f i = walkP L (i + 1) i := by
  intro i
  induction i using Nat.strongRecOn with
  | ind i ih =>
    intro f hf
    obtain ⟨g, rfl⟩ : ∃ g, f = g + 1 := ⟨f - 1, by omega⟩
    rw [walkP_eq, walkP_eq]
    cases L[i]? with
    | none => rfl
    | some p =>
      dsimp only
      rw [walkK_congr (w := walkP L g) (w' := walkP L i) p.2.2.reverse i fun j hj => (ih j hj g (by omega)).trans (ih j hj i hj).symm]
/-- The size of the subtree that ends at i. -/
def walkR (L : List PartD) (i : Nat) : Option Nat := walkP L (i + 1) i
theorem walkR_eq (L : List PartD) (i : Nat) : walkR L i = match L[i]? with
    | none => none
    | some p => if leafOk p then some 1 else if nodeOk p then (walkK (walkR L) p.2.2.reverse i).map (· + 1) else none := by
  unfold walkR
  rw [walkP_eq]
  cases L[i]? with
  | none => rfl
  | some p =>
    dsimp only
    rw [walkK_congr (w := walkP L i) (w' := fun j => walkP L (j + 1) j) p.2.2.reverse i fun j hj => walkP_fuel L j i hj]
theorem walkR_le {L : List PartD} {i s : Nat} (h : walkR L i = some s) : 1 ≤ s ∧ s ≤ i + 1 := walkP_le L _ _ _ h
/-- The two judge the shape alike. -/
theorem shape_R (L : List PartD) (n : Nat) (hn : 0 < n) : walkR L (n - 1) = some n ↔ runO L n = some [n - 1] := by
  rw [← shape_iff L n hn]
  constructor
  · exact fun h => ⟨_, h⟩
  · rintro ⟨f, h⟩
    by_cases hf : n - 1 < f
    · rw [walkP_fuel L _ _ hf] at h; exact h
    · have key : ∀ d, walkP L (f + d) (n - 1) = some n := by
        intro d
        induction d with
        | zero => exact h
        | succ d ih => exact walkP_succ L _ _ _ ih
      have := key (n - 1 + 1 - f)
      rw [show f + (n - 1 + 1 - f) = n - 1 + 1 by omega] at this
      exact this
end Go.Proofs.YtpfhflkpnjkgkaaDoor
/-
  Lists of parts: the two judge alike. No program in sight.
-/

namespace Go.Proofs.YtpfhflkpnjkgkaaDoor

/-- The least leaf of a kid. -/
def lsA (L : List PartD) (p : PartD) (j : Nat) : Nat := lst (msk L (p.2.2.getD j 0).toNat)
/-- The least leaves do not fall, in the parts below k. -/
def fallN (L : List PartD) (k : Nat) : Prop := ∀ i p, i < k → L[i]? = some p → ¬ leafOk p → ∀ j, j + 1 < p.2.2.length → lsA L p j ≤ lsA L p (j + 1)
/-- The least leaves rise. -/
def riseP (L : List PartD) (p : PartD) : Prop := ∀ j, j + 1 < p.2.2.length → lsA L p j < lsA L p (j + 1)
def riseN (L : List PartD) (k : Nat) : Prop := ∀ i p, i < k → L[i]? = some p → riseP L p
/-- What the program asks. -/
def progOk (L : List PartD) : Prop := runO L L.length = some [L.length - 1] ∧ 0 < L.length ∧ disN L L.length ∧ fallN L L.length ∧ msk L (L.length - 1) = 2 ^ size (msk L (L.length - 1)) - 1
/-- What the reference asks. -/
def refOk (L : List PartD) : Prop := 1 ≤ L.length ∧ L.length ≤ 31 ∧ walkR L (L.length - 1) = some L.length ∧ riseN L L.length ∧ size (msk L (L.length - 1)) = leafN L L.length ∧ (bitL (msk L (L.length - 1)))[leafN L L.length - 1]? = some (leafN L L.length - 1)

theorem mor_and {a : Nat} : ∀ {l : List Nat}, mor l &&& a = 0 → ∀ b ∈ l, b &&& a = 0 := by
  intro l
  induction l with
  | nil => intro _ b hb; cases hb
  | cons c l ih =>
    intro h b hb
    unfold mor at h
    rw [Nat.and_or_distrib_right] at h
    obtain ⟨h1, h2⟩ := Nat.or_eq_zero_iff.1 h
    rcases List.mem_cons.1 hb with rfl | hb
    · exact h2
    · exact ih h1 b hb
/-- Neighbours in a list whose parts are apart. -/
theorem disR_next : ∀ {l : List Nat}, disR l → ∀ j a b, l[j]? = some a → l[j + 1]? = some b → b &&& a = 0 := by
  intro l
  induction l with
  | nil => intro _ j a b h; simp at h
  | cons c l ih =>
    intro h j a b ha hb
    unfold disR at h
    cases j with
    | zero =>
      simp at ha hb
      subst ha
      exact mor_and h.2 b (List.mem_of_getElem? hb)
    | succ j => exact ih h.1 j a b (by simpa using ha) (by simpa using hb)
theorem kid_apart {L : List PartD} {p : PartD} (hd : disR (p.2.2.reverse.map fun c => msk L c.toNat)) {j : Nat} (hj : j + 1 < p.2.2.length) : msk L (p.2.2.getD j 0).toNat &&& msk L (p.2.2.getD (j + 1) 0).toNat = 0 := by
  have e0 : p.2.2.getD j 0 = p.2.2[j]'(by omega) := by rw [List.getD_eq_getElem?_getD, List.getElem?_eq_getElem (by omega)]; rfl
  have e1 : p.2.2.getD (j + 1) 0 = p.2.2[j + 1] := by rw [List.getD_eq_getElem?_getD, List.getElem?_eq_getElem hj]; rfl
  refine disR_next hd (p.2.2.length - 2 - j) (msk L (p.2.2.getD (j + 1) 0).toNat) _ ?_ ?_
  · rw [List.getElem?_map, List.getElem?_reverse (by omega), show p.2.2.length - 1 - (p.2.2.length - 2 - j) = j + 1 by omega, List.getElem?_eq_getElem hj, e1]
    rfl
  · rw [List.getElem?_map, List.getElem?_reverse (by omega), show p.2.2.length - 1 - (p.2.2.length - 2 - j + 1) = j by omega, List.getElem?_eq_getElem (by omega), e0]
    rfl
theorem node_of {L : List PartD} {n : Nat} {O : List Nat} (hO : runO L n = some O) {i : Nat} (hi : i < n) {p : PartD} (hp : L[i]? = some p) (hl : ¬ leafOk p) : nodeOk p ∧ ∀ c ∈ p.2.2, ∃ r : Nat, c = (r : Int) ∧ r < i := by
  obtain ⟨q, hq, h | ⟨-, h1, h2⟩⟩ := run_part L hO hi
  · rw [hp] at hq; cases hq; exact (hl h).elim
  · rw [hp] at hq; cases hq; exact ⟨h1, h2⟩
theorem rise_iff (L : List PartD) {n : Nat} {O : List Nat} (hO : runO L n = some O) (hd : disN L n) : riseN L n ↔ fallN L n := by
  constructor
  · exact fun h i p hi hp _ j hj => Nat.le_of_lt (h i p hi hp j hj)
  · intro h i p hi hp j hj
    by_cases hl : leafOk p
    · rw [hl.2.1] at hj; simp at hj
    · have h1 := h i p hi hp hl j hj
      have hap := kid_apart (hd i p hi hp hl) hj
      obtain ⟨-, hk⟩ := node_of hO hi hp hl
      have get : ∀ t, t < p.2.2.length → msk L (p.2.2.getD t 0).toNat ≠ 0 := by
        intro t ht
        have e : p.2.2.getD t 0 = p.2.2[t] := by rw [List.getD_eq_getElem?_getD, List.getElem?_eq_getElem ht]; rfl
        obtain ⟨r, hr, hri⟩ := hk _ (List.getElem_mem ht)
        rw [e, hr]
        exact msk_ne L hO r (by omega)
      have h2 := lst_apart (msk_lt L _) (msk_lt L _) (get j (by omega)) (get (j + 1) hj) hap
      unfold lsA at h1 ⊢
      omega
/-- The two judge alike. -/
theorem ok_iff (L : List PartD) : refOk L ↔ progOk L := by
  constructor
  · rintro ⟨h1, h2, h3, h4, h5, h6⟩
    have hr := (shape_R L L.length (by omega)).1 h3
    obtain ⟨g1, g2⟩ := (whole_iff L L.length (by omega) hr).1 ⟨h5, h6⟩
    exact ⟨hr, by omega, g1, (rise_iff L hr g1).1 h4, g2⟩
  · rintro ⟨h1, h2, h3, h4, h5⟩
    have hw := (shape_R L L.length (by omega)).2 h1
    obtain ⟨g1, g2⟩ := (whole_iff L L.length (by omega) h1).2 ⟨h3, h5⟩
    exact ⟨h2, parts_31 L L.length h1 h3, hw, (rise_iff L h1 h3).2 h4, g1, g2⟩
theorem bitsOf_bitL {m : Nat} (h : m < 2 ^ 16) : bitsOf m = bitL m := by
  unfold bitsOf bitL
  rw [show (List.range 32) = List.range (16 + 16) from rfl, List.range_add, List.filter_append]
  have : ((List.range 16).map fun x => 16 + x).filter m.testBit = [] := by
    rw [List.filter_eq_nil_iff]
    intro a ha hb
    obtain ⟨x, -, rfl⟩ := List.mem_map.1 ha
    rw [bits_above h (16 + x) (by omega)] at hb
    cases hb
  rw [this, List.append_nil]
theorem leafN_pos {L : List PartD} {n : Nat} (hn : 0 < n) {O : List Nat} (h : runO L n = some O) : 0 < leafN L n := by
  have := run_count L n O h
  omega
noncomputable def okLB (L : List PartD) : Bool := @decide (progOk L) (Classical.propDecidable _)
theorem okLB_iff {L : List PartD} : okLB L = true ↔ progOk L := @decide_eq_true_iff _ (Classical.propDecidable _)
theorem okLB_not {L : List PartD} (h : ¬ progOk L) : okLB L = false := by
  cases hb : okLB L with
  | false => rfl
  | true => exact (h (okLB_iff.1 hb)).elim
end Go.Proofs.YtpfhflkpnjkgkaaDoor
