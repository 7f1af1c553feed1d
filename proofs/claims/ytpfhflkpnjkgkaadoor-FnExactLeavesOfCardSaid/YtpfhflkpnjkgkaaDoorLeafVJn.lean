import Derived.Test.YtpfhflkpnjkgkaaDoorGq08
import Derived.Test.YtpfhflkpnjkgkaaDoorOkayJn
/-
  'l16Walk' of the reference.
-/


namespace Go.Proofs.YtpfhflkpnjkgkaaDoor
open Go.RowKit

/-- The walk as a number. -/
def zO : Option Nat → Int
  | none => -1
  | some s => (s : Nat)
theorem walkZ_leaf {L : List PartD} {i : Nat} {p : PartD} (hp : L[i]? = some p) (hl : leafOk p) : zO (walkR L i) = 1 := by
  rw [walkR_eq, hp]
  dsimp only
  rw [if_pos hl]
  rfl
theorem walkZ_none {L : List PartD} {i : Nat} {p : PartD} (hp : L[i]? = some p) (hl : ¬ leafOk p) (hn : ¬ nodeOk p) : zO (walkR L i) = -1 := by
  rw [walkR_eq, hp]
  dsimp only
  rw [if_neg hl, if_neg hn]
  rfl
theorem walkR_node {L : List PartD} {i : Nat} {p : PartD} (hp : L[i]? = some p) (hl : ¬ leafOk p) (hn : nodeOk p) : walkR L i = (walkK (walkR L) p.2.2.reverse i).map (· + 1) := by
  conv => lhs; rw [walkR_eq, hp]
  dsimp only
  rw [if_neg hl, if_pos hn]
/-- Where the walk over the kids stands: j kids are read, m places are left. -/
def WK (L : List PartD) (p : PartD) (i j m : Nat) : Prop := m ≤ i ∧ walkK (walkR L) p.2.2.reverse i = (walkK (walkR L) (p.2.2.reverse.drop j) m).map (· + (i - m))
theorem WK.start (L : List PartD) (p : PartD) (i : Nat) : WK L p i 0 i := by
  refine ⟨Nat.le_refl _, ?_⟩
  rw [List.drop_zero, Nat.sub_self]
  cases walkK (walkR L) p.2.2.reverse i <;> rfl
theorem WK.cons {L : List PartD} {p : PartD} {i j m : Nat} (h : WK L p i j m) (hj : j < p.2.2.length) {y : Int} (hy : p.2.2[p.2.2.length - 1 - j]? = some y) :
    walkK (walkR L) p.2.2.reverse i = (walkK (walkR L) (y :: p.2.2.reverse.drop (j + 1)) m).map (· + (i - m)) := by
  rw [h.2]
  congr 2
  have hjl : j < p.2.2.reverse.length := by simpa using hj
  rw [List.drop_eq_getElem_cons hjl]
  congr 1
  have : p.2.2.reverse[j]? = some y := by rw [List.getElem?_reverse hj]; exact hy
  rw [List.getElem?_eq_getElem hjl] at this
  exact Option.some.inj this
theorem WK.bad {L : List PartD} {p : PartD} {i j m : Nat} (h : WK L p i j m) (hj : j < p.2.2.length) {y : Int} (hy : p.2.2[p.2.2.length - 1 - j]? = some y) (hb : m = 0 ∨ y ≠ (m : Int) - 1) : walkK (walkR L) p.2.2.reverse i = none := by
  rw [h.cons hj hy]
  unfold walkK
  rw [if_pos hb]
  rfl
theorem WK.stuck {L : List PartD} {p : PartD} {i j m : Nat} (h : WK L p i j m) (hj : j < p.2.2.length) {y : Int} (hy : p.2.2[p.2.2.length - 1 - j]? = some y) (hm : 0 < m) (hy2 : y = (m : Int) - 1) (hw : walkR L (m - 1) = none) : walkK (walkR L) p.2.2.reverse i = none := by
  rw [h.cons hj hy]
  unfold walkK
  rw [if_neg (by rintro (h | h); omega; exact h hy2), hw]
  rfl
theorem WK.next {L : List PartD} {p : PartD} {i j m s : Nat} (h : WK L p i j m) (hj : j < p.2.2.length) {y : Int} (hy : p.2.2[p.2.2.length - 1 - j]? = some y) (hm : 0 < m) (hy2 : y = (m : Int) - 1) (hw : walkR L (m - 1) = some s) : WK L p i (j + 1) (m - s) := by
  have hs := walkR_le hw
  have hmi := h.1
  refine ⟨by omega, ?_⟩
  rw [h.cons hj hy]
  conv => lhs; unfold walkK
  rw [if_neg (by rintro (h | h); omega; exact h hy2), hw]
  dsimp only
  cases walkK (walkR L) (p.2.2.reverse.drop (j + 1)) (m - s) with
  | none => rfl
  | some r => simp only [Option.map_some]; congr 1; omega
theorem WK.done {L : List PartD} {p : PartD} {i m : Nat} (h : WK L p i p.2.2.length m) : walkK (walkR L) p.2.2.reverse i = some (i - m) := by
  rw [h.2, List.drop_of_length_le (by simp)]
  simp [walkK]

set_option maxHeartbeats 4000000 in
theorem l16Walk_any (L : List PartD) (v : Value) : ∀ i, i < L.length → ∀ (w : World) (I : Int), I = (i : Nat) → RdP v L w →
    Calls Tryd.prog 44 #[v, .int .i64 I] w fun e w' => e = .returned (.int .i64 (zO (walkR L i))) ∧ Below w.heap.size w w' := by
  intro i
  induction i using Nat.strongRecOn with
  | ind i ih =>
    intro hi w I hI hr
    subst hI
    obtain ⟨p, hp⟩ : ∃ p, L[i]? = some p := ⟨_, List.getElem?_eq_getElem hi⟩
    have hlen := hr.len
    unfold maxLen at hlen
    obtain ⟨a, c, rfl, -⟩ := hr.outer
    obtain ⟨b, o, u, rfl, hc0, hc1, hc2, hru⟩ := hr.at hp
    obtain ⟨B, hB⟩ : ∃ B, w.heap.size = B := ⟨_, rfl⟩
    obtain ⟨kd, vx, ks⟩ := p
    dsimp only at hc0 hc1 hc2 hru
    obtain ⟨W1, hW1⟩ : ∃ W, W = w.alloc (.cells #[.int .i64 kd, .int .i64 vx, u] 48) := ⟨_, rfl⟩
    have hz1 : W1.heap.size = B + 1 := by rw [hW1]; simp [hB]
    have hb1 : Below B w W1 := by rw [hW1, ← hB]; exact below_alloc' _ _
    have V1 : VC 48 B #[.int .i64 kd, .int .i64 vx, u] W1 := by rw [hW1]; exact VC.new hB
    obtain ⟨d0, d1, d2⟩ := V1.at3
    rw [hW1, ← hB] at d0 d1 d2
    obtain ⟨ka, kc, rfl, -, -, -⟩ := id hru
    have hkl := hru.len
    unfold maxLen at hkl
    have HB1 := Lib.hid hb1
    have HW1 := Lib.hid hW1
    have HZ1 := Lib.hid hz1
    by_cases hk1 : kd = 1
    · subst hk1
      obtain ⟨bb, hbb⟩ : ∃ b, decide (0 ≤ vx ∧ vx ≤ 15) = b := ⟨_, rfl⟩
      have HI := fun W => Lib.hid (l1In_is vx 0 15 bb hbb W)
      by_cases hk0 : 0 < ks.length
      · have HN : Hid (zO (walkR L i) = -1) := Lib.hid (walkZ_none hp (fun h => by have := h.2.1; simp at this; subst this; simp at hk0) (fun h => by have := h.1; simp at this))
        rw [HN.out]
        have hki : ((0 : Int) < ks.length) := by omega
        clear hr ih hru hb1 V1 hW1 hz1
        go_enter Tryd.func44, Tryd.ntmps44
        go_wp2_with fail
        go_ret
        exact ⟨rfl, by rw [hB]; have h := HB1.out; rw [HW1.out] at h; simpa using h⟩
      · have hks : ks = [] := List.length_eq_zero_iff.1 (by omega)
        subst hks
        have hki : ¬ ((0 : Int) < (([] : List Int).length : Int)) := by simp
        cases bb with
        | true =>
          have HN : Hid (zO (walkR L i) = 1) := Lib.hid (walkZ_leaf hp ⟨rfl, rfl, by simpa using hbb⟩)
          rw [HN.out]
          clear hr ih hru hb1 V1 hW1 hz1
          go_enter Tryd.func44, Tryd.ntmps44
          go_wp2_with fail
          refine (HI _).out.mono ?_
          rintro e1 w1 ⟨rfl, rfl⟩
          go_wp2_with fail
          go_ret
          exact ⟨rfl, by rw [hB]; have h := HB1.out; rw [HW1.out] at h; simpa using h⟩
        | false =>
          have HN : Hid (zO (walkR L i) = -1) := Lib.hid (walkZ_none hp (fun h => by have h2 := h.2.2; rw [decide_eq_false_iff_not] at hbb; exact hbb h2) (fun h => by have := h.1; simp at this))
          rw [HN.out]
          clear hr ih hru hb1 V1 hW1 hz1
          go_enter Tryd.func44, Tryd.ntmps44
          go_wp2_with fail
          refine (HI _).out.mono ?_
          rintro e1 w1 ⟨rfl, rfl⟩
          go_wp2_with fail
          go_ret
          exact ⟨rfl, by rw [hB]; have h := HB1.out; rw [HW1.out] at h; simpa using h⟩
    · have hkb : (kd == 1) = false := by rw [beq_eq_false_iff_ne]; exact hk1
      have hnl : ¬ leafOk (kd, vx, ks) := fun h => hk1 h.1
      by_cases hn : nodeOk (kd, vx, ks)
      · have hIn : decide ((2 : Int) ≤ kd ∧ kd ≤ 4) = true := by rw [decide_eq_true_eq]; exact ⟨hn.1, hn.2.1⟩
        obtain rfl : vx = 0 := hn.2.2.1
        have hk2 : 2 ≤ ks.length := hn.2.2.2
        have HI := fun W => Lib.hid (l1In_is kd 2 4 true hIn W)
        have HN := Lib.hid (walkR_node hp hnl hn)
        have HRU : Hid (∀ W, Below B w W → RdS (.slice ka ks.length kc) ks W) := Lib.hid fun W h => hru.below h hB
        have HRD : Hid (∀ W, Below B w W → RdP (.slice (some ⟨b, o, none⟩) L.length c) L W) := Lib.hid fun W h => hr.below h hB
        have HIH : Hid (∀ r, r < i → ∀ (W : World) (I : Int), I = (r : Nat) → RdP (.slice (some ⟨b, o, none⟩) L.length c) L W → Calls Tryd.prog 44 #[.slice (some ⟨b, o, none⟩) L.length c, .int .i64 I] W (fun e w' => e = .returned (.int .i64 (zO (walkR L r))) ∧ Below W.heap.size W w')) := Lib.hid fun r h W I hI hW => ih r h (by omega) W I hI hW
        have hW : Hid (WK L (kd, 0, ks) i 0 i) := Lib.hid (WK.start _ _ _)
        have HD2 : Hid (∀ W, Below (B + 1) W1 W → W.cell? ⟨B, 2, none⟩ = some (.slice ka ks.length kc)) := Lib.hid fun W h => (h.cell (p := ⟨B, 2, none⟩) (by simp)).trans V1.at3.2.2
        have hbr : Below (B + 1) W1 W1 := Below.refl _ _
        have hki : ¬ ((ks.length : Int) < 2) := by omega
        have hvb : ((0 : Int) != 0) = false := rfl
        clear hr ih hru hb1 V1 hIn hn hnl hp
        go_enter Tryd.func44, Tryd.ntmps44
        go_wp2_with fail
        refine (HI _).out.mono ?_
        rintro e1 w1 ⟨rfl, rfl⟩
        go_wp2_with fail
        rw [← hW1]
        clear hW1 d0 d1 d2 hc0 hc1 hc2
        have hil : i ≤ L.length := by omega
        go_loopw [6, 7, 8] (fun mn nx kk wr => ∃ (j m : Nat), j ≤ ks.length ∧ m ≤ i ∧ Hid (WK L (kd, 0, ks) i j m) ∧ mn = .int .i64 ((i : Int) - m + 1) ∧ nx = .int .i64 ((m : Int) - 1) ∧ kk = .int .i64 ((ks.length : Int) - 1 - j) ∧ Below (B + 1) W1 wr) (fun _ _ kk _ => (intOf kk + 1).toNat)
        case atStart => exact ⟨0, i, Nat.zero_le _, Nat.le_refl _, hW, by simp, rfl, by simp, hbr⟩
        case round =>
          clear hbr hW
          obtain ⟨j, m, hj, hm, HK, rfl, rfl, rfl, hb⟩ := hrel
          have hbB : Below B w wr := HB1.out.trans (hb.mono (by have := HZ1.out; omega))
          have hcu := HD2.out wr hb
          have hbs := hb.size
          have hz := HZ1.out
          by_cases hlt : j < ks.length
          · obtain ⟨t, ht⟩ : ∃ t, t = ks.length - 1 - j := ⟨_, rfl⟩
            have htl : t < ks.length := by omega
            have hte : (ks.length : Int) - 1 - j = (t : Int) := by omega
            obtain ⟨kb, ko, y, rfl, hck, HY⟩ := (HRU.out wr hbB).intAt htl
            rw [hte]
            have hY : ks[ks.length - 1 - j]? = some y := by rw [← ht]; exact HY.out
            have HY2 := Lib.hid hY
            clear hY ht
            by_cases hm0 : m = 0
            · subst hm0
              have HF : Hid (zO (walkR L i) = -1) := Lib.hid (by rw [HN.out, HK.out.bad hlt HY2.out (.inl rfl)]; rfl)
              go_wp2_with fail
              go_ret
              exact ⟨ret_int HF.out.symm, by rw [hB]; exact hbB⟩
            · by_cases hyn : y = (m : Int) - 1
              · have hyb : (y != (m : Int) - 1) = false := by rw [hyn]; simp
                have HC := Lib.hid (HIH.out (m - 1) (by omega) wr ((m : Int) - 1) (by omega) (HRD.out _ hbB))
                go_wp2_with fail
                refine HC.out.mono ?_
                rintro e1 w2 ⟨rfl, hb2⟩
                have hb3 := hb.trans (hb2.mono (by omega))
                have hb3B : Below B w w2 := hbB.trans (hb2.mono (by omega))
                cases hwr : walkR L (m - 1) with
                | none =>
                  have HF : Hid (zO (walkR L i) = -1) := Lib.hid (by rw [HN.out, HK.out.stuck hlt HY2.out (by omega) hyn hwr]; rfl)
                  unfold zO
                  clear hwr
                  go_wp2_with fail
                  go_ret
                  exact ⟨ret_int HF.out.symm, by rw [hB]; exact hb3B⟩
                | some s =>
                  have HK2 := Lib.hid (HK.out.next hlt HY2.out (by omega) hyn hwr)
                  have hs := walkR_le hwr
                  have e : zO (some s) = (s : Int) := rfl
                  rw [e]
                  clear e hwr hb2 hb HC hcu
                  go_wp2_with fail
                  go_roundw
                  case rel => exact ⟨j + 1, m - s, by omega, by omega, HK2, by go_num, by go_num, by go_num, hb3⟩
                  case measure => first | (simp [intOf]; done) | (simp [intOf]; omega)
              · have hyb : (y != (m : Int) - 1) = true := by rw [bne_iff_ne]; exact hyn
                have HF : Hid (zO (walkR L i) = -1) := Lib.hid (by rw [HN.out, HK.out.bad hlt HY2.out (.inr hyn)]; rfl)
                go_wp2_with fail
                go_ret
                exact ⟨ret_int HF.out.symm, by rw [hB]; exact hbB⟩
          · obtain rfl : j = ks.length := by omega
            have HF : Hid (zO (walkR L i) = (i : Int) - m + 1) := Lib.hid (by rw [HN.out, HK.out.done]; simp [zO]; omega)
            go_wp2_with fail
            go_ret
            exact ⟨ret_int HF.out.symm, by rw [hB]; exact hbB⟩
      · have HN : Hid (zO (walkR L i) = -1) := Lib.hid (walkZ_none hp hnl hn)
        rw [HN.out]
        obtain ⟨bb, hbb⟩ : ∃ b, decide ((2 : Int) ≤ kd ∧ kd ≤ 4) = b := ⟨_, rfl⟩
        have HI := fun W => Lib.hid (l1In_is kd 2 4 bb hbb W)
        cases bb with
        | false =>
          clear hr ih hru hb1 V1 hW1 hz1
          go_enter Tryd.func44, Tryd.ntmps44
          go_wp2_with fail
          refine (HI _).out.mono ?_
          rintro e1 w1 ⟨rfl, rfl⟩
          go_wp2_with fail
          go_ret
          exact ⟨rfl, by rw [hB]; have h := HB1.out; rw [HW1.out] at h; simpa using h⟩
        | true =>
          by_cases hv0 : vx = 0
          · subst hv0
            have hvb : ((0 : Int) != 0) = false := rfl
            have hki : ((ks.length : Int) < 2) := by
              rw [decide_eq_true_eq] at hbb
              have : ¬ 2 ≤ ks.length := fun h => hn ⟨hbb.1, hbb.2, rfl, h⟩
              omega
            clear hr ih hru hb1 V1 hW1 hz1
            go_enter Tryd.func44, Tryd.ntmps44
            go_wp2_with fail
            refine (HI _).out.mono ?_
            rintro e1 w1 ⟨rfl, rfl⟩
            go_wp2_with fail
            go_ret
            exact ⟨rfl, by rw [hB]; have h := HB1.out; rw [HW1.out] at h; simpa using h⟩
          · have hvb : (vx != 0) = true := by rw [bne_iff_ne]; exact hv0
            clear hr ih hru hb1 V1 hW1 hz1
            go_enter Tryd.func44, Tryd.ntmps44
            go_wp2_with fail
            refine (HI _).out.mono ?_
            rintro e1 w1 ⟨rfl, rfl⟩
            go_wp2_with fail
            go_ret
            exact ⟨rfl, by rw [hB]; have h := HB1.out; rw [HW1.out] at h; simpa using h⟩
end Go.Proofs.YtpfhflkpnjkgkaaDoor
