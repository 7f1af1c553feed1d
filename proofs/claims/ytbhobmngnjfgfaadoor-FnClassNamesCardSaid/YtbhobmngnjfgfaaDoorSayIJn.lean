import Derived.Lib.ItoaNum
import Derived.Lib.ItoaLen
import Derived.Laws.IdiomStrings
import Derived.BigGuardPart
import Derived.Test.YtbhobmngnjfgfaaDoorGq05
/-
  'l1Int' of the reference: a number as text.
-/





namespace Go.Proofs.YtbhobmngnjfgfaaDoor
open Go.RowKit Go.Lib

def emptyV : Value → Nat
  | .string s => if s.data.toList = [] then 1 else 0
  | _ => 0
/-- What stands when the digits L are written and m is left. -/
def finD (m : Nat) (L : List UInt8) : List UInt8 := if m = 0 ∧ L ≠ [] then L else decDigits m ++ L
theorem finD_start (u : Nat) : finD u [] = decDigits u := by simp [finD]
theorem finD_step {m : Nat} {L : List UInt8} (h : L = [] ∨ m ≠ 0) : finD (m / 10) (UInt8.ofNat (48 + m % 10) :: L) = finD m L := by
  unfold finD
  rw [if_neg (show ¬ (m = 0 ∧ L ≠ []) from fun ⟨h1, h2⟩ => by rcases h with h | h; exact h2 h; exact h h1)]
  by_cases h10 : m < 10
  · have h0 : m / 10 = 0 := by omega
    have h1 : m % 10 = m := by omega
    rw [if_pos ⟨h0, by simp⟩, decDigits_one h10, h1]
    rfl
  · have h0 : ¬ m / 10 = 0 := by omega
    rw [if_neg (fun h => h0 h.1)]
    rw [show decDigits m = decDigits (m / 10) ++ [UInt8.ofNat (48 + m % 10)] by rw [decDigits, dif_neg h10]]
    simp
theorem finD_len (m : Nat) (L : List UInt8) : L.length ≤ (finD m L).length := by
  unfold finD
  split
  · exact Nat.le_refl _
  · rw [List.length_append]; omega
theorem finD_end {L : List UInt8} (h : L ≠ []) : finD 0 L = L := if_pos ⟨rfl, h⟩

theorem str_cat (A L : List UInt8) : (⟨A.toArray⟩ : ByteArray) ++ ⟨L.toArray⟩ = ⟨(A ++ L).toArray⟩ := by
  apply ByteArray.ext
  simp
theorem str_cons (ch : UInt8) (L : List UInt8) : (⟨#[ch]⟩ : ByteArray) ++ ⟨L.toArray⟩ = ⟨(ch :: L).toArray⟩ := str_cat [ch] L
theorem convert_one (w : World) (ch : UInt8) (x : Int) (hx : (ch.toNat : Int) = x) :
    (convert 62 9 (.slice (some ⟨w.heap.size, 0, none⟩) 1 1)).run Tryd.prog (w.alloc (.cells #[.int .u8 x] 5)) = .ok (.string ⟨#[ch]⟩) (w.alloc (.cells #[.int .u8 x] 5)) := by
  subst hx
  exact run_convert_bytes_back (P := Tryd.prog) _ 62 9 5 ⟨w.heap.size, 0, none⟩ 1 [ch] Tryd.underlying62 Tryd.underlying5 Tryd.underlying9 (fun j hj => by
    have h0 : j = 0 := by simpa using hj
    subst h0
    have := (VC.new (t := 5) (cs := #[.int .u8 (ch.toNat : Int)]) (w := w) rfl).cell
    simp [Addr.add, this])
theorem digit_nat (m : Nat) : ((UInt8.ofNat (48 + m % 10)).toNat : Int) = 48 + (m : Int) % 10 := by
  have : (UInt8.ofNat (48 + m % 10)).toNat = 48 + m % 10 := by rw [UInt8.toNat_ofNat']; omega
  omega

set_option maxHeartbeats 4000000 in
set_option maxRecDepth 100000 in
theorem int_pos (u : Nat) (hu : (u : Int) ≤ 9223372036854775807) (w : World) :
    Calls Tryd.prog 69 #[.int .i64 ((u : Int))] w fun e w' => e = .returned (.string ⟨(decDigits u).toArray⟩) ∧ Below w.heap.size w w' := by
  obtain ⟨B, hB⟩ : ∃ B, w.heap.size = B := ⟨_, rfl⟩
  have hbr : Below B w w := Below.refl _ _
  have HF0 := Lib.hid (finD_start u)
  have hneg : decide ((u : Int) < 0) = false := by rw [decide_eq_false_iff_not]; omega
  obtain ⟨q, hq⟩ : ∃ q : Bool, q = false := ⟨_, rfl⟩
  rw [← hq] at hneg
  have HQ := Lib.hid hq
  clear hq
  go_enter Tryd.func69, Tryd.ntmps69
  go_wp2_with fail
  try simp only [hneg]
  clear hneg
  go_loopw [0, 3] (fun nv sv wr => ∃ (m : Nat) (L : List UInt8), nv = .int .i64 ((m : Int)) ∧ (m : Int) ≤ 9223372036854775807 ∧ sv = .string ⟨L.toArray⟩ ∧ Hid (finD m L = decDigits u) ∧ Below B w wr) (fun nv sv _ => 2 * (intOf nv).natAbs + emptyV sv)
  case atStart => exact ⟨u, [], rfl, hu, rfl, HF0, hbr⟩
  case round =>
    clear hbr HF0
    obtain ⟨m, L, rfl, hm, rfl, HF, hb⟩ := hrel
    have hsz : B ≤ wr.heap.size := by rw [← hB]; exact hB ▸ hb.size
    have hLl : L.length ≤ 20 := by have h1 := finD_len m L; rw [HF.out, decDigits_length] at h1; have h2 := nDigits_le20 u (by omega); omega
    obtain ⟨ch, hch⟩ : ∃ ch : UInt8, ch = UInt8.ofNat (48 + m % 10) := ⟨_, rfl⟩
    have HCV := Lib.hid (convert_one wr ch (48 + (m : Int) % 10) (by rw [hch]; exact digit_nat m))
    have HS : Hid ((L = [] ∨ m ≠ 0) → finD (m / 10) (ch :: L) = decDigits u) := Lib.hid fun h => by rw [hch, finD_step h, HF.out]
    have HB2 : Hid (Below B w (wr.alloc (.cells #[.int .u8 (48 + (m : Int) % 10)] 5))) := Lib.hid (hb.alloc hsz _)
    have HCC := Lib.hid (str_cons ch L)
    clear hch
    by_cases hL : L = []
    · have HL := Lib.hid hL
      have he1 : L.isEmpty = true := by simp [hL]
      clear hL
      have hcv := HCV.out
      go_wp2_with fail
      refine ⟨⟨m / 10, ch :: L, by go_num, by omega, by rw [← HCC.out], Lib.hid (HS.out (.inl HL.out)), HB2.out⟩, ?_⟩
      simp [intOf, emptyV, HL.out]; omega
    · have he1 : L.isEmpty = false := by simpa using hL
      have HL := Lib.hid hL
      clear hL
      by_cases hm0 : m = 0
      · have HFE : Hid (L = decDigits u) := Lib.hid (by rw [← HF.out, hm0, finD_end HL.out])
        have hd0 : ((m : Int) == 0) = true := by rw [beq_iff_eq]; omega
        have hd1 : ((m : Int) != 0) = false := by simp [hm0]
        clear hm0
        have HQQ := HQ.out
        subst HQQ
        go_wp2_with fail
        go_ret
        exact ⟨by rw [← HFE.out]; rfl, by first | exact hb | (rw [hB]; exact hb)⟩
      · have HM0 := Lib.hid hm0
        have hd1 : ((m : Int) != 0) = true := by rw [bne_iff_ne]; omega
        have hd0 : ((m : Int) == 0) = false := by rw [beq_eq_false_iff_ne]; omega
        clear hm0
        have hcv := HCV.out
        go_wp2_with fail
        refine ⟨⟨m / 10, ch :: L, by go_num, by omega, by rw [← HCC.out], Lib.hid (HS.out (.inr HM0.out)), HB2.out⟩, ?_⟩
        have := HM0.out; simp [intOf, emptyV, HCC.out]; omega

set_option maxHeartbeats 4000000 in
set_option maxRecDepth 100000 in
theorem int_neg (u : Nat) (h1 : 1 ≤ u) (hu : (u : Int) ≤ 9223372036854775808) (w : World) :
    Calls Tryd.prog 69 #[.int .i64 (-(u : Int))] w fun e w' => e = .returned (.string ⟨(45 :: decDigits u).toArray⟩) ∧ Below w.heap.size w w' := by
  obtain ⟨B, hB⟩ : ∃ B, w.heap.size = B := ⟨_, rfl⟩
  have hbr : Below B w w := Below.refl _ _
  have HF0 := Lib.hid (finD_start u)
  have hneg : decide (-(u : Int) < 0) = true := by rw [decide_eq_true_eq]; omega
  obtain ⟨q, hq⟩ : ∃ q : Bool, q = true := ⟨_, rfl⟩
  rw [← hq] at hneg
  have HQ := Lib.hid hq
  clear hq
  go_enter Tryd.func69, Tryd.ntmps69
  go_wp2_with fail
  try simp only [hneg]
  clear hneg
  go_loopw [0, 3] (fun nv sv wr => ∃ (m : Nat) (L : List UInt8), nv = .int .i64 (-(m : Int)) ∧ (m : Int) ≤ 9223372036854775808 ∧ sv = .string ⟨L.toArray⟩ ∧ Hid (finD m L = decDigits u) ∧ Below B w wr) (fun nv sv _ => 2 * (intOf nv).natAbs + emptyV sv)
  case atStart => exact ⟨u, [], rfl, hu, rfl, HF0, hbr⟩
  case round =>
    clear hbr HF0
    obtain ⟨m, L, rfl, hm, rfl, HF, hb⟩ := hrel
    have hsz : B ≤ wr.heap.size := by rw [← hB]; exact hB ▸ hb.size
    have hLl : L.length ≤ 20 := by have h1 := finD_len m L; rw [HF.out, decDigits_length] at h1; have h2 := nDigits_le20 u (by omega); omega
    obtain ⟨ch, hch⟩ : ∃ ch : UInt8, ch = UInt8.ofNat (48 + m % 10) := ⟨_, rfl⟩
    have HCV := Lib.hid (convert_one wr ch (48 + (m : Int) % 10) (by rw [hch]; exact digit_nat m))
    have HS : Hid ((L = [] ∨ m ≠ 0) → finD (m / 10) (ch :: L) = decDigits u) := Lib.hid fun h => by rw [hch, finD_step h, HF.out]
    have HB2 : Hid (Below B w (wr.alloc (.cells #[.int .u8 (48 + (m : Int) % 10)] 5))) := Lib.hid (hb.alloc hsz _)
    have HCC := Lib.hid (str_cons ch L)
    clear hch
    by_cases hL : L = []
    · have HL := Lib.hid hL
      have he1 : L.isEmpty = true := by simp [hL]
      clear hL
      obtain ⟨d, hd⟩ : ∃ d : Nat, m % 10 = d := ⟨_, rfl⟩
      obtain ⟨m2, hm2⟩ : ∃ d : Nat, m / 10 = d := ⟨_, rfl⟩
      have hdi : (m : Int) % 10 = (d : Int) := by omega
      have hmq : (-(m : Int)).tdiv 10 = -(m2 : Int) := by rw [Int.neg_tdiv, Int.tdiv_eq_ediv_of_nonneg (by omega)]; omega
      have hmr : (-(m : Int)).tmod 10 = -(d : Int) := by rw [Int.neg_tmod, Int.tmod_eq_emod_of_nonneg (by omega)]; omega
      have hd9 : d ≤ 9 := by omega
      have hmm : m2 ≤ m ∧ (m ≠ 0 → m2 < m) := by omega
      rw [hm2] at HS
      rw [hdi] at HCV HB2
      have HMM := Lib.hid hmm
      have HDD := Lib.hid (And.intro hd hm2)
      have hwq : wrap64 (-(m2 : Int)) = -(m2 : Int) := by unfold wrap64; omega
      have hwd : wrap64 (-(d : Int)) = -(d : Int) := by unfold wrap64; omega
      have hcv := HCV.out
      clear hd hm2 hdi hmm
      by_cases hd0 : d = 0
      · subst hd0
        try simp only [Int.natCast_zero, Int.neg_zero, Int.add_zero] at *
        go_wp2_with fail
        refine ⟨⟨m2, ch :: L, by go_num, by have := HMM.out; omega, by rw [← HCC.out], Lib.hid (HS.out (.inl HL.out)), HB2.out⟩, ?_⟩
        have := HMM.out; simp [intOf, emptyV, HL.out]; omega
      · have hdl : -(d : Int) < 0 := by omega
        go_wp2_with fail
        refine ⟨⟨m2, ch :: L, by go_num, by have := HMM.out; omega, by rw [← HCC.out], Lib.hid (HS.out (.inl HL.out)), HB2.out⟩, ?_⟩
        have := HMM.out; simp [intOf, emptyV, HL.out]; omega
    · have he1 : L.isEmpty = false := by simpa using hL
      have HL := Lib.hid hL
      clear hL
      by_cases hm0 : m = 0
      · have HFE : Hid (L = decDigits u) := Lib.hid (by rw [← HF.out, hm0, finD_end HL.out])
        have hd0 : (-(m : Int) == 0) = true := by rw [beq_iff_eq]; omega
        have hd1 : (-(m : Int) != 0) = false := by simp [hm0]
        clear hm0
        have HQQ := HQ.out
        subst HQQ
        go_wp2_with fail
        go_ret
        exact ⟨by rw [← HFE.out]; exact congrArg (fun s => Ending.returned (Value.string s)) (str_cons 45 L), by first | exact hb | (rw [hB]; exact hb)⟩
      · have HM0 := Lib.hid hm0
        have hd1 : (-(m : Int) != 0) = true := by rw [bne_iff_ne]; omega
        have hd0 : (-(m : Int) == 0) = false := by rw [beq_eq_false_iff_ne]; omega
        clear hm0
        obtain ⟨d, hd⟩ : ∃ d : Nat, m % 10 = d := ⟨_, rfl⟩
        obtain ⟨m2, hm2⟩ : ∃ d : Nat, m / 10 = d := ⟨_, rfl⟩
        have hdi : (m : Int) % 10 = (d : Int) := by omega
        have hmq : (-(m : Int)).tdiv 10 = -(m2 : Int) := by rw [Int.neg_tdiv, Int.tdiv_eq_ediv_of_nonneg (by omega)]; omega
        have hmr : (-(m : Int)).tmod 10 = -(d : Int) := by rw [Int.neg_tmod, Int.tmod_eq_emod_of_nonneg (by omega)]; omega
        have hd9 : d ≤ 9 := by omega
        have hmm : m2 ≤ m ∧ (m ≠ 0 → m2 < m) := by omega
        rw [hm2] at HS
        rw [hdi] at HCV HB2
        have HMM := Lib.hid hmm
        have HDD := Lib.hid (And.intro hd hm2)
        have hwq : wrap64 (-(m2 : Int)) = -(m2 : Int) := by unfold wrap64; omega
        have hwd : wrap64 (-(d : Int)) = -(d : Int) := by unfold wrap64; omega
        have hcv := HCV.out
        clear hd hm2 hdi hmm
        by_cases hd0 : d = 0
        · subst hd0
          try simp only [Int.natCast_zero, Int.neg_zero, Int.add_zero] at *
          go_wp2_with fail
          refine ⟨⟨m2, ch :: L, by go_num, by have := HMM.out; omega, by rw [← HCC.out], Lib.hid (HS.out (.inr HM0.out)), HB2.out⟩, ?_⟩
          have := HMM.out.2 HM0.out; simp [intOf, emptyV, HCC.out]; omega
        · have hdl : -(d : Int) < 0 := by omega
          go_wp2_with fail
          refine ⟨⟨m2, ch :: L, by go_num, by have := HMM.out; omega, by rw [← HCC.out], Lib.hid (HS.out (.inr HM0.out)), HB2.out⟩, ?_⟩
          have := HMM.out.2 HM0.out; simp [intOf, emptyV, HCC.out]; omega

theorem int_any (n : Int) (h0 : -9223372036854775808 ≤ n) (h1 : n ≤ 9223372036854775807) (w : World) :
    Calls Tryd.prog 69 #[.int .i64 n] w fun e w' => e = .returned (.string ⟨(itoa n).toArray⟩) ∧ Below w.heap.size w w' := by
  by_cases hn : n < 0
  · obtain ⟨u, rfl⟩ : ∃ u : Nat, n = -(u : Int) := ⟨n.natAbs, by omega⟩
    have e : itoa (-(u : Int)) = 45 :: decDigits u := by unfold itoa; rw [if_pos hn]; simp
    rw [e]
    exact int_neg u (by omega) (by omega) w
  · obtain ⟨u, rfl⟩ : ∃ u : Nat, n = (u : Int) := ⟨n.toNat, by omega⟩
    have e : itoa (u : Int) = decDigits u := by unfold itoa; rw [if_neg hn]; simp
    rw [e]
    exact int_pos u h1 w
end Go.Proofs.YtbhobmngnjfgfaaDoor
