import Derived.Lib.SliceRun
import Derived.Test.YtpfhflkpnjkgkaaCardCertNumbersJn08
import Derived.Test.YtpfhflkpnjkgkaaGq02
import Derived.Test.YtpfhflkpnjkgkaaGq04
/-
  'PartNums' of both.
-/

namespace Go.Proofs.Ytpfhflkpnjkgkaa
open Go.RowKit

theorem RdP.fix {a : Option Addr} {n c : Nat} {ps : List PartD} {w : World} (h : RdP (.slice a n c) ps w) {k : Nat} {p : PartD} (hp : ps[k]? = some p) :
    ∃ b o u, a = some ⟨b, o, none⟩ ∧ ∀ W, Below w.heap.size w W → W.cell? ⟨b, o + k * 3, none⟩ = some (.int .i64 p.1) ∧ W.cell? ⟨b, o + k * 3 + 1, none⟩ = some (.int .i64 p.2.1) ∧ W.cell? ⟨b, o + k * 3 + 2, none⟩ = some u ∧ RdS u p.2.2 W := by
  obtain ⟨b, o, u, rfl, h0, h1, h2, h3⟩ := h.at hp
  have hb := block_lt h0
  exact ⟨b, o, u, rfl, fun W hW => ⟨(hW.cell (p := ⟨b, o + k * 3, none⟩) hb).trans h0, (hW.cell (p := ⟨b, o + k * 3 + 1, none⟩) hb).trans h1, (hW.cell (p := ⟨b, o + k * 3 + 2, none⟩) hb).trans h2, Row.below h3 hW⟩⟩

def bigK (p : PartD) : Bool := decide (16 < p.2.2.length)
def numsOf (ps : List PartD) : List Int := ps.flatMap fun p => [p.1, p.2.1, (p.2.2.length : Int)] ++ p.2.2
theorem numsOf_snoc (ps : List PartD) (p : PartD) : numsOf (ps ++ [p]) = numsOf ps ++ [p.1, p.2.1, (p.2.2.length : Int)] ++ p.2.2 := by simp [numsOf]
/-- What 'PartNums' gives. -/
def partN (ps : List PartD) : List Int := if ps.length ≤ 31 ∧ ps.any bigK = false then numsOf ps else []
theorem partN_yes {ps : List PartD} (h1 : ps.length ≤ 31) (h2 : ps.any bigK = false) : partN ps = numsOf ps := if_pos ⟨h1, h2⟩
theorem partN_no {ps : List PartD} (h : ¬ (ps.length ≤ 31 ∧ ps.any bigK = false)) : partN ps = [] := if_neg h
theorem numsOf_le {ps : List PartD} (h : ps.any bigK = false) : (numsOf ps).length ≤ 19 * ps.length := by
  induction ps with
  | nil => simp [numsOf]
  | cons p l ih =>
    rw [List.any_cons, Bool.or_eq_false_iff] at h
    have h1 := ih h.2
    have h2 : p.2.2.length ≤ 16 := by have := h.1; unfold bigK at this; simpa using this
    have : numsOf (p :: l) = [p.1, p.2.1, (p.2.2.length : Int)] ++ p.2.2 ++ numsOf l := by simp [numsOf]
    rw [this]
    simp only [List.length_append, List.length_cons, List.length_nil]
    omega
theorem partN_le (ps : List PartD) : (partN ps).length ≤ 1000 := by
  unfold partN
  split
  · rename_i h
    have := numsOf_le h.2
    omega
  · simp
theorem any_take {ps : List PartD} (k : Nat) (h : ps.any bigK = false) : (ps.take k).any bigK = false := by
  rw [List.any_eq_false] at h ⊢
  exact fun x hx => h x (List.mem_of_mem_take hx)

/-- Three numbers, laid. -/
theorem row_three (w : World) (x y z : Value) (t : TypeId) : Row (w.alloc (.cells #[x, y, z] t)) 1 (.slice (some ⟨w.heap.size, 0, none⟩) 3 3) 3 [x, y, z] := by
  have h : VC t w.heap.size #[x, y, z] (w.alloc (.cells #[x, y, z] t)) := VC.new rfl
  obtain ⟨c0, c1, c2⟩ := h.at3
  refine ⟨_, 3, rfl, by omega, by simp [maxLen], rfl, (by intro h; cases h), fun j u hj => ⟨_, 0, rfl, ?_⟩⟩
  match j, hj with
  | 0, hj => simp at hj; subst hj; exact c0
  | 1, hj => simp at hj; subst hj; exact c1
  | 2, hj => simp at hj; subst hj; exact c2
theorem wpList_three {P : Program} (w : World) {ops : Array Oper} {rest : List Oper} {o : Oper} {a : Act} {Q : Exit → Act → World → Prop} (hgd : o.guard = none) (s x : Operand) (t : TypeId)
    (ho : o.op = .call { callee := .builtin .append, args := #[s, x], argTypes := #[t, t] })
    (base : Nat) (e e2 : TypeId) (z : Value) (bytes : Nat) (ht : P.underlying t = some (.slice e)) (hinfo : (P.info? e).map (fun i => (i.zero, i.size, i.bytes)) = some (some z, 1, bytes)) (hzs : z.cells.size = 1)
    (v : Value) (n : Nat) (xs : List Value) (hs : a.eval s = v) (hown : w.ownsRow base e 1 v n xs) (g0 : Nat) (hg0 : g0 = w.heap.size)
    (y1 y2 y3 : Value) (hx : a.eval x = .slice (some ⟨g0, 0, none⟩) 3 3) (hy1 : y1.oneCell' = true) (hy2 : y2.oneCell' = true) (hy3 : y3.oneCell' = true)
    (h63 : n + 3 ≤ maxLen) (hbytes : (n + 3) * bytes ≤ 140737488355328) (hbase : base ≤ w.heap.size)
    (h : ∀ a' c' w', w'.ownsRow base e 1 (.slice a' (n + 3) c') (n + 3) (xs ++ [y1, y2, y3]) → w.grownBy w' v.ownBlock → wpList P ops Q rest (a.put o.dst (.slice a' (n + 3) c')) w') :
    wpList P ops Q (o :: rest) a (w.alloc (.cells #[y1, y2, y3] e2)) := by
  subst hg0
  refine wpList_extend (w.alloc (.cells #[y1, y2, y3] e2)) hgd s x t ho base e z bytes ht hinfo hzs v n xs hs (hown.alloc _) _ 3 [y1, y2, y3] hx (row_three w y1 y2 y3 e2) ?_ h63 hbytes (by simp; omega) fun a' c' w' h1 h2 => h a' c' w' h1 ⟨h2.os, h2.tape, h2.output, ?_, fun k hk hne => ?_⟩
  · intro u hu
    simp at hu
    rcases hu with rfl | rfl | rfl <;> assumption
  · have := h2.size; simp at this; omega
  · exact (h2.block k (by simp; omega) hne).trans (Below.heap_alloc _ _ _ hk)

theorem owns_unlike_var {w : World} {base : Nat} {e t : TypeId} {size : Nat} {v : Value} {n : Nat} {xs : List Value} {b : Nat} {cs : Array Value} (ho : w.ownsRow base e size v n xs) (hv : VC t b cs w) (he : t ≠ e) : v.ownBlock ≠ some b := fun e' => by
  obtain ⟨cur, hcur⟩ := owns_block ho e'
  unfold VC at hv
  rw [hv] at hcur
  simp at hcur
  exact he hcur.2
set_option maxHeartbeats 4000000 in
set_option maxRecDepth 100000 in
theorem specPartNums (v : Value) (ps : List PartD) (w : World) (hr : RdP v ps w) :
    Calls Try.prog 8 #[v] w (SRes w (partN ps)) := by
  have hl := hr.len
  unfold maxLen at hl
  obtain ⟨a, c, rfl, -, -, -⟩ := hr.outer
  obtain ⟨B, hB⟩ : ∃ B, w.heap.size = B := ⟨_, rfl⟩
  obtain ⟨W0, hW0⟩ : ∃ W0, W0 = w.alloc (.cells #[] 2) := ⟨_, rfl⟩
  have ho0 : W0.ownsRow B 2 1 (.slice (some ⟨B, 0, none⟩) 0 0) 0 [] := by rw [hW0]; subst hB; exact World.ownsRow_lit w #[] 0 (Nat.le_refl _) (by simp [maxLen]) rfl
  have hb0 : Below B w W0 := by rw [hW0]; subst hB; exact below_alloc' _ _
  by_cases h31 : 31 < ps.length
  · have HN : Hid (partN ps = []) := Lib.hid (partN_no (by omega))
    rw [HN.out]
    go_enter Try.func8, Try.ntmps8
    go_wp2_with fail
    rw [← hW0]
    go_ret
    exact ⟨_, rfl, by rw [hB]; exact ho0, by rw [hB]; exact hb0⟩
  · have hlen : ¬ (31 : Int) < ps.length := by omega
    have HF : Hid (∀ k p, ps[k]? = some p → ∃ b o u, a = some ⟨b, o, none⟩ ∧ ∀ W, Below B w W → W.cell? ⟨b, o + k * 3, none⟩ = some (.int .i64 p.1) ∧ W.cell? ⟨b, o + k * 3 + 1, none⟩ = some (.int .i64 p.2.1) ∧ W.cell? ⟨b, o + k * 3 + 2, none⟩ = some u ∧ RdS u p.2.2 W) := Lib.hid fun k p hp => hB ▸ hr.fix hp
    clear hr
    go_enter Try.func8, Try.ntmps8
    go_wp2_with fail
    rw [← hW0]
    clear hW0
    go_loopw [3, 4] (fun u i wr => ∃ k m : Nat, k ≤ ps.length ∧ i = .int .i64 k ∧ m ≤ 19 * k ∧ Hid ((ps.take k).any bigK = false) ∧ Hid ((numsOf (ps.take k)).length = m) ∧ wr.ownsRow B 2 1 u m (ints (numsOf (ps.take k))) ∧ Below B w wr) (fun _ i _ => ps.length - (intOf i).toNat)
    case atStart => exact ⟨0, 0, Nat.zero_le _, rfl, by omega, Lib.hid (by simp), Lib.hid (by simp [numsOf]), by simpa [numsOf, ints] using ho0, hb0⟩
    case round =>
      clear ho0 hb0
      obtain ⟨k, m, hk, rfl, hm, HA, HM, ho, hb⟩ := hrel
      have hsz : B ≤ wr.heap.size := by rw [← hB]; exact hB ▸ hb.size
      by_cases hlt : k < ps.length
      · obtain ⟨p, hp⟩ : ∃ p, ps[k]? = some p := ⟨_, List.getElem?_eq_getElem hlt⟩
        obtain ⟨b, o, u, rfl, hcells⟩ := HF.out k p hp
        have HCE := Lib.hid hcells
        obtain ⟨h0, h1, h2, hu⟩ := hcells wr hb
        have HP := Lib.hid hp
        obtain ⟨ka, kc, rfl, -, -, -⟩ := id hu
        have hul := hu.len
        unfold maxLen at hul
        clear hp hcells hu
        by_cases hbig : 16 < p.2.2.length
        · have HN : Hid (partN ps = []) := Lib.hid (partN_no fun h => by
            have := List.any_eq_false.1 h.2 p (List.mem_of_getElem? HP.out)
            simp [bigK, hbig] at this)
          rw [HN.out]
          have ho1 : (wr.alloc (.cells #[] 2)).ownsRow wr.heap.size 2 1 (.slice (some ⟨wr.heap.size, 0, none⟩) 0 0) 0 [] := World.ownsRow_lit wr #[] 0 (Nat.le_refl _) (by simp [maxLen]) rfl
          have HO := Lib.hid (And.intro (owns_base ho1 hsz) (hb.alloc hsz (.cells #[] 2)))
          clear ho1 hb ho
          go_wp2_with fail
          go_ret
          exact ⟨_, rfl, by rw [hB]; exact HO.out.1, by rw [hB]; exact HO.out.2⟩
        · have hbi : ¬ (16 : Int) < p.2.2.length := by omega
          have HNX : Hid (numsOf (ps.take (k + 1)) = numsOf (ps.take k) ++ [p.1, p.2.1, (p.2.2.length : Int)] ++ p.2.2) := Lib.hid (by rw [take_snoc HP.out, numsOf_snoc])
          have HAX : Hid ((ps.take (k + 1)).any bigK = false) := Lib.hid (by rw [take_snoc HP.out, List.any_append, HA.out]; simp [bigK]; omega)
          have hbd : Below B w wr.drew := hb.drew
          have hod : wr.drew.ownsRow B 2 1 u3 m (ints (numsOf (ps.take k))) := ho
          obtain ⟨ua, uc, rfl⟩ := owns_shape ho
          have hsd : B ≤ wr.drew.heap.size := hsz
          have HBD := Lib.hid hbd
          have HOD := Lib.hid hod
          clear hb ho hod hbd
          go_wp2_with fail
          refine wp_region_ord [0, 1, 2, 3, 4, 6, 7, 8, 9, 11, 12, 13, 14] [5, 10, 15, 16] [17] [18, 19] (by kernel_rfl) (by kernel_rfl) (fun _ _ d _ _ h => by cases d <;> exact h) ?_
          simp only [pickOps, List.filterMap_cons, List.filterMap_nil, List.getElem?_cons_succ, List.getElem?_cons_zero]
          repeat quiet_step (fail)
          simp only [wpQuiet_nil_eq]
          have g2 := (HCE.out _ HBD.out).2.2.1
          clear h0 h1 h2
          generalize hwv : wr.drew = wv at *
          have HK : Hid (∀ w2 : World, wv.grownBy w2 (Value.slice ua m uc).ownBlock → Below B w w2 ∧ w2.cell? ⟨b, o + k * 3 + 2, none⟩ = some (.slice ka p.2.2.length kc) ∧ RdS (.slice ka p.2.2.length kc) p.2.2 w2) := Lib.hid fun w2 hg => by
            have hb2 : Below B w w2 := HBD.out.grown hg hsd fun y hy => (owns_lt HOD.out hy).1
            exact ⟨hb2, (HCE.out _ hb2).2.2⟩
          refine wpSegs_cons ?_
          go_wp2_with fail
          refine ⟨?_, ?_⟩
          · subst hwv
            exact ((Below.refl _ _).drew).alloc (by simp) _
          simp only [wpSegs_nil_eq]
          refine wpList_three wv rfl _ _ 26 rfl B 2 _ (.int .i64 0) 8 Try.underlying26 infoI rfl (.slice ua m uc) m (ints (numsOf (ps.take k))) rfl HOD.out wv.heap.size rfl (.int .i64 p.1) (.int .i64 p.2.1) (.int .i64 (p.2.2.length : Int)) rfl rfl rfl rfl (by unfold maxLen; omega) (by omega) (by omega) ?_
          intro a2 c2 w2 ho2 hg2
          have g3 := (HK.out w2 hg2).2.1
          obtain ⟨hb2, -, hu2⟩ := HK.out w2 hg2
          have hs2 : B ≤ w2.heap.size := by rw [← hB]; exact hB ▸ hb2.size
          have HB2 := Lib.hid hb2
          have HO2 := Lib.hid ho2
          clear hg2 hb2 ho2 g2
          go_wp2_with ((at_builtin; refine wpList_extend w2 rfl _ _ 26 rfl B 2 (.int .i64 0) 8 Try.underlying26 infoI rfl (.slice a2 (m + 3) c2) (m + 3) _ rfl HO2.out (.slice ka p.2.2.length kc) p.2.2.length (ints p.2.2) rfl hu2 (fun x hx => by obtain ⟨y, -, rfl⟩ := List.mem_map.1 hx; rfl) (by unfold maxLen; omega) (by omega) hs2 ?_; intro a3 c3 w3 ho3 hg3))
          have HB3 := Lib.hid (HB2.out.grown hg3 hs2 fun y hy => (owns_lt HO2.out hy).1)
          have HO3 := Lib.hid ho3
          clear hg3 ho3 hu2
          go_roundw
          case rel => exact ⟨k + 1, m + 3 + p.2.2.length, by omega, by go_num, by omega, HAX, Lib.hid (by rw [HNX.out]; simp [HM.out]; omega), by have := HO3.out; rw [HNX.out]; simpa [ints] using this, HB3.out⟩
          case measure => simp [intOf]; omega
      · obtain rfl : k = ps.length := by omega
        rw [List.take_length] at ho HM HA
        have HN : Hid (partN ps = numsOf ps) := Lib.hid (partN_yes (by omega) HA.out)
        go_wp2_with fail
        go_ret
        exact ⟨_, rfl, by rw [hB, HN.out, HM.out]; exact ho, by rw [hB]; exact hb⟩

/-! ### The program -/
theorem part1_any (x y : Int) (u : Value) (xs : List Int) (q : Bool) (hq : decide (16 < xs.length) = q) (w : World) (hu : RdS u xs w) :
    Calls Try.prog 26 #[.agg #[.int .i64 x, .int .i64 y, u]] w fun e w' => e = .returned (.bool q) ∧ Below w.heap.size w w' := by
  obtain ⟨a, c, rfl, -, -, -⟩ := id hu
  have hb := below_alloc' w (.cells #[.int .i64 x, .int .i64 y, .slice a xs.length c] 48)
  have hl := hu.len
  unfold maxLen at hl
  clear hu
  go_enter Try.func26, Try.ntmps26
  go_wp2_with fail
  go_ret
  exact ⟨ret_bool (by rw [← hq, Bool.eq_iff_iff]; simp; omega), hb⟩

set_option maxHeartbeats 1000000 in
theorem idxF_part (v : Value) (ps : List PartD) (w : World) (hr : RdP v ps w) :
    Calls Try.prog 43 #[v, .func (.func 26) #[] #[]] w fun e w' => ∃ r : Int, e = .returned (.int .i64 r) ∧ Hid (decide (0 ≤ r) = ps.any bigK) ∧ Below w.heap.size w w' := by
  have hlen := hr.len
  unfold maxLen at hlen
  obtain ⟨a, c, rfl, -, -, -⟩ := hr.outer
  obtain ⟨B, hB⟩ : ∃ B, w.heap.size = B := ⟨_, rfl⟩
  have hcl : Below B w w := Below.refl _ _
  have HF : Hid (∀ k p, ps[k]? = some p → ∃ b o u, a = some ⟨b, o, none⟩ ∧ ∀ W, Below B w W → W.cell? ⟨b, o + k * 3, none⟩ = some (.int .i64 p.1) ∧ W.cell? ⟨b, o + k * 3 + 1, none⟩ = some (.int .i64 p.2.1) ∧ W.cell? ⟨b, o + k * 3 + 2, none⟩ = some u ∧ RdS u p.2.2 W) := Lib.hid fun k p hp => hB ▸ hr.fix hp
  clear hr
  go_enter Try.func43, Try.ntmps43
  go_wp2_with fail
  go_loopw [8] (fun i wr => ∃ k : Nat, k ≤ ps.length ∧ i = .int .i64 k ∧ Hid ((ps.take k).any bigK = false) ∧ Below B w wr) (fun i _ => ps.length - (intOf i).toNat)
  case atStart => exact ⟨0, Nat.zero_le _, rfl, Lib.hid (by simp), hcl⟩
  case round =>
    clear hcl
    obtain ⟨k, hk, rfl, HK, hb⟩ := hrel
    have hsz := hb.size
    by_cases hlt : k < ps.length
    · obtain ⟨p, hp⟩ : ∃ p, ps[k]? = some p := ⟨_, List.getElem?_eq_getElem hlt⟩
      obtain ⟨yb, yo, u, rfl, hcells⟩ := HF.out k p hp
      obtain ⟨h0, h1, h2, hu⟩ := hcells wr hb
      obtain ⟨b, HBB⟩ : ∃ b, Hid (decide (16 < p.2.2.length) = b) := ⟨_, Lib.hid rfl⟩
      have HC := Lib.hid (part1_any p.1 p.2.1 u p.2.2 b HBB.out wr hu)
      have HP := Lib.hid hp
      have HS : Hid ((ps.take (k + 1)).any bigK = b) := Lib.hid (by rw [take_snoc hp, List.any_append, HK.out]; simp [bigK, HBB.out])
      clear hcells hu hp
      go_wp2_with fail
      refine HC.out.mono ?_
      rintro e1 w1 ⟨rfl, hb1⟩
      have hb2 := hb.trans (hb1.mono (by omega))
      clear hb1 HC h0 h1 h2 hb
      cases b with
      | true =>
        have HT : Hid (ps.any bigK = true) := Lib.hid (List.any_eq_true.2 ⟨p, List.mem_of_getElem? HP.out, HBB.out⟩)
        go_wp2_with fail
        go_ret
        exact ⟨_, rfl, Lib.hid (by rw [HT.out]; simp), by rw [hB]; exact hb2⟩
      | false =>
        go_wp2_with fail
        go_roundw
        case rel => exact ⟨k + 1, by omega, by go_num, HS, hb2⟩
        case measure => simp [intOf]; omega
    · obtain rfl : k = ps.length := by omega
      go_wp2_with fail
      go_ret
      exact ⟨_, rfl, Lib.hid (by have := HK.out; rw [List.take_length] at this; rw [this]; rfl), by rw [hB]; exact hb⟩
theorem contF_part (v : Value) (ps : List PartD) (q : Bool) (hq : ps.any bigK = q) (w : World) (hr : RdP v ps w) :
    Calls Try.prog 25 #[v, .func (.func 26) #[] #[]] w fun e w' => e = .returned (.bool q) ∧ Below w.heap.size w w' := by
  subst hq
  have HI := Lib.hid (idxF_part v ps w hr)
  obtain ⟨a, c, rfl, -, -, -⟩ := hr.outer
  clear hr
  go_enter Try.func25, Try.ntmps25
  go_wp2_with fail
  refine HI.out.mono ?_
  rintro e1 w1 ⟨r, rfl, HR, hb⟩
  go_wp2_with fail
  go_ret
  exact ⟨ret_bool HR.out, hb⟩

set_option maxHeartbeats 4000000 in
set_option maxRecDepth 100000 in
theorem implPartNums (v : Value) (ps : List PartD) (w : World) (hr : RdP v ps w) :
    Calls Try.prog 6 #[v] w (SRes w (partN ps)) := by
  have hl := hr.len
  unfold maxLen at hl
  obtain ⟨a, c, rfl, -, -, -⟩ := hr.outer
  obtain ⟨B, hB⟩ : ∃ B, w.heap.size = B := ⟨_, rfl⟩
  have hbr : Below B w w := Below.refl _ _
  by_cases h31 : 31 < ps.length
  · have HN : Hid (partN ps = []) := Lib.hid (partN_no (by omega))
    rw [HN.out]
    have hi : (31 : Int) < ps.length := by omega
    go_enter Try.func6, Try.ntmps6
    go_wp2_with fail
    go_ret
    exact ⟨.slice none 0 0, rfl, World.ownsRow_nil _ _ _ 1, Below.refl _ _⟩
  · have hlen : ¬ (31 : Int) < ps.length := by omega
    obtain ⟨q, hq⟩ : ∃ q, ps.any bigK = q := ⟨_, rfl⟩
    have HC := Lib.hid (contF_part _ ps q hq w hr)
    have HQ := Lib.hid hq
    have HF : Hid (∀ k p, ps[k]? = some p → ∃ b o u, a = some ⟨b, o, none⟩ ∧ ∀ W, Below B w W → W.cell? ⟨b, o + k * 3, none⟩ = some (.int .i64 p.1) ∧ W.cell? ⟨b, o + k * 3 + 1, none⟩ = some (.int .i64 p.2.1) ∧ W.cell? ⟨b, o + k * 3 + 2, none⟩ = some u ∧ RdS u p.2.2 W) := Lib.hid fun k p hp => hB ▸ hr.fix hp
    clear hr hq
    go_enter Try.func6, Try.ntmps6
    go_wp2_with fail
    refine HC.out.mono ?_
    rintro e1 w1 ⟨rfl, hb1⟩
    rw [hB] at hb1
    clear HC
    cases q with
    | true =>
      have HN : Hid (partN ps = []) := Lib.hid (partN_no fun h => by rw [HQ.out] at h; cases h.2)
      go_wp2_with fail
      go_ret
      exact ⟨.slice none 0 0, rfl, by rw [HN.out]; exact World.ownsRow_nil _ _ _ 1, by rw [hB]; exact hb1⟩
    | false =>
      have HN : Hid (partN ps = numsOf ps) := Lib.hid (partN_yes (by omega) HQ.out)
      obtain ⟨W0, hW0⟩ : ∃ W0, W0 = w1.alloc (.cells #[] 2) := ⟨_, rfl⟩
      have hsz1 : B ≤ w1.heap.size := by rw [← hB]; exact hB ▸ hb1.size
      have ho0 : W0.ownsRow B 2 1 (.slice (some ⟨w1.heap.size, 0, none⟩) 0 0) 0 [] := by rw [hW0]; exact World.ownsRow_lit w1 #[] 0 hsz1 (by simp [maxLen]) rfl
      have hb0 : Below B w W0 := by rw [hW0]; exact hb1.alloc hsz1 _
      clear hb1 hsz1
      go_wp2_with fail
      rw [← hW0]
      clear hW0
      go_loopw [3, 16] (fun u i wr => ∃ k m : Nat, k ≤ ps.length ∧ i = .int .i64 k ∧ m ≤ 19 * k ∧ Hid ((numsOf (ps.take k)).length = m) ∧ wr.ownsRow B 2 1 u m (ints (numsOf (ps.take k))) ∧ Below B w wr) (fun _ i _ => ps.length - (intOf i).toNat)
      case atStart => exact ⟨0, 0, Nat.zero_le _, rfl, by omega, Lib.hid (by simp [numsOf]), by simpa [numsOf, ints] using ho0, hb0⟩
      case round =>
        clear ho0 hb0
        obtain ⟨k, m, hk, rfl, hm, HM, ho, hb⟩ := hrel
        have hsz : B ≤ wr.heap.size := by rw [← hB]; exact hB ▸ hb.size
        by_cases hlt : k < ps.length
        · obtain ⟨p, hp⟩ : ∃ p, ps[k]? = some p := ⟨_, List.getElem?_eq_getElem hlt⟩
          obtain ⟨b, o, u, rfl, hcells⟩ := HF.out k p hp
          have HCE := Lib.hid hcells
          obtain ⟨h0, h1, h2, hu⟩ := hcells wr hb
          have HP := Lib.hid hp
          obtain ⟨ka, kc, rfl, -, -, -⟩ := id hu
          have hul : p.2.2.length ≤ 16 := by
            have := List.any_eq_false.1 HQ.out p (List.mem_of_getElem? hp)
            simpa [bigK] using this
          have HNX : Hid (numsOf (ps.take (k + 1)) = numsOf (ps.take k) ++ [p.1, p.2.1, (p.2.2.length : Int)] ++ p.2.2) := Lib.hid (by rw [take_snoc hp, numsOf_snoc])
          obtain ⟨ua, uc, rfl⟩ := owns_shape ho
          obtain ⟨W1, hW1⟩ : ∃ W1, W1 = wr.alloc (.cells #[.int .i64 p.1, .int .i64 p.2.1, .slice ka p.2.2.length kc] 48) := ⟨_, rfl⟩
          have V1 : VC 48 wr.heap.size #[.int .i64 p.1, .int .i64 p.2.1, .slice ka p.2.2.length kc] W1 := by rw [hW1]; exact VC.new rfl
          have hb1 : Below B w W1 := by rw [hW1]; exact hb.alloc hsz _
          have ho1 : W1.ownsRow B 2 1 (.slice ua m uc) m (ints (numsOf (ps.take k))) := by rw [hW1]; exact ho.alloc _
          have hs1 : B ≤ W1.heap.size := by rw [← hB]; exact hB ▸ hb1.size
          have HV1 := Lib.hid V1
          have HO1 := Lib.hid ho1
          have HB1 := Lib.hid hb1
          obtain ⟨c0, c1, c2⟩ := V1.at3
          rw [hW1] at c0 c1 c2
          have HK : Hid (∀ w2 : World, W1.grownBy w2 (Value.slice ua m uc).ownBlock → Below B w w2 ∧ w2.cell? ⟨wr.heap.size, 2, none⟩ = some (.slice ka p.2.2.length kc) ∧ RdS (.slice ka p.2.2.length kc) p.2.2 w2) := Lib.hid fun w2 hg => by
            have hb2 : Below B w w2 := HB1.out.grown hg hs1 fun y hy => (owns_lt HO1.out hy).1
            refine ⟨hb2, ?_, (HCE.out _ hb2).2.2.2⟩
            have V2 := HV1.out.grown hg fun e => owns_unlike_var HO1.out HV1.out (by decide) e
            exact V2.at3.2.2
          have HW1 := Lib.hid hW1
          have hszW : (wr.alloc (.cells #[.int .i64 p.1, .int .i64 p.2.1, .slice ka p.2.2.length kc] 48)).heap.size = wr.heap.size + 1 := by simp
          have HZW := Lib.hid hszW
          clear hp hcells hu V1 hb1 ho1 ho hb hW1 hszW
          go_wp2_with (first
            | (at_builtin; (try rw [← HW1.out]); refine wpList_three W1 rfl _ _ 26 rfl B 2 _ (.int .i64 0) 8 Try.underlying26 infoI rfl (.slice ua m uc) m (ints (numsOf (ps.take k))) rfl HO1.out (wr.heap.size + 1) (by rw [HW1.out]; simp) (.int .i64 p.1) (.int .i64 p.2.1) (.int .i64 (p.2.2.length : Int)) rfl rfl rfl rfl (by unfold maxLen; omega) (by omega) hs1 ?_; intro a2 c2 w2 ho2 hg2; have hk2 := HK.out w2 hg2; have g3 := hk2.2.1; have HU2 := Lib.hid hk2.2.2; have HB2 := Lib.hid hk2.1; have HO2 := Lib.hid ho2; have hs2 : B ≤ w2.heap.size := (by rw [← hB]; exact hB ▸ HB2.out.size); clear hk2 ho2 hg2)
            | (at_builtin; refine wpList_extend w2 rfl _ _ 26 rfl B 2 (.int .i64 0) 8 Try.underlying26 infoI rfl (.slice a2 (m + 3) c2) (m + 3) _ rfl HO2.out (.slice ka p.2.2.length kc) p.2.2.length (ints p.2.2) rfl HU2.out (fun x hx => by obtain ⟨y, -, rfl⟩ := List.mem_map.1 hx; rfl) (by unfold maxLen; omega) (by omega) hs2 ?_; intro a3 c3 w3 ho3 hg3))
          have HB3 := Lib.hid (HB2.out.grown hg3 hs2 fun y hy => (owns_lt HO2.out hy).1)
          have HO3 := Lib.hid ho3
          clear hg3 ho3
          go_roundw
          case rel => exact ⟨k + 1, m + 3 + p.2.2.length, by omega, by go_num, by omega, Lib.hid (by rw [HNX.out]; simp [HM.out]; omega), by have := HO3.out; rw [HNX.out]; simpa [ints] using this, HB3.out⟩
          case measure => simp [intOf]; omega
        · obtain rfl : k = ps.length := by omega
          rw [List.take_length] at ho HM
          go_wp2_with fail
          go_ret
          exact ⟨_, rfl, by rw [hB, HN.out, HM.out]; exact ho, by rw [hB]; exact hb⟩

theorem both_PartNums (ps : List PartD) : ∃ row : List Int, 1 + row.length ≤ 1000000000 ∧
    (∀ (w : World) (v : Value), RdP v ps w → Calls Try.prog 8 #[v] w (SRes w row)) ∧
    (∀ (w : World) (v : Value), RdP v ps w → Calls Try.prog 6 #[v] w (SRes w row)) :=
  ⟨partN ps, by have := partN_le ps; omega, fun w v h => specPartNums v ps w h, fun w v h => implPartNums v ps w h⟩
end Go.Proofs.Ytpfhflkpnjkgkaa
/-
  'slices.Clone', 'cloneGraph', 'NewStore' of the program and of the reference; the kind Store.
-/



namespace Go.Proofs.Ytpfhflkpnjkgkaa
open Go.RowKit

set_option maxHeartbeats 1000000 in
theorem clone_any (v : Value) (xs : List Int) (w : World) (hr : RdS v xs w) (hn : xs.length ≤ 1000000) :
    Calls Try.prog 28 #[v] w fun e w' => ∃ u, e = .returned u ∧ w'.ownsRow w.heap.size 2 1 u xs.length (ints xs) ∧ Below w.heap.size w w' := by
  obtain ⟨a, c, rfl, h1, h2, h3, h4, h5⟩ := id hr
  cases a with
  | none =>
    have hc0 : c = 0 := h4 rfl
    have hx : xs = [] := List.length_eq_zero_iff.1 (by omega)
    subst hx
    subst hc0
    have hnil := Lib.run_eql_slice_nil (P := Try.prog) w 26 2 none 0 0 0 0 Try.underlying26
    clear h1 h2 h3 h4 h5
    simp only [List.length_nil]
    go_enter Try.func28, Try.ntmps28
    go_wp2_with fail
    go_ret
    exact ⟨_, rfl, World.ownsRow_nil _ _ _ 1, Below.refl _ _⟩
  | some p =>
    have h0 := World.ownsRow_lit (base := w.heap.size) (e := 2) (size := 1) w #[] 0 (Nat.le_refl _) (by simp [maxLen]) rfl
    have hr2 := Row.alloc (show Row w 1 (.slice (some p) xs.length c) xs.length (ints xs) from hr) (.cells #[] 2)
    have H1 : Hid (∀ u ∈ ints xs, u.oneCell' = true) := Lib.hid fun u hu => by
      unfold ints at hu
      obtain ⟨x, _, rfl⟩ := List.mem_map.1 hu
      rfl
    have HB := Lib.hid (below_alloc' w (.cells #[] 2))
    obtain ⟨S, hS⟩ : ∃ S, w.heap.size = S := ⟨_, rfl⟩
    rw [hS] at h0
    have hnil := Lib.run_eql_slice_nil (P := Try.prog) w 26 2 (some p) xs.length c 0 0 Try.underlying26
    clear h1 h2 h3 h4 h5 hr
    go_enter Try.func28, Try.ntmps28
    go_wp2_with (at_builtin; refine wpList_extend _ rfl _ _ 26 rfl S 2 _ 8 Try.underlying26 infoI rfl (.slice (some ⟨S, 0, none⟩) 0 0) 0 [] rfl h0 (.slice (some p) xs.length c) xs.length (ints xs) rfl hr2 H1.out (by unfold maxLen; omega) (by omega) (by simp; omega) ?_; intro a' c' w1 ho1 hg1)
    go_ret
    have hB2 := HB.out.grown hg1 HB.out.size (fun y hy => by simp [Value.ownBlock] at hy; omega)
    exact ⟨_, rfl, by first | simpa using ho1 | (rw [hS]; simpa using ho1), by first | exact hB2 | (rw [hS] at hB2; exact hB2) | (rw [hS]; exact hB2)⟩

end Go.Proofs.Ytpfhflkpnjkgkaa
