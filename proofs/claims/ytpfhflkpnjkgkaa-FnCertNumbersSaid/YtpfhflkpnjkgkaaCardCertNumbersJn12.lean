import Derived.Test.YtpfhflkpnjkgkaaCardCertNumbersJn03
import Derived.Test.YtpfhflkpnjkgkaaCardCertNumbersJn07
import Derived.Test.YtpfhflkpnjkgkaaCardCertNumbersJn11
import Derived.Test.YtpfhflkpnjkgkaaGq04
/-
  'l16Tree' of the reference: some tree.
-/




namespace Go.Proofs.Ytpfhflkpnjkgkaa
open Go.RowKit

/-- A block of parts. -/
def isPart (w : World) (k : Nat) : Prop := ∃ cur, w.heap[k]? = some (.cells cur 48 (0, 0))
/-- Of what stood, blocks of parts alone have turned, at home. -/
structure TWr (lo : Nat) (w w' : World) : Prop where
  below : Below lo w w'
  wr : Wrote w w' (isPart w)
  kept : ∀ k, k < w.heap.size → isPart w' k → isPart w k
theorem TWr.refl (lo : Nat) (w : World) : TWr lo w w := ⟨Below.refl _ _, Wrote.refl _ _, fun _ _ h => h⟩
theorem TWr.go {lo : Nat} {w w1 w2 : World} (h : TWr lo w w1) (h' : TWr lo w1 w2) : TWr lo w w2 :=
  ⟨h.below.trans h'.below, h.wr.trans h'.wr fun k hk hs => h.kept k hk hs, fun k hk hs => h.kept k hk (h'.kept k (Nat.lt_of_lt_of_le hk h.below.size) hs)⟩
theorem TWr.of_below {lo : Nat} {w w' : World} (hl : lo ≤ w.heap.size) (h : Below w.heap.size w w') : TWr lo w w' :=
  ⟨h.mono hl, ⟨h.os, h.tape, h.output, h.size, fun k hk _ => h.block k hk⟩, fun k hk hs => by obtain ⟨cur, hc⟩ := hs; rw [h.block k hk] at hc; exact ⟨cur, hc⟩⟩
theorem TWr.alloc {lo : Nat} {w : World} (hl : lo ≤ w.heap.size) (o : Obj) : TWr lo w (w.alloc o) := TWr.of_below hl (below_alloc' w o)
theorem TWr.grown {w w' : World} {lo : Nat} {v : Value} {m : Nat} {xs : List Value} (hl : lo ≤ w.heap.size) (ho : w.ownsRow lo 48 3 v m xs) (hg : w.grownBy w' v.ownBlock) : TWr lo w w' := by
  have key : ∀ k, v.ownBlock = some k → isPart w k := fun k hk => owns_block ho hk
  refine ⟨(Below.refl _ _).grown hg hl fun b hb => (owns_lt ho hb).1, (Wrote.of_grown hg).mono fun k _ hk => key k hk, fun k hk hs => ?_⟩
  by_cases hb : v.ownBlock = some k
  · exact key k hb
  · obtain ⟨cur, hc⟩ := hs
    rw [hg.block k hk fun he => hb he.symm] at hc
    exact ⟨cur, hc⟩
/-- A growth of a block of another type. -/
theorem TWr.fresh {w w' : World} {lo : Nat} {v : Value} {m sz : Nat} {e : TypeId} {xs : List Value} {w0 : World} (h0 : TWr lo w0 w) (hl : lo ≤ w.heap.size) (ho : w.ownsRow lo e sz v m xs) (_he : e ≠ 48) (hn : ∀ k, v.ownBlock = some k → w0.heap.size ≤ k) (hg : w.grownBy w' v.ownBlock) : TWr lo w0 w' := by
  refine ⟨h0.below.grown hg hl fun b hb => (owns_lt ho hb).1, ⟨?_, ?_, ?_, ?_, fun k hk hp => ?_⟩, fun k hk hs => ?_⟩
  · exact hg.os.trans h0.wr.os
  · exact hg.tape.trans h0.wr.tape
  · exact hg.output.trans h0.wr.output
  · exact Nat.le_trans h0.wr.size hg.size
  · rw [hg.block k (Nat.lt_of_lt_of_le hk h0.below.size) fun he => by have := hn k he.symm; omega]
    exact h0.wr.block k hk hp
  · refine h0.kept k hk ?_
    obtain ⟨cur, hc⟩ := hs
    rw [hg.block k (Nat.lt_of_lt_of_le hk h0.below.size) fun he => by have := hn k he.symm; omega] at hc
    exact ⟨cur, hc⟩
theorem not_part {w : World} {lo : Nat} {e : TypeId} {v : Value} {m sz : Nat} {xs : List Value} (ho : w.ownsRow lo e sz v m xs) (he : e ≠ 48) {k : Nat} (hk : v.ownBlock = some k) : ¬ isPart w k := fun ⟨cur, hc⟩ => by
  obtain ⟨c2, h2⟩ := owns_block ho hk
  rw [h2] at hc
  simp at hc
  exact he hc.2
theorem TWr.own {w w' : World} {lo0 lo : Nat} {e : TypeId} {v : Value} {m sz : Nat} {xs : List Value} (h : TWr lo0 w w') (ho : w.ownsRow lo e sz v m xs) (he : e ≠ 48) : w'.ownsRow lo e sz v m xs :=
  owns_wrote ho h.wr fun _ hk => not_part ho he hk
theorem TWr.ownG {w w' : World} {lo0 lo : Nat} {v : Value} {vs : List Value} {css : List (List Value)} (h : TWr lo0 w w') (ho : OwnG w lo 26 2 v vs css) : OwnG w' lo 26 2 v vs css :=
  ⟨ho.len, h.own ho.outer (by decide), fun i u cs h1 h2 => h.own (ho.rows i u cs h1 h2) (by decide), ho.apart, ho.unlike⟩
theorem TWr.vc {w w' : World} {lo : Nat} {t : TypeId} {b : Nat} {cs : Array Value} (h : TWr lo w w') (hv : VC t b cs w) (ht : t ≠ 48) : VC t b cs w' := by
  have hl := hv.lt
  unfold VC at hv ⊢
  rw [h.wr.block b hl fun ⟨cur, hc⟩ => by rw [hv] at hc; simp at hc; exact ht hc.2, hv]
/-- Memories that hold two cells. -/
structure KeptPQ (p : Addr) (x : Value) (q : Addr) (y : Value) where
  W : World
  h1 : W.cell? p = some x
  h2 : W.cell? q = some y
/-- Parts of the call's own; their sets lie in none of the blocks 'N'. -/
structure TrA (lo : Nat) (N : Nat → Prop) (v : Value) (ps : List PartD) (w : World) : Prop where
  ex : ∃ L, TrPL lo v ps L w ∧ ∀ q ∈ L, ∀ k, q.2.2.ownBlock = some k → ¬ N k
section
variable {lo : Nat} {N : Nat → Prop} {v : Value} {ps : List PartD} {w w' : World}
theorem TrA.trp (h : TrA lo N v ps w) : TrP lo v ps w := by obtain ⟨L, h, _⟩ := h.ex; exact ⟨L, h⟩
theorem TrA.shape (h : TrA lo N v ps w) : ∃ a c, v = .slice a ps.length c := h.trp.shape
theorem TrPL.keep' {L : List PartV} (h : TrPL lo v ps L w) (hk : ∀ b, b < w.heap.size → (v.ownBlock = some b ∨ ∃ q ∈ L, q.2.2.ownBlock = some b) → w'.heap[b]? = w.heap[b]?) : TrPL lo v ps L w' :=
  ⟨h.ln, owns_keep h.own fun b hb hlt => hk b hlt (.inl hb), fun i q p h1 h2 => ⟨(h.kids i q p h1 h2).1, (h.kids i q p h1 h2).2.1, owns_keep (h.kids i q p h1 h2).2.2 fun b hb hlt => hk b hlt (.inr ⟨q, List.mem_of_getElem? h1, hb⟩)⟩⟩
theorem TrA.nil (N : Nat → Prop) (h : w.ownsRow lo 48 3 v 0 []) : TrA lo N v [] w := ⟨[], ⟨rfl, h, fun i q p hq => by simp at hq⟩, fun q hq => by cases hq⟩
theorem TrA.below (h : TrA lo N v ps w) (hb : Below w.heap.size w w') : TrA lo N v ps w' := by
  obtain ⟨L, h, hn⟩ := h.ex
  exact ⟨L, h.keep' fun b hlt _ => hb.block b hlt, hn⟩
theorem TrPL.lt {L : List PartV} (h : TrPL lo v ps L w) {q : PartV} (hq : q ∈ L) {k : Nat} (hk : q.2.2.ownBlock = some k) : lo ≤ k ∧ k < w.heap.size := by
  obtain ⟨i, hi⟩ := List.getElem?_of_mem hq
  have hl := h.ln
  have hp : ps[i]? = some (ps[i]'(by have := (List.getElem?_eq_some_iff.1 hi).1; omega)) := List.getElem?_eq_getElem _
  exact owns_lt (h.kids i q _ hi hp).2.2 hk
theorem TrPL.row {L : List PartV} (h : TrPL lo v ps L w) {q : PartV} (hq : q ∈ L) : ∃ xs : List Int, w.ownsRow lo 2 1 q.2.2 xs.length (ints xs) := by
  obtain ⟨i, hi⟩ := List.getElem?_of_mem hq
  have hl := h.ln
  have hp : ps[i]? = some (ps[i]'(by have := (List.getElem?_eq_some_iff.1 hi).1; omega)) := List.getElem?_eq_getElem _
  exact ⟨_, (h.kids i q _ hi hp).2.2⟩
theorem TrA.new (h : TrA lo N v ps w) (hb : Below w.heap.size w w') {u : Value} (hu : ∀ k, u.ownBlock = some k → w.heap.size ≤ k) : TrA lo (fun k => N k ∨ u.ownBlock = some k) v ps w' := by
  obtain ⟨L, h, hn⟩ := h.ex
  refine ⟨L, h.keep' fun b hlt _ => hb.block b hlt, fun q hq k hk hh => ?_⟩
  rcases hh with hh | hh
  · exact hn q hq k hk hh
  · have := (h.lt hq hk).2
    have := hu k hh
    omega
theorem TrA.grow {u u' : Value} {lo' m : Nat} {xs : List Value} (h : TrA lo (fun k => N k ∨ u.ownBlock = some k) v ps w) (hu : w.ownsRow lo' 2 1 u m xs) (hg : w.grownBy w' u.ownBlock) (hw : ∀ k, u'.ownBlock = some k → u.ownBlock = some k ∨ w.heap.size ≤ k) : TrA lo (fun k => N k ∨ u'.ownBlock = some k) v ps w' := by
  obtain ⟨L, h, hn⟩ := h.ex
  refine ⟨L, h.keep' fun b hlt hb => hg.block b hlt fun he => ?_, fun q hq k hk hh => ?_⟩
  · rcases hb with hb | ⟨q, hq, hb⟩
    · exact owns_unlike h.own hu (by decide) hb he.symm
    · exact hn q hq b hb (.inr he.symm)
  · rcases hh with hh | hh
    · exact hn q hq k hk (.inl hh)
    · rcases hw k hh with h1 | h1
      · exact hn q hq k hk (.inr h1)
      · have := (h.lt hq hk).2
        omega
theorem TrPL.pushA {L : List PartV} {v' u : Value} {x y : Int} {xs : List Int} (h : TrPL lo v ps L w) (hn : ∀ q ∈ L, ∀ k, q.2.2.ownBlock = some k → ¬ N k) (hu : w.ownsRow lo 2 1 u xs.length (ints xs)) (hun : ∀ k, u.ownBlock = some k → ¬ N k) (hg : w.grownBy w' v.ownBlock)
    (ho : w'.ownsRow lo 48 3 v' (ps.length + 1) (cellsQ L ++ [.int .i64 x, .int .i64 y, u])) : TrA lo N v' (ps ++ [(x, y, xs)]) w' := by
  have keep : ∀ {u' : Value} {m : Nat} {cs : List Value}, w.ownsRow lo 2 1 u' m cs → w'.ownsRow lo 2 1 u' m cs := fun hu' => hu'.kept hg (by
    cases hv : Value.ownBlock _ with
    | none => exact .inl rfl
    | some b => exact .inr fun he => owns_unlike h.own hu' (by decide) he.symm hv)
  refine ⟨L ++ [(x, y, u)], ⟨by simp [h.ln], by rw [cellsQ_snoc]; simpa using ho, fun i q p hq hp => ?_⟩, fun q hq k hk => ?_⟩
  · by_cases hi : i < ps.length
    · rw [List.getElem?_append_left (by rw [h.ln]; exact hi)] at hq
      rw [List.getElem?_append_left hi] at hp
      obtain ⟨h1, h2, h3⟩ := h.kids i q p hq hp
      exact ⟨h1, h2, keep h3⟩
    · have hil : i < (ps ++ [(x, y, xs)]).length := (List.getElem?_eq_some_iff.1 hp).1
      simp at hil
      obtain rfl : i = ps.length := by omega
      rw [List.getElem?_append_right (by rw [h.ln]; exact Nat.le_refl _), h.ln, Nat.sub_self] at hq
      rw [List.getElem?_append_right (Nat.le_refl _), Nat.sub_self] at hp
      simp at hq hp
      subst hq hp
      exact ⟨rfl, rfl, keep hu⟩
  · rcases List.mem_append.1 hq with hq | hq
    · exact hn q hq k hk
    · simp at hq; subst hq; exact hun k hk
end
/-- What is left behind a call. -/
structure TreR (lo M : Nat) (N : Nat → Prop) (w : World) (E : Ending) (w' : World) : Prop where
  ex : ∃ tv' ok ps', E = .returned (.tuple #[tv', .bool ok]) ∧ TrA lo N tv' ps' w' ∧ ps'.length ≤ M
  wr : TWr lo w w'
def sumT (n : Nat) (Q : List (Nat → Bool)) (j : Nat) : Nat := ((Q.take j).map fun q => (rowB n q).length).sum
theorem sumT_succ {n : Nat} {Q : List (Nat → Bool)} {j : Nat} {q : Nat → Bool} (h : Q[j]? = some q) : sumT n Q (j + 1) = sumT n Q j + (rowB n q).length := by
  unfold sumT
  rw [take_snoc h, List.map_append, List.sum_append]
  simp
theorem len_le_sum : ∀ {l : List Nat}, (∀ x ∈ l, 1 ≤ x) → l.length ≤ l.sum
  | [], _ => by simp
  | a :: l, h => by
    have h1 := h a (by simp)
    have h2 := len_le_sum (l := l) fun x hx => h x (by simp [hx])
    simp; omega
theorem sumT_le (n : Nat) (Q : List (Nat → Bool)) (j : Nat) : sumT n Q j ≤ (Q.map fun q => (rowB n q).length).sum := by
  conv => rhs; rw [← List.take_append_drop j Q, List.map_append, List.sum_append]
  exact Nat.le_add_right _ _

set_option maxHeartbeats 4000000 in
set_option maxRecDepth 100000 in
theorem l16Tree_any (n : Nat) (e : Nat → Nat → Bool) (hA : Adj n e) (lo : Nat) (a : Option Addr) (c : Nat) : ∀ m p, (∀ b, p b = true → b < n) → (rowB n p).length = m → 1 ≤ m → ∀ (N : Nat → Prop) (w : World) (v2 tv : Value) (ps : List PartD), (∀ k, N k → k < w.heap.size) → TrA lo N tv ps w → RdS v2 (rowB n p) w → ps.length + 2 * m ≤ 1000 → lo ≤ w.heap.size →
    (∀ W, Below lo w W → RdSS (.slice a n c) (rowsB n e) W) → Calls Try.prog 38 #[.agg #[.slice a n c], v2, tv] w (TreR lo (ps.length + 2 * m - 1) N w) := by
  intro m
  induction m using Nat.strongRecOn with
  | ind m ih =>
    intro p hp hm hm1 N w v2 tv ps hN hT hR hps hlo hg
    have HNN := Lib.hid hN
    clear hN
    have hn := hA.le
    have hm16 : m ≤ 16 := by rw [← hm]; have := rowB_length n p; omega
    obtain ⟨C, hC⟩ : ∃ C, w.heap.size = C := ⟨_, rfl⟩
    obtain ⟨ta, tc, rfl⟩ := hT.shape
    obtain ⟨sa, sc, rfl, -, -, -⟩ := id hR
    rw [hm]
    obtain ⟨W1, hW1⟩ : ∃ W, W = w.alloc (.cells #[.slice a n c] 42) := ⟨_, rfl⟩
    have b1 : Below C w W1 := by rw [hW1, ← hC]; exact below_alloc' _ _
    have VG1 : VC 42 C #[.slice a n c] W1 := by rw [hW1]; exact VC.new hC
    have hz1 : W1.heap.size = C + 1 := by rw [hW1]; simp [hC]
    have hcg := VG1.cell
    have HT1 := Lib.hid (hT.below (hC ▸ b1))
    have HR1 : Hid (∀ W, Below C w W → RdS (.slice sa (rowB n p).length sc) (rowB n p) W) := Lib.hid fun W h => RdS.below hR h hC
    have HG := Lib.hid hg
    have HIH := Lib.hid ih
    by_cases hm1' : m = 1
    · subst hm1'
      obtain ⟨x, hx⟩ : ∃ x, rowB n p = [x] := List.length_eq_one_iff.1 hm
      have HX := Lib.hid hx
      have hr1' := HR1.out W1 b1
      rw [hx] at hr1'
      obtain ⟨yb, yo, y, rfl, hcy, HY⟩ := Row.intAt hr1' (by simp : 0 < [x].length)
      obtain rfl : x = y := by have := HY.out; simpa using this
      rw [Nat.add_zero] at hcy
      obtain ⟨L2, hL2, hn2⟩ := HT1.out.ex
      have HL2 := Lib.hid hL2
      have HN2 := Lib.hid hn2
      have HT0 := Lib.hid (TWr.of_below hlo (hC ▸ b1))
      have hlo1 : lo ≤ W1.heap.size := by have := b1.size; omega
      clear hL2 hn2 hT hR hg ih hr1'
      subst hW1
      go_enter Try.func38, Try.ntmps38
      go_wp2_with (at_builtin; refine wpList_pushP _ rfl _ _ 24 rfl lo 48 _ _ 40 Try.underlying24 infoEP cellsP3 (.slice ta ps.length tc) ps.length (cellsQ L2) rfl HL2.out.own _ (by simp [hC]) (.int .i64 1) (.int .i64 x) (.slice none 0 0) rfl rfl rfl rfl (by unfold maxLen; omega) (by omega) (by omega) ?_; intro g3 c3 w3 ho3 hg3)
      have HRE : Hid (TreR lo (ps.length + 2 * 1 - 1) N w (.returned (.tuple #[.slice (some ⟨g3, 0, none⟩) (ps.length + 1) c3, .bool true])) w3) := Lib.hid ⟨⟨_, _, ps ++ [(1, x, [])], rfl, HL2.out.pushA HN2.out (x := 1) (y := x) (xs := []) (u := .slice none 0 0) (World.ownsRow_nil _ _ _ _) (fun k hk => by cases hk) hg3 ho3, by simp⟩, HT0.out.go (TWr.grown hlo1 HL2.out.own hg3)⟩
      clear ho3 hg3
      refine bodyPost_ret (v := .tuple #[.slice (some ⟨g3, 0, none⟩) (ps.length + 1) c3, .bool true]) (by simp [results, Try.results38, go_sem]) rfl ?_
      exact HRE.out
    · have hmb : ((m : Int) == 1) = false := by rw [beq_eq_false_iff_ne]; omega
      have hgr : RdSS (.slice a n c) (rowsB n e) W1 := hg _ (b1.mono (by omega))
      have HP1 := Lib.hid (l16Parts_any (.slice a n c) n e hn (.slice sa (rowB n p).length sc) p W1 hgr (HR1.out _ b1))
      obtain ⟨Q, hQ⟩ : ∃ Q, partsTo n e p n = Q := ⟨_, rfl⟩
      obtain ⟨L, hL⟩ : ∃ L, Q.length = L := ⟨_, rfl⟩
      rw [hQ, hm] at HP1
      have HQE := Lib.hid hQ
      have hPL : ∀ q ∈ Q, 1 ≤ (rowB n q).length ∧ ∀ b, q b = true → b < n := fun q hq => part_pos (by rw [HQE.out]; exact hq)
      have hsum : (Q.map fun q => (rowB n q).length).sum ≤ m := by rw [← hQ, ← hm]; exact parts_sum hA hp
      have HB1 := Lib.hid b1
      clear hQ hT hR hg ih
      go_enter Try.func38, Try.ntmps38
      go_wp2_with fail
      try rw [← hW1]
      clear hW1
      refine HP1.out.mono ?_
      rintro e1 w2 ⟨u2, vs2, rfl, hG2, hb2⟩
      obtain ⟨ua, uc, rfl⟩ := owns_shape hG2.outer
      have hvl : vs2.length = L := by have := hG2.len; simp at this; omega
      rw [hvl]
      by_cases hL1 : L = 1
      · have hLb : ((L : Int) == 1) = true := by rw [hL1]; rfl
        have VG2 := VG1.belowAt hb2 (by omega)
        have hzw2 : C < w2.heap.size := by have := hb2.size; omega
        have hcg2 := VG2.cell
        have HB2 := Lib.hid (HB1.out.trans (hb2.mono (by omega)))
        have HP2 := Lib.hid (l16Parts_t (.slice a n c) n e hn (.slice sa (rowB n p).length sc) p w2 (HG.out _ (HB2.out.mono (by omega))) (HR1.out _ HB2.out))
        have HT2 := Lib.hid (HT1.out.below hb2)
        rw [hm] at HP2
        clear hG2 hb2 hL HQE hPL hsum hvl hLb
        obtain ⟨Q2, hQ2⟩ : ∃ Q2, partsTo n (tur e) p n = Q2 := ⟨_, rfl⟩
        rw [hQ2] at HP2
        obtain ⟨M2, hM2⟩ : ∃ M2, Q2.length = M2 := ⟨_, rfl⟩
        have hPL : ∀ q ∈ Q2, 1 ≤ (rowB n q).length ∧ ∀ b, q b = true → b < n := fun q hq => part_pos (by rw [hQ2]; exact hq)
        have hsum : (Q2.map fun q => (rowB n q).length).sum ≤ m := by rw [← hQ2, ← hm]; exact parts_sum (tur_adj hA) hp
        subst hL1
        go_wp2_with fail
        refine HP2.out.mono ?_
        rintro e1 w3 ⟨u3, vs3, rfl, hG3, hb3⟩
        obtain ⟨xa, xc, rfl⟩ := owns_shape hG3.outer
        have hvl3 : vs3.length = M2 := by have := hG3.len; simp at this; omega
        rw [hvl3]
        have VG3 := Lib.hid (VG2.belowAt hb3 hzw2)
        have HT3 := Lib.hid (HT2.out.below hb3)
        have hlw2 : lo ≤ w2.heap.size := by have := HB2.out.size; omega
        have HW3 := Lib.hid ((TWr.of_below hlo (hC ▸ HB2.out)).go (TWr.of_below hlw2 hb3))
        have HGX := Lib.hid hG3
        have HPL := Lib.hid hPL
        have HQL := Lib.hid hM2
        have HSM := Lib.hid hsum
        clear hG3 hb3 hPL hM2 hsum VG2 hcg2 hQ2
        have hzx := VC.lt VG3.out
        by_cases hL1 : M2 = 1
        · have hLb : ((M2 : Int) == 1) = true := by rw [hL1]; rfl
          have hre : TreR lo (ps.length + 2 * m - 1) N w (.returned (.tuple #[.slice (some ⟨w3.heap.size, 0, none⟩) 0 0, .bool false])) (w3.alloc (.cells #[] 48)) :=
            ⟨⟨_, _, [], rfl, TrA.nil _ (World.ownsRow_lit w3 #[] 0 (by omega) (by simp [maxLen]) rfl), by simp⟩, HW3.out.go (TWr.alloc (by omega) _)⟩
          have HRE := Lib.hid hre
          clear hre
          go_wp2_with fail
          refine bodyPost_ret (v := .tuple #[.slice (some ⟨w3.heap.size, 0, none⟩) 0 0, .bool false]) (by simp [results, Try.results38, go_sem]) rfl ?_
          exact HRE.out
        · have hLb : ((M2 : Int) == 1) = false := by rw [beq_eq_false_iff_ne]; omega
          have hLm : M2 ≤ 16 := by
            have h1 := len_le_sum (l := Q2.map fun q => (rowB n q).length) (fun x hx => by obtain ⟨q', hq', rfl⟩ := List.mem_map.1 hx; exact (HPL.out q' hq').1)
            have h2 := HSM.out
            have h3 := HQL.out
            simp at h1
            omega
          obtain ⟨S5, hS5⟩ : ∃ S, w3.heap.size = S := ⟨_, rfl⟩
          obtain ⟨W5, hW5⟩ : ∃ W, W = w3.alloc (.cells #[] 2) := ⟨_, rfl⟩
          have b5 : Below S5 w3 W5 := by rw [hW5, ← hS5]; exact below_alloc' _ _
          have hk5 : Hid (W5.ownsRow S5 2 1 (.slice (some ⟨S5, 0, none⟩) 0 0) ([] : List Int).length (ints [])) := Lib.hid (by
            rw [hW5]; subst hS5
            exact World.ownsRow_lit w3 #[] 0 (Nat.le_refl _) (by simp [maxLen]) rfl)
          have ht5 : Hid (TrA lo (fun k => N k ∨ (Value.slice (some ⟨S5, 0, none⟩) 0 0).ownBlock = some k) (.slice ta ps.length tc) ps W5) := Lib.hid (HT3.out.new (hS5 ▸ b5) fun k hk => by simp [Value.ownBlock] at hk; omega)
          have hw5 : Hid (TWr lo w3 W5) := Lib.hid (TWr.of_below (by omega) (hS5 ▸ b5))
          have HG5 := HGX
          have HV5 := VG3
          have HW5 := HW3
          have hc5 : Hid (ps.length + 0 ≤ ps.length + 2 * sumT n Q2 0) := Lib.hid (by omega)
          have hz5 : S5 < W5.heap.size := by rw [hW5]; simp [hS5]
          have HZ5 : Hid (∀ k, N k → k < S5) := Lib.hid fun k hk => by have := HNN.out k hk; omega
          have hCS : C < S5 := by omega
          go_wp2_with fail
          try rw [← hW5]
          try rw [hS5]
          clear b5 hW5
          go_loopw [2, 10, 11] (fun tv kv i wr => ∃ (j : Nat) (psr : List PartD) (ks : List Int), j ≤ M2 ∧ i = .int .i64 j ∧ ks.length = j ∧ psr.length ≤ ps.length + 64 ∧ Hid (psr.length + j ≤ ps.length + 2 * sumT n Q2 j) ∧ Hid (TrA lo (fun k => N k ∨ kv.ownBlock = some k) tv psr wr) ∧ Hid (wr.ownsRow S5 2 1 kv ks.length (ints ks)) ∧ Hid (TWr lo w3 wr) ∧ S5 < wr.heap.size) (fun _ _ i _ => M2 - (intOf i).toNat)
          case atStart => exact ⟨0, ps, [], Nat.zero_le _, rfl, rfl, by omega, hc5, ht5, hk5, hw5, hz5⟩
          case round =>
            clear hc5 ht5 hk5 hw5 hz5
            obtain ⟨j, psr, ks, hj, rfl, hks, hpr, HCN, HTR, HKR, HWR, hzr⟩ := hrel
            obtain ⟨ra, rc, rfl⟩ := HTR.out.shape
            obtain ⟨ka, kc, rfl⟩ := owns_shape HKR.out
            by_cases hjl : j < M2
            · obtain ⟨q, hq⟩ : ∃ q, Q2[j]? = some q := ⟨_, List.getElem?_eq_getElem (by have := HQL.out; omega)⟩
              have hqm := List.mem_of_getElem? hq
              have HGR := Lib.hid (HWR.out.ownG HG5.out)
              have hvj : ∃ row, vs3[j]? = some row := ⟨_, List.getElem?_eq_getElem (by have := HGR.out.len; have h2 := HQL.out; simp at this; omega)⟩
              obtain ⟨row, hrow⟩ := hvj
              have hrr : wr.ownsRow w2.heap.size 2 1 row (rowB n q).length (ints (rowB n q)) := by
                have := HGR.out.rows j row (ints (rowB n q)) hrow (by rw [List.getElem?_map, List.getElem?_map, hq]; rfl)
                rwa [ints_length] at this
              have HRR := Lib.hid (Row.of_owns hrr)
              have hVr := HWR.out.vc HV5.out (by decide)
              have hcT : wr.cell? ⟨C, 0, none⟩ = some (.slice a n c) := VC.cell (t := 42) hVr
              have hvsl : vs3.length = M2 := by have := HGR.out.len; have h2 := HQL.out; simp at this; omega
              have hoo := HGR.out.outer
              rw [hvsl] at hoo
              obtain ⟨pg, xc', hpe⟩ := owns_head hoo (by omega)
              have hpe1 : xa = some ⟨pg, 0, none⟩ := by have h := hpe; simp at h; exact h.1
              have hcrow : wr.cell? ⟨pg, j, none⟩ = some row := by
                rw [hpe1] at hoo
                rw [hoo.cellAt j (by omega)]
                exact hrow
              have hlen := HPL.out q hqm
              have hmq : (rowB n q).length < m := by
                have h2 := HQL.out
                have := sum_le_two (l := Q2.map fun q => (rowB n q).length) (fun x hx => by obtain ⟨q', hq', rfl⟩ := List.mem_map.1 hx; exact (HPL.out q' hq').1) (by simp; omega) _ (List.mem_map.2 ⟨q, hqm, rfl⟩)
                have := HSM.out
                omega
              have hsj := sumT_succ (n := n) hq
              have hsl : sumT n Q2 (j + 1) ≤ m := Nat.le_trans (sumT_le _ _ _) HSM.out
              have hcn := HCN.out
              have HIHq : Hid (∀ (W : World), (∀ k, (N k ∨ (Value.slice ka j kc).ownBlock = some k) → k < W.heap.size) → TrA lo (fun k => N k ∨ (Value.slice ka j kc).ownBlock = some k) (.slice ra psr.length rc) psr W → RdS row (rowB n q) W → lo ≤ W.heap.size → Below lo w W → Calls Try.prog 38 #[.agg #[.slice a n c], row, .slice ra psr.length rc] W (TreR lo (psr.length + 2 * (rowB n q).length - 1) (fun k => N k ∨ (Value.slice ka j kc).ownBlock = some k) W)) := Lib.hid fun W hn hT hR hz hb =>
                HIH.out (rowB n q).length hmq q hlen.2 rfl hlen.1 _ W row _ psr hn hT hR (by omega) hz fun W' hW' => HG.out W' (hb.trans hW')
              have HNUM : Hid (∀ x : Nat, x ≤ psr.length + 2 * (rowB n q).length - 1 → x + (j + 1) ≤ ps.length + 2 * sumT n Q2 (j + 1) ∧ x ≤ ps.length + 64 ∧ x ≤ 2000) := Lib.hid fun x hx => by omega
              have hsub1 : ∀ x : KeptPQ ⟨C, 0, none⟩ (.slice a n c) ⟨pg, j, none⟩ row, x.W.cell? ⟨C, 0, none⟩ = some (.slice a n c) := fun x => x.h1
              have hsub2 : ∀ x : KeptPQ ⟨C, 0, none⟩ (.slice a n c) ⟨pg, j, none⟩ row, x.W.cell? ⟨pg, j, none⟩ = some row := fun x => x.h2
              haveI hne2 : Nonempty (KeptPQ ⟨C, 0, none⟩ (.slice a n c) ⟨pg, j, none⟩ row) := ⟨⟨wr, hcT, hcrow⟩⟩
              have HK2 : Hid (∃ x : KeptPQ ⟨C, 0, none⟩ (.slice a n c) ⟨pg, j, none⟩ row, wr.drew = x.W) := Lib.hid ⟨⟨wr.drew, hcT, hcrow⟩, rfl⟩
              have bd : Below wr.heap.size wr wr.drew := ⟨rfl, rfl, rfl, Nat.le_refl _, fun _ _ => rfl⟩
              have HTD := Lib.hid (HTR.out.below bd)
              have HND : Hid (∀ k, (N k ∨ (Value.slice ka ks.length kc).ownBlock = some k) → k < wr.drew.heap.size) := Lib.hid fun k hk => by
                have hsz := bd.size
                rcases hk with hk | hk
                · have := HZ5.out k hk; omega
                · have := (owns_lt HKR.out hk).2; omega
              have HRD := Lib.hid (HRR.out.below bd)
              have HWD := Lib.hid (HWR.out.go (TWr.of_below (by omega) bd))
              have HKD := Lib.hid (owns_below HKR.out bd)
              have hzd : lo ≤ wr.drew.heap.size := by have := bd.size; omega
              have hzd5 : S5 < wr.drew.heap.size := by have := bd.size; omega
              clear hcn hsj hsl hmq hlen hqm hoo hrr hVr hcT hcrow bd hvsl hpe
              subst hpe1
              rw [hks] at HKD HKR HTD HND ⊢
              go_wp2_with fail
              refine wp_region_takeC (C := fun W => ∃ x : KeptPQ ⟨C, 0, none⟩ (.slice a n c) ⟨pg, j, none⟩ row, W = x.W) [1, 2, 3, 5] [0, 4] 6 6 #[true, true, true, true, true, true, false, false, false, false, false, false] (by kernel_rfl) (by kernel_rfl) (by kernel_rfl) (by kernel_rfl) HK2.out (fun _ _ d _ _ h => by cases d <;> exact h) ?_
              simp only [pickOps, List.filterMap_cons, List.filterMap_nil, List.getElem?_cons_succ, List.getElem?_cons_zero]
              repeat quiet_step (fail)
              simp only [wpQuiet_nil_eq]
              generalize wr.drew = wd at *
              refine wpAnyG_1 6 (by kernel_rfl) rfl ?_
              unfold wpNext
              have HCL := Lib.hid (HIHq.out wd HND.out HTD.out HRD.out hzd (HW5.out.go HWD.out).below)
              go_wp2_with fail
              refine HCL.out.mono ?_
              rintro e1 w6 ⟨⟨tv6, ok, ps6, rfl, hT6, hl6⟩, hw6⟩
              obtain ⟨xa6, xc6, rfl⟩ := hT6.shape
              obtain ⟨hn1, hn2, hn3⟩ := HNUM.out _ hl6
              have HN1 := Lib.hid hn1
              have HT6 := Lib.hid hT6
              have HW6 := Lib.hid (HWD.out.go hw6)
              have HK6 := Lib.hid (hw6.own HKD.out (by decide))
              have hz6 : S5 < w6.heap.size := by have := hw6.below.size; omega
              clear hT6 hw6 hn1 hsub1 hsub2
              go_wp2_with fail
              refine ⟨fun h => by simp at h, ?_⟩
              refine wpAnyG_mid [7, 8, 9] 2 #[true, true, true, true, true, true, true, true, true, true, false, false] rfl (by kernel_rfl) (by kernel_rfl) (by kernel_rfl) (fun _ _ d _ _ h => by cases d <;> exact h) (fun h => by simp at h) ?_
              simp only [pickOps, List.filterMap_cons, List.filterMap_nil, List.getElem?_cons_succ, List.getElem?_cons_zero]
              repeat quiet_step (fail)
              try simp only [wpQuiet_nil_eq]
              refine wpAnyG_tail [10, 11] rfl (.inl (by kernel_rfl)) (by kernel_rfl) ?_
              simp only [pickOps, List.filterMap_cons, List.filterMap_nil, List.getElem?_cons_succ, List.getElem?_cons_zero]
              cases ok with
              | false =>
                have hre : TreR lo (ps.length + 2 * m - 1) N w (.returned (.tuple #[.slice (some ⟨w6.heap.size, 0, none⟩) 0 0, .bool false])) (w6.alloc (.cells #[] 48)) :=
                  ⟨⟨_, _, [], rfl, TrA.nil _ (World.ownsRow_lit w6 #[] 0 (by omega) (by simp [maxLen]) rfl), by simp⟩, (HW5.out.go HW6.out).go (TWr.alloc (by omega) _)⟩
                have HRE := Lib.hid hre
                clear hre
                go_wp2_with fail
                refine bodyPost_ret (v := .tuple #[.slice (some ⟨w6.heap.size, 0, none⟩) 0 0, .bool false]) (by simp [results, Try.results38, go_sem]) rfl ?_
                exact HRE.out
              | true =>
                go_wp2_with (at_builtin; refine wpList_push_wh w6 rfl _ _ 26 rfl S5 2 _ _ 8 Try.underlying26 infoI rfl (.slice ka j kc) j (ints ks) rfl HK6.out (.int .i64 ((ps6.length : Int) - 1)) rfl rfl (by unfold maxLen; omega) (by omega) (by omega) ?_; intro g7 c7 w7 ho7 hg7 hw7)
                have HT7 : Hid (TrA lo (fun k => N k ∨ (Value.slice (some ⟨g7, 0, none⟩) (j + 1) c7).ownBlock = some k) (.slice xa6 ps6.length xc6) ps6 w7) := Lib.hid (HT6.out.grow HK6.out hg7 fun k hk => by
                  have hgk : k = g7 := by unfold Value.ownBlock at hk; simp at hk; omega
                  rw [hgk]; exact hw7)
                have HK7 : Hid (w7.ownsRow S5 2 1 (.slice (some ⟨g7, 0, none⟩) (j + 1) c7) (ks ++ [(ps6.length : Int) - 1]).length (ints (ks ++ [(ps6.length : Int) - 1]))) := Lib.hid (by simpa [ints, hks] using ho7)
                have HW7 : Hid (TWr lo w3 w7) := Lib.hid (HW6.out.fresh (by omega) (owns_base HK6.out (by omega)) (by decide) (fun k hk => by have := (owns_lt HK6.out hk).1; omega) hg7)
                have hz7 : S5 < w7.heap.size := by have := hg7.size; omega
                clear ho7 hg7 hw7
                go_roundw
                case rel => exact ⟨j + 1, ps6, ks ++ [(ps6.length : Int) - 1], by omega, by go_num, by simp [hks], hn2, HN1, HT7, HK7, HW7, hz7⟩
                case measure => simp [intOf]; omega
            · obtain rfl : j = M2 := by omega
              obtain ⟨L3, hL3, hn3⟩ := HTR.out.ex
              have HL3 := Lib.hid hL3
              have HN3 := Lib.hid hn3
              clear hL3 hn3
              rw [hks] at HKR ⊢
              go_wp2_with (at_builtin; refine wpList_pushP wr rfl _ _ 24 rfl lo 48 _ _ 40 Try.underlying24 infoEP cellsP3 (.slice ra psr.length rc) psr.length (cellsQ L3) rfl HL3.out.own wr.heap.size rfl (.int .i64 3) (.int .i64 0) (.slice ka j kc) rfl rfl rfl rfl (by unfold maxLen; omega) (by omega) (by omega) ?_; intro g8 c8 w8 ho8 hg8)
              have hre : TreR lo (ps.length + 2 * m - 1) N w (.returned (.tuple #[.slice (some ⟨g8, 0, none⟩) (psr.length + 1) c8, .bool true])) w8 := ⟨⟨_, _, psr ++ [(3, 0, ks)], rfl, HL3.out.pushA (N := N) (fun q hq k hk hh => HN3.out q hq k hk (.inl hh)) (x := 3) (y := 0) (xs := ks) (by rw [hks]; exact owns_base HKR.out (by omega)) (fun k hk hh => by have := HZ5.out k hh; have := (owns_lt HKR.out hk).1; omega) hg8 ho8, by
                have h1 := HCN.out
                have h2 := sumT_le n Q2 j
                have h3 := HSM.out
                have h4 : j = 0 → sumT n Q2 j = 0 := fun h => by rw [h]; rfl
                simp
                omega⟩, (HW5.out.go HWR.out).go (TWr.grown (by omega) HL3.out.own hg8)⟩
              refine bodyPost_ret (v := .tuple #[.slice (some ⟨g8, 0, none⟩) (psr.length + 1) c8, .bool true]) (by simp [results, Try.results38, go_sem]) rfl ?_
              exact hre
      · have hLb : ((L : Int) == 1) = false := by rw [beq_eq_false_iff_ne]; omega
        have VG2 := Lib.hid (VG1.belowAt hb2 (by omega))
        have HT2 := Lib.hid (HT1.out.below hb2)
        have hlw1 : lo ≤ W1.heap.size := by have := HB1.out.size; omega
        have HW2 := Lib.hid ((TWr.of_below hlo (hC ▸ HB1.out)).go (TWr.of_below hlw1 hb2))
        have HGX := Lib.hid hG2
        have HPL := Lib.hid hPL
        have HQL := Lib.hid hL
        have HSM := Lib.hid hsum
        clear hG2 hb2 hPL hL hsum VG1 hcg
        have hzx := VC.lt VG2.out
        have hLm : L ≤ 16 := by
          have h1 := len_le_sum (l := Q.map fun q => (rowB n q).length) (fun x hx => by obtain ⟨q', hq', rfl⟩ := List.mem_map.1 hx; exact (HPL.out q' hq').1)
          have h2 := HSM.out
          have h3 := HQL.out
          simp at h1
          omega
        obtain ⟨S5, hS5⟩ : ∃ S, w2.heap.size = S := ⟨_, rfl⟩
        obtain ⟨W5, hW5⟩ : ∃ W, W = w2.alloc (.cells #[] 2) := ⟨_, rfl⟩
        have b5 : Below S5 w2 W5 := by rw [hW5, ← hS5]; exact below_alloc' _ _
        have hk5 : Hid (W5.ownsRow S5 2 1 (.slice (some ⟨S5, 0, none⟩) 0 0) ([] : List Int).length (ints [])) := Lib.hid (by
          rw [hW5]; subst hS5
          exact World.ownsRow_lit w2 #[] 0 (Nat.le_refl _) (by simp [maxLen]) rfl)
        have ht5 : Hid (TrA lo (fun k => N k ∨ (Value.slice (some ⟨S5, 0, none⟩) 0 0).ownBlock = some k) (.slice ta ps.length tc) ps W5) := Lib.hid (HT2.out.new (hS5 ▸ b5) fun k hk => by simp [Value.ownBlock] at hk; omega)
        have hw5 : Hid (TWr lo w2 W5) := Lib.hid (TWr.of_below (by omega) (hS5 ▸ b5))
        have HG5 := HGX
        have HV5 := VG2
        have HW5 := HW2
        have hc5 : Hid (ps.length + 0 ≤ ps.length + 2 * sumT n Q 0) := Lib.hid (by omega)
        have hz5 : S5 < W5.heap.size := by rw [hW5]; simp [hS5]
        have HZ5 : Hid (∀ k, N k → k < S5) := Lib.hid fun k hk => by have := HNN.out k hk; omega
        have hCS : C < S5 := by omega
        go_wp2_with fail
        try rw [← hW5]
        try rw [hS5]
        clear b5 hW5
        go_loopw [2, 10, 11] (fun tv kv i wr => ∃ (j : Nat) (psr : List PartD) (ks : List Int), j ≤ L ∧ i = .int .i64 j ∧ ks.length = j ∧ psr.length ≤ ps.length + 64 ∧ Hid (psr.length + j ≤ ps.length + 2 * sumT n Q j) ∧ Hid (TrA lo (fun k => N k ∨ kv.ownBlock = some k) tv psr wr) ∧ Hid (wr.ownsRow S5 2 1 kv ks.length (ints ks)) ∧ Hid (TWr lo w2 wr) ∧ S5 < wr.heap.size) (fun _ _ i _ => L - (intOf i).toNat)
        case atStart => exact ⟨0, ps, [], Nat.zero_le _, rfl, rfl, by omega, hc5, ht5, hk5, hw5, hz5⟩
        case round =>
          clear hc5 ht5 hk5 hw5 hz5
          obtain ⟨j, psr, ks, hj, rfl, hks, hpr, HCN, HTR, HKR, HWR, hzr⟩ := hrel
          obtain ⟨ra, rc, rfl⟩ := HTR.out.shape
          obtain ⟨ka, kc, rfl⟩ := owns_shape HKR.out
          by_cases hjl : j < L
          · obtain ⟨q, hq⟩ : ∃ q, Q[j]? = some q := ⟨_, List.getElem?_eq_getElem (by have := HQL.out; omega)⟩
            have hqm := List.mem_of_getElem? hq
            have HGR := Lib.hid (HWR.out.ownG HG5.out)
            have hvj : ∃ row, vs2[j]? = some row := ⟨_, List.getElem?_eq_getElem (by have := HGR.out.len; have h2 := HQL.out; simp at this; omega)⟩
            obtain ⟨row, hrow⟩ := hvj
            have hrr : wr.ownsRow W1.heap.size 2 1 row (rowB n q).length (ints (rowB n q)) := by
              have := HGR.out.rows j row (ints (rowB n q)) hrow (by rw [List.getElem?_map, List.getElem?_map, hq]; rfl)
              rwa [ints_length] at this
            have HRR := Lib.hid (Row.of_owns hrr)
            have hVr := HWR.out.vc HV5.out (by decide)
            have hcT : wr.cell? ⟨C, 0, none⟩ = some (.slice a n c) := VC.cell (t := 42) hVr
            have hvsl : vs2.length = L := by have := HGR.out.len; have h2 := HQL.out; simp at this; omega
            have hoo := HGR.out.outer
            rw [hvsl] at hoo
            obtain ⟨pg, uc', hpe⟩ := owns_head hoo (by omega)
            have hpe1 : ua = some ⟨pg, 0, none⟩ := by have h := hpe; simp at h; exact h.1
            have hcrow : wr.cell? ⟨pg, j, none⟩ = some row := by
              rw [hpe1] at hoo
              rw [hoo.cellAt j (by omega)]
              exact hrow
            have hlen := HPL.out q hqm
            have hmq : (rowB n q).length < m := by
              have h2 := HQL.out
              have := sum_le_two (l := Q.map fun q => (rowB n q).length) (fun x hx => by obtain ⟨q', hq', rfl⟩ := List.mem_map.1 hx; exact (HPL.out q' hq').1) (by simp; omega) _ (List.mem_map.2 ⟨q, hqm, rfl⟩)
              have := HSM.out
              omega
            have hsj := sumT_succ (n := n) hq
            have hsl : sumT n Q (j + 1) ≤ m := Nat.le_trans (sumT_le _ _ _) HSM.out
            have hcn := HCN.out
            have HIHq : Hid (∀ (W : World), (∀ k, (N k ∨ (Value.slice ka j kc).ownBlock = some k) → k < W.heap.size) → TrA lo (fun k => N k ∨ (Value.slice ka j kc).ownBlock = some k) (.slice ra psr.length rc) psr W → RdS row (rowB n q) W → lo ≤ W.heap.size → Below lo w W → Calls Try.prog 38 #[.agg #[.slice a n c], row, .slice ra psr.length rc] W (TreR lo (psr.length + 2 * (rowB n q).length - 1) (fun k => N k ∨ (Value.slice ka j kc).ownBlock = some k) W)) := Lib.hid fun W hn hT hR hz hb =>
              HIH.out (rowB n q).length hmq q hlen.2 rfl hlen.1 _ W row _ psr hn hT hR (by omega) hz fun W' hW' => HG.out W' (hb.trans hW')
            have HNUM : Hid (∀ x : Nat, x ≤ psr.length + 2 * (rowB n q).length - 1 → x + (j + 1) ≤ ps.length + 2 * sumT n Q (j + 1) ∧ x ≤ ps.length + 64 ∧ x ≤ 2000) := Lib.hid fun x hx => by omega
            have hsub1 : ∀ x : KeptPQ ⟨C, 0, none⟩ (.slice a n c) ⟨pg, j, none⟩ row, x.W.cell? ⟨C, 0, none⟩ = some (.slice a n c) := fun x => x.h1
            have hsub2 : ∀ x : KeptPQ ⟨C, 0, none⟩ (.slice a n c) ⟨pg, j, none⟩ row, x.W.cell? ⟨pg, j, none⟩ = some row := fun x => x.h2
            haveI hne2 : Nonempty (KeptPQ ⟨C, 0, none⟩ (.slice a n c) ⟨pg, j, none⟩ row) := ⟨⟨wr, hcT, hcrow⟩⟩
            have HK2 : Hid (∃ x : KeptPQ ⟨C, 0, none⟩ (.slice a n c) ⟨pg, j, none⟩ row, wr.drew = x.W) := Lib.hid ⟨⟨wr.drew, hcT, hcrow⟩, rfl⟩
            have bd : Below wr.heap.size wr wr.drew := ⟨rfl, rfl, rfl, Nat.le_refl _, fun _ _ => rfl⟩
            have HTD := Lib.hid (HTR.out.below bd)
            have HND : Hid (∀ k, (N k ∨ (Value.slice ka ks.length kc).ownBlock = some k) → k < wr.drew.heap.size) := Lib.hid fun k hk => by
              have hsz := bd.size
              rcases hk with hk | hk
              · have := HZ5.out k hk; omega
              · have := (owns_lt HKR.out hk).2; omega
            have HRD := Lib.hid (HRR.out.below bd)
            have HWD := Lib.hid (HWR.out.go (TWr.of_below (by omega) bd))
            have HKD := Lib.hid (owns_below HKR.out bd)
            have hzd : lo ≤ wr.drew.heap.size := by have := bd.size; omega
            have hzd5 : S5 < wr.drew.heap.size := by have := bd.size; omega
            clear hcn hsj hsl hmq hlen hqm hoo hrr hVr hcT hcrow bd hvsl hpe
            subst hpe1
            rw [hks] at HKD HKR HTD HND ⊢
            go_wp2_with fail
            refine wp_region_takeC (C := fun W => ∃ x : KeptPQ ⟨C, 0, none⟩ (.slice a n c) ⟨pg, j, none⟩ row, W = x.W) [1, 2, 3, 5] [0, 4] 6 6 #[true, true, true, true, true, true, false, false, false, false, false, false] (by kernel_rfl) (by kernel_rfl) (by kernel_rfl) (by kernel_rfl) HK2.out (fun _ _ d _ _ h => by cases d <;> exact h) ?_
            simp only [pickOps, List.filterMap_cons, List.filterMap_nil, List.getElem?_cons_succ, List.getElem?_cons_zero]
            repeat quiet_step (fail)
            simp only [wpQuiet_nil_eq]
            generalize wr.drew = wd at *
            refine wpAnyG_1 6 (by kernel_rfl) rfl ?_
            unfold wpNext
            have HCL := Lib.hid (HIHq.out wd HND.out HTD.out HRD.out hzd (HW5.out.go HWD.out).below)
            go_wp2_with fail
            refine HCL.out.mono ?_
            rintro e1 w6 ⟨⟨tv6, ok, ps6, rfl, hT6, hl6⟩, hw6⟩
            obtain ⟨xa6, xc6, rfl⟩ := hT6.shape
            obtain ⟨hn1, hn2, hn3⟩ := HNUM.out _ hl6
            have HN1 := Lib.hid hn1
            have HT6 := Lib.hid hT6
            have HW6 := Lib.hid (HWD.out.go hw6)
            have HK6 := Lib.hid (hw6.own HKD.out (by decide))
            have hz6 : S5 < w6.heap.size := by have := hw6.below.size; omega
            clear hT6 hw6 hn1 hsub1 hsub2
            go_wp2_with fail
            refine ⟨fun h => by simp at h, ?_⟩
            refine wpAnyG_mid [7, 8, 9] 2 #[true, true, true, true, true, true, true, true, true, true, false, false] rfl (by kernel_rfl) (by kernel_rfl) (by kernel_rfl) (fun _ _ d _ _ h => by cases d <;> exact h) (fun h => by simp at h) ?_
            simp only [pickOps, List.filterMap_cons, List.filterMap_nil, List.getElem?_cons_succ, List.getElem?_cons_zero]
            repeat quiet_step (fail)
            try simp only [wpQuiet_nil_eq]
            refine wpAnyG_tail [10, 11] rfl (.inl (by kernel_rfl)) (by kernel_rfl) ?_
            simp only [pickOps, List.filterMap_cons, List.filterMap_nil, List.getElem?_cons_succ, List.getElem?_cons_zero]
            cases ok with
            | false =>
              have hre : TreR lo (ps.length + 2 * m - 1) N w (.returned (.tuple #[.slice (some ⟨w6.heap.size, 0, none⟩) 0 0, .bool false])) (w6.alloc (.cells #[] 48)) :=
                ⟨⟨_, _, [], rfl, TrA.nil _ (World.ownsRow_lit w6 #[] 0 (by omega) (by simp [maxLen]) rfl), by simp⟩, (HW5.out.go HW6.out).go (TWr.alloc (by omega) _)⟩
              have HRE := Lib.hid hre
              clear hre
              go_wp2_with fail
              refine bodyPost_ret (v := .tuple #[.slice (some ⟨w6.heap.size, 0, none⟩) 0 0, .bool false]) (by simp [results, Try.results38, go_sem]) rfl ?_
              exact HRE.out
            | true =>
              go_wp2_with (at_builtin; refine wpList_push_wh w6 rfl _ _ 26 rfl S5 2 _ _ 8 Try.underlying26 infoI rfl (.slice ka j kc) j (ints ks) rfl HK6.out (.int .i64 ((ps6.length : Int) - 1)) rfl rfl (by unfold maxLen; omega) (by omega) (by omega) ?_; intro g7 c7 w7 ho7 hg7 hw7)
              have HT7 : Hid (TrA lo (fun k => N k ∨ (Value.slice (some ⟨g7, 0, none⟩) (j + 1) c7).ownBlock = some k) (.slice xa6 ps6.length xc6) ps6 w7) := Lib.hid (HT6.out.grow HK6.out hg7 fun k hk => by
                have hgk : k = g7 := by unfold Value.ownBlock at hk; simp at hk; omega
                rw [hgk]; exact hw7)
              have HK7 : Hid (w7.ownsRow S5 2 1 (.slice (some ⟨g7, 0, none⟩) (j + 1) c7) (ks ++ [(ps6.length : Int) - 1]).length (ints (ks ++ [(ps6.length : Int) - 1]))) := Lib.hid (by simpa [ints, hks] using ho7)
              have HW7 : Hid (TWr lo w2 w7) := Lib.hid (HW6.out.fresh (by omega) (owns_base HK6.out (by omega)) (by decide) (fun k hk => by have := (owns_lt HK6.out hk).1; omega) hg7)
              have hz7 : S5 < w7.heap.size := by have := hg7.size; omega
              clear ho7 hg7 hw7
              go_roundw
              case rel => exact ⟨j + 1, ps6, ks ++ [(ps6.length : Int) - 1], by omega, by go_num, by simp [hks], hn2, HN1, HT7, HK7, HW7, hz7⟩
              case measure => simp [intOf]; omega
          · obtain rfl : j = L := by omega
            obtain ⟨L3, hL3, hn3⟩ := HTR.out.ex
            have HL3 := Lib.hid hL3
            have HN3 := Lib.hid hn3
            clear hL3 hn3
            rw [hks] at HKR ⊢
            go_wp2_with (at_builtin; refine wpList_pushP wr rfl _ _ 24 rfl lo 48 _ _ 40 Try.underlying24 infoEP cellsP3 (.slice ra psr.length rc) psr.length (cellsQ L3) rfl HL3.out.own wr.heap.size rfl (.int .i64 2) (.int .i64 0) (.slice ka j kc) rfl rfl rfl rfl (by unfold maxLen; omega) (by omega) (by omega) ?_; intro g8 c8 w8 ho8 hg8)
            have hre : TreR lo (ps.length + 2 * m - 1) N w (.returned (.tuple #[.slice (some ⟨g8, 0, none⟩) (psr.length + 1) c8, .bool true])) w8 := ⟨⟨_, _, psr ++ [(2, 0, ks)], rfl, HL3.out.pushA (N := N) (fun q hq k hk hh => HN3.out q hq k hk (.inl hh)) (x := 2) (y := 0) (xs := ks) (by rw [hks]; exact owns_base HKR.out (by omega)) (fun k hk hh => by have := HZ5.out k hh; have := (owns_lt HKR.out hk).1; omega) hg8 ho8, by
              have h1 := HCN.out
              have h2 := sumT_le n Q j
              have h3 := HSM.out
              have h4 : j = 0 → sumT n Q j = 0 := fun h => by rw [h]; rfl
              simp
              omega⟩, (HW5.out.go HWR.out).go (TWr.grown (by omega) HL3.out.own hg8)⟩
            refine bodyPost_ret (v := .tuple #[.slice (some ⟨g8, 0, none⟩) (psr.length + 1) c8, .bool true]) (by simp [results, Try.results38, go_sem]) rfl ?_
            exact hre
end Go.Proofs.Ytpfhflkpnjkgkaa
/-
  'CoTree' of the reference: some tree.
-/


namespace Go.Proofs.Ytpfhflkpnjkgkaa
open Go.RowKit

/-- Some parts, no more than 31. -/
structure CoR (w : World) (E : Ending) (w' : World) : Prop where
  ex : ∃ tv ok ps, E = .returned (.tuple #[tv, .bool ok]) ∧ TrP w.heap.size tv ps w' ∧ ps.length ≤ 31
  below : Below w.heap.size w w'

set_option maxHeartbeats 4000000 in
set_option maxRecDepth 100000 in
theorem coTree_any (g : Value) (xss : List (List Int)) (w : World) (hr : RdSS g xss w) :
    Calls Try.prog 20 #[.agg #[g]] w (CoR w) := by
  obtain ⟨a, c, rfl⟩ := hr.shape
  obtain ⟨B, hB⟩ : ∃ B, w.heap.size = B := ⟨_, rfl⟩
  obtain ⟨n, hn⟩ : ∃ n, xss.length = n := ⟨_, rfl⟩
  have u1 : Below B w (w.alloc (.cells #[.slice a n c] 42)) := by subst hB; exact below_alloc' _ _
  have VG0 : VC 42 B #[.slice a n c] (w.alloc (.cells #[.slice a n c] 42)) := VC.new hB
  have hz0 : (w.alloc (.cells #[.slice a n c] 42)).heap.size = B + 1 := by simp [hB]
  have hcg := VG0.cell
  rw [hn] at hr ⊢
  have HR : Hid (∀ W, Below B w W → RdSS (.slice a n c) xss W) := Lib.hid fun W h => hr.below h hB
  go_enter Try.func20, Try.ntmps20
  go_wp2_with fail
  generalize w.alloc (.cells #[.slice a n c] 42) = W at *
  refine (specOk _ xss W (HR.out _ u1)).mono ?_
  rintro e1 w1 ⟨rfl, hb1⟩
  have VG1 := VG0.upd (Upd.of_below hb1) (by omega)
  have hb := u1.trans (hb1.mono (by omega))
  have hz1 : B + 1 ≤ w1.heap.size := by have := hb1.size; omega
  clear hb1 hcg u1 hr VG0
  have hcg := VG1.cell
  cases hok : okB xss with
  | false =>
    have hre : CoR w (.returned (.tuple #[.slice (some ⟨w1.heap.size, 0, none⟩) 0 0, .bool false])) (w1.alloc (.cells #[] 48)) :=
      ⟨⟨_, _, [], rfl, TrP.nil _ _ _ (World.ownsRow_lit w1 #[] 0 (by omega) (by simp [maxLen]) rfl), by simp⟩, by rw [hB]; exact hb.alloc (by omega) _⟩
    have HRE := Lib.hid hre
    clear hre hok
    go_wp2_with fail
    refine bodyPost_ret (v := .tuple #[.slice (some ⟨w1.heap.size, 0, none⟩) 0 0, .bool false]) (by simp [results, Try.results20, go_sem]) rfl ?_
    exact HRE.out
  | true =>
    obtain ⟨e, hA, hx⟩ := (okB_iff xss).1 hok
    rw [hn] at hA hx
    have hn1 := hA.pos
    have hn16 := hA.le
    have HA := Lib.hid hA
    have HEL : Hid ((rowB n (allB n)).length = n) := Lib.hid (by rw [← allN_allB]; simp)
    have hn0 : ((n : Int) == 0) = false := by rw [beq_eq_false_iff_ne]; omega
    subst hx
    have HRG : Hid (∀ W, Below (B + 1) w1 W → RdSS (.slice a n c) (rowsB n e) W) := Lib.hid fun W h => HR.out W (hb.trans (h.mono (by omega)))
    have HB1 := Lib.hid hb
    clear hok hA hn hb HR
    go_wp2_with fail
    have bd : Below w1.heap.size w1 w1.drew := ⟨rfl, rfl, rfl, Nat.le_refl _, fun _ _ => rfl⟩
    have hzd : B + 1 ≤ w1.drew.heap.size := hz1
    have hbd := bd.mono hz1
    have hsub : ∀ x : KeptC B (.slice a n c), x.W.cell? ⟨B, 0, none⟩ = some (.slice a n c) := fun x => x.h
    have HKC : Hid (∀ W, Below (B + 1) w1 W → ∃ x : KeptC B (.slice a n c), W = x.W) := Lib.hid fun W h => ⟨⟨_, (VG1.belowAt h (by omega)).cell⟩, rfl⟩
    haveI hne2 : Nonempty (KeptC B (.slice a n c)) := ⟨⟨_, hcg⟩⟩
    have HALL : Hid (∀ W, Below (B + 1) w1 W → Calls Try.prog 39 #[.agg #[.slice a n c]] W (SRes W (rowB n (allB n)))) := Lib.hid fun W h => by
      have := l16All_any (.slice a n c) (rowsB n e) (by rw [rowsB_length]; omega) W (HRG.out W h)
      rwa [rowsB_length] at this
    refine wp_region_takeC (C := fun W => ∃ x : KeptC B (.slice a n c), W = x.W) [] [0, 1] 4 7 #[true, true, false, false, false, false, false, false, false] (by kernel_rfl) (by kernel_rfl) (by kernel_rfl) (by kernel_rfl) (HKC.out _ hbd) (fun _ _ d _ _ h => by cases d <;> exact h) ?_
    clear hcg
    simp only [pickOps, List.filterMap_cons, List.filterMap_nil, List.getElem?_cons_succ, List.getElem?_cons_zero]
    repeat quiet_step (fail)
    simp only [wpQuiet_nil_eq]
    clear bd hsub
    generalize w1.drew = wd at *
    refine wpAnyG_2 2 3 (by kernel_rfl) rfl rfl ?_ ?_
    · unfold wpNext
      go_wp2_with fail
      refine (HALL.out wd hbd).mono ?_
      rintro e1 w4 ⟨ul, rfl, hL, hbL⟩
      obtain ⟨la, lc, rfl⟩ := owns_shape hL
      rw [HEL.out] at hL ⊢
      have hz4 := hbL.size
      have hb4 := hbd.trans (hbL.mono hzd)
      have HL4 := Lib.hid hL
      clear hL hbL
      go_wp2_with fail
      refine ⟨fun _ => HKC.out _ hb4, ?_⟩
      refine wpAnyG_1 3 (by kernel_rfl) rfl ?_
      unfold wpNext
      obtain ⟨GB, hGB⟩ : ∃ G, w4.heap.size = G := ⟨_, rfl⟩
      obtain ⟨WT, hWT⟩ : ∃ W, W = w4.alloc (.cells #[] 48) := ⟨_, rfl⟩
      have bT : Below w4.heap.size w4 WT := by rw [hWT]; exact below_alloc' _ _
      have HBT := Lib.hid (hb4.trans (bT.mono (by omega)))
      have HTT : Hid (TrA (B + 1) (fun _ => False) (.slice (some ⟨GB, 0, none⟩) 0 0) [] WT) := Lib.hid (TrA.nil _ (by rw [hWT, ← hGB]; exact World.ownsRow_lit w4 #[] 0 (by omega) (by simp [maxLen]) rfl))
      have HRT : Hid (RdS (.slice la n lc) (rowB n (allB n)) WT) := Lib.hid (by
        have h1 := Row.of_owns (owns_below HL4.out bT)
        unfold RdS
        rw [HEL.out]
        exact h1)
      have hzT : B + 1 ≤ WT.heap.size := by have := bT.size; omega
      go_wp2_with fail
      try rw [← hWT]
      try rw [hGB]
      clear hWT bT hGB
      refine ⟨fun _ => HKC.out _ HBT.out, ?_⟩
      refine wpAnyG_1 4 (by kernel_rfl) rfl ?_
      have HCL := Lib.hid (l16Tree_any n e HA.out (B + 1) a c n (allB n) (fun b hb => by simpa [allB] using hb) HEL.out (by have := HA.out.pos; omega) (fun _ => False) WT (.slice la n lc) (.slice (some ⟨GB, 0, none⟩) 0 0) [] (fun k hk => hk.elim) HTT.out HRT.out (by simp; omega) (by omega) fun W hW => HRG.out W (HBT.out.trans hW))
      rw [List.length_nil] at HCL
      unfold wpNext
      go_wp2_with fail
      refine HCL.out.mono ?_
      rintro e1 w6 ⟨⟨tv6, ok, ps6, rfl, hT6, hl6⟩, hw6⟩
      obtain ⟨xa6, xc6, rfl⟩ := hT6.shape
      have HRE : Hid (CoR w (.returned (.tuple #[.slice xa6 ps6.length xc6, .bool ok])) w6) := Lib.hid ⟨⟨_, _, ps6, rfl, by rw [hB]; exact hT6.trp.base (by omega), by omega⟩, by rw [hB]; exact HB1.out.trans ((HBT.out.trans hw6.below).mono (by omega))⟩
      clear hT6 hw6
      go_wp2_with fail
      refine ⟨fun h => by simp at h, ?_⟩
      refine wpAnyG_mid [5, 6] 2 #[true, true, true, true, true, true, true, false, false] rfl (by kernel_rfl) (by kernel_rfl) (by kernel_rfl) (fun _ _ d _ _ h => by cases d <;> exact h) (fun h => by simp at h) ?_
      simp only [pickOps, List.filterMap_cons, List.filterMap_nil, List.getElem?_cons_succ, List.getElem?_cons_zero]
      repeat quiet_step (fail)
      try simp only [wpQuiet_nil_eq]
      refine wpAnyG_tail [7, 8] rfl (.inl (by kernel_rfl)) (by kernel_rfl) ?_
      simp only [pickOps, List.filterMap_cons, List.filterMap_nil, List.getElem?_cons_succ, List.getElem?_cons_zero]
      go_wp2_with fail
      refine bodyPost_ret (v := .tuple #[.slice xa6 ps6.length xc6, .bool ok]) (by simp [results, Try.results20, go_sem]) rfl ?_
      exact HRE.out
    · unfold wpNext
      obtain ⟨GB, hGB⟩ : ∃ G, wd.heap.size = G := ⟨_, rfl⟩
      obtain ⟨W4, hW4⟩ : ∃ W, W = wd.alloc (.cells #[] 48) := ⟨_, rfl⟩
      have b4 : Below wd.heap.size wd W4 := by rw [hW4]; exact below_alloc' _ _
      have hb4 := hbd.trans (b4.mono (by omega))
      have HT4 : Hid (TrA (B + 1) (fun _ => False) (.slice (some ⟨GB, 0, none⟩) 0 0) [] W4) := Lib.hid (TrA.nil _ (by rw [hW4, ← hGB]; exact World.ownsRow_lit wd #[] 0 (by omega) (by simp [maxLen]) rfl))
      have hz4 := b4.size
      go_wp2_with fail
      try rw [← hW4]
      try rw [hGB]
      clear hW4 b4 hGB
      refine ⟨fun _ => HKC.out _ hb4, ?_⟩
      refine wpAnyG_1 2 (by kernel_rfl) rfl ?_
      unfold wpNext
      go_wp2_with fail
      refine (HALL.out W4 hb4).mono ?_
      rintro e1 WT ⟨ul, rfl, hL, hbL⟩
      obtain ⟨la, lc, rfl⟩ := owns_shape hL
      rw [HEL.out] at hL ⊢
      have hzT : B + 1 ≤ WT.heap.size := by have := hbL.size; omega
      have HBT := Lib.hid (hb4.trans (hbL.mono (by omega)))
      have HTT := Lib.hid (HT4.out.below hbL)
      have HRT : Hid (RdS (.slice la n lc) (rowB n (allB n)) WT) := Lib.hid (by
        have h1 := Row.of_owns hL
        unfold RdS
        rw [HEL.out]
        exact h1)
      clear hL hbL
      go_wp2_with fail
      refine ⟨fun _ => HKC.out _ HBT.out, ?_⟩
      refine wpAnyG_1 4 (by kernel_rfl) rfl ?_
      have HCL := Lib.hid (l16Tree_any n e HA.out (B + 1) a c n (allB n) (fun b hb => by simpa [allB] using hb) HEL.out (by have := HA.out.pos; omega) (fun _ => False) WT (.slice la n lc) (.slice (some ⟨GB, 0, none⟩) 0 0) [] (fun k hk => hk.elim) HTT.out HRT.out (by simp; omega) (by omega) fun W hW => HRG.out W (HBT.out.trans hW))
      rw [List.length_nil] at HCL
      unfold wpNext
      go_wp2_with fail
      refine HCL.out.mono ?_
      rintro e1 w6 ⟨⟨tv6, ok, ps6, rfl, hT6, hl6⟩, hw6⟩
      obtain ⟨xa6, xc6, rfl⟩ := hT6.shape
      have HRE : Hid (CoR w (.returned (.tuple #[.slice xa6 ps6.length xc6, .bool ok])) w6) := Lib.hid ⟨⟨_, _, ps6, rfl, by rw [hB]; exact hT6.trp.base (by omega), by omega⟩, by rw [hB]; exact HB1.out.trans ((HBT.out.trans hw6.below).mono (by omega))⟩
      clear hT6 hw6
      go_wp2_with fail
      refine ⟨fun h => by simp at h, ?_⟩
      refine wpAnyG_mid [5, 6] 2 #[true, true, true, true, true, true, true, false, false] rfl (by kernel_rfl) (by kernel_rfl) (by kernel_rfl) (fun _ _ d _ _ h => by cases d <;> exact h) (fun h => by simp at h) ?_
      simp only [pickOps, List.filterMap_cons, List.filterMap_nil, List.getElem?_cons_succ, List.getElem?_cons_zero]
      repeat quiet_step (fail)
      try simp only [wpQuiet_nil_eq]
      refine wpAnyG_tail [7, 8] rfl (.inl (by kernel_rfl)) (by kernel_rfl) ?_
      simp only [pickOps, List.filterMap_cons, List.filterMap_nil, List.getElem?_cons_succ, List.getElem?_cons_zero]
      go_wp2_with fail
      refine bodyPost_ret (v := .tuple #[.slice xa6 ps6.length xc6, .bool ok]) (by simp [results, Try.results20, go_sem]) rfl ?_
      exact HRE.out
end Go.Proofs.Ytpfhflkpnjkgkaa
