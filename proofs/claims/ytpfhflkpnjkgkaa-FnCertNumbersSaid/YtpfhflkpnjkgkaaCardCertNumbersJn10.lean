import Derived.Test.YtpfhflkpnjkgkaaCardCertNumbersJn09
/-
  Numbers that are read as parts: plainly; parts of the call's own that grow.
-/


namespace Go.Proofs.Ytpfhflkpnjkgkaa
open Go.RowKit

/-- How many kids are told. -/
def kidN (r : List Int) : Nat := (r.getD 2 0).toNat
def stepB (r : List Int) (c : Nat) : Bool := decide (3 ≤ r.length) && (decide (0 ≤ r.getD 2 0 ∧ r.getD 2 0 ≤ 16) && (decide (3 + kidN r ≤ r.length) && !decide (c = 31)))
/-- Numbers that can be read as parts. -/
def okF : Nat → List Int → Nat → Bool
  | _, [], _ => true
  | 0, _ :: _, _ => false
  | f + 1, x :: r, c => stepB (x :: r) c && okF f ((x :: r).drop (3 + kidN (x :: r))) (c + 1)
theorem okF_fuel : ∀ (f : Nat) (r : List Int) (c : Nat), r.length ≤ f → okF f r c = okF r.length r c := by
  intro f
  induction f using Nat.strongRecOn with
  | ind f ih =>
    intro r c hr
    cases r with
    | nil => cases f <;> rfl
    | cons x r =>
      cases f with
      | zero => simp at hr
      | succ f =>
        rw [List.length_cons]
        unfold okF
        have hd : ((x :: r).drop (3 + kidN (x :: r))).length ≤ r.length := by simp; omega
        have hrf : r.length ≤ f := by simpa using hr
        rw [ih f (by omega) _ (c + 1) (by omega)]
        by_cases hlt : r.length < f + 1
        · rw [ih r.length (by omega) _ (c + 1) hd]
        · omega
def okW (r : List Int) (c : Nat) : Bool := okF r.length r c
theorem okW_nil (c : Nat) : okW [] c = true := rfl
theorem okW_step {r : List Int} (h : r ≠ []) (c : Nat) : okW r c = (stepB r c && okW (r.drop (3 + kidN r)) (c + 1)) := by
  cases r with
  | nil => exact absurd rfl h
  | cons x r =>
    unfold okW
    rw [List.length_cons]
    conv => lhs; unfold okF
    rw [okF_fuel r.length _ (c + 1) (by simp; omega)]
/-- No part has too many kids. -/
def smallK (ps : List PartD) : Prop := ∀ p ∈ ps, p.2.2.length ≤ 16
theorem any_small {ps : List PartD} : ps.any bigK = false ↔ smallK ps := by
  rw [List.any_eq_false]
  unfold smallK bigK
  constructor
  · exact fun h p hp => by have := h p hp; simpa using this
  · exact fun h p hp => by have := h p hp; simpa using this
theorem numsOf_cons (p : PartD) (ps : List PartD) : numsOf (p :: ps) = p.1 :: p.2.1 :: (p.2.2.length : Int) :: (p.2.2 ++ numsOf ps) := by simp [numsOf]
/-- What was printed can be read. -/
theorem ok_nums : ∀ (ps : List PartD) (c : Nat), smallK ps → ps.length + c ≤ 31 → okW (numsOf ps) c = true := by
  intro ps
  induction ps with
  | nil => intro c _ _; rfl
  | cons p ps ih =>
    intro c hs hl
    have hp := hs p (by simp)
    have hk : kidN (numsOf (p :: ps)) = p.2.2.length := by rw [numsOf_cons]; simp [kidN]
    rw [okW_step (by rw [numsOf_cons]; simp), hk]
    have hdr : (numsOf (p :: ps)).drop (3 + p.2.2.length) = numsOf ps := by
      rw [numsOf_cons, ← List.drop_drop]
      simp
    rw [hdr, ih (c + 1) (fun q hq => hs q (by simp [hq])) (by simp at hl; omega), Bool.and_true]
    have hlen : (numsOf (p :: ps)).length = 3 + p.2.2.length + (numsOf ps).length := by rw [numsOf_cons]; simp; omega
    have h2 : (numsOf (p :: ps)).getD 2 0 = (p.2.2.length : Int) := by rw [numsOf_cons]; rfl
    unfold stepB
    rw [h2, hk, hlen]
    simp at hl
    simp
    omega
/-- The parts are told by their numbers. -/
theorem nums_inj : ∀ (ps qs : List PartD), numsOf ps = numsOf qs → ps = qs := by
  intro ps
  induction ps with
  | nil =>
    intro qs h
    cases qs with
    | nil => rfl
    | cons q qs => rw [numsOf_cons] at h; simp [numsOf] at h
  | cons p ps ih =>
    intro qs h
    cases qs with
    | nil => rw [numsOf_cons] at h; simp [numsOf] at h
    | cons q qs =>
      rw [numsOf_cons, numsOf_cons] at h
      simp only [List.cons.injEq] at h
      obtain ⟨h1, h2, h3, h4⟩ := h
      have hl : p.2.2.length = q.2.2.length := by omega
      obtain ⟨h5, h6⟩ := List.append_inj h4 hl
      obtain ⟨a, b, cs⟩ := p
      obtain ⟨a', b', cs'⟩ := q
      simp only at h1 h2 h5
      rw [h1, h2, h5, ih qs h6]
/-- One part is read. -/
theorem take_part {xs : List Int} {ps : List PartD} {d : Nat} (h : numsOf ps = xs.take d) (hs : stepB (xs.drop d) ps.length = true) :
    ∃ x y z : Int, xs[d]? = some x ∧ xs[d + 1]? = some y ∧ xs[d + 2]? = some z ∧ 0 ≤ z ∧ z ≤ 16 ∧ z = (kidN (xs.drop d) : Nat) ∧ d + 3 + kidN (xs.drop d) ≤ xs.length ∧ ps.length ≠ 31 ∧
      numsOf (ps ++ [(x, y, (xs.drop (d + 3)).take (kidN (xs.drop d)))]) = xs.take (d + 3 + kidN (xs.drop d)) ∧ ((xs.drop (d + 3)).take (kidN (xs.drop d))).length = kidN (xs.drop d) := by
  unfold stepB at hs
  simp only [Bool.and_eq_true, decide_eq_true_eq, Bool.not_eq_true', decide_eq_false_iff_not, List.length_drop] at hs
  obtain ⟨h3, ⟨h0, h16⟩, hl, hc⟩ := hs
  have hx : xs[d]? = some (xs[d]'(by omega)) := List.getElem?_eq_getElem (by omega)
  have hy : xs[d + 1]? = some (xs[d + 1]'(by omega)) := List.getElem?_eq_getElem (by omega)
  have hz : xs[d + 2]? = some (xs[d + 2]'(by omega)) := List.getElem?_eq_getElem (by omega)
  have hg : (xs.drop d).getD 2 0 = xs[d + 2]'(by omega) := by rw [List.getD_eq_getElem?_getD, List.getElem?_drop, hz]; rfl
  rw [hg] at h0 h16
  have hk : xs[d + 2]'(by omega) = (kidN (xs.drop d) : Nat) := by unfold kidN; rw [hg]; omega
  have hkl : ((xs.drop (d + 3)).take (kidN (xs.drop d))).length = kidN (xs.drop d) := by simp; omega
  refine ⟨_, _, _, hx, hy, hz, h0, h16, hk, by omega, hc, ?_, hkl⟩
  rw [numsOf_snoc, h, hkl]
  have e1 : xs.take (d + 3 + kidN (xs.drop d)) = xs.take (d + 3) ++ (xs.drop (d + 3)).take (kidN (xs.drop d)) := by rw [List.take_add]
  have e2 : xs.take (d + 3) = xs.take d ++ [xs[d]'(by omega), xs[d + 1]'(by omega), xs[d + 2]'(by omega)] := by
    have s1 : xs.take (d + 1) = xs.take d ++ [xs[d]'(by omega)] := take_snoc hx
    have s2 : xs.take (d + 2) = xs.take (d + 1) ++ [xs[d + 1]'(by omega)] := take_snoc hy
    have s3 : xs.take (d + 3) = xs.take (d + 2) ++ [xs[d + 2]'(by omega)] := take_snoc hz
    rw [s3, s2, s1]
    simp only [List.append_assoc, List.cons_append, List.nil_append]
  rw [e1, e2, hk]

/-- Parts of the call's own. -/
structure TrPL (lo : Nat) (v : Value) (ps : List PartD) (L : List PartV) (w : World) : Prop where
  ln : L.length = ps.length
  own : w.ownsRow lo 48 3 v ps.length (cellsQ L)
  kids : ∀ (i : Nat) q p, L[i]? = some q → ps[i]? = some p → q.1 = p.1 ∧ q.2.1 = p.2.1 ∧ w.ownsRow lo 2 1 q.2.2 p.2.2.length (ints p.2.2)
structure TrP (lo : Nat) (v : Value) (ps : List PartD) (w : World) : Prop where
  ex : ∃ L, TrPL lo v ps L w
section
variable {lo : Nat} {v : Value} {ps : List PartD} {w w' : World}
theorem TrP.nil (lo : Nat) (v : Value) (w : World) (h : w.ownsRow lo 48 3 v 0 []) : TrP lo v [] w := ⟨[], rfl, h, fun i q p hq => by simp at hq⟩
theorem TrP.keep (h : TrP lo v ps w) (hk : ∀ b, lo ≤ b → b < w.heap.size → w'.heap[b]? = w.heap[b]?) : TrP lo v ps w' := by
  obtain ⟨L, h⟩ := h.ex
  exact ⟨L, h.ln, owns_keep h.own fun b hb hlt => hk b (owns_lt h.own hb).1 hlt, fun i q p h1 h2 => ⟨(h.kids i q p h1 h2).1, (h.kids i q p h1 h2).2.1, owns_keep (h.kids i q p h1 h2).2.2 fun b hb hlt => hk b (owns_lt (h.kids i q p h1 h2).2.2 hb).1 hlt⟩⟩
theorem TrP.below (h : TrP lo v ps w) (hb : Below w.heap.size w w') : TrP lo v ps w' := h.keep fun b _ hlt => hb.block b hlt
theorem TrP.base {lo' : Nat} (h : TrP lo v ps w) (hl : lo' ≤ lo) : TrP lo' v ps w := by
  obtain ⟨L, h⟩ := h.ex
  exact ⟨L, h.ln, owns_base h.own hl, fun i q p h1 h2 => ⟨(h.kids i q p h1 h2).1, (h.kids i q p h1 h2).2.1, owns_base (h.kids i q p h1 h2).2.2 hl⟩⟩
theorem TrP.rd (h : TrP lo v ps w) : RdP v ps w := by
  obtain ⟨L, h⟩ := h.ex
  exact ⟨L, h.ln, Row.of_owns h.own, fun i q p h1 h2 => ⟨(h.kids i q p h1 h2).1, (h.kids i q p h1 h2).2.1, Row.of_owns (h.kids i q p h1 h2).2.2⟩⟩
theorem TrP.shape (h : TrP lo v ps w) : ∃ a c, v = .slice a ps.length c := by
  obtain ⟨L, h⟩ := h.ex
  exact owns_shape h.own
theorem TrPL.push {L : List PartV} {v' u : Value} {x y : Int} {xs : List Int} (h : TrPL lo v ps L w) (hu : w.ownsRow lo 2 1 u xs.length (ints xs)) (hg : w.grownBy w' v.ownBlock)
    (ho : w'.ownsRow lo 48 3 v' (ps.length + 1) (cellsQ L ++ [.int .i64 x, .int .i64 y, u])) : TrP lo v' (ps ++ [(x, y, xs)]) w' := by
  have keep : ∀ {u' : Value} {m : Nat} {cs : List Value}, w.ownsRow lo 2 1 u' m cs → w'.ownsRow lo 2 1 u' m cs := fun hu' => hu'.kept hg (by
    cases hv : Value.ownBlock _ with
    | none => exact .inl rfl
    | some b => exact .inr fun he => owns_unlike h.own hu' (by decide) he.symm hv)
  refine ⟨L ++ [(x, y, u)], by simp [h.ln], by rw [cellsQ_snoc]; simpa using ho, fun i q p hq hp => ?_⟩
  by_cases hi : i < ps.length
  · rw [List.getElem?_append_left (by rw [h.ln]; exact hi)] at hq
    rw [List.getElem?_append_left hi] at hp
    obtain ⟨h1, h2, h3⟩ := h.kids i q p hq hp
    exact ⟨h1, h2, keep h3⟩
  · have hil : i < (ps ++ [(x, y, xs)]).length := (List.getElem?_eq_some_iff.1 hp).1
    simp at hil
    obtain rfl : i = ps.length := by omega
    rw [List.getElem?_append_right (by rw [h.ln]; exact Nat.le_refl _), h.ln, Nat.sub_self] at hq
    rw [List.getElem?_append_right (Nat.le_refl _), Nat.sub_self] at hp
    simp at hq hp
    subst hq hp
    exact ⟨rfl, rfl, keep hu⟩
end
theorem wpList_pushP {P : Program} (wr : World) {ops : Array Oper} {rest : List Oper} {o : Oper} {a : Act} {Q : Exit → Act → World → Prop} (hgd : o.guard = none) (s x : Operand) (t : TypeId)
    (ho : o.op = .call { callee := .builtin .append, args := #[s, x], argTypes := #[t, t] })
    (base : Nat) (e e2 : TypeId) (z : Value) (bytes : Nat) (ht : P.underlying t = some (.slice e)) (hinfo : (P.info? e).map (fun i => (i.zero, i.size, i.bytes)) = some (some z, 3, bytes)) (hzs : z.cells.size = 3)
    (v : Value) (n : Nat) (xs : List Value) (hs : a.eval s = v) (hown : wr.ownsRow base e 3 v n xs) (g0 : Nat) (hg0 : g0 = wr.heap.size)
    (y1 y2 y3 : Value) (hx : a.eval x = .slice (some ⟨g0, 0, none⟩) 1 1) (hy1 : y1.oneCell' = true) (hy2 : y2.oneCell' = true) (hy3 : y3.oneCell' = true)
    (h63 : n + 1 ≤ maxLen) (hbytes : (n + 1) * bytes ≤ 140737488355328) (hbase : base ≤ wr.heap.size)
    (h : ∀ g' c' w', w'.ownsRow base e 3 (.slice (some ⟨g', 0, none⟩) (n + 1) c') (n + 1) (xs ++ [y1, y2, y3]) → wr.grownBy w' v.ownBlock → wpList P ops Q rest (a.put o.dst (.slice (some ⟨g', 0, none⟩) (n + 1) c')) w') :
    wpList P ops Q (o :: rest) a (wr.alloc (.cells #[y1, y2, y3] e2)) := by
  subst hg0
  obtain ⟨i, hi, hz, hsize, hby⟩ := info_parts hinfo
  refine wpList_append_own _ hgd s x t ho base e i z 3 bytes ht hi hz hsize hby hzs (by decide) v n xs hs (hown.alloc _) ⟨wr.heap.size, 0, none⟩ 1 1 [y1, y2, y3] hx rfl ?_ ?_ h63 hbytes (by simp; omega) ?_
  · intro j u hj
    match j, hj with
    | 0, hj => simp at hj; subst hj; simp [Addr.add]
    | 1, hj => simp at hj; subst hj; simp [Addr.add]
    | 2, hj => simp at hj; subst hj; simp [Addr.add]
  · intro u hu
    simp at hu
    rcases hu with rfl | rfl | rfl <;> assumption
  · intro v' w' h1 h2 _
    obtain ⟨g', c', rfl⟩ := headP h1 (by omega)
    refine h g' c' w' h1 ⟨h2.os, h2.tape, h2.output, ?_, fun k hk hne => ?_⟩
    · have := h2.size; simp at this; omega
    · exact (h2.block k (by simp; omega) hne).trans (Below.heap_alloc _ _ _ hk)
theorem cellsP3 : (Value.agg #[.int .i64 0, .int .i64 0, .slice none 0 0]).cells.size = 3 := by kernel_rfl
end Go.Proofs.Ytpfhflkpnjkgkaa
/-
  'NumsParts' of the reference.
-/

namespace Go.Proofs.Ytpfhflkpnjkgkaa
open Go.RowKit

theorem stepB_len {r : List Int} {c : Nat} (h : ¬ 3 ≤ r.length) : stepB r c = false := by unfold stepB; rw [decide_eq_false h]; rfl
theorem stepB_in {r : List Int} {c : Nat} (h : ¬ (0 ≤ r.getD 2 0 ∧ r.getD 2 0 ≤ 16)) : stepB r c = false := by unfold stepB; rw [decide_eq_false h]; simp
theorem stepB_room {r : List Int} {c : Nat} (h : ¬ 3 + kidN r ≤ r.length) : stepB r c = false := by unfold stepB; rw [decide_eq_false h]; simp
theorem stepB_many {r : List Int} {c : Nat} (h : c = 31) : stepB r c = false := by unfold stepB; rw [decide_eq_true h]; simp
theorem stepB_yes {r : List Int} {c : Nat} (h1 : 3 ≤ r.length) (h2 : 0 ≤ r.getD 2 0 ∧ r.getD 2 0 ≤ 16) (h3 : 3 + kidN r ≤ r.length) (h4 : c ≠ 31) : stepB r c = true := by
  unfold stepB
  rw [decide_eq_true h1, decide_eq_true h2, decide_eq_true h3, decide_eq_false h4]
  rfl

set_option maxHeartbeats 4000000 in
set_option maxRecDepth 100000 in
theorem specNums (v : Value) (xs : List Int) (hx : xs.length ≤ 1000000) (w : World) (hr : RdS v xs w) :
    Calls Try.prog 11 #[v] w fun e w' => ∃ u, e = .returned (.tuple #[u, .bool (okW xs 0)]) ∧ Below w.heap.size w w' := by
  obtain ⟨a, c, rfl, hc1, hc2, -, hnone, -⟩ := id hr
  obtain ⟨B, hB⟩ : ∃ B, w.heap.size = B := ⟨_, rfl⟩
  obtain ⟨W0, hW0⟩ : ∃ W0, W0 = w.alloc (.cells #[] 48) := ⟨_, rfl⟩
  have hb0 : Below B w W0 := by rw [hW0]; subst hB; exact below_alloc' _ _
  have ht0 : TrP B (.slice (some ⟨B, 0, none⟩) 0 0) [] W0 := by
    rw [hW0]; subst hB
    exact TrP.nil _ _ _ (World.ownsRow_lit w #[] 0 (Nat.le_refl _) (by simp [maxLen]) rfl)
  have HT0 := Lib.hid ht0
  have h00 : Hid (numsOf [] = xs.take 0) := Lib.hid (by simp [numsOf])
  have h01 : Hid (okW xs 0 = okW (xs.drop 0) ([] : List PartD).length) := Lib.hid (by simp)
  have HRD : Hid (∀ W, Below B w W → RdS (.slice a xs.length c) xs W) := Lib.hid fun W h => hr.below h hB
  clear ht0 hr hnone
  go_enter Try.func11, Try.ntmps11
  go_wp2_with fail
  rw [← hW0]
  clear hW0
  go_loopw [4, 5] (fun u i wr => ∃ (d : Nat) (ps : List PartD), d ≤ xs.length ∧ i = .int .i64 d ∧ ps.length ≤ 31 ∧ Hid (numsOf ps = xs.take d) ∧ Hid (okW xs 0 = okW (xs.drop d) ps.length) ∧ Hid (TrP B u ps wr) ∧ Below B w wr) (fun _ i _ => xs.length - (intOf i).toNat)
  case atStart => exact ⟨0, [], Nat.zero_le _, rfl, by simp, h00, h01, HT0, hb0⟩
  case round =>
    clear h00 h01 HT0 hb0
    obtain ⟨d, ps, hd, rfl, hpl, HNU, HOK, HTR, hb⟩ := hrel
    have hsz : B ≤ wr.heap.size := by have := hb.size; omega
    obtain ⟨ta, tc, rfl⟩ := HTR.out.shape
    by_cases hlt : d < xs.length
    · have hne : xs.drop d ≠ [] := fun h => by have := congrArg List.length h; simp at this; omega
      have HST : Hid (okW xs 0 = (stepB (xs.drop d) ps.length && okW ((xs.drop d).drop (3 + kidN (xs.drop d))) (ps.length + 1))) := Lib.hid (HOK.out.trans (okW_step hne _))
      have hdl : (xs.drop d).length = xs.length - d := by simp
      have hbad : stepB (xs.drop d) ps.length = false → Hid (okW xs 0 = false) := fun h => Lib.hid (by rw [HST.out, h]; rfl)
      have HBAD := Lib.hid hbad
      have HAL := Lib.hid (hb.alloc hsz (.cells #[] 48))
      clear hne hbad
      by_cases h3 : xs.length < d + 3
      · have HF := HBAD.out (stepB_len (by omega))
        have h3i : (xs.length : Int) < (d : Int) + 3 := by omega
        go_wp2_with fail
        refine bodyPost_ret (v := .tuple #[.slice (some ⟨wr.heap.size, 0, none⟩) 0 0, .bool false]) (by simp [results, Try.results11, go_sem]) rfl ?_
        exact ⟨_, by rw [HF.out], by rw [hB]; exact HAL.out⟩
      · have h3i : ¬ (xs.length : Int) < (d : Int) + 3 := by omega
        obtain ⟨zb, zo, z, rfl, hcz, HZ⟩ := (HRD.out wr hb).intAt (j := d + 2) (by omega)
        have hg2 : (xs.drop d).getD 2 0 = z := by rw [List.getD_eq_getElem?_getD, List.getElem?_drop, HZ.out]; rfl
        obtain ⟨bi, hbi⟩ : ∃ b, decide (0 ≤ z ∧ z ≤ 16) = b := ⟨_, rfl⟩
        have HI := fun W => Lib.hid (l1In_is z 0 16 bi hbi W)
        cases bi with
        | false =>
          have HF := HBAD.out (stepB_in (by rw [hg2]; exact of_decide_eq_false hbi))
          clear hbi hg2
          go_wp2_with fail
          refine (HI _).out.mono ?_
          rintro e1 w' ⟨rfl, rfl⟩
          go_wp2_with fail
          refine bodyPost_ret (v := .tuple #[.slice (some ⟨wr.heap.size, 0, none⟩) 0 0, .bool false]) (by simp [results, Try.results11, go_sem]) rfl ?_
          exact ⟨_, by rw [HF.out], by rw [hB]; exact HAL.out⟩
        | true =>
          have hz := of_decide_eq_true hbi
          obtain ⟨k, rfl⟩ : ∃ k : Nat, z = (k : Int) := ⟨z.toNat, by omega⟩
          have hk : kidN (xs.drop d) = k := by unfold kidN; rw [hg2]; simp
          have hk16 : k ≤ 16 := by omega
          by_cases hrm : xs.length < d + 3 + k
          · have HF := HBAD.out (stepB_room (by rw [hk]; omega))
            have hri : (xs.length : Int) < (d : Int) + 3 + (k : Int) := by omega
            clear hbi hg2 hk hz
            go_wp2_with fail
            refine (HI _).out.mono ?_
            rintro e1 w' ⟨rfl, rfl⟩
            go_wp2_with fail
            refine bodyPost_ret (v := .tuple #[.slice (some ⟨wr.heap.size, 0, none⟩) 0 0, .bool false]) (by simp [results, Try.results11, go_sem]) rfl ?_
            exact ⟨_, by rw [HF.out], by rw [hB]; exact HAL.out⟩
          · have hri : ¬ (xs.length : Int) < (d : Int) + 3 + (k : Int) := by omega
            by_cases h31 : ps.length = 31
            · have HF := HBAD.out (stepB_many h31)
              have h31i : ((ps.length : Int) == 31) = true := by rw [h31]; rfl
              clear hbi hg2 hk hz h31
              go_wp2_with fail
              refine (HI _).out.mono ?_
              rintro e1 w' ⟨rfl, rfl⟩
              go_wp2_with fail
              refine bodyPost_ret (v := .tuple #[.slice (some ⟨wr.heap.size, 0, none⟩) 0 0, .bool false]) (by simp [results, Try.results11, go_sem]) rfl ?_
              exact ⟨_, by rw [HF.out], by rw [hB]; exact HAL.out⟩
            · have h31i : ((ps.length : Int) == 31) = false := by rw [beq_eq_false_iff_ne]; omega
              have hst : stepB (xs.drop d) ps.length = true := stepB_yes (by omega) (by rw [hg2]; exact hz) (by rw [hk]; omega) h31
              obtain ⟨x, y, z', hx0, hy0, hz0, -, -, hz', hlz, -, hnn, hkl⟩ := take_part HNU.out hst
              rw [hk] at hnn hkl hlz
              have HOK2 : Hid (okW xs 0 = okW (xs.drop (d + 3 + k)) (ps.length + 1)) := Lib.hid (by
                rw [HST.out, hst, Bool.true_and, hk, List.drop_drop]
                congr 2
                omega)
              have HNN := Lib.hid hnn
              obtain ⟨xb, xo, x', hxe, hcx, HX⟩ := (HRD.out wr hb).intAt (j := d) (by omega)
              obtain ⟨rfl, rfl⟩ : zb = xb ∧ zo = xo := by simpa using hxe
              obtain rfl : x' = x := by have h := HX.out; rw [hx0] at h; exact (Option.some.inj h).symm
              obtain ⟨yb, yo, y', hye, hcy, HY⟩ := (HRD.out wr hb).intAt (j := d + 1) (by omega)
              obtain ⟨rfl, rfl⟩ : zb = yb ∧ zo = yo := by simpa using hye
              obtain rfl : y' = y := by have h := HY.out; rw [hy0] at h; exact (Option.some.inj h).symm
              obtain ⟨ks, hks⟩ : ∃ ks, (xs.drop (d + 3)).take k = ks := ⟨_, rfl⟩
              rw [hks] at HNN hkl
              have HKS := Lib.hid hks
              have HP30 : Hid (ps.length + 1 ≤ 31) := Lib.hid (by omega)
              have HKL := Lib.hid hkl
              clear hbi hg2 hk hz h31 hst hx0 hy0 hz0 hz' hlz hnn hxe hye hks hkl
              obtain ⟨d3, hd3⟩ : ∃ d3 : Nat, (d : Int) + 3 = (d3 : Int) := ⟨d + 3, by omega⟩
              have HD3 : Hid (d + 3 = d3) := Lib.hid (by omega)
              by_cases hcd : c = d3
              · subst hcd
                have HSR : Hid (∀ W, Below B w W → RdS (.slice (some ⟨zb, zo, none⟩) ks.length 0) ks W) := Lib.hid fun W hW => by
                  have h1 := (HRD.out W hW).drop_all (k := c) (by omega) rfl
                  have h2 := h1.take (k := k) (by omega)
                  have h3 : ((ints xs).drop c).take k = ints ks := by rw [← HKS.out, HD3.out]; simp [ints, List.map_drop, List.map_take]
                  rw [h3] at h2
                  unfold RdS
                  rw [HKL.out]
                  exact h2
                have hbd : Below B w wr.drew := hb.drew
                have HCP := Lib.hid (copy_any (.slice (some ⟨zb, zo, none⟩) ks.length 0) ks wr.drew (HSR.out _ hbd) (by rw [HKL.out]; omega))
                rw [HKL.out] at HCP
                have HBD := Lib.hid hb
                obtain ⟨d1, hd1⟩ : ∃ d1 : Nat, (d : Int) + 1 = (d1 : Int) := ⟨d + 1, by omega⟩
                obtain ⟨en, hen⟩ : ∃ en : Nat, (c : Int) + (k : Int) = (en : Int) := ⟨c + k, by omega⟩
                have hd1n : d1 < xs.length := by omega
                have hcn : c ≤ xs.length := by omega
                have henn : en ≤ xs.length := by omega
                have hdie : c ≤ en := by omega
                have hekd : en - c = k := by omega
                have hi1 : ¬ (xs.length : Int) < (c : Int) := by omega
                have hi2 : ¬ (xs.length : Int) < (en : Int) := by omega
                have HEN : Hid (d + 3 + k = en) := Lib.hid (by omega)
                have e1' : d + 1 = d1 := by omega
                rw [e1'] at hcy
                clear e1' hri h3i
                have hwr1 : IntKind.i64.wrap (d1 : Int) = (d1 : Int) := IntWalk.i64_in _ (by omega)
                have hwr3 : IntKind.i64.wrap (c : Int) = (c : Int) := IntWalk.i64_in _ (by omega)
                clear hb hbd HBAD HAL HST
                go_wp2_with fail
                refine (HI _).out.mono ?_
                rintro e1 w' ⟨rfl, rfl⟩
                go_wp2_with fail
                refine wp_region_ord [0, 1, 2, 3, 5, 6, 7, 8, 10, 11, 12, 13] [4, 9] [14, 15, 16, 17] [18, 19] (by kernel_rfl) (by kernel_rfl) (fun _ _ d _ _ h => by cases d <;> exact h) ?_
                simp only [pickOps, List.filterMap_cons, List.filterMap_nil, List.getElem?_cons_succ, List.getElem?_cons_zero]
                repeat (first | go_big_quiet_step (fail) | quiet_step (fail))
                simp only [wpQuiet_nil_eq]
                refine wpSegs_cons ?_
                go_wp2_with fail
                refine ⟨(Below.refl _ _).drew, ?_⟩
                refine wpSegs_cons ?_
                go_wp2_with fail
                refine HCP.out.mono ?_
                rintro e1 w2 ⟨u, rfl, hu, hb2⟩
                have HB2' := Lib.hid (below_drew hb2)
                have HB2 := Lib.hid (HBD.out.trans (HB2'.out.mono hsz))
                have HU2 : Hid (w2.ownsRow B 2 1 u ks.length (ints ks)) := Lib.hid (by rw [HKL.out]; exact owns_base hu hsz)
                have HT2 := Lib.hid (HTR.out.below HB2'.out)
                obtain ⟨L2, hL2⟩ := HT2.out.ex
                have HL2 := Lib.hid hL2
                have hs2 : B ≤ w2.heap.size := by have := HB2.out.size; omega
                obtain ⟨ua, uc, rfl⟩ := owns_shape hu
                clear hu hb2 HCP hL2
                go_wp2_with fail
                refine ⟨HB2'.out, ?_⟩
                refine wpSegs_cons ?_
                go_wp2_with fail
                refine ⟨HB2'.out, ?_⟩
                refine wpSegs_cons ?_
                go_wp2_with fail
                refine ⟨HB2'.out.alloc HB2'.out.size _, ?_⟩
                simp only [wpSegs_nil_eq]
                refine (wpList_pushP w2 rfl _ _ 24 rfl B 48 _ _ 40 Try.underlying24 infoEP cellsP3 (.slice ta ps.length tc) ps.length (cellsQ L2) rfl HL2.out.own w2.heap.size rfl (.int .i64 x') (.int .i64 y') (.slice ua k uc) rfl rfl rfl rfl (by unfold maxLen; omega) (by omega) (by omega) ?_)
                intro g3 c3 w3 ho3 hg3
                have HT3 := Lib.hid (HL2.out.push (x := x') (y := y') (xs := ks) (by have := HU2.out; rw [HKL.out] at this ⊢; exact this) hg3 ho3)
                have HB3 := Lib.hid (HB2.out.grown hg3 hs2 fun q hq => (owns_lt HL2.out.own hq).1)
                have hpl2 : ((ps ++ [(x', y', ks)]).length : Nat) = ps.length + 1 := by simp
                have HPL := Lib.hid hpl2
                clear ho3 hg3 hpl2
                go_wp2_with fail
                go_roundw
                case rel => exact ⟨en, ps ++ [(x', y', ks)], by omega, by first | rfl | go_num, by rw [HPL.out]; exact HP30.out, by rw [← HEN.out]; exact HNN, by rw [HPL.out, ← HEN.out]; exact HOK2, by first | exact HT3 | (have h := HT3; simpa using h), HB3.out⟩
                case measure => simp [intOf]; omega
              · have HSR : Hid (∀ W, Below B w W → RdS (.slice (some ⟨zb, zo + d3, none⟩) ks.length (c - d3)) ks W) := Lib.hid fun W hW => by
                  have h1 := (HRD.out W hW).drop (k := d3) (by omega) hcd
                  have h2 := h1.take (k := k) (by omega)
                  have h3 : ((ints xs).drop d3).take k = ints ks := by rw [← HKS.out, HD3.out]; simp [ints, List.map_drop, List.map_take]
                  rw [h3] at h2
                  unfold RdS
                  rw [HKL.out]
                  simpa [Addr.add_lit] using h2
                have hbd : Below B w wr.drew := hb.drew
                have HCP := Lib.hid (copy_any (.slice (some ⟨zb, zo + d3, none⟩) ks.length (c - d3)) ks wr.drew (HSR.out _ hbd) (by rw [HKL.out]; omega))
                rw [HKL.out] at HCP
                have HBD := Lib.hid hb
                obtain ⟨d1, hd1⟩ : ∃ d1 : Nat, (d : Int) + 1 = (d1 : Int) := ⟨d + 1, by omega⟩
                obtain ⟨en, hen⟩ : ∃ en : Nat, (d3 : Int) + (k : Int) = (en : Int) := ⟨d3 + k, by omega⟩
                have hd1n : d1 < xs.length := by omega
                have hd3n : d3 ≤ xs.length := by omega
                have henn : en ≤ xs.length := by omega
                have hdie : d3 ≤ en := by omega
                have hekd : en - d3 = k := by omega
                have hi1 : ¬ (xs.length : Int) < (d3 : Int) := by omega
                have hi2 : ¬ (xs.length : Int) < (en : Int) := by omega
                have HEN : Hid (d + 3 + k = en) := Lib.hid (by omega)
                have e1' : d + 1 = d1 := by omega
                rw [e1'] at hcy
                clear e1' hri h3i
                have hwr1 : IntKind.i64.wrap (d1 : Int) = (d1 : Int) := IntWalk.i64_in _ (by omega)
                have hwr3 : IntKind.i64.wrap (d3 : Int) = (d3 : Int) := IntWalk.i64_in _ (by omega)
                clear hb hbd HBAD HAL HST
                go_wp2_with fail
                refine (HI _).out.mono ?_
                rintro e1 w' ⟨rfl, rfl⟩
                go_wp2_with fail
                refine wp_region_ord [0, 1, 2, 3, 5, 6, 7, 8, 10, 11, 12, 13] [4, 9] [14, 15, 16, 17] [18, 19] (by kernel_rfl) (by kernel_rfl) (fun _ _ d _ _ h => by cases d <;> exact h) ?_
                simp only [pickOps, List.filterMap_cons, List.filterMap_nil, List.getElem?_cons_succ, List.getElem?_cons_zero]
                repeat (first | go_big_quiet_step (fail) | quiet_step (fail))
                simp only [wpQuiet_nil_eq]
                refine wpSegs_cons ?_
                go_wp2_with fail
                refine ⟨(Below.refl _ _).drew, ?_⟩
                refine wpSegs_cons ?_
                go_wp2_with fail
                refine HCP.out.mono ?_
                rintro e1 w2 ⟨u, rfl, hu, hb2⟩
                have HB2' := Lib.hid (below_drew hb2)
                have HB2 := Lib.hid (HBD.out.trans (HB2'.out.mono hsz))
                have HU2 : Hid (w2.ownsRow B 2 1 u ks.length (ints ks)) := Lib.hid (by rw [HKL.out]; exact owns_base hu hsz)
                have HT2 := Lib.hid (HTR.out.below HB2'.out)
                obtain ⟨L2, hL2⟩ := HT2.out.ex
                have HL2 := Lib.hid hL2
                have hs2 : B ≤ w2.heap.size := by have := HB2.out.size; omega
                obtain ⟨ua, uc, rfl⟩ := owns_shape hu
                clear hu hb2 HCP hL2
                go_wp2_with fail
                refine ⟨HB2'.out, ?_⟩
                refine wpSegs_cons ?_
                go_wp2_with fail
                refine ⟨HB2'.out, ?_⟩
                refine wpSegs_cons ?_
                go_wp2_with fail
                refine ⟨HB2'.out.alloc HB2'.out.size _, ?_⟩
                simp only [wpSegs_nil_eq]
                refine (wpList_pushP w2 rfl _ _ 24 rfl B 48 _ _ 40 Try.underlying24 infoEP cellsP3 (.slice ta ps.length tc) ps.length (cellsQ L2) rfl HL2.out.own w2.heap.size rfl (.int .i64 x') (.int .i64 y') (.slice ua k uc) rfl rfl rfl rfl (by unfold maxLen; omega) (by omega) (by omega) ?_)
                intro g3 c3 w3 ho3 hg3
                have HT3 := Lib.hid (HL2.out.push (x := x') (y := y') (xs := ks) (by have := HU2.out; rw [HKL.out] at this ⊢; exact this) hg3 ho3)
                have HB3 := Lib.hid (HB2.out.grown hg3 hs2 fun q hq => (owns_lt HL2.out.own hq).1)
                have hpl2 : ((ps ++ [(x', y', ks)]).length : Nat) = ps.length + 1 := by simp
                have HPL := Lib.hid hpl2
                clear ho3 hg3 hpl2
                go_wp2_with fail
                go_roundw
                case rel => exact ⟨en, ps ++ [(x', y', ks)], by omega, by first | rfl | go_num, by rw [HPL.out]; exact HP30.out, by rw [← HEN.out]; exact HNN, by rw [HPL.out, ← HEN.out]; exact HOK2, by first | exact HT3 | (have h := HT3; simpa using h), HB3.out⟩
                case measure => simp [intOf]; omega
    · obtain rfl : d = xs.length := by omega
      have HF : Hid (okW xs 0 = true) := Lib.hid (by rw [HOK.out, List.drop_length]; rfl)
      go_wp2_with fail
      refine bodyPost_ret (v := .tuple #[.slice ta ps.length tc, .bool true]) (by simp [results, Try.results11, go_sem]) rfl ?_
      exact ⟨_, by rw [HF.out], by rw [hB]; exact hb⟩
end Go.Proofs.Ytpfhflkpnjkgkaa
