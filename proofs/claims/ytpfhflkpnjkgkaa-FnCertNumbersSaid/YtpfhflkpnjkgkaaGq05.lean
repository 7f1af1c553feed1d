import Derived.Test.YtpfhflkpnjkgkaaGq01
import Derived.Test.YtpfhflkpnjkgkaaGq04
/-
  The complement: 'l2Other' of the reference; 'maskOf', 'netsOf', 'firstOf', 'all', 'complement' of the program.
-/



namespace Go.Proofs.Ytpfhflkpnjkgkaa
open Go.RowKit

theorem mask_row (n : Nat) (p : Nat → Bool) : maskB n (inL (rowB n p)) = maskB n p := by
  refine maskB_ext fun i hi => ?_
  unfold inL
  rw [Bool.eq_iff_iff, decide_eq_true_eq, nat_mem_rowB]
  simp [hi]

theorem rowsB_take_succ (n : Nat) (f : Nat → Nat → Bool) (k : Nat) (hk : k < n) : sets ((NB n f).take (k + 1)) = sets ((NB n f).take k) ++ [.int .u32 (maskB n (f k) : Nat)] := by
  rw [take_snoc (NB_at f hk)]
  simp [sets]

end Go.Proofs.Ytpfhflkpnjkgkaa
/-
  'Complement' of the reference and of the program.
-/

namespace Go.Proofs.Ytpfhflkpnjkgkaa
open Go.RowKit

theorem GRes.put {w0 wr w' : World} {B b : Nat} {u : Value} {vs : List Value} {rows : List (List Int)} (hB : w0.heap.size = B) (hb : Below B w0 wr) (hbb : B ≤ b) (hbr : b < wr.heap.size)
    (hG : OwnG w' wr.heap.size 26 2 u vs (rows.map ints)) (hb' : Below wr.heap.size wr w') (ok : Bool) :
    GRes w0 rows ok (.returned (.tuple #[.agg #[u], .bool ok])) (w'.setCell ⟨b, 0, none⟩ u) := by
  subst hB
  exact ⟨u, vs, rfl, (hG.other hbr _).rebase (by omega), (hb.trans (hb'.mono (by omega))).setCell hbb _⟩

theorem total_rowsB (n : Nat) (f : Nat → Nat → Bool) (hn : n ≤ 32) : total (rowsB n f) ≤ 32 * n := by
  have := total_rowsOf (NB n f)
  rw [NB_length, rowsOf_NB hn] at this
  exact this

end Go.Proofs.Ytpfhflkpnjkgkaa
/-
  'GraphOf' of the reference and of the program.
-/

namespace Go.Proofs.Ytpfhflkpnjkgkaa
open Go.RowKit

/-- An edge: two different vertices below n, the smaller one first. -/
def PairP (n : Nat) (xs : List Int) : Prop := xs.length = 2 ∧ SetP n xs
instance (n : Nat) (xs : List Int) : Decidable (PairP n xs) := by unfold PairP; infer_instance
theorem PairP.parts {n : Nat} {xs : List Int} (h : PairP n xs) : ∃ u v : Nat, u < v ∧ v < n ∧ xs = [(u : Int), (v : Int)] := by
  obtain ⟨h1, h2, h3⟩ := h
  match xs, h1 with
  | [x, y], _ =>
    have hx := h2 x (by simp)
    have hy := h2 y (by simp)
    have hxy : x < y := by simpa using h3
    exact ⟨x.toNat, y.toNat, by omega, by omega, by rw [Int.toNat_of_nonneg hx.1, Int.toNat_of_nonneg hy.1]⟩

/-- The edges of a list, laid one by one. -/
def laidE (es : List (List Int)) : Nat → Nat → Bool := es.foldl (fun f xs => plus f (xs.getD 0 0).toNat (xs.getD 1 0).toNat) (fun _ _ => false)
theorem laidE_succ {es : List (List Int)} {k : Nat} {u v : Nat} (h : es[k]? = some [(u : Int), (v : Int)]) : laidE (es.take (k + 1)) = plus (laidE (es.take k)) u v := by
  unfold laidE
  rw [take_snoc h, List.foldl_append]
  simp

/-- 'GraphOf' gives a graph. -/
def OkE (n : Int) (es : List (List Int)) : Prop := (1 ≤ n ∧ n ≤ 16) ∧ es.length ≤ 120 ∧ ∀ e ∈ es, PairP n.toNat e

theorem ok_snoc {n : Nat} {es : List (List Int)} {k : Nat} {xs : List Int} (hx : es[k]? = some xs) (h : ∀ e ∈ es.take k, PairP n e) (h1 : PairP n xs) : ∀ e ∈ es.take (k + 1), PairP n e := by
  rw [take_snoc hx]
  intro e he
  rcases List.mem_append.1 he with he | he
  · exact h e he
  · rw [List.mem_singleton.1 he]; exact h1

theorem set_is (v : Value) (xs : List Int) (n : Nat) (hn : n ≤ 1000000) (b : Bool) (h : decide (SetP n xs) = b) (w : World) (hr : Row w 1 v xs.length (ints xs)) :
    Calls Try.prog 49 #[v, .int .i64 n] w fun e w' => e = .returned (.bool b) ∧ Below w.heap.size w w' := by
  subst h; exact set_any v xs n hn w hr

theorem pair_cells {w : World} {u : Value} {x y : Int} (h : Row w 1 u 2 (ints [x, y])) :
    ∃ b o c, u = .slice (some ⟨b, o, none⟩) 2 c ∧ w.cell? ⟨b, o, none⟩ = some (.int .i64 x) ∧ w.cell? ⟨b, o + 1, none⟩ = some (.int .i64 y) := by
  obtain ⟨a, c, rfl, h1, h2, h3, h4, h5⟩ := h
  obtain ⟨b, o, rfl, hc⟩ := h5 0 (.int .i64 x) rfl
  obtain ⟨b', o', e, hc'⟩ := h5 1 (.int .i64 y) rfl
  obtain ⟨rfl, rfl⟩ : b = b' ∧ o = o' := by simpa using e
  exact ⟨b, o, c, rfl, hc, hc'⟩

end Go.Proofs.Ytpfhflkpnjkgkaa
/-
  'l1There', 'l2Pair', 'EdgeIn' of the reference; 'isVertex', 'isPair', 'EdgeIn' of the program.
-/

namespace Go.Proofs.Ytpfhflkpnjkgkaa
open Go.RowKit

/-- A vertex of n. -/
def inN (n : Nat) (v : Int) : Bool := decide (0 ≤ v ∧ v < (n : Int))
theorem inN_iff {n : Nat} {v : Int} : inN n v = true ↔ 0 ≤ v ∧ v < (n : Int) := by unfold inN; simp
theorem inN_nat {n : Nat} {v : Int} (h : inN n v = true) : ∃ k : Nat, v = k ∧ k < n := by
  have := inN_iff.1 h
  exact ⟨v.toNat, by omega, by omega⟩
def vertexB (xss : List (List Int)) (v : Int) : Bool := okB xss && inN xss.length v
def edgeB (xss : List (List Int)) (u v : Int) : Bool := okB xss && inN xss.length u && (xss.getD u.toNat []).contains v

theorem ok_size {xss : List (List Int)} (h : okB xss = true) : 1 ≤ xss.length ∧ xss.length ≤ 16 := by
  have : OkP xss := by unfold okB at h; simpa using h
  exact this.1

end Go.Proofs.Ytpfhflkpnjkgkaa
/-
  A statement whose order is open, and not forced behind its reads: each order is walked, step by step. About regions in general; no program in sight.
-/

namespace Go.Proofs.Ytpfhflkpnjkgkaa
open Go.RowKit

section
variable {P : Program} {ops : Array Oper} {Q : Exit → Act → World → Prop} {md : Region.Mode}

/-- What has come up when the reads have been taken. -/
def Region.taken (ops : Array Oper) (R0 R1 : List Nat) (m : Nat) : Option (Array Bool) :=
  match Region.takes .any ops none m R0 (Array.replicate ops.size false) with
  | none => none
  | some l0 => Region.takes .any ops (some ops.size) m R1 l0

theorem wp_region_take {id : Nat} {a : Act} {w : World} {l : List Oper} (R0 R1 : List Nat) (m g : Nat) (l1 : Array Bool) (hm : P.follows .mixedOrders = true) (hsel : Region.noSelect l.toArray = true)
    (hB : Region.taken l.toArray R0 R1 m = some l1) (hlen : R0.length + (R1.length + g) = l.toArray.size)
    (hQ : ∀ c (a : Act) d v w, Q (.panic c) (a.put d v) w → Q (.panic c) a w)
    (h : wpQuiet P l.toArray (fun _ => True) (wpQuiet P l.toArray (fun W => ∃ x, W = over w x) (fun a' => wpAnyG P .any l.toArray Q (Gate (fun W => ∃ x, W = over w x) m) g l1 a' w.drew) (pickOps l R1)) (pickOps l R0) a) :
    (Code.region id l.toArray true).wp P Q a w := by
  unfold Region.taken at hB
  split at hB
  · cases hB
  rename_i l0 hl0
  refine wp_region_any hm (wpAny_of_G (S := Gate (fun W => ∃ x, W = over w x) m) _ _ _ _ ?_)
  have hgate : ∀ L, Gate (fun W => ∃ x, W = over w x) m L w.drew := fun _ _ => ex_over_drew w
  suffices H : wpAnyG P .any l.toArray Q (Gate (fun W => ∃ x, W = over w x) m) (R0.length + (R1.length + g)) (Array.replicate l.toArray.size false) a w.drew by
    rw [hlen] at H; exact H
  refine wpAnyG_takes (C' := fun _ => True) (gate := none) hsel hQ (fun _ _ _ _ _ _ _ => trivial) (K := wpQuiet P l.toArray (fun W => ∃ x, W = over w x) (fun a' => wpAnyG P .any l.toArray Q (Gate (fun W => ∃ x, W = over w x) m) g l1 a' w.drew) (pickOps l R1)) (listed' := l0) ?_ R0 _ a (closed_start _) (hgate _) hl0 h
  intro a1 h1 inv1
  refine wpAnyG_takes (C' := fun W => ∃ x, W = over w x) (gate := some l.toArray.size) hsel hQ ?_ (K := fun a' => wpAnyG P .any l.toArray Q (Gate (fun W => ∃ x, W = over w x) m) g l1 a' w.drew) (listed' := l1) ?_ R1 _ a1 inv1 (hgate _) hB h1
  · intro i hi L W hL hun hG
    refine hG ?_
    simp only [Region.behindGate, Bool.or_eq_true, decide_eq_true_eq] at hi
    rcases hi with hi | hi
    · have : L.size ≤ m := by rw [hL.size]; exact hi
      simp [this]
    · cases hx : L.getD m false with
      | false => rfl
      | true =>
        have := behind_listed hL _ _ hi hx
        rw [getD_both hun] at this
        cases this
  · intro a2 h3 _
    exact h3

/-- What is to be shown of one operation that comes next. -/
def wpNext (P : Program) (md : Region.Mode) (ops : Array Oper) (Q : Exit → Act → World → Prop) (C : World → Prop) (m fuel : Nat) (listed : Array Bool) (i : Nat) (o : Oper) (a : Act) (w : World) : Prop :=
  wpList P ops (fun e a' w' => match e with | .normal => Gate C m (listed.setIfInBounds i true) w' ∧ wpAnyG P md ops Q (Gate C m) fuel (listed.setIfInBounds i true) a' w' | e => Q e a' w') [o] a w

theorem wpNext_op {C : World → Prop} {m fuel : Nat} {listed : Array Bool} {i : Nat} {o : Oper} {a : Act} {w : World} (ho : ops[i]? = some o) (H : wpNext P md ops Q C m fuel listed i o a w) :
    wpOp P ops Q i (fun a' w' => Gate C m (listed.setIfInBounds i true) w' ∧ wpAnyG P md ops Q (Gate C m) fuel (listed.setIfInBounds i true) a' w') a w :=
  wpOp_single ho (K := fun a' w' => Gate C m (listed.setIfInBounds i true) w' ∧ wpAnyG P md ops Q (Gate C m) fuel (listed.setIfInBounds i true) a' w') H (fun ⟨a₀, w₀, hq⟩ => ⟨a₀, w₀, hq⟩)

theorem wpAnyG_1 {C : World → Prop} {m fuel : Nat} {listed : Array Bool} {a : Act} {w : World} (i : Nat) {o : Oper} (hr : Region.ready md ops listed = [i]) (ho : ops[i]? = some o)
    (H : wpNext P md ops Q C m fuel listed i o a w) : wpAnyG P md ops Q (Gate C m) (fuel + 1) listed a w := by
  refine ⟨fun h => (by rw [hr] at h; cases h), fun j hj => ?_⟩
  rw [hr] at hj
  obtain rfl : j = i := by simpa using hj
  exact wpNext_op ho H
theorem wpAnyG_2 {C : World → Prop} {m fuel : Nat} {listed : Array Bool} {a : Act} {w : World} (i j : Nat) {o o' : Oper} (hr : Region.ready md ops listed = [i, j]) (ho : ops[i]? = some o) (ho' : ops[j]? = some o')
    (H : wpNext P md ops Q C m fuel listed i o a w) (H' : wpNext P md ops Q C m fuel listed j o' a w) : wpAnyG P md ops Q (Gate C m) (fuel + 1) listed a w := by
  refine ⟨fun h => (by rw [hr] at h; cases h), fun k hk => ?_⟩
  rw [hr] at hk
  have hk' : k = i ∨ k = j := by simpa using hk
  rcases hk' with rfl | rfl
  · exact wpNext_op ho H
  · exact wpNext_op ho' H'
/-- The last operations, in their forced order. -/
theorem wpAnyG_tail {C : World → Prop} {m fuel : Nat} {listed : Array Bool} {a : Act} {w : World} (T : List Nat) (hf : T.length = fuel) (hm : listed.getD m false = true ∨ ∀ w, C w) (hB : Region.forced md ops T listed = true)
    (H : wpList P ops Q (pickOps ops.toList T) a w) : wpAnyG P md ops Q (Gate C m) fuel listed a w := by
  subst hf
  rcases hm with hm | hm
  · exact wpAnyG_last T listed a w hm hB H
  · induction T generalizing listed a w with
    | nil => exact ⟨by simpa [Region.forced] using hB, H⟩
    | cons i l ih =>
      simp only [Region.forced, Bool.and_eq_true, decide_eq_true_eq] at hB
      refine ⟨fun h1 => (by rw [hB.1] at h1; cases h1), fun j hj => ?_⟩
      have hj2 := hj
      rw [hB.1] at hj
      have hij : j = i := by simpa using hj
      subst hij
      obtain ⟨_, oj, hoj, _⟩ := mem_ready.1 hj2
      have hp : pickOps ops.toList (j :: l) = oj :: pickOps ops.toList l := by simp [pickOps, hoj]
      rw [hp] at H
      have hw : wpOp P ops Q j (wpList P ops Q (pickOps ops.toList l)) a w := by unfold wpOp; simp only [hoj]; exact H
      exact wpOp_mono (fun a' w' h' => ⟨fun _ => hm w', ih hB.2 h'⟩) hw
/-- The last operations, in their forced order, the first of them being the gate. -/
theorem wpAnyG_gate {C : World → Prop} {m fuel : Nat} {listed : Array Bool} {a : Act} {w : World} (T : List Nat) (hf : (m :: T).length = fuel) (hm : m < listed.size) (hB : Region.forced md ops (m :: T) listed = true)
    (H : wpList P ops Q (pickOps ops.toList (m :: T)) a w) : wpAnyG P md ops Q (Gate C m) fuel listed a w := by
  subst hf
  simp only [Region.forced, Bool.and_eq_true, decide_eq_true_eq] at hB
  refine ⟨fun h1 => (by rw [hB.1] at h1; cases h1), fun j hj => ?_⟩
  have hj2 := hj
  rw [hB.1] at hj
  have hij : j = m := by simpa using hj
  subst hij
  obtain ⟨_, oj, hoj, _⟩ := mem_ready.1 hj2
  have hp : pickOps ops.toList (j :: T) = oj :: pickOps ops.toList T := by simp [pickOps, hoj]
  rw [hp] at H
  have hm' : (listed.setIfInBounds j true).getD j false = true := by simp [hm]
  have hw : wpOp P ops Q j (wpList P ops Q (pickOps ops.toList T)) a w := by unfold wpOp; simp only [hoj]; exact H
  exact wpOp_mono (fun a' w' h' => ⟨fun h0 => (by rw [hm'] at h0; cases h0), wpAnyG_last T _ a' w' hm' hB.2 h'⟩) hw

/-- The look whether what has come up is closed. -/
def Region.closedB (md : Region.Mode) (ops : Array Oper) (listed : Array Bool) : Bool :=
  decide (listed.size = ops.size) && (List.range ops.size).all fun j => !listed.getD j false || match ops[j]? with | some o => o.after.all fun e => !Region.binds md e || listed.getD e.on false | none => true
theorem closed_of_B {listed : Array Bool} (h : Region.closedB md ops listed = true) : Closed md ops listed := by
  unfold Region.closedB at h
  simp only [Bool.and_eq_true, decide_eq_true_eq, List.all_eq_true, List.mem_range] at h
  refine ⟨h.1, fun j oj hj hl e he hb => ?_⟩
  have hlt : j < ops.size := (Array.getElem?_eq_some_iff.1 hj).1
  have h2 := h.2 j hlt
  rw [hl, hj] at h2
  simp only [Bool.not_true, Bool.false_or] at h2
  have h3 := Array.all_eq_true'.1 h2 e he
  rw [hb] at h3
  simpa using h3
/-- In the midst: operations that hang on no memory are taken next. -/
theorem wpAnyG_mid {C : World → Prop} {m : Nat} {listed : Array Bool} {a : Act} {w : World} (R : List Nat) (g : Nat) (l2 : Array Bool) {fuel : Nat} (hf : R.length + g = fuel) (hsel : Region.noSelect ops = true)
    (hcl : Region.closedB md ops listed = true) (ht : Region.takes md ops none m R listed = some l2) (hQ : ∀ c (a : Act) d v w, Q (.panic c) (a.put d v) w → Q (.panic c) a w) (hG : Gate C m listed w)
    (h : wpQuiet P ops (fun _ => True) (fun a' => wpAnyG P md ops Q (Gate C m) g l2 a' w) (pickOps ops.toList R) a) : wpAnyG P md ops Q (Gate C m) fuel listed a w := by
  subst hf
  exact wpAnyG_takes (C' := fun _ => True) (gate := none) hsel hQ (fun _ _ _ _ _ _ _ => trivial) (fun a h _ => h) R listed a (closed_of_B hcl) hG ht h
end
end Go.Proofs.Ytpfhflkpnjkgkaa
