import Derived.OrdersHeld
import Derived.StillTail
import Derived.Deep.QuietTactic
import Derived.BigQuiet
import Derived.WalkKit
import Derived.Test.YtpfhflkpnjkgkaaGq00
/-
  A statement whose order is open: what only reads is taken first, the rest comes in its forced order. About regions in general; no program in sight.
-/





namespace Go.Proofs.Ytpfhflkpnjkgkaa
open Go.RowKit

section
variable {P : Program} {ops : Array Oper} {Q : Exit → Act → World → Prop} {md : Region.Mode}

/-- Whatever order is picked, and S of what has come up holds behind each operation. -/
def wpAnyG (P : Program) (md : Region.Mode) (ops : Array Oper) (Q : Exit → Act → World → Prop) (S : Array Bool → World → Prop) : Nat → Array Bool → Act → World → Prop
  | 0, listed, a, w => Region.ready md ops listed = [] ∧ Q .normal a w
  | fuel + 1, listed, a, w =>
    (Region.ready md ops listed = [] → Q .normal a w) ∧
    ∀ i ∈ Region.ready md ops listed, wpOp P ops Q i (fun a' w' => S (listed.setIfInBounds i true) w' ∧ wpAnyG P md ops Q S fuel (listed.setIfInBounds i true) a' w') a w

theorem wpAny_of_G {S : Array Bool → World → Prop} : ∀ (fuel : Nat) (listed : Array Bool) (a : Act) (w : World), wpAnyG P md ops Q S fuel listed a w → wpAny P md ops Q fuel listed a w
  | 0, _, _, _, h => h
  | fuel + 1, _, _, _, h => ⟨h.1, fun i hi => wpOp_mono (fun a' w' h' => wpAny_of_G fuel _ a' w' h'.2) (h.2 i hi)⟩

/-- What has come up is closed: whatever it waits for has come up, too. -/
structure Closed (md : Region.Mode) (ops : Array Oper) (listed : Array Bool) : Prop where
  size : listed.size = ops.size
  closed : ∀ (j : Nat) oj, ops[j]? = some oj → listed.getD j false = true → ∀ e ∈ oj.after, Region.binds md e = true → listed.getD e.on false = true

theorem Closed.set {i : Nat} {listed : Array Bool} (inv : Closed md ops listed) (hi : i ∈ Region.ready md ops listed) : Closed md ops (listed.setIfInBounds i true) := by
  obtain ⟨_, oi, hoi, hall⟩ := mem_ready.1 hi
  refine ⟨by simp [inv.size], fun j oj hj hl e he hb => ?_⟩
  by_cases hij : i = j
  · subst hij
    have : oj = oi := Option.some.inj (hj.symm.trans hoi)
    subst this
    exact getD_set_true (hall e he hb)
  · rw [getD_set_ne false hij] at hl
    exact getD_set_true (inv.closed j oj hj hl e he hb)

/-- Number m waits for number i, by way of others perhaps. -/
def Region.behind (md : Region.Mode) (ops : Array Oper) : Nat → Nat → Nat → Bool
  | 0, m, i => m == i
  | f + 1, m, i => m == i || match ops[m]? with
    | some o => o.after.any fun e => Region.binds md e && Region.behind md ops f e.on i
    | none => false

theorem behind_listed {listed : Array Bool} (inv : Closed md ops listed) {i : Nat} : ∀ (f m : Nat), Region.behind md ops f m i = true → listed.getD m false = true → listed.getD i false = true
  | 0, m, h, hl => by
    simp only [Region.behind, beq_iff_eq] at h
    subst h; exact hl
  | f + 1, m, h, hl => by
    simp only [Region.behind, Bool.or_eq_true, beq_iff_eq] at h
    rcases h with rfl | h
    · exact hl
    · split at h
      · rename_i o ho
        obtain ⟨e, he, hb⟩ := Array.any_eq_true'.1 h
        simp only [Bool.and_eq_true] at hb
        exact behind_listed inv f e.on hb.2 (inv.closed m o ho hl e he hb.1)
      · cases h

/-- The gate: till number m has come up the world is one of C. -/
def Gate (C : World → Prop) (m : Nat) (L : Array Bool) (w : World) : Prop := L.getD m false = false → C w

/-- Number i may be taken first: it yields v in every world of C, and comes up before the gate (or C is every world). -/
theorem wpAnyG_first {C C' : World → Prop} {m i : Nat} {oi : Oper} {v : Value} (hi : ops[i]? = some oi) (hsel : ∀ (j : Nat) (o : Oper) cs b, ops[j]? = some o → o.op ≠ .select cs b)
    (hQ : ∀ c a w, Q (.panic c) (a.put oi.dst v) w → Q (.panic c) a w) (hmi : m ≠ i)
    (hC : ∀ L w, Closed md ops L → L.getD i true = false → Gate C m L w → C' w) :
    ∀ (fuel : Nat) (listed : Array Bool) (a : Act) (w : World), Closed md ops listed →
      (∀ (j : Nat) oj, ops[j]? = some oj → j ≠ i → listed.getD j true = false → (∀ e ∈ oj.after, Region.binds md e = true → e.on ≠ i) → oi.apart ops oj = true) →
      i ∈ Region.ready md ops listed → YieldsIf P ops C' oi v a → Gate C m listed w →
      wpAnyG P md ops Q (Gate C m) fuel (listed.setIfInBounds i true) (a.put oi.dst v) w → wpAnyG P md ops Q (Gate C m) (fuel + 1) listed a w := by
  have hgate : ∀ (L : Array Bool) w, Gate C m (L.setIfInBounds i true) w ↔ Gate C m L w := fun L w => by
    unfold Gate; rw [getD_set_ne false (Ne.symm hmi)]
  intro fuel
  induction fuel with
  | zero =>
    intro listed a w inv _ hr hy hS H
    refine ⟨fun h => (by rw [h] at hr; cases hr), fun j hj => ?_⟩
    by_cases hji : j = i
    · subst hji
      exact hy.wpOp hi (hC _ _ inv (mem_ready.1 hr).1 hS) ⟨(hgate _ _).2 hS, H⟩
    · have := ready_mono hj hji
      rw [H.1] at this
      cases this
  | succ fuel ih =>
    intro listed a w inv hfree hr hy hS H
    refine ⟨fun h => (by rw [h] at hr; cases hr), fun j hj => ?_⟩
    by_cases hji : j = i
    · subst hji
      exact hy.wpOp hi (hC _ _ inv (mem_ready.1 hr).1 hS) ⟨(hgate _ _).2 hS, H⟩
    · have h1 := H.2 j (ready_mono hj hji)
      obtain ⟨hjun, oj, hoj, hall⟩ := mem_ready.1 hj
      have hnot : ∀ e ∈ oj.after, Region.binds md e = true → e.on ≠ i := fun e he hb heq => by
        have h1 := hall e he hb
        have h0 := (mem_ready.1 hr).1
        rw [heq, getD_both h0] at h1
        cases h1
      have h2 := wpOp_putIf hoj (hfree j oj hoj hji hjun hnot) (fun cs b => hsel i oi cs b hi) (fun cs b => hsel j oj cs b hoj) hQ hy h1
      have hfree' : ∀ (k : Nat) ok, ops[k]? = some ok → k ≠ i → (listed.setIfInBounds j true).getD k true = false →
          (∀ e ∈ ok.after, Region.binds md e = true → e.on ≠ i) → oi.apart ops ok = true := fun k ok hk hki hun hno => by
        refine hfree k ok hk hki ?_ hno
        by_cases hjk : j = k
        · subst hjk; exact hjun
        · rw [getD_set_ne true hjk] at hun; exact hun
      refine wpOp_mono (fun a' w' h3 => ?_) h2
      have hS' : Gate C m (listed.setIfInBounds j true) w' := by
        have := h3.2.1
        rw [Array.setIfInBounds_comm _ _ (Ne.symm hji)] at this
        exact (hgate _ _).1 this
      refine ⟨hS', ih (listed.setIfInBounds j true) a' w' (inv.set hj) hfree' (ready_mono hr (Ne.symm hji)) h3.1 hS' ?_⟩
      rw [Array.setIfInBounds_comm _ _ hji]
      exact h3.2.2

def lenCall : Callee → Bool
  | .builtin .len => true
  | _ => false
/-- Operations that only read, and hand back a value. -/
def readsOp : Op → Bool
  | .move _ | .assign _ | .pick .. | .load .. | .binOp .. | .unOp .. | .convert .. | .slice .. | .fieldAddr .. | .field .. | .indexAddr .. | .index .. | .extract .. => true
  | .call c => lenCall c.callee
  | _ => false

theorem run_then_value {s : Sem Value} {P : Program} {w w' : World} {n : Next} (h : Sem.run P (do pure (Next.value (← s))) w = .ok n w') : ∃ u, n = .value u := by
  rw [Sem.run_bind] at h
  cases hs : s.run P w with
  | ok u w1 => rw [hs] at h; simp at h; exact ⟨u, h.1.symm⟩
  | halt x w1 => rw [hs] at h; simp at h

theorem reads_value {o : Oper} {ρ : Operand → Value} (ho : readsOp o.op = true) {w w' : World} {n : Next} (h : (execOp ρ o).run P w = .ok n w') : ∃ u, n = .value u := by
  obtain ⟨dst, op, type, pos, after, guard⟩ := o
  cases op <;> simp only [readsOp] at ho <;> first | cases ho | skip
  case move x => simp [execOp] at h; exact ⟨_, h.1.symm⟩
  case assign x => simp [execOp] at h; exact ⟨_, h.1.symm⟩
  case pick c x y =>
    simp only [execOp, Sem.run_bind] at h
    cases hs : (asBool (ρ c)).run P w with
    | ok u w1 => rw [hs] at h; simp at h; exact ⟨_, h.1.symm⟩
    | halt x w1 => rw [hs] at h; simp at h
  case call c =>
    obtain ⟨callee, args, ats⟩ := c
    obtain rfl : callee = .builtin .len := by
      simp only at ho
      unfold lenCall at ho
      split at ho <;> first | rfl | cases ho
    rw [BigFrame.execOp_builtin, BigFrame.builtin_len] at h
    exact run_then_value h
  all_goals exact run_then_value h

/-- The reading operations, in an order; each yields one value in every world of C. -/
def pickOps (ops : List Oper) (l : List Nat) : List Oper := l.filterMap fun i => ops[i]?

theorem yieldsIf_of_quiet {C : World → Prop} {o : Oper} {a : Act} {K : Act → Prop} (ho : readsOp o.op = true) (hw : Region.wanted o (yielded ops a.tmps) = true) (h : o.quiet P a C K) :
    ∃ v, YieldsIf P ops C o v a ∧ K (a.put o.dst v) := by
  obtain ⟨v, h1, h2⟩ := h
  refine ⟨v, .inl ⟨hw, fun w hC => ?_⟩, h2⟩
  have h3 := h1 w hC
  unfold Oper.quietAt at h3
  generalize hr : (execOp a.eval o).run P w = r at *
  cases r with
  | halt x w' => exact h3.elim
  | ok n w' =>
    obtain ⟨u, rfl⟩ := reads_value ho hr
    obtain ⟨rfl, rfl⟩ : w' = w ∧ u = v := h3
    rfl

def Region.behindGate (md : Region.Mode) (ops : Array Oper) (gate : Option Nat) (m i : Nat) : Bool :=
  match gate with | none => true | some f => decide (ops.size ≤ m) || Region.behind md ops f m i
def Region.takeOk (md : Region.Mode) (ops : Array Oper) (gate : Option Nat) (m i : Nat) (listed : Array Bool) : Bool :=
  (Region.ready md ops listed).contains i && Region.free md ops listed i && decide (m ≠ i) && ((ops[i]?).map fun o => readsOp o.op).getD false && Region.behindGate md ops gate m i
/-- The static look at one order: the reads may each be taken first. -/
def Region.takes (md : Region.Mode) (ops : Array Oper) (gate : Option Nat) (m : Nat) : List Nat → Array Bool → Option (Array Bool)
  | [], listed => some listed
  | i :: rest, listed =>
    if Region.takeOk md ops gate m i listed then
      Region.takes md ops gate m rest (listed.setIfInBounds i true)
    else none

theorem wpAnyG_takes {C C' : World → Prop} {gate : Option Nat} {m : Nat} (hsel : Region.noSelect ops = true)
    (hQ : ∀ c (a : Act) d v w, Q (.panic c) (a.put d v) w → Q (.panic c) a w)
    (hC : ∀ i, Region.behindGate md ops gate m i = true → ∀ L w, Closed md ops L → L.getD i true = false → Gate C m L w → C' w)
    {w : World} {K : Act → Prop} {g : Nat} {listed' : Array Bool} (hK : ∀ a, K a → Closed md ops listed' → wpAnyG P md ops Q (Gate C m) g listed' a w) :
    ∀ (l : List Nat) (listed : Array Bool) (a : Act), Closed md ops listed → Gate C m listed w → Region.takes md ops gate m l listed = some listed' →
      wpQuiet P ops C' K (pickOps ops.toList l) a → wpAnyG P md ops Q (Gate C m) (l.length + g) listed a w
  | [], listed, a, inv, _, ht, h => by
    simp only [Region.takes, Option.some.injEq] at ht
    subst ht
    simpa using hK a h inv
  | i :: l, listed, a, inv, hS, ht, h => by
    simp only [Region.takes] at ht
    split at ht
    case isFalse => cases ht
    rename_i hc
    simp only [Region.takeOk, Bool.and_eq_true, decide_eq_true_eq] at hc
    obtain ⟨⟨⟨⟨hr, hf⟩, hmi⟩, hrd⟩, hg⟩ := hc
    have hr' : i ∈ Region.ready md ops listed := by simpa using hr
    obtain ⟨_, oi, hoi, _⟩ := mem_ready.1 hr'
    have hrd' : readsOp oi.op = true := by rw [hoi] at hrd; simpa using hrd
    have hp : pickOps ops.toList (i :: l) = oi :: pickOps ops.toList l := by
      simp [pickOps, hoi]
    rw [hp] at h
    have step : ∃ v, YieldsIf P ops C' oi v a ∧ wpQuiet P ops C' K (pickOps ops.toList l) (a.put oi.dst v) := by
      unfold wpQuiet at h
      split at h
      · rename_i hw; exact yieldsIf_of_quiet hrd' hw h
      · rename_i hw; exact ⟨undef, .inr ⟨by simpa using hw, rfl⟩, h⟩
    obtain ⟨v, hy, hrest⟩ := step
    have hgate : Gate C m (listed.setIfInBounds i true) w := by unfold Gate at *; rw [getD_set_ne false (Ne.symm hmi)]; exact hS
    have := wpAnyG_takes hsel hQ hC hK l (listed.setIfInBounds i true) (a.put oi.dst v) (inv.set hr') hgate ht hrest
    rw [List.length_cons, show l.length + 1 + g = (l.length + g) + 1 by omega]
    exact wpAnyG_first hoi (Region.noSelect_spec hsel) (fun c a w => hQ c a _ _ w) hmi (fun L w => hC i hg L w) _ _ a w inv (Region.free_spec hoi hf) hr' hy hS this

/-- The rest, in its forced order; behind each operation ahead of the gate the world is one of C. -/
def wpSegs (P : Program) (ops : Array Oper) (Q : Exit → Act → World → Prop) (C : World → Prop) (last : List Oper) : List Oper → Act → World → Prop
  | [], a, w => wpList P ops Q last a w
  | o :: rest, a, w => wpList P ops (fun e a' w' => match e with | .normal => C w' ∧ wpSegs P ops Q C last rest a' w' | e => Q e a' w') [o] a w

def Region.forced (md : Region.Mode) (ops : Array Oper) : List Nat → Array Bool → Bool
  | [], listed => (Region.ready md ops listed).isEmpty
  | i :: rest, listed => decide (Region.ready md ops listed = [i]) && Region.forced md ops rest (listed.setIfInBounds i true)

theorem wpAnyG_last {C : World → Prop} {m : Nat} : ∀ (l : List Nat) (listed : Array Bool) (a : Act) (w : World), listed.getD m false = true → Region.forced md ops l listed = true →
    wpList P ops Q (pickOps ops.toList l) a w → wpAnyG P md ops Q (Gate C m) l.length listed a w
  | [], _, _, _, _, hB, h => ⟨by simpa [Region.forced] using hB, h⟩
  | i :: l, listed, a, w, hm, hB, h => by
    simp only [Region.forced, Bool.and_eq_true, decide_eq_true_eq] at hB
    refine ⟨fun h1 => (by rw [hB.1] at h1; cases h1), fun j hj => ?_⟩
    have hj2 := hj
    rw [hB.1] at hj
    have hij : j = i := by simpa using hj
    subst hij
    obtain ⟨_, oj, hoj, _⟩ := mem_ready.1 hj2
    have hp : pickOps ops.toList (j :: l) = oj :: pickOps ops.toList l := by simp [pickOps, hoj]
    rw [hp] at h
    have hm' := getD_set_true (i := j) hm
    have hw : wpOp P ops Q j (wpList P ops Q (pickOps ops.toList l)) a w := by unfold wpOp; simp only [hoj]; exact h
    exact wpOp_mono (fun a' w' h' => ⟨fun h0 => (by rw [hm'] at h0; cases h0), wpAnyG_last l _ a' w' hm' hB.2 h'⟩) hw

theorem wpAnyG_end {C : World → Prop} {m : Nat} {listed : Array Bool} (h0 : Region.ready md ops listed = []) {a : Act} {w : World} (h : Q .normal a w) : wpAnyG P md ops Q (Gate C m) 0 listed a w := ⟨h0, h⟩

theorem wpOp_single {o : Oper} {i : Nat} (hoi : ops[i]? = some o) {K : Act → World → Prop} {a : Act} {w : World}
    (h : wpList P ops (fun e a' w' => match e with | .normal => K a' w' | e => Q e a' w') [o] a w) (hQ : LetsOut (fun e a' w' => match e with | .normal => K a' w' | e => Q e a' w') → LetsOut Q) : wpOp P ops Q i K a w := by
  unfold wpOp
  simp only [hoi]
  unfold wpList at h
  split at h
  · rename_i hw
    rw [if_pos hw]
    rcases h with h | h
    · refine .inl ?_
      unfold Oper.wp at *
      generalize (execOp a.eval o).run P w = r at *
      cases r with
      | ok n w' =>
        cases n <;> simp only [Oper.upon] at h ⊢ <;> first
          | exact h
          | exact Calls.mono h (fun e w'' he => by cases e <;> first | exact he | exact hQ he)
          | exact Rows.mono h (fun _ _ he => he)
      | halt x w' => cases x <;> simp only [Oper.upon] at h ⊢ <;> exact h
    · exact .inr ⟨h.1, hQ h.2⟩
  · rename_i hw
    rw [if_neg hw]
    exact h

theorem wpAnyG_segs {C : World → Prop} {m : Nat} {l2 : List Nat} (hl2 : l2 = [] ∨ (l2.head? = some m ∧ m < ops.size)) (hbig : l2 = [] → ops.size ≤ m) :
    ∀ (l : List Nat) (listed : Array Bool) (a : Act) (w : World), listed.size = ops.size → (l.all fun i => decide (i ≠ m)) = true → Region.forced md ops (l ++ l2) listed = true →
      wpSegs P ops Q C (pickOps ops.toList l2) (pickOps ops.toList l) a w → wpAnyG P md ops Q (Gate C m) (l ++ l2).length listed a w
  | [], listed, a, w, hsz, _, hB, h => by
    rcases hl2 with rfl | ⟨hh, hm⟩
    · exact wpAnyG_end (by simpa [Region.forced] using hB) h
    · obtain ⟨t, rfl⟩ : ∃ t, l2 = m :: t := by cases l2 <;> simp_all
      simp only [List.nil_append, Region.forced, Bool.and_eq_true, decide_eq_true_eq] at hB
      refine ⟨fun h1 => (by rw [hB.1] at h1; cases h1), fun j hj => ?_⟩
      have hj2 := hj
      rw [hB.1] at hj
      have hij : j = m := by simpa using hj
      subst hij
      obtain ⟨_, oj, hoj, _⟩ := mem_ready.1 hj2
      have hp : pickOps ops.toList (j :: t) = oj :: pickOps ops.toList t := by simp [pickOps, hoj]
      have h' : wpList P ops Q (pickOps ops.toList (j :: t)) a w := h
      rw [hp] at h'
      have hm' : (listed.setIfInBounds j true).getD j false = true := by simp [hsz, hm]
      have hw : wpOp P ops Q j (wpList P ops Q (pickOps ops.toList t)) a w := by unfold wpOp; simp only [hoj]; exact h'
      exact wpOp_mono (fun a' w' h' => ⟨fun h0 => (by rw [hm'] at h0; cases h0), wpAnyG_last t _ a' w' hm' hB.2 h'⟩) hw
  | i :: l, listed, a, w, hsz, hne, hB, h => by
    simp only [List.cons_append, Region.forced, Bool.and_eq_true, decide_eq_true_eq] at hB
    simp only [List.all_cons, Bool.and_eq_true, decide_eq_true_eq] at hne
    refine ⟨fun h1 => (by rw [hB.1] at h1; cases h1), fun j hj => ?_⟩
    have hj2 := hj
    rw [hB.1] at hj
    have hij : j = i := by simpa using hj
    subst hij
    obtain ⟨_, oj, hoj, _⟩ := mem_ready.1 hj2
    have hp : pickOps ops.toList (j :: l) = oj :: pickOps ops.toList l := by simp [pickOps, hoj]
    rw [hp] at h
    refine wpOp_mono (fun a' w' h' => ⟨fun _ => h'.1, wpAnyG_segs hl2 hbig l _ a' w' (by simp [hsz]) hne.2 hB.2 h'.2⟩) (wpOp_single hoj (K := fun a' w' => C w' ∧ wpSegs P ops Q C (pickOps ops.toList l2) (pickOps ops.toList l) a' w') h (fun ⟨a₀, w₀, hq⟩ => ⟨a₀, w₀, hq⟩))

/-- The look at a whole order: R0 the reads that hang on no memory, R1 the reads, T1 what comes ahead of the gate, T2 from the gate on. -/
def Region.orderB (ops : Array Oper) (R0 R1 T1 T2 : List Nat) : Bool :=
  let m := T2.head?.getD ops.size
  Region.noSelect ops && (T2.isEmpty || decide (m < ops.size)) && (T1.all fun i => decide (i ≠ m)) && decide (R0.length + (R1.length + (T1 ++ T2).length) = ops.size) &&
  match Region.takes .any ops none m R0 (Array.replicate ops.size false) with
  | none => false
  | some l0 => match Region.takes .any ops (some ops.size) m R1 l0 with
    | none => false
    | some l1 => Region.forced .any ops (T1 ++ T2) l1 && decide (l1.size = ops.size)

theorem closed_start (ops : Array Oper) : Closed md ops (Array.replicate ops.size false) :=
  ⟨by simp, fun j oj _ hl => (by rw [getD_replicate_false] at hl; cases hl)⟩

theorem wp_region_order {id : Nat} {a : Act} {w : World} {l : List Oper} (R0 R1 T1 T2 : List Nat) (C : World → Prop) (hm : P.follows .mixedOrders = true)
    (hB : Region.orderB l.toArray R0 R1 T1 T2 = true) (hQ : ∀ c (a : Act) d v w, Q (.panic c) (a.put d v) w → Q (.panic c) a w) (h0 : C w.drew)
    (h : wpQuiet P l.toArray (fun _ => True) (wpQuiet P l.toArray C (fun a' => wpSegs P l.toArray Q C (pickOps l T2) (pickOps l T1) a' w.drew) (pickOps l R1)) (pickOps l R0) a) :
    (Code.region id l.toArray true).wp P Q a w := by
  unfold Region.orderB at hB
  simp only [Bool.and_eq_true, Bool.or_eq_true, decide_eq_true_eq] at hB
  obtain ⟨⟨⟨⟨hsel, hT2⟩, hT1⟩, hlen⟩, hB⟩ := hB
  generalize hmm : T2.head?.getD l.toArray.size = m at *
  split at hB
  · cases hB
  rename_i l0 hl0
  split at hB
  · cases hB
  rename_i l1 hl1
  simp only [Bool.and_eq_true, decide_eq_true_eq] at hB
  refine wp_region_any hm (wpAny_of_G (S := Gate C m) _ _ _ _ ?_)
  have hgate : ∀ L, Gate C m L w.drew := fun _ _ => h0
  have h2 : T2 = [] ∨ (T2.head? = some m ∧ m < l.toArray.size) := by
    cases T2 with
    | nil => exact .inl rfl
    | cons x t => simp at hmm hT2; subst hmm; exact .inr ⟨rfl, by simpa using hT2⟩
  have hbig : T2 = [] → l.toArray.size ≤ m := by
    intro e; subst e; simp at hmm; simp [hmm]
  suffices H : wpAnyG P .any l.toArray Q (Gate C m) (R0.length + (R1.length + (T1 ++ T2).length)) (Array.replicate l.toArray.size false) a w.drew by
    rw [hlen] at H; exact H
  refine wpAnyG_takes (C' := fun _ => True) (gate := none) hsel hQ (fun _ _ _ _ _ _ _ => trivial) (K := wpQuiet P l.toArray C (fun a' => wpSegs P l.toArray Q C (pickOps l T2) (pickOps l T1) a' w.drew) (pickOps l R1)) (listed' := l0) ?_ R0 _ a (closed_start _) (hgate _) hl0 h
  intro a1 h1 inv1
  refine wpAnyG_takes (C' := C) (gate := some l.toArray.size) hsel hQ ?_ (K := fun a' => wpSegs P l.toArray Q C (pickOps l T2) (pickOps l T1) a' w.drew) (listed' := l1) ?_ R1 _ a1 inv1 (hgate _) hl1 h1
  · intro i hi L W hL hun hG
    refine hG ?_
    simp only [Region.behindGate, Bool.or_eq_true, decide_eq_true_eq] at hi
    rcases hi with hi | hi
    · have : L.size ≤ m := by rw [hL.size]; exact hi
      simp [this]
    · cases hx : L.getD m false with
      | false => rfl
      | true =>
        have := behind_listed hL _ _ hi hx
        rw [getD_both hun] at this
        cases this
  · intro a2 h3 _
    exact wpAnyG_segs h2 hbig T1 l1 a2 w.drew hB.2 hT1 hB.1 h3
end

/-- A world in which w's memory stands as it stood, with more behind it. -/
structure More where
  objs : Array Obj
  drawn : Nat
instance : Inhabited More := ⟨⟨#[], 0⟩⟩
def over (w : World) (x : More) : World := { w with heap := w.heap ++ x.objs, drawn := x.drawn }
def Over (w : World) (W : World) : Prop := ∃ x, W = over w x

theorem over_of_below {w W : World} (h : Below w.heap.size w W) : Over w W := by
  refine ⟨⟨W.heap.extract w.heap.size W.heap.size, W.drawn⟩, ?_⟩
  obtain ⟨h1, h2, h3, h4, h5⟩ := h
  cases W
  simp only [over] at *
  subst h1; subst h2; subst h3
  congr 1
  apply Array.ext_getElem?
  intro i
  by_cases hi : i < w.heap.size
  · rw [Array.getElem?_append_left hi]; exact h5 i hi
  · rw [Array.getElem?_append_right (by omega), Array.getElem?_extract]
    split
    · congr 1; omega
    · apply Array.getElem?_eq_none; omega

theorem below_over (w : World) (x : More) : Below w.heap.size w (over w x) :=
  ⟨rfl, rfl, rfl, by simp [over], fun k hk => by simp [over, Array.getElem?_append_left hk]⟩

theorem ex_over_drew (w : World) : ∃ x, w.drew = over w x := ⟨⟨#[], w.drawn + 1⟩, by show _ = { w with heap := w.heap ++ #[], drawn := w.drawn + 1 }; rw [Array.append_empty]; rfl⟩

@[go_sem, simp] theorem cell?_over (w : World) (x : More) (a : Addr) (h : (w.cell? a).isSome = true) : (over w x).cell? a = w.cell? a := by
  obtain ⟨v, hv⟩ := Option.isSome_iff_exists.1 h
  exact (below_over w x).cell (World.block_lt_of_cell? w a hv)

theorem wpList_mono {P : Program} {ops : Array Oper} {Q Q' : Exit → Act → World → Prop} (hq : ∀ e a w, Q e a w → Q' e a w) : ∀ (l : List Oper) (a : Act) (w : World), wpList P ops Q l a w → wpList P ops Q' l a w
  | [], a, w, h => hq _ _ _ h
  | o :: rest, a, w, h => by
    unfold wpList at *
    split
    · rename_i hw
      rw [if_pos hw] at h
      rcases h with h | ⟨h1, a₀, w₀, h2⟩
      · refine .inl ?_
        unfold Oper.wp at *
        generalize (execOp a.eval o).run P w = r at *
        cases r with
        | ok n w' =>
          cases n <;> simp only [Oper.upon] at h ⊢ <;> first
            | exact wpList_mono hq rest _ _ h
            | exact Calls.mono h (fun e w'' he => by cases e <;> first | exact wpList_mono hq rest _ _ he | exact hq _ _ _ he | exact (let ⟨a₀, w₀, h2⟩ := he; ⟨a₀, w₀, hq _ _ _ h2⟩))
            | exact Rows.mono h (fun _ _ he => wpList_mono hq rest _ _ he)
        | halt x w' => cases x <;> simp only [Oper.upon] at h ⊢ <;> first | exact hq _ _ _ h | exact h
      · exact .inr ⟨h1, a₀, w₀, hq _ _ _ h2⟩
    · rename_i hw
      rw [if_neg hw] at h
      exact wpList_mono hq rest _ _ h

theorem wpSegs_mono {P : Program} {ops : Array Oper} {Q : Exit → Act → World → Prop} {C C' : World → Prop} (hC : ∀ w, C w → C' w) (last : List Oper) : ∀ (l : List Oper) (a : Act) (w : World), wpSegs P ops Q C last l a w → wpSegs P ops Q C' last l a w
  | [], a, w, h => h
  | o :: rest, a, w, h => wpList_mono (fun e a w hq => by cases e <;> first | exact ⟨hC _ hq.1, wpSegs_mono hC last rest _ _ hq.2⟩ | exact hq) [o] a w h

theorem Oper.quiet_mono' {P : Program} {C : World → Prop} {o : Oper} {a : Act} {K K' : Act → Prop} (h : ∀ a, K a → K' a) (hh : o.quiet P a C K) : o.quiet P a C K' :=
  let ⟨v, h1, h2⟩ := hh
  ⟨v, h1, h _ h2⟩
theorem wpQuiet_mono {P : Program} {ops : Array Oper} {C : World → Prop} {K K' : Act → Prop} (h : ∀ a, K a → K' a) : ∀ (l : List Oper) (a : Act), wpQuiet P ops C K l a → wpQuiet P ops C K' l a
  | [], a, hh => h _ hh
  | o :: rest, a, hh => by
    unfold wpQuiet at *
    split
    · rename_i hw; rw [if_pos hw] at hh; exact Oper.quiet_mono' (wpQuiet_mono h rest) hh
    · rename_i hw; rw [if_neg hw] at hh; exact wpQuiet_mono h rest _ hh

/-- The form to use: reads of memory that stood when the statement began; ahead of the gate nothing that stood is written. -/
theorem wp_region_ord {P : Program} {Q : Exit → Act → World → Prop} {id : Nat} {a : Act} {w : World} {l : List Oper} (R0 R1 T1 T2 : List Nat) (hm : P.follows .mixedOrders = true)
    (hB : Region.orderB l.toArray R0 R1 T1 T2 = true) (hQ : ∀ c (a : Act) d v w, Q (.panic c) (a.put d v) w → Q (.panic c) a w)
    (h : wpQuiet P l.toArray (fun _ => True) (wpQuiet P l.toArray (fun W => ∃ x, W = over w x) (fun a' => wpSegs P l.toArray Q (Below w.heap.size w) (pickOps l T2) (pickOps l T1) a' w.drew) (pickOps l R1)) (pickOps l R0) a) :
    (Code.region id l.toArray true).wp P Q a w :=
  wp_region_order R0 R1 T1 T2 (fun W => ∃ x, W = over w x) hm hB hQ (ex_over_drew w)
    (wpQuiet_mono (fun _ => wpQuiet_mono (fun _ => wpSegs_mono (fun _ hb => over_of_below hb) _ _ _ _) _ _) _ _ h)

theorem wpSegs_nil {P : Program} {ops : Array Oper} {Q : Exit → Act → World → Prop} {C : World → Prop} {last : List Oper} {a : Act} {w : World} (h : wpList P ops Q last a w) : wpSegs P ops Q C last [] a w := h
theorem wpSegs_cons {P : Program} {ops : Array Oper} {Q : Exit → Act → World → Prop} {C : World → Prop} {last rest : List Oper} {o : Oper} {a : Act} {w : World}
    (h : wpList P ops (fun e a' w' => match e with | .normal => C w' ∧ wpSegs P ops Q C last rest a' w' | e => Q e a' w') [o] a w) : wpSegs P ops Q C last (o :: rest) a w := h

/-- A region in which each operation yields one value whatever lies behind the old memory (callees may make memory). -/
theorem wp_region_calm {P : Program} {Q : Exit → Act → World → Prop} {id : Nat} {a : Act} {w : World} {l : List Oper} (hm : P.follows .mixedOrders = true) (hB : Region.lexB .any l.toArray = true)
    (h : wpQuiet P l.toArray (fun W => ∃ x, W = over w x) (fun a' => ∀ W, Below w.heap.size w W → Q .normal a' W) l a) : (Code.region id l.toArray true).wp P Q a w := by
  refine wp_region_quiet (C := fun W => ∃ x, W = over w x) hm hB (ex_over_drew w) ?_
  refine wpQuiet_mono (fun a' h W hW => ?_) _ _ (by simpa using h)
  obtain ⟨x, rfl⟩ := hW
  exact h _ (below_over w x)

theorem calls_over {P : Program} {f : FuncId} {args : Array Value} {w : World} {x : More} {v : Value}
    (h : Calls P f args (over w x) fun e w' => e = .returned v ∧ Below (over w x).heap.size (over w x) w') : Calls P f args (over w x) fun e w'' => e = .returned v ∧ ∃ x, w'' = over w x :=
  h.mono fun _ _ ⟨he, hb⟩ => ⟨he, over_of_below ((below_over w x).trans (hb.mono (below_over w x).size))⟩
theorem calls_over_same {P : Program} {f : FuncId} {args : Array Value} {w : World} {x : More} {v : Value}
    (h : Calls P f args (over w x) fun e w' => e = .returned v ∧ over w x = w') : Calls P f args (over w x) fun e w'' => e = .returned v ∧ ∃ x, w'' = over w x :=
  h.mono fun _ _ ⟨he, hb⟩ => ⟨he, x, hb.symm⟩

theorem wpQuiet_nil_eq {P : Program} {ops : Array Oper} {C : World → Prop} {K : Act → Prop} {a : Act} : wpQuiet P ops C K [] a = K a := rfl
theorem wpSegs_nil_eq {P : Program} {ops : Array Oper} {Q : Exit → Act → World → Prop} {C : World → Prop} {last : List Oper} {a : Act} {w : World} : wpSegs P ops Q C last [] a w = wpList P ops Q last a w := rfl
theorem wpSegs_cons_eq {P : Program} {ops : Array Oper} {Q : Exit → Act → World → Prop} {C : World → Prop} {last rest : List Oper} {o : Oper} {a : Act} {w : World} :
    wpSegs P ops Q C last (o :: rest) a w = wpList P ops (fun e a' w' => match e with | .normal => C w' ∧ wpSegs P ops Q C last rest a' w' | e => Q e a' w') [o] a w := rfl

end Go.Proofs.Ytpfhflkpnjkgkaa
/-
  The program's 'nets': 'join', 'graph'.
-/





namespace Go.Proofs.Ytpfhflkpnjkgkaa
open Go.RowKit

def sets (ms : List Nat) : List Value := ms.map fun (m : Nat) => Value.int .u32 m
@[simp] theorem sets_length (ms : List Nat) : (sets ms).length = ms.length := by simp [sets]
theorem bits_or {a b : Nat} (ha : a < 4294967296) (hb : b < 4294967296) : bits BinOp.or IntKind.u32 (a : Int) (b : Int) = ((a ||| b : Nat) : Int) := u32_or_nat a b ha hb


def joinS (ms : List Nat) (u v : Nat) : List Nat :=
  let ns := ms.set u (ms.getD u 0 ||| 2 ^ v)
  ns.set v (ns.getD v 0 ||| 2 ^ u)

/-- All are sets of 32 bits. -/
def Small (ms : List Nat) : Prop := ∀ m ∈ ms, m < 4294967296
theorem Small.set {ms : List Nat} (h : Small ms) (u : Nat) {x : Nat} (hx : x < 4294967296) : Small (ms.set u x) := by
  intro m hm
  rcases List.mem_or_eq_of_mem_set hm with hm | rfl
  · exact h m hm
  · exact hx
theorem Small.getD {ms : List Nat} (h : Small ms) (u : Nat) : ms.getD u 0 < 4294967296 := by
  by_cases hu : u < ms.length
  · have : ms.getD u 0 = ms[u] := by simp [List.getD, hu]
    rw [this]; exact h _ (List.getElem_mem hu)
  · simp [List.getD, List.getElem?_eq_none (Nat.le_of_not_lt hu)]
theorem or_small {a b : Nat} (ha : a < 4294967296) (hb : b < 4294967296) : a ||| b < 4294967296 := by
  have := @Nat.or_lt_two_pow a b 32 (by rw [two32]; exact ha) (by rw [two32]; exact hb)
  rwa [two32] at this
theorem pow_small {v : Nat} (h : v < 32) : 2 ^ v < 4294967296 := by
  have := Nat.pow_lt_pow_right (a := 2) (by decide) h
  rwa [two32] at this
theorem Small.join {ms : List Nat} (h : Small ms) {u v : Nat} (hu : u < 32) (hv : v < 32) : Small (joinS ms u v) := by
  have h1 := h.set u (or_small (h.getD u) (pow_small hv))
  exact h1.set v (or_small (h1.getD v) (pow_small hu))
@[simp] theorem joinS_length (ms : List Nat) (u v : Nat) : (joinS ms u v).length = ms.length := by simp [joinS]
theorem sets_set (ms : List Nat) (u x : Nat) : sets (ms.set u x) = (sets ms).set u (.int .u32 (x : Nat)) := by simp [sets, List.map_set]
theorem sets_at {ms : List Nat} {u : Nat} (h : u < ms.length) : (sets ms)[u]? = some (.int .u32 ((ms.getD u 0 : Nat) : Int)) := by simp [sets, List.getD, h]

theorem grown_trans {w w1 w2 : World} {r : Option Nat} (h : w.grownBy w1 r) (h' : w1.grownBy w2 r) : w.grownBy w2 r :=
  ⟨h'.os.trans h.os, h'.tape.trans h.tape, h'.output.trans h.output, Nat.le_trans h.size h'.size, fun k hk hne => (h'.block k (Nat.lt_of_lt_of_le hk h.size) hne).trans (h.block k hk hne)⟩
theorem grown_drew {w w1 : World} {r : Option Nat} (h : w.grownBy w1 r) : w.grownBy w1.drew r := ⟨h.os, h.tape, h.output, h.size, h.block⟩

theorem infoR : (Try.prog.info? 26).map (fun i => (i.zero, i.size, i.bytes)) = some (some (.slice none 0 0), 1, 24) := by kernel_rfl

theorem Row.setAt {w : World} {a : Option Addr} {len cap n : Nat} {ms : List Nat} (h : Row w 1 (.slice a len cap) n (sets ms)) {j : Nat} (hj : j < ms.length) :
    ∃ b o x, a = some ⟨b, o, none⟩ ∧ w.cell? ⟨b, o + j, none⟩ = some (.int .u32 ((x : Nat) : Int)) ∧ Hid (ms[j]? = some x) := by
  obtain ⟨a', cap', e, h1, h2, h3, h4, h5⟩ := h
  obtain ⟨rfl, rfl, rfl⟩ : a' = a ∧ n = len ∧ cap' = cap := by simpa [eq_comm] using e
  obtain ⟨b, o, rfl, hc⟩ := h5 j (.int .u32 ((ms[j] : Nat) : Int)) (by simp [sets, hj])
  exact ⟨b, o, ms[j], rfl, hc, Lib.hid (by simp [hj])⟩

theorem map_ints_inj {xss yss : List (List Int)} (h : xss.map ints = yss.map ints) : xss = yss := by
  refine (List.map_inj_right (f := ints) ?_).1 h
  intro a b hab
  exact (List.map_inj_right (f := Value.int .i64) (by intro x y e; simpa using e)).1 hab
theorem ints_inj {xs ys : List Int} (h : ints xs = ints ys) : xs = ys :=
  (List.map_inj_right (f := Value.int .i64) (by intro x y e; simpa using e)).1 h

theorem RdG.intsAt {w : World} {vs : List Value} {xss : List (List Int)} {a : Option Addr} {len cap : Nat} (h : RdG w (.slice a len cap) vs (xss.map ints)) {k : Nat} (hk : k < xss.length) :
    ∃ b o u xs, a = some ⟨b, o, none⟩ ∧ w.cell? ⟨b, o + k, none⟩ = some u ∧ Row w 1 u xs.length (ints xs) ∧ Hid (vs[k]? = some u) ∧ Hid (xss[k]? = some xs) := by
  obtain ⟨b, o, u, cs, h1, h2, h3, h4, h5⟩ := h.rowAt (k := k) (by simpa using hk)
  have e : cs = ints xss[k] := by have := h5.out; simpa [hk, eq_comm] using this
  subst e
  exact ⟨b, o, u, xss[k], h1, h2, by simpa using h3, h4, Lib.hid (by simp [hk])⟩

/-- The rows of a graph whose sets of neighbours are ms. -/
def rowsOf (ms : List Nat) : List (List Int) := ms.map nums

theorem sets_zeros (n : Nat) : List.replicate n (Value.int .u32 0) = sets (List.replicate n 0) := by simp [sets]
theorem small_zeros (n : Nat) : Small (List.replicate n 0) := by
  intro m hm
  rw [List.eq_of_mem_replicate hm]
  decide

end Go.Proofs.Ytpfhflkpnjkgkaa
/-
  The laws' helpers for slices of numbers: 'eqInt64S', 'markInt64S', 'heldInt64S', and those for slices of these.
-/

namespace Go.Proofs.Ytpfhflkpnjkgkaa
open Go.RowKit

/-- n numbers from k on. -/
def from_ (k n : Nat) : List Int := (List.range n).map fun (i : Nat) => ((k + i : Nat) : Int)
@[simp] theorem from_length (k n : Nat) : (from_ k n).length = n := by simp [from_]
theorem from_at {k n i : Nat} (h : i < n) : (from_ k n)[i]? = some ((k + i : Nat) : Int) := by simp [from_, h]

end Go.Proofs.Ytpfhflkpnjkgkaa
/-
  The laws' helpers for slices of slices of numbers and for graphs: 'eqInt64SS', 'markInt64SS', 'heldInt64SS', 'eqGraph', 'markGraph', 'heldGraph'.
-/

namespace Go.Proofs.Ytpfhflkpnjkgkaa
open Go.RowKit

/-- Rows of these lengths, numbered on from k. -/
def number (k : Nat) : List Nat → List (List Int)
  | [] => []
  | n :: ns => from_ k n :: number (k + n) ns
theorem number_snoc (k : Nat) (ns : List Nat) (n : Nat) : number k (ns ++ [n]) = number k ns ++ [from_ (k + ns.sum) n] := by
  induction ns generalizing k with
  | nil => simp [number]
  | cons m ms ih => simp [number, ih, Nat.add_assoc]
@[simp] theorem number_length (k : Nat) (ns : List Nat) : (number k ns).length = ns.length := by
  induction ns generalizing k with
  | nil => rfl
  | cons m ms ih => simp [number, ih]
theorem number_at (k : Nat) (ns : List Nat) (j : Nat) (h : j < ns.length) : (number k ns)[j]? = some (from_ (k + (ns.take j).sum) (ns[j])) := by
  induction ns generalizing k j with
  | nil => simp at h
  | cons m ms ih =>
    cases j with
    | zero => simp [number]
    | succ j => simp [number, ih (k + m) j (by simpa using h), Nat.add_assoc]
theorem sum_take_succ (ns : List Nat) (j : Nat) (h : j < ns.length) : (ns.take (j + 1)).sum = (ns.take j).sum + ns[j] := by
  rw [List.take_succ_eq_append_getElem h, List.sum_append]; simp
theorem sum_take_le (ns : List Nat) (j : Nat) : (ns.take j).sum ≤ ns.sum := by
  have := List.sum_append (l₁ := ns.take j) (l₂ := ns.drop j)
  rw [List.take_append_drop] at this
  omega

/-- How many numbers there are in rows. -/
def total (rows : List (List Int)) : Nat := (rows.map List.length).sum
theorem total_ints (rows : List (List Int)) : ((rows.map ints).map List.length).sum = total rows := by
  unfold total; rw [List.map_map]; congr 2; funext x; simp

/-- What 'mark' leaves in rows, from 1 on. -/
def marked (rows : List (List Int)) : List (List Int) := number 1 ((rows.map ints).map List.length)

end Go.Proofs.Ytpfhflkpnjkgkaa
/-
  The law's helpers over arguments: szInt64S, szInt64SS (how much), toInt64S, toInt64SS (copies).
-/

namespace Go.Proofs.Ytpfhflkpnjkgkaa
open Go.RowKit

theorem set_fill (xs : List Int) (k : Nat) (x : Int) (hx : xs[k]? = some x) :
    (ints (xs.take k) ++ List.replicate (xs.length - k) (Value.int .i64 0)).set k (.int .i64 x) = ints (xs.take (k + 1)) ++ List.replicate (xs.length - (k + 1)) (Value.int .i64 0) := by
  obtain ⟨hk, rfl⟩ := List.getElem?_eq_some_iff.1 hx
  have hl : (ints (xs.take k)).length = k := by simp; omega
  rw [List.set_append_right _ _ (by omega), hl, Nat.sub_self, show xs.length - k = (xs.length - (k + 1)) + 1 by omega, List.replicate_succ, List.set_cons_zero, take_snoc hx, ints_snoc]
  simp

theorem total_snoc (xss : List (List Int)) (xs : List Int) : total (xss ++ [xs]) = total xss + xs.length := by
  simp only [total, List.map_append, List.sum_append, List.map_cons, List.map_nil, List.sum_cons, List.sum_nil]
  omega

/-- 'make([][]T, n)': n rows of nothing. -/
theorem OwnG.zeros {w : World} {base : Nat} {e1 e2 : TypeId} (he : e1 ≠ e2) {v : Value} {n : Nat} (h : w.ownsRow base e1 1 v n (List.replicate n (.slice none 0 0))) :
    OwnG w base e1 e2 v (List.replicate n (.slice none 0 0)) (List.replicate n []) := by
  refine ⟨by simp, by simpa using h, fun i u cs h1 h2 => ?_, ?_, he⟩
  · have hu := List.eq_of_mem_replicate (List.mem_of_getElem? h1)
    have hc := List.eq_of_mem_replicate (List.mem_of_getElem? h2)
    subst hu; subst hc
    exact World.ownsRow_nil _ _ _ _
  · rw [List.pairwise_replicate]
    right
    intro k hk
    simp [Value.ownBlock] at hk

/-- Rows, the first k of them written. -/
def rowsUp (xss : List (List Int)) (k : Nat) : List (List Int) := xss.take k ++ List.replicate (xss.length - k) []
@[simp] theorem rowsUp_length (xss : List (List Int)) (k : Nat) (hk : k ≤ xss.length) : (rowsUp xss k).length = xss.length := by simp [rowsUp]; omega
theorem rowsUp_set (xss : List (List Int)) (k : Nat) (xs : List Int) (hx : xss[k]? = some xs) : (rowsUp xss k).set k xs = rowsUp xss (k + 1) := by
  obtain ⟨hk, rfl⟩ := List.getElem?_eq_some_iff.1 hx
  have hl : (xss.take k).length = k := by simp; omega
  unfold rowsUp
  rw [List.set_append_right _ _ (by omega), hl, Nat.sub_self, show xss.length - k = (xss.length - (k + 1)) + 1 by omega, List.replicate_succ, List.set_cons_zero, take_snoc hx, List.append_assoc]
  rfl

end Go.Proofs.Ytpfhflkpnjkgkaa
