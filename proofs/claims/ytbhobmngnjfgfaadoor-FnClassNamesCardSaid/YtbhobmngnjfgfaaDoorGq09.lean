import Derived.Test.YtbhobmngnjfgfaaDoorGq02
import Derived.Test.YtbhobmngnjfgfaaDoorGq08
/-
  A statement whose order is open, and not forced behind its reads: each order is walked, step by step. About regions in general; no program in sight.
-/

namespace Go.Proofs.YtbhobmngnjfgfaaDoor
open Go.RowKit

section
variable {P : Program} {ops : Array Oper} {Q : Exit → Act → World → Prop} {md : Region.Mode}

/-- What has come up when the reads have been taken. -/
def Region.taken (ops : Array Oper) (R0 R1 : List Nat) (m : Nat) : Option (Array Bool) :=
  match Region.takes .any ops none m R0 (Array.replicate ops.size false) with
  | none => none
  | some l0 => Region.takes .any ops (some ops.size) m R1 l0

theorem wp_region_take {id : Nat} {a : Act} {w : World} {l : List Oper} (R0 R1 : List Nat) (m g : Nat) (l1 : Array Bool) (hm : P.follows .mixedOrders = true) (hsel : Region.noSelect l.toArray = true)
    (hB : Region.taken l.toArray R0 R1 m = some l1) (hlen : R0.length + (R1.length + g) = l.toArray.size)
    (hQ : ∀ c (a : Act) d v w, Q (.panic c) (a.put d v) w → Q (.panic c) a w)
    (h : wpQuiet P l.toArray (fun _ => True) (wpQuiet P l.toArray (fun W => ∃ x, W = over w x) (fun a' => wpAnyG P .any l.toArray Q (Gate (fun W => ∃ x, W = over w x) m) g l1 a' w.drew) (pickOps l R1)) (pickOps l R0) a) :
    (Code.region id l.toArray true).wp P Q a w := by
  unfold Region.taken at hB
  split at hB
  · cases hB
  rename_i l0 hl0
  refine wp_region_any hm (wpAny_of_G (S := Gate (fun W => ∃ x, W = over w x) m) _ _ _ _ ?_)
  have hgate : ∀ L, Gate (fun W => ∃ x, W = over w x) m L w.drew := fun _ _ => ex_over_drew w
  suffices H : wpAnyG P .any l.toArray Q (Gate (fun W => ∃ x, W = over w x) m) (R0.length + (R1.length + g)) (Array.replicate l.toArray.size false) a w.drew by
    rw [hlen] at H; exact H
  refine wpAnyG_takes (C' := fun _ => True) (gate := none) hsel hQ (fun _ _ _ _ _ _ _ => trivial) (K := wpQuiet P l.toArray (fun W => ∃ x, W = over w x) (fun a' => wpAnyG P .any l.toArray Q (Gate (fun W => ∃ x, W = over w x) m) g l1 a' w.drew) (pickOps l R1)) (listed' := l0) ?_ R0 _ a (closed_start _) (hgate _) hl0 h
  intro a1 h1 inv1
  refine wpAnyG_takes (C' := fun W => ∃ x, W = over w x) (gate := some l.toArray.size) hsel hQ ?_ (K := fun a' => wpAnyG P .any l.toArray Q (Gate (fun W => ∃ x, W = over w x) m) g l1 a' w.drew) (listed' := l1) ?_ R1 _ a1 inv1 (hgate _) hB h1
  · intro i hi L W hL hun hG
    refine hG ?_
    simp only [Region.behindGate, Bool.or_eq_true, decide_eq_true_eq] at hi
    rcases hi with hi | hi
    · have : L.size ≤ m := by rw [hL.size]; exact hi
      simp [this]
    · cases hx : L.getD m false with
      | false => rfl
      | true =>
        have := behind_listed hL _ _ hi hx
        rw [getD_both hun] at this
        cases this
  · intro a2 h3 _
    exact h3

/-- What is to be shown of one operation that comes next. -/
def wpNext (P : Program) (md : Region.Mode) (ops : Array Oper) (Q : Exit → Act → World → Prop) (C : World → Prop) (m fuel : Nat) (listed : Array Bool) (i : Nat) (o : Oper) (a : Act) (w : World) : Prop :=
  wpList P ops (fun e a' w' => match e with | .normal => Gate C m (listed.setIfInBounds i true) w' ∧ wpAnyG P md ops Q (Gate C m) fuel (listed.setIfInBounds i true) a' w' | e => Q e a' w') [o] a w

theorem wpNext_op {C : World → Prop} {m fuel : Nat} {listed : Array Bool} {i : Nat} {o : Oper} {a : Act} {w : World} (ho : ops[i]? = some o) (H : wpNext P md ops Q C m fuel listed i o a w) :
    wpOp P ops Q i (fun a' w' => Gate C m (listed.setIfInBounds i true) w' ∧ wpAnyG P md ops Q (Gate C m) fuel (listed.setIfInBounds i true) a' w') a w :=
  wpOp_single ho (K := fun a' w' => Gate C m (listed.setIfInBounds i true) w' ∧ wpAnyG P md ops Q (Gate C m) fuel (listed.setIfInBounds i true) a' w') H (fun ⟨a₀, w₀, hq⟩ => ⟨a₀, w₀, hq⟩)

theorem wpAnyG_1 {C : World → Prop} {m fuel : Nat} {listed : Array Bool} {a : Act} {w : World} (i : Nat) {o : Oper} (hr : Region.ready md ops listed = [i]) (ho : ops[i]? = some o)
    (H : wpNext P md ops Q C m fuel listed i o a w) : wpAnyG P md ops Q (Gate C m) (fuel + 1) listed a w := by
  refine ⟨fun h => (by rw [hr] at h; cases h), fun j hj => ?_⟩
  rw [hr] at hj
  obtain rfl : j = i := by simpa using hj
  exact wpNext_op ho H
theorem wpAnyG_2 {C : World → Prop} {m fuel : Nat} {listed : Array Bool} {a : Act} {w : World} (i j : Nat) {o o' : Oper} (hr : Region.ready md ops listed = [i, j]) (ho : ops[i]? = some o) (ho' : ops[j]? = some o')
    (H : wpNext P md ops Q C m fuel listed i o a w) (H' : wpNext P md ops Q C m fuel listed j o' a w) : wpAnyG P md ops Q (Gate C m) (fuel + 1) listed a w := by
  refine ⟨fun h => (by rw [hr] at h; cases h), fun k hk => ?_⟩
  rw [hr] at hk
  have hk' : k = i ∨ k = j := by simpa using hk
  rcases hk' with rfl | rfl
  · exact wpNext_op ho H
  · exact wpNext_op ho' H'
/-- The last operations, in their forced order. -/
theorem wpAnyG_tail {C : World → Prop} {m fuel : Nat} {listed : Array Bool} {a : Act} {w : World} (T : List Nat) (hf : T.length = fuel) (hm : listed.getD m false = true ∨ ∀ w, C w) (hB : Region.forced md ops T listed = true)
    (H : wpList P ops Q (pickOps ops.toList T) a w) : wpAnyG P md ops Q (Gate C m) fuel listed a w := by
  subst hf
  rcases hm with hm | hm
  · exact wpAnyG_last T listed a w hm hB H
  · induction T generalizing listed a w with
    | nil => exact ⟨by simpa [Region.forced] using hB, H⟩
    | cons i l ih =>
      simp only [Region.forced, Bool.and_eq_true, decide_eq_true_eq] at hB
      refine ⟨fun h1 => (by rw [hB.1] at h1; cases h1), fun j hj => ?_⟩
      have hj2 := hj
      rw [hB.1] at hj
      have hij : j = i := by simpa using hj
      subst hij
      obtain ⟨_, oj, hoj, _⟩ := mem_ready.1 hj2
      have hp : pickOps ops.toList (j :: l) = oj :: pickOps ops.toList l := by simp [pickOps, hoj]
      rw [hp] at H
      have hw : wpOp P ops Q j (wpList P ops Q (pickOps ops.toList l)) a w := by unfold wpOp; simp only [hoj]; exact H
      exact wpOp_mono (fun a' w' h' => ⟨fun _ => hm w', ih hB.2 h'⟩) hw
/-- The last operations, in their forced order, the first of them being the gate. -/
theorem wpAnyG_gate {C : World → Prop} {m fuel : Nat} {listed : Array Bool} {a : Act} {w : World} (T : List Nat) (hf : (m :: T).length = fuel) (hm : m < listed.size) (hB : Region.forced md ops (m :: T) listed = true)
    (H : wpList P ops Q (pickOps ops.toList (m :: T)) a w) : wpAnyG P md ops Q (Gate C m) fuel listed a w := by
  subst hf
  simp only [Region.forced, Bool.and_eq_true, decide_eq_true_eq] at hB
  refine ⟨fun h1 => (by rw [hB.1] at h1; cases h1), fun j hj => ?_⟩
  have hj2 := hj
  rw [hB.1] at hj
  have hij : j = m := by simpa using hj
  subst hij
  obtain ⟨_, oj, hoj, _⟩ := mem_ready.1 hj2
  have hp : pickOps ops.toList (j :: T) = oj :: pickOps ops.toList T := by simp [pickOps, hoj]
  rw [hp] at H
  have hm' : (listed.setIfInBounds j true).getD j false = true := by simp [hm]
  have hw : wpOp P ops Q j (wpList P ops Q (pickOps ops.toList T)) a w := by unfold wpOp; simp only [hoj]; exact H
  exact wpOp_mono (fun a' w' h' => ⟨fun h0 => (by rw [hm'] at h0; cases h0), wpAnyG_last T _ a' w' hm' hB.2 h'⟩) hw

/-- The look whether what has come up is closed. -/
def Region.closedB (md : Region.Mode) (ops : Array Oper) (listed : Array Bool) : Bool :=
  decide (listed.size = ops.size) && (List.range ops.size).all fun j => !listed.getD j false || match ops[j]? with | some o => o.after.all fun e => !Region.binds md e || listed.getD e.on false | none => true
theorem closed_of_B {listed : Array Bool} (h : Region.closedB md ops listed = true) : Closed md ops listed := by
  unfold Region.closedB at h
  simp only [Bool.and_eq_true, decide_eq_true_eq, List.all_eq_true, List.mem_range] at h
  refine ⟨h.1, fun j oj hj hl e he hb => ?_⟩
  have hlt : j < ops.size := (Array.getElem?_eq_some_iff.1 hj).1
  have h2 := h.2 j hlt
  rw [hl, hj] at h2
  simp only [Bool.not_true, Bool.false_or] at h2
  have h3 := Array.all_eq_true'.1 h2 e he
  rw [hb] at h3
  simpa using h3
/-- In the midst: operations that hang on no memory are taken next. -/
theorem wpAnyG_mid {C : World → Prop} {m : Nat} {listed : Array Bool} {a : Act} {w : World} (R : List Nat) (g : Nat) (l2 : Array Bool) {fuel : Nat} (hf : R.length + g = fuel) (hsel : Region.noSelect ops = true)
    (hcl : Region.closedB md ops listed = true) (ht : Region.takes md ops none m R listed = some l2) (hQ : ∀ c (a : Act) d v w, Q (.panic c) (a.put d v) w → Q (.panic c) a w) (hG : Gate C m listed w)
    (h : wpQuiet P ops (fun _ => True) (fun a' => wpAnyG P md ops Q (Gate C m) g l2 a' w) (pickOps ops.toList R) a) : wpAnyG P md ops Q (Gate C m) fuel listed a w := by
  subst hf
  exact wpAnyG_takes (C' := fun _ => True) (gate := none) hsel hQ (fun _ _ _ _ _ _ _ => trivial) (fun a h _ => h) R listed a (closed_of_B hcl) hG ht h
end
end Go.Proofs.YtbhobmngnjfgfaaDoor
/-
  'AddedVertex' of the reference and of the program.
-/



namespace Go.Proofs.YtbhobmngnjfgfaaDoor
open Go.RowKit

/-- A graph with one more vertex, without edges. -/
def grown (n : Nat) (e : Nat → Nat → Bool) : Nat → Nat → Bool := fun a b => decide (a < n) && decide (b < n) && e a b
/-- The new vertex n is joined to these. -/
def hung (n : Nat) (e : Nat → Nat → Bool) (xs : List Int) : Nat → Nat → Bool := xs.foldl (fun f x => plus f x.toNat n) (grown n e)
theorem plus_comm (f : Nat → Nat → Bool) (u v : Nat) : plus f u v = plus f v u := by
  funext a b
  unfold plus
  rw [Bool.or_assoc, Bool.or_assoc]
  congr 1
  exact Bool.or_comm _ _
theorem hung_succ {n : Nat} {e : Nat → Nat → Bool} {xs : List Int} {k x : Nat} (h : xs[k]? = some (x : Int)) : hung n e (xs.take (k + 1)) = plus (hung n e (xs.take k)) x n := by
  unfold hung
  rw [take_snoc h, List.foldl_append]
  simp

theorem rowB_grown (n : Nat) (p : Nat → Bool) : rowB (n + 1) (fun b => decide (b < n) && p b) = rowB n p := by
  unfold rowB
  rw [filter_range_lt]
theorem rowsB_grown (n : Nat) (e : Nat → Nat → Bool) : rowsB n e ++ [[]] = rowsB (n + 1) (grown n e) := by
  unfold rowsB
  rw [List.range_succ, List.map_append]
  congr 1
  · apply List.map_congr_left
    intro u hu
    have hu' := List.mem_range.1 hu
    rw [← rowB_grown]
    refine rowB_ext fun b hb => ?_
    simp [grown, hu']
  · have : rowB (n + 1) (grown n e n) = [] := by
      unfold rowB
      rw [List.filter_eq_nil_iff.2 (by simp [grown])]
      rfl
    simp [this]
theorem NB_grown (n : Nat) (e : Nat → Nat → Bool) : NB n e ++ [0] = NB (n + 1) (grown n e) := by
  unfold NB
  rw [List.range_succ, List.map_append]
  congr 1
  · apply List.map_congr_left
    intro u hu
    have hu' := List.mem_range.1 hu
    apply Nat.eq_of_testBit_eq
    intro i
    rw [testBit_maskB, testBit_maskB]
    by_cases h : i < n
    · have : i < n + 1 := by omega
      simp [grown, hu', h, this]
    · simp [grown, h]
  · have : maskB (n + 1) (grown n e n) = 0 := maskB_eq_zero.2 fun i _ => by simp [grown]
    simp [this]

/-- An owned graph in a variable, one more row without numbers. -/
theorem rows_snoc (xss : List (List Int)) : (xss ++ [[]]).map ints = xss.map ints ++ [[]] := by simp [ints]

/-- What 'AddedVertex' asks. -/
def OkV (xss : List (List Int)) (xs : List Int) : Prop := okB xss = true ∧ SetP xss.length xs ∧ xss.length ≠ 16

theorem GRes.fin {w0 wr : World} {B b base : Nat} {u : Value} {vs : List Value} {rows : List (List Int)} (hB : w0.heap.size = B) (hb : Below B w0 wr) (hbb : B ≤ b)
    (hG : OwnG wr base 30 2 u vs (rows.map ints)) (hbase : b < base) (ok : Bool) :
    GRes w0 rows ok (.returned (.tuple #[.agg #[u], .bool ok])) (wr.setCell ⟨b, 0, none⟩ u) := by
  subst hB
  exact ⟨u, vs, rfl, (hG.other hbase _).rebase (by omega), hb.setCell hbb _⟩

set_option maxHeartbeats 1000000 in
theorem implSetOk (v : Value) (xss : List (List Int)) (v2 : Value) (xs : List Int) (w : World) (hr : RdSS v xss w) (hs : RdS v2 xs w) :
    Calls Tryd.prog 112 #[.agg #[v], v2] w fun e w' => e = .returned (.bool (okB xss && decide (SetP xss.length xs))) ∧ Below w.heap.size w w' := by
  obtain ⟨a, c, rfl⟩ := hr.shape
  obtain ⟨a2, c2, rfl, -, -, -⟩ := id hs
  obtain ⟨B, hB⟩ : ∃ B, w.heap.size = B := ⟨_, rfl⟩
  have hb0 : Below B w (w.alloc (.cells #[.slice a xss.length c] 56)) := by subst hB; exact below_alloc' _ _
  have hV0 : VC 56 B #[.slice a xss.length c] (w.alloc (.cells #[.slice a xss.length c] 56)) := VC.new hB
  have hsz : (w.alloc (.cells #[.slice a xss.length c] 56)).heap.size = B + 1 := by simp [hB]
  have hc0 := hV0.cell
  go_enter Tryd.func112, Tryd.ntmps112
  go_wp2_with fail
  generalize w.alloc (.cells #[.slice a xss.length c] 56) = W at *
  refine (implOk _ xss W (hr.below hb0 hB)).mono ?_
  rintro e w1 ⟨rfl, hb1⟩
  have hV1 := hV0.upd (Upd.of_below hb1) (by omega)
  have hb01 := hb0.trans (hb1.mono (by omega))
  clear hc0 hV0 hb0 hb1
  have hc1 := hV1.cell
  cases hok : okB xss with
  | false =>
    go_wp2_with fail
    go_ret
    exact ⟨ret_bool (by simp [hok]), by rw [hB]; exact hb01⟩
  | true =>
    have hn : xss.length ≤ 16 := by
      have : OkP xss := by unfold okB at hok; simpa using hok
      exact this.1.2
    go_wp2_with fail
    refine (incr_any _ xs xss.length (by omega) w1 (RdS.below hs hb01 hB)).mono ?_
    rintro e w3 ⟨rfl, rfl⟩
    go_wp2_with fail
    go_ret
    exact ⟨ret_bool (by simp [hok]), by rw [hB]; exact hb01⟩

theorem row_one {w : World} {b : Nat} {x : Value} {t : TypeId} (h : VC t b #[x] w) : Row w 1 (.slice (some ⟨b, 0, none⟩) 1 1) 1 [x] := by
  refine ⟨_, 1, rfl, by omega, by simp [maxLen], rfl, (by intro h; cases h), fun j u hj => ⟨b, 0, rfl, ?_⟩⟩
  match j, hj with
  | 0, hj => simp at hj; subst hj; exact h.cell

set_option maxHeartbeats 4000000 in
theorem implAddedVertex (v : Value) (xss : List (List Int)) (v2 : Value) (xs : List Int) (w : World) (ht : Tab w) (hr : RdSS v xss w) (hs : RdS v2 xs w) (rows : List (List Int)) (ok : Bool)
    (h : (¬ OkV xss xs ∧ rows = [] ∧ ok = false) ∨ ∃ e, Adj xss.length e ∧ xss = rowsB xss.length e ∧ OkV xss xs ∧ rows = rowsB (xss.length + 1) (hung xss.length e xs) ∧ ok = true) :
    Calls Tryd.prog 59 #[.agg #[v], v2] w (GRes w rows ok) := by
  obtain ⟨a, c, rfl⟩ := hr.shape
  have hxl := hs.len
  unfold maxLen at hxl
  obtain ⟨a2, c2, rfl, -, -, -⟩ := id hs
  obtain ⟨B, hB⟩ : ∃ B, w.heap.size = B := ⟨_, rfl⟩
  have hTB : 2 < B := by rw [← hB]; exact ht.lt
  have u1 : Below B w (w.alloc (.cells #[.slice a xss.length c] 56)) := by subst hB; exact below_alloc' _ _
  have VG : VC 56 B #[.slice a xss.length c] (w.alloc (.cells #[.slice a xss.length c] 56)) := VC.new hB
  have hz1 : (w.alloc (.cells #[.slice a xss.length c] 56)).heap.size = B + 1 := by simp [hB]
  have VR : VC 56 (B + 1) #[.slice none 0 0] ((w.alloc (.cells #[.slice a xss.length c] 56)).alloc (.cells #[.slice none 0 0] 56)) := VC.new hz1
  have u2 := u1.alloc (by omega) (.cells #[.slice none 0 0] 56)
  replace VG := VG.upd (Upd.alloc _ (.cells #[.slice none 0 0] 56)) (by omega)
  have hz2 : ((w.alloc (.cells #[.slice a xss.length c] 56)).alloc (.cells #[.slice none 0 0] 56)).heap.size = B + 2 := by simp [hB]
  have H := Lib.hid h
  clear h u1 hz1
  have hcg := VG.cell
  go_enter Tryd.func59, Tryd.ntmps59
  go_wp2_with fail
  generalize (w.alloc (.cells #[.slice a xss.length c] 56)).alloc (.cells #[.slice none 0 0] 56) = W at *
  refine (implSetOk _ xss _ xs W (hr.below u2 hB) (RdS.below hs u2 hB)).mono ?_
  rintro e1 w1 ⟨rfl, hb1⟩
  replace VG := VG.upd (Upd.of_below hb1) (by omega)
  replace VR := VR.upd (Upd.of_below hb1) (by omega)
  have hb := u2.trans (hb1.mono (by omega))
  have hzw1 : B + 2 ≤ w1.heap.size := by have := hb1.size; omega
  clear hb1 hcg u2
  have hcg := VG.cell
  have hcr := VR.cell
  have hfr := VR.free
  have HCE0 := Lib.hid (VR.set (.slice none 0 0)).cell
  have HB0 := Lib.hid (hb.setCell (p := ⟨B + 1, 0, none⟩) (by simp) (.slice none 0 0))
  have hno : ¬ OkV xss xs → Hid (rows = [] ∧ ok = false) := fun hn => by
    rcases H.out with ⟨_, h2⟩ | ⟨_, _, _, h1, _⟩
    · exact Lib.hid h2
    · exact (hn h1).elim
  have HNO := Lib.hid hno
  clear hno
  cases hok : (okB xss && decide (SetP xss.length xs)) with
  | false =>
    obtain ⟨rfl, rfl⟩ := (HNO.out (fun h => by rw [h.1] at hok; simp [h.2.1] at hok)).out
    clear hok
    go_wp2_with fail
    refine bodyPost_ret (v := .tuple #[.agg #[.slice none 0 0], .bool false]) (by simp [results, Tryd.results59, go_sem, HCE0.out]) rfl ?_
    exact GRes.nothing _ _ (by rw [hB]; exact HB0.out)
  | true =>
    have hok2 : okB xss = true ∧ SetP xss.length xs := by simpa using hok
    have hn16 : xss.length ≤ 16 := by
      have : OkP xss := by have := hok2.1; unfold okB at this; simpa using this
      exact this.1.2
    clear hok
    by_cases h16 : xss.length = 16
    · have hd : ((xss.length : Int) == 16) = true := by simp [h16]
      obtain ⟨rfl, rfl⟩ := (HNO.out (fun h => h.2.2 h16)).out
      clear h16
      go_wp2_with fail
      refine bodyPost_ret (v := .tuple #[.agg #[.slice none 0 0], .bool false]) (by simp [results, Tryd.results59, go_sem, HCE0.out]) rfl ?_
      exact GRes.nothing _ _ (by rw [hB]; exact HB0.out)
    have hd : ((xss.length : Int) == 16) = false := by simp; omega
    obtain ⟨e, hA, hx, hset, rfl, rfl⟩ : ∃ e, Adj xss.length e ∧ xss = rowsB xss.length e ∧ SetP xss.length xs ∧ rows = rowsB (xss.length + 1) (hung xss.length e xs) ∧ ok = true := by
      rcases H.out with ⟨h1, _⟩ | ⟨e, hA, hx, _, h3, h4⟩
      · exact (h1 ⟨hok2.1, hok2.2, h16⟩).elim
      · exact ⟨e, hA, hx, hok2.2, h3, h4⟩
    have HX := Lib.hid hx
    have HSET := Lib.hid hset
    have hn1 := hA.pos
    have hrX : ∀ W', Below w1.heap.size w1 W' → RdSS (.slice a xss.length c) (rowsB xss.length e) W' := fun W' hb' => by
      have := hr.below (hb.trans (hb'.mono (by omega))) hB
      rwa [HX.out, rowsB_length] at this
    have HRX := Lib.hid hrX
    clear h16 hok2 hx hset HNO H HCE0 HB0 hrX
    go_wp2_with fail
    refine wp_region_take [4] [0, 5, 6] 8 5 #[true, false, false, false, true, true, true, false, false] (by kernel_rfl) (by kernel_rfl) (by kernel_rfl) (by kernel_rfl) (fun _ _ d _ _ h => by cases d <;> exact h) ?_
    simp only [pickOps, List.filterMap_cons, List.filterMap_nil, List.getElem?_cons_succ, List.getElem?_cons_zero]
    repeat quiet_step (fail)
    simp only [wpQuiet_nil_eq]
    obtain ⟨S1, hS1⟩ : ∃ S, w1.heap.size = S := ⟨_, rfl⟩
    refine wpAnyG_2 1 2 (by kernel_rfl) rfl rfl ?_ ?_
    focus
      unfold wpNext
      go_wp2_with fail
      refine (netsOf_any _ xss.length e hn16 w1.drew (HRX.out _ (below_drewN' w1 1))).mono ?_
      rintro e1 w2 ⟨u, rfl, hN, hb2⟩
      obtain ⟨ua, uc, rfl⟩ := owns_shape hN
      have HB2 := Lib.hid (below_drew hb2)
      clear hb2
      go_wp2_with fail
      refine ⟨fun _ => over_of_below HB2.out, ?_⟩
      refine wpAnyG_1 2 (by kernel_rfl) rfl ?_
      unfold wpNext
      go_wp2_with fail
      have HB3 := Lib.hid (HB2.out.alloc HB2.out.size (.cells #[.int .u32 0] 98))
      obtain ⟨C, hC⟩ : ∃ C, w2.heap.size = C := ⟨_, rfl⟩
      have VN : VC 98 C #[.int .u32 0] (w2.alloc (.cells #[.int .u32 0] 98)) := VC.new hC
      have hNo : (w2.alloc (.cells #[.int .u32 0] 98)).ownsRow S1 98 1 (.slice ua xss.length uc) xss.length (sets (NB xss.length e)) := by rw [← hS1]; exact hN.alloc _
      have hr1 := row_one VN
      have hz3 : S1 ≤ (w2.alloc (.cells #[.int .u32 0] 98)).heap.size := by rw [← hS1]; exact HB3.out.size
      first | rw [hC] | skip
      generalize w2.alloc (.cells #[.int .u32 0] 98) = w3 at *
      refine ⟨fun _ => over_of_below HB3.out, ?_⟩
      clear HB2 hN
    rotate_left
    focus
      unfold wpNext
      go_wp2_with fail
      have HB2 := Lib.hid (below_drewN' w1 1 |>.alloc (Nat.le_refl _) (.cells #[.int .u32 0] 98))
      have hBd : Below w1.heap.size w1 (w1.alloc (.cells #[.int .u32 0] 98)).drew := ((Below.refl _ _).alloc (Nat.le_refl _) _).drew
      have VN0 : VC 98 S1 #[.int .u32 0] (w1.alloc (.cells #[.int .u32 0] 98)).drew := (VC.new hS1).upd (Upd.drew _) (by omega)
      obtain ⟨C, hC⟩ : ∃ C, w1.heap.size = C := ⟨_, rfl⟩
      have hzd : (w1.alloc (.cells #[.int .u32 0] 98)).drew.heap.size = S1 + 1 := by simp [hS1]
      have HBD := Lib.hid hBd
      clear HB2 hBd
      generalize (w1.alloc (.cells #[.int .u32 0] 98)).drew = wd at *
      refine ⟨fun _ => over_of_below HBD.out, ?_⟩
      refine wpAnyG_1 1 (by kernel_rfl) rfl ?_
      unfold wpNext
      go_wp2_with fail
      refine (netsOf_any _ xss.length e hn16 wd (HRX.out _ HBD.out)).mono ?_
      rintro e1 w3 ⟨u, rfl, hN, hb2⟩
      obtain ⟨ua, uc, rfl⟩ := owns_shape hN
      have HB3 := Lib.hid (HBD.out.trans (hb2.mono (by omega)))
      have hr1 := row_one (VN0.upd (Upd.of_below hb2) (by omega))
      have hNo : w3.ownsRow S1 98 1 (.slice ua xss.length uc) xss.length (sets (NB xss.length e)) := owns_base hN (by omega)
      have hz3 : S1 ≤ w3.heap.size := by rw [← hS1]; exact HB3.out.size
      clear hb2 hN
      go_wp2_with fail
      refine ⟨fun _ => over_of_below HB3.out, ?_⟩
    all_goals
      refine wpAnyG_1 3 (by kernel_rfl) rfl ?_
      unfold wpNext
      refine wpList_extend w3 rfl _ _ 120 rfl S1 98 _ 4 Tryd.underlying120 infoV rfl _ xss.length _ rfl hNo _ 1 _ rfl hr1 (by intro u hu; rw [List.mem_singleton.1 hu]; rfl) (by unfold maxLen; omega) (by omega) hz3 ?_
      intro a4 c4 w4 ho4 hg4
      have hb4 : Below S1 w1 w4 := by have := HB3.out; rw [hS1] at this; exact this.grown hg4 hz3 (fun y hy => (owns_lt hNo hy).1)
      have hN4 : NS S1 w1 (.slice a4 (xss.length + 1) c4) (NB (xss.length + 1) (hung xss.length e (xs.take 0))) w4 := ⟨by rw [NB_length, show hung xss.length e (xs.take 0) = grown xss.length e from rfl, ← NB_grown]; simpa [sets] using ho4, NB_small (by omega) _, hb4⟩
      have HB4 := Lib.hid hb4
      clear hb4 ho4 hg4 hNo hr1 HB3
      go_wp2_with fail
      refine ⟨fun _ => over_of_below (by rw [hS1]; exact HB4.out), ?_⟩
      refine wpAnyG_1 7 (by kernel_rfl) rfl ?_
      unfold wpNext
      go_wp2_with fail
      refine ⟨fun _ => over_of_below (by rw [hS1]; exact HB4.out), ?_⟩
      refine wpAnyG_gate [] rfl (by simp) (by kernel_rfl) ?_
      simp only [pickOps, List.filterMap_cons, List.filterMap_nil, List.getElem?_cons_succ, List.getElem?_cons_zero]
      go_wp2_with fail
      clear HB4
      go_loopw [30] (fun i wr => ∃ k : Nat, k ≤ xs.length ∧ i = .int .i64 k ∧ NS S1 w1 (.slice a4 (xss.length + 1) c4) (NB (xss.length + 1) (hung xss.length e (xs.take k))) wr) (fun i _ => xs.length - (intOf i).toNat)
      case atStart => exact ⟨0, Nat.zero_le _, rfl, hN4⟩
      case round =>
        clear hN4
        obtain ⟨k, hk, rfl, hN⟩ := hrel
        have hsz := hN.bel.size
        by_cases hlt : k < xs.length
        · obtain ⟨xb, xo, x, rfl, hcx, HXX⟩ := (RdS.below hs (hb.trans (hN.bel.mono (by omega))) hB).intAt hlt
          obtain ⟨m, rfl⟩ := Int.eq_ofNat_of_zero_le (HSET.out.1 x (List.mem_of_getElem? HXX.out)).1
          have hm : m < xss.length := by have := (HSET.out.1 m (List.mem_of_getElem? HXX.out)).2; omega
          have HL := Lib.hid (hung_succ (n := xss.length) (e := e) HXX.out)
          have HJ := Lib.hid (hN.join (by omega) xss.length m (xss.length : Int) (m : Int) rfl rfl (by simp) (by simp; omega) (by simp; omega))
          clear hN
          go_wp2_with fail
          refine HJ.out.mono ?_
          rintro e1 w5 ⟨rfl, hN5, -⟩
          rw [joinS_NB _ (by omega) (by omega), plus_comm, ← HL.out] at hN5
          go_wp2_with fail
          go_roundw
          case rel => exact ⟨k + 1, by omega, by go_num, hN5⟩
          case measure => simp [intOf]; omega
        · obtain rfl : k = xs.length := by omega
          rw [List.take_length] at hN
          have VR2 := VR.belowAt hN.bel (by omega)
          have hb5 := hb.trans (hN.bel.mono (by omega))
          have HGR := Lib.hid (hN.graph (ht.keep hb hTB) (by omega) (by simp; omega))
          clear hcg hcr hfr
          go_wp2_with fail
          refine HGR.out.mono ?_
          rintro e1 w6 ⟨u6, us, rfl, hG6, hb6⟩
          rw [rowsOf_NB (by omega)] at hG6
          obtain ⟨uua, uuc, rfl⟩ := owns_shape hG6.outer
          have HF := Lib.hid (GRes.put (b := B + 1) hB hb5 (by omega) (by omega) hG6 hb6 true)
          replace VR2 := VR2.upd (Upd.of_below hb6) (by omega)
          have HCE := Lib.hid (VR2.set (.slice uua us.length uuc)).cell
          clear hG6 hb6 hN HGR hb5
          have hcr := VR2.cell
          have hfr := VR2.free
          go_wp2_with fail
          refine bodyPost_ret (v := .tuple #[.agg #[.slice uua us.length uuc], .bool true]) (by simp [results, Tryd.results59, go_sem, HCE.out]) rfl ?_
          exact HF.out

end Go.Proofs.YtbhobmngnjfgfaaDoor
/-
  'AddedEdge' of the reference and of the program.
-/


namespace Go.Proofs.YtbhobmngnjfgfaaDoor
open Go.RowKit

/-- What 'AddedEdge' asks. -/
def OkA (xss : List (List Int)) (u v : Int) : Prop := vertexB xss u = true ∧ vertexB xss v = true ∧ u ≠ v ∧ edgeB xss u v = false
instance (xss : List (List Int)) (u v : Int) : Decidable (OkA xss u v) := by unfold OkA; infer_instance
/-- Two vertices of a valid graph. -/
structure Two (xss : List (List Int)) (u v : Int) (n : Nat) (e : Nat → Nat → Bool) (a b : Nat) : Prop where
  adj : Adj n e
  eq : xss = rowsB n e
  len : xss.length = n
  ua : u = a
  vb : v = b
  an : a < n
  bn : b < n
theorem two_of {xss : List (List Int)} {u v : Int} (h1 : vertexB xss u = true) (h2 : vertexB xss v = true) : ∃ e a b, Two xss u v xss.length e a b := by
  unfold vertexB at h1 h2
  rw [Bool.and_eq_true] at h1 h2
  obtain ⟨e, hA, hx⟩ := (okB_iff xss).1 h1.1
  obtain ⟨a, ha, han⟩ := inN_nat h1.2
  obtain ⟨b, hb, hbn⟩ := inN_nat h2.2
  exact ⟨e, a, b, hA, hx, rfl, ha, hb, han, hbn⟩
theorem edgeB_two {xss : List (List Int)} {u v : Int} {n : Nat} {e : Nat → Nat → Bool} {a b : Nat} (h : Two xss u v n e a b) : edgeB xss u v = e a b := by
  obtain ⟨hA, hx, hl, rfl, rfl, ha, hb⟩ := h
  unfold edgeB
  rw [show okB xss = true by rw [hx]; exact okB_adj hA, show inN xss.length (a : Int) = true by rw [inN_iff]; omega, Int.toNat_natCast, hx, rowsB_getD e ha, contains_rowB]
  simp [hb]

/-- An owned graph, changed in place, goes into the variable of the result. -/
theorem GRes.fin2 {w0 wr : World} {B b base : Nat} {u : Value} {vs : List Value} {rows : List (List Int)} (hB : w0.heap.size = B) (hb : Below B w0 wr) (hbb : B ≤ b)
    (hG : OwnG wr base 30 2 u vs (rows.map ints)) (hbase : b < base) (ok : Bool) :
    GRes w0 rows ok (.returned (.tuple #[.agg #[u], .bool ok])) (wr.setCell ⟨b, 0, none⟩ u) := GRes.fin hB hb hbb hG hbase ok

set_option maxHeartbeats 4000000 in
theorem implAddedEdge (g : Value) (xss : List (List Int)) (u v : Int) (w : World) (ht : Tab w) (hr : RdSS g xss w) (rows : List (List Int)) (ok : Bool)
    (h : (¬ OkA xss u v ∧ rows = [] ∧ ok = false) ∨ ∃ e a b, Two xss u v xss.length e a b ∧ OkA xss u v ∧ rows = rowsB xss.length (plus e a b) ∧ ok = true) :
    Calls Tryd.prog 54 #[.agg #[g], .int .i64 u, .int .i64 v] w (GRes w rows ok) := by
  obtain ⟨a, c, rfl⟩ := hr.shape
  obtain ⟨B, hB⟩ : ∃ B, w.heap.size = B := ⟨_, rfl⟩
  have hTB : 2 < B := by rw [← hB]; exact ht.lt
  have u1 : Below B w (w.alloc (.cells #[.slice a xss.length c] 56)) := by subst hB; exact below_alloc' _ _
  have VG : VC 56 B #[.slice a xss.length c] (w.alloc (.cells #[.slice a xss.length c] 56)) := VC.new hB
  have hz1 : (w.alloc (.cells #[.slice a xss.length c] 56)).heap.size = B + 1 := by simp [hB]
  have VR : VC 56 (B + 1) #[.slice none 0 0] ((w.alloc (.cells #[.slice a xss.length c] 56)).alloc (.cells #[.slice none 0 0] 56)) := VC.new hz1
  have u2 := u1.alloc (by omega) (.cells #[.slice none 0 0] 56)
  replace VG := VG.upd (Upd.alloc _ (.cells #[.slice none 0 0] 56)) (by omega)
  have hz2 : ((w.alloc (.cells #[.slice a xss.length c] 56)).alloc (.cells #[.slice none 0 0] 56)).heap.size = B + 2 := by simp [hB]
  have H := Lib.hid h
  have hno : ¬ OkA xss u v → rows = [] ∧ ok = false := fun hn => by
    rcases H.out with ⟨_, h2⟩ | ⟨_, _, _, _, h1, _⟩
    · exact h2
    · exact (hn h1).elim
  have HNO := Lib.hid hno
  clear h u1 hz1 hno
  have hcg := VG.cell
  go_enter Tryd.func54, Tryd.ntmps54
  go_wp2_with fail
  generalize (w.alloc (.cells #[.slice a xss.length c] 56)).alloc (.cells #[.slice none 0 0] 56) = W at *
  refine (isPair_any _ xss u v W (hr.below u2 hB)).mono ?_
  rintro e1 w1 ⟨rfl, hb1⟩
  replace VG := VG.upd (Upd.of_below hb1) (by omega)
  replace VR := VR.upd (Upd.of_below hb1) (by omega)
  have hb := u2.trans (hb1.mono (by omega))
  have hzw1 : B + 2 ≤ w1.heap.size := by have := hb1.size; omega
  clear hb1 u2 hcg
  have hcg := VG.cell
  have hcr := VR.cell
  have hfr := VR.free
  have HCE0 := Lib.hid (VR.set (.slice none 0 0)).cell
  have HB0 := Lib.hid (hb.setCell (p := ⟨B + 1, 0, none⟩) (by simp) (.slice none 0 0))
  cases hp : (vertexB xss u && vertexB xss v) with
  | false =>
    obtain ⟨rfl, rfl⟩ := HNO.out fun h => by rw [h.1, h.2.1] at hp; cases hp
    clear hp
    go_wp2_with fail
    refine bodyPost_ret (v := .tuple #[.agg #[.slice none 0 0], .bool false]) (by simp [results, Tryd.results54, go_sem, HCE0.out]) rfl ?_
    exact GRes.nothing _ _ (by rw [hB]; exact HB0.out)
  | true =>
    rw [Bool.and_eq_true] at hp
    have HP := Lib.hid hp
    clear hp
    by_cases huv : u = v
    · obtain ⟨rfl, rfl⟩ := HNO.out fun h => h.2.2.1 huv
      have hd : (u == v) = true := by simpa using huv
      clear huv
      go_wp2_with fail
      refine bodyPost_ret (v := .tuple #[.agg #[.slice none 0 0], .bool false]) (by simp [results, Tryd.results54, go_sem, HCE0.out]) rfl ?_
      exact GRes.nothing _ _ (by rw [hB]; exact HB0.out)
    have hd : (u == v) = false := by simpa using huv
    have HUV := Lib.hid huv
    have HEI := Lib.hid (implEdgeIn (.slice a xss.length c) xss u v w1 (hr.below hb hB))
    clear huv
    go_wp2_with fail
    refine HEI.out.mono ?_
    rintro e1 w2 ⟨rfl, hb2⟩
    replace VG := VG.upd (Upd.of_below hb2) (by omega)
    replace VR := VR.upd (Upd.of_below hb2) (by omega)
    replace hb := hb.trans (hb2.mono (by omega))
    have hzw2 : B + 2 ≤ w2.heap.size := by have := hb2.size; omega
    clear hb2 hcg hcr hfr HEI HCE0 HB0
    have hcg := VG.cell
    have hcr := VR.cell
    have hfr := VR.free
    cases hed : edgeB xss u v with
    | true =>
      obtain ⟨rfl, rfl⟩ := HNO.out fun h => by rw [h.2.2.2] at hed; cases hed
      have HCE := Lib.hid (VR.set (.slice none 0 0)).cell
      have HB := Lib.hid (hb.setCell (p := ⟨B + 1, 0, none⟩) (by simp) (.slice none 0 0))
      clear hed
      go_wp2_with fail
      refine bodyPost_ret (v := .tuple #[.agg #[.slice none 0 0], .bool false]) (by simp [results, Tryd.results54, go_sem, HCE.out]) rfl ?_
      exact GRes.nothing _ _ (by rw [hB]; exact HB.out)
    | false =>
      obtain ⟨e, k, l, hT, rfl, rfl⟩ : ∃ e a b, Two xss u v xss.length e a b ∧ rows = rowsB xss.length (plus e a b) ∧ ok = true := by
        rcases H.out with ⟨h1, _⟩ | ⟨e', a', b', hT', _, h3, h4⟩
        · exact (h1 ⟨HP.out.1, HP.out.2, HUV.out, hed⟩).elim
        · exact ⟨e', a', b', hT', h3, h4⟩
      obtain ⟨hA, hx, -, rfl, rfl, hk, hl⟩ := hT
      have hn16 := hA.le
      have HX := Lib.hid hx
      have hr' := hr.below hb hB
      rw [HX.out, rowsB_length] at hr'
      have HNO2 := Lib.hid (netsOf_any _ xss.length e hn16 w2 hr')
      clear hed hx hr' hd
      go_wp2_with fail
      refine HNO2.out.mono ?_
      rintro e1 w3 ⟨u3, rfl, hN3, hb3⟩
      obtain ⟨a3, c3, rfl⟩ := owns_shape hN3
      obtain ⟨S2, hS2⟩ : ∃ S, w2.heap.size = S := ⟨_, rfl⟩
      rw [hS2] at hN3 hb3 hzw2
      have hN : NS S2 w2 (.slice a3 xss.length c3) (NB xss.length e) w3 := ⟨by rw [NB_length]; exact hN3, NB_small (by omega) _, hb3⟩
      have hz3 := hb3.size
      have HJ := Lib.hid (hN.join (by omega) k l (k : Int) (l : Int) rfl rfl (by simpa using hk) (by simpa using hl) (by simp; omega))
      have HT2 := Lib.hid (ht.keep hb hTB)
      clear hN hN3 hb3 HNO2 hcg hcr hfr
      go_wp2_with fail
      refine HJ.out.mono ?_
      rintro e1 w4 ⟨rfl, hN4, -⟩
      rw [joinS_NB _ hk hl] at hN4
      have HGR := Lib.hid (hN4.graph HT2.out (by omega) (by simp; omega))
      have VR2 := VR.belowAt hN4.bel (by omega)
      have hb4 := hb.trans (hN4.bel.mono (by omega))
      have hz4 := hN4.bel.size
      clear hN4 HJ
      go_wp2_with fail
      refine HGR.out.mono ?_
      rintro e1 w6 ⟨u6, us, rfl, hG6, hb6⟩
      rw [rowsOf_NB (by omega)] at hG6
      obtain ⟨uua, uuc, rfl⟩ := owns_shape hG6.outer
      have HF := Lib.hid (GRes.put (b := B + 1) hB hb4 (by omega) (by omega) hG6 hb6 true)
      replace VR2 := VR2.upd (Upd.of_below hb6) (by omega)
      have HCE := Lib.hid (VR2.set (.slice uua us.length uuc)).cell
      clear hG6 hb6 HGR hb4
      have hcr := VR2.cell
      have hfr := VR2.free
      go_wp2_with fail
      refine bodyPost_ret (v := .tuple #[.agg #[.slice uua us.length uuc], .bool true]) (by simp [results, Tryd.results54, go_sem, HCE.out]) rfl ?_
      exact HF.out

end Go.Proofs.YtbhobmngnjfgfaaDoor
