import Derived.Test.YtpfhflkpnjkgkaaDoorGq02
import Derived.Test.YtpfhflkpnjkgkaaDoorGq03
import Derived.Test.YtpfhflkpnjkgkaaDoorGq06
/-
  The complement: 'l2Other' of the reference; 'maskOf', 'netsOf', 'firstOf', 'all', 'complement' of the program.
-/



namespace Go.Proofs.YtpfhflkpnjkgkaaDoor
open Go.RowKit

/-! ### The program -/
theorem one_at (v : Int) (n : Nat) (h : v = n) (h1 : n < 32) (z : Int) (hz : z = ((2 ^ n : Nat) : Int)) (w : World) :
    Calls Tryd.prog 40 #[.int .i64 v] w fun e w' => e = .returned (.int .u32 z) ∧ w = w' := by
  subst hz; exact one_any v n h h1 w

set_option maxHeartbeats 1000000 in
theorem maskOf_any (v : Value) (xs : List Int) (n : Nat) (hn : n ≤ 16) (hset : SetP n xs) (w : World) (hr : RdS v xs w) :
    Calls Tryd.prog 57 #[v] w fun e w' => e = .returned (.int .u32 (maskB n (inL xs) : Nat)) ∧ w = w' := by
  have hl := hr.len
  unfold maxLen at hl
  obtain ⟨a, c, rfl, -, -, -⟩ := id hr
  have HS := Lib.hid hset
  clear hset
  have hz : Hid (((maskB n (inL (xs.take 0)) : Nat) : Int) = 0) := Lib.hid (by rw [show inL (xs.take 0) = fun _ => false by funext i; simp [inL], maskB_zero]; rfl)
  go_enter Tryd.func57, Tryd.ntmps57
  go_wp2_with fail
  go_loopw [3, 8] (fun m i wr => ∃ (k : Nat) (y : Int), k ≤ xs.length ∧ i = .int .i64 k ∧ m = .int .u32 y ∧ Hid (y = (maskB n (inL (xs.take k)) : Nat)) ∧ w = wr) (fun _ i _ => xs.length - (intOf i).toNat)
  case atStart => exact ⟨0, 0, Nat.zero_le _, rfl, rfl, Lib.hid hz.out.symm, rfl⟩
  case round =>
    clear hz
    obtain ⟨k, y, hk, rfl, rfl, HY, rfl⟩ := hrel
    by_cases hlt : k < xs.length
    · obtain ⟨b, o, x, rfl, hc, HX⟩ := hr.intAt hlt
      obtain ⟨m, rfl⟩ := Int.eq_ofNat_of_zero_le (HS.out.1 x (List.mem_of_getElem? HX.out)).1
      have hm : m < n := by have := (HS.out.1 m (List.mem_of_getElem? HX.out)).2; omega
      obtain ⟨z, HZ⟩ : ∃ z : Int, Hid (z = ((2 ^ m : Nat) : Int)) := ⟨_, Lib.hid rfl⟩
      obtain ⟨y2, HY2⟩ : ∃ y2 : Int, Hid (y2 = (maskB n (inL (xs.take (k + 1))) : Nat)) := ⟨_, Lib.hid rfl⟩
      have hor : bits BinOp.or IntKind.u32 y z = y2 := by
        rw [HY.out, HZ.out, HY2.out, pow_maskB hm, maskB_or (by omega), inL_take_succ HX.out]
      go_wp2_with (go_at_call 40; refine (one_at _ m rfl (by omega) z HZ.out _).mono ?_; rintro e w' ⟨rfl, rfl⟩)
      go_roundw
      case rel => exact ⟨k + 1, y2, by omega, by go_num, rfl, HY2, by trivial⟩
      case measure => simp [intOf]; omega
    · obtain rfl : k = xs.length := by omega
      go_wp2_with fail
      go_ret
      exact ⟨ret_int (by have := HY.out; rwa [List.take_length] at this), rfl⟩

theorem mask_row (n : Nat) (p : Nat → Bool) : maskB n (inL (rowB n p)) = maskB n p := by
  refine maskB_ext fun i hi => ?_
  unfold inL
  rw [Bool.eq_iff_iff, decide_eq_true_eq, nat_mem_rowB]
  simp [hi]

theorem rowsB_take_succ (n : Nat) (f : Nat → Nat → Bool) (k : Nat) (hk : k < n) : sets ((NB n f).take (k + 1)) = sets ((NB n f).take k) ++ [.int .u32 (maskB n (f k) : Nat)] := by
  rw [take_snoc (NB_at f hk)]
  simp [sets]

set_option maxHeartbeats 1000000 in
theorem netsOf_any (v : Value) (n : Nat) (e : Nat → Nat → Bool) (hn : n ≤ 16) (w : World) (hr : RdSS v (rowsB n e) w) :
    Calls Tryd.prog 37 #[.agg #[v]] w fun r w' => ∃ u, r = .returned u ∧ w'.ownsRow w.heap.size 54 1 u n (sets (NB n e)) ∧ Below w.heap.size w w' := by
  obtain ⟨vs, hG⟩ := hr.ex
  have e1 : vs.length = n := by simpa using hG.len
  obtain ⟨a, c, rfl, -, -, -⟩ := id hG.outer
  rw [e1] at hG ⊢
  clear e1 hr
  obtain ⟨B, hB⟩ : ∃ B, w.heap.size = B := ⟨_, rfl⟩
  have u1 : Below B w (w.alloc (.cells #[.slice a n c] 38)) := by subst hB; exact below_alloc' _ _
  have VG0 : VC 38 B #[.slice a n c] (w.alloc (.cells #[.slice a n c] 38)) := VC.new hB
  have hz0 : (w.alloc (.cells #[.slice a n c] 38)).heap.size = B + 1 := by simp [hB]
  have ho0 := World.ownsRow_lit (base := B) (e := 54) (size := 1) (w.alloc (.cells #[.slice a n c] 38)) #[] 0 (by omega) (by simp [maxLen]) rfl
  have u2 : Below B w ((w.alloc (.cells #[.slice a n c] 38)).alloc (.cells #[] 54)) := u1.alloc (by omega) _
  have VG1 := (VG0.upd (Upd.alloc _ (.cells #[] 54)) (by omega)).cell
  rw [hz0] at ho0
  go_enter Tryd.func37, Tryd.ntmps37
  go_wp2_with fail
  go_loopw [3, 10] (fun u i wr => ∃ k : Nat, k ≤ n ∧ i = .int .i64 k ∧ wr.ownsRow B 54 1 u k (sets ((NB n e).take k)) ∧ Below B w wr) (fun _ i _ => n - (intOf i).toNat)
  case atStart => exact ⟨0, Nat.zero_le _, rfl, by simpa [sets] using ho0, u2⟩
  case round =>
    clear ho0 u1 u2 VG0 VG1 hz0
    obtain ⟨k, hk, rfl, ho, hb⟩ := hrel
    have hsz := hb.size
    by_cases hlt : k < n
    · have hGr := hG.below (hB.symm ▸ hb)
      obtain ⟨rb, ro, r, xs, rfl, hc, hx, -, HX⟩ := hGr.intsAt (by simpa using hlt)
      obtain rfl : rowB n (e k) = xs := by have h := HX.out; rw [rowsB_at e hlt] at h; exact Option.some.inj h
      have hm := maskOf_any r (rowB n (e k)) n hn (setP_rowB _ _) wr hx
      rw [mask_row] at hm
      obtain ⟨y, HY⟩ : ∃ y : Nat, Hid (maskB n (e k) = y) := ⟨_, Lib.hid rfl⟩
      rw [HY.out] at hm
      have HM := Lib.hid hm
      clear hm hGr hx
      go_wp2_with fail
      refine HM.out.mono ?_
      rintro e1 w2 ⟨rfl, rfl⟩
      go_wp2_with (at_builtin; refine wpList_push _ rfl _ _ 65 rfl B 54 _ _ 4 Tryd.underlying65 infoV rfl _ _ _ rfl ho _ rfl rfl (by unfold maxLen; omega) (by omega) (by omega) ?_; intro g' c' w2 ho2 hg)
      go_roundw
      case rel => exact ⟨k + 1, by omega, by go_num, by rw [rowsB_take_succ n e k hlt, HY.out]; exact ho2, hb.grown hg (by omega) fun b hb' => (owns_lt ho hb').1⟩
      case measure => simp [intOf]; omega
    · obtain rfl : k = n := by omega
      rw [List.take_of_length_le (by simp)] at ho
      go_wp2_with fail
      go_ret
      exact ⟨_, rfl, by rw [hB]; exact ho, by rw [hB]; exact hb⟩

theorem firstOf_any (n : Nat) (hn : n ≤ 16) (w : World) :
    Calls Tryd.prog 48 #[.int .i64 n] w fun e w' => e = .returned (.int .u32 (maskB n (fun _ => true) : Nat)) ∧ w = w' := by
  have e1 : (2 : Int) ^ n % 4294967296 = ((2 ^ n : Nat) : Int) := by
    have : 2 ^ n ≤ 2 ^ 16 := Nat.pow_le_pow_right (by decide) hn
    have e2 : ((2 ^ n : Nat) : Int) = 2 ^ n := by simp
    rw [← e2]
    generalize 2 ^ n = q at *
    clear e2
    omega
  have h1 : 0 < 2 ^ n := Nat.two_pow_pos n
  have h2 : 2 ^ n ≤ 65536 := Nat.pow_le_pow_right (n := 2) (by decide) hn
  have HE : Hid (((2 ^ n : Nat) : Int) - 1 = (maskB n (fun _ => true) : Nat)) := Lib.hid (by rw [← full_maskB]; omega)
  have HE1 := Lib.hid e1
  have hm : (2 : Int) ^ min n 32 % 4294967296 = ((2 ^ n : Nat) : Int) := by rw [Nat.min_eq_left (by omega)]; exact e1
  obtain ⟨q, hq⟩ : ∃ q : Nat, 2 ^ n = q := ⟨_, rfl⟩
  rw [hq] at hm h1 h2 HE HE1
  clear e1 hq
  go_enter Tryd.func48, Tryd.ntmps48
  go_wp2_with fail
  go_ret
  refine ⟨ret_int ?_, rfl⟩
  rw [← HE.out]
  rw [HE1.out]
  omega
theorem all_nets (a : Option Addr) (n c : Nat) (hn : n ≤ 16) (w : World) :
    Calls Tryd.prog 59 #[.slice a n c] w fun e w' => e = .returned (.int .u32 (maskB n (fun _ => true) : Nat)) ∧ w = w' := by
  go_enter Tryd.func59, Tryd.ntmps59
  go_wp2_with fail
  refine (firstOf_any n hn w).mono ?_
  rintro e w' ⟨rfl, rfl⟩
  go_wp2_with fail
  go_ret
  exact ⟨rfl, rfl⟩
theorem all_netsAt (v : Value) (n : Nat) (hn : n ≤ 16) (z : Int) (hz : z = (maskB n (fun _ => true) : Nat)) (hv : ∃ a c, v = .slice a n c) (w : World) :
    Calls Tryd.prog 59 #[v] w fun e w' => e = .returned (.int .u32 z) ∧ w = w' := by
  obtain ⟨a, c, rfl⟩ := hv
  subst hz
  exact all_nets a n c hn w

end Go.Proofs.YtpfhflkpnjkgkaaDoor
/-
  'Complement' of the reference and of the program.
-/

namespace Go.Proofs.YtpfhflkpnjkgkaaDoor
open Go.RowKit

theorem GRes.put {w0 wr w' : World} {B b : Nat} {u : Value} {vs : List Value} {rows : List (List Int)} (hB : w0.heap.size = B) (hb : Below B w0 wr) (hbb : B ≤ b) (hbr : b < wr.heap.size)
    (hG : OwnG w' wr.heap.size 24 2 u vs (rows.map ints)) (hb' : Below wr.heap.size wr w') (ok : Bool) :
    GRes w0 rows ok (.returned (.tuple #[.agg #[u], .bool ok])) (w'.setCell ⟨b, 0, none⟩ u) := by
  subst hB
  exact ⟨u, vs, rfl, (hG.other hbr _).rebase (by omega), (hb.trans (hb'.mono (by omega))).setCell hbb _⟩

theorem total_rowsB (n : Nat) (f : Nat → Nat → Bool) (hn : n ≤ 32) : total (rowsB n f) ≤ 32 * n := by
  have := total_rowsOf (NB n f)
  rw [NB_length, rowsOf_NB hn] at this
  exact this

end Go.Proofs.YtpfhflkpnjkgkaaDoor
/-
  'l1There', 'l2Pair', 'EdgeIn' of the reference; 'isVertex', 'isPair', 'EdgeIn' of the program.
-/

namespace Go.Proofs.YtpfhflkpnjkgkaaDoor
open Go.RowKit

/-- A vertex of n. -/
def inN (n : Nat) (v : Int) : Bool := decide (0 ≤ v ∧ v < (n : Int))
theorem inN_iff {n : Nat} {v : Int} : inN n v = true ↔ 0 ≤ v ∧ v < (n : Int) := by unfold inN; simp
theorem inN_nat {n : Nat} {v : Int} (h : inN n v = true) : ∃ k : Nat, v = k ∧ k < n := by
  have := inN_iff.1 h
  exact ⟨v.toNat, by omega, by omega⟩
def vertexB (xss : List (List Int)) (v : Int) : Bool := okB xss && inN xss.length v
def edgeB (xss : List (List Int)) (u v : Int) : Bool := okB xss && inN xss.length u && (xss.getD u.toNat []).contains v

theorem ok_size {xss : List (List Int)} (h : okB xss = true) : 1 ≤ xss.length ∧ xss.length ≤ 16 := by
  have : OkP xss := by unfold okB at h; simpa using h
  exact this.1

end Go.Proofs.YtpfhflkpnjkgkaaDoor
/-
  A statement whose order is open, and not forced behind its reads: each order is walked, step by step. About regions in general; no program in sight.
-/

namespace Go.Proofs.YtpfhflkpnjkgkaaDoor
open Go.RowKit

section
variable {P : Program} {ops : Array Oper} {Q : Exit → Act → World → Prop} {md : Region.Mode}

/-- What has come up when the reads have been taken. -/
def Region.taken (ops : Array Oper) (R0 R1 : List Nat) (m : Nat) : Option (Array Bool) :=
  match Region.takes .any ops none m R0 (Array.replicate ops.size false) with
  | none => none
  | some l0 => Region.takes .any ops (some ops.size) m R1 l0

theorem wp_region_take {id : Nat} {a : Act} {w : World} {l : List Oper} (R0 R1 : List Nat) (m g : Nat) (l1 : Array Bool) (hm : P.follows .mixedOrders = true) (hsel : Region.noSelect l.toArray = true)
    (hB : Region.taken l.toArray R0 R1 m = some l1) (hlen : R0.length + (R1.length + g) = l.toArray.size)
    (hQ : ∀ c (a : Act) d v w, Q (.panic c) (a.put d v) w → Q (.panic c) a w)
    (h : wpQuiet P l.toArray (fun _ => True) (wpQuiet P l.toArray (fun W => ∃ x, W = over w x) (fun a' => wpAnyG P .any l.toArray Q (Gate (fun W => ∃ x, W = over w x) m) g l1 a' w.drew) (pickOps l R1)) (pickOps l R0) a) :
    (Code.region id l.toArray true).wp P Q a w := by
  unfold Region.taken at hB
  split at hB
  · cases hB
  rename_i l0 hl0
  refine wp_region_any hm (wpAny_of_G (S := Gate (fun W => ∃ x, W = over w x) m) _ _ _ _ ?_)
  have hgate : ∀ L, Gate (fun W => ∃ x, W = over w x) m L w.drew := fun _ _ => ex_over_drew w
  suffices H : wpAnyG P .any l.toArray Q (Gate (fun W => ∃ x, W = over w x) m) (R0.length + (R1.length + g)) (Array.replicate l.toArray.size false) a w.drew by
    rw [hlen] at H; exact H
  refine wpAnyG_takes (C' := fun _ => True) (gate := none) hsel hQ (fun _ _ _ _ _ _ _ => trivial) (K := wpQuiet P l.toArray (fun W => ∃ x, W = over w x) (fun a' => wpAnyG P .any l.toArray Q (Gate (fun W => ∃ x, W = over w x) m) g l1 a' w.drew) (pickOps l R1)) (listed' := l0) ?_ R0 _ a (closed_start _) (hgate _) hl0 h
  intro a1 h1 inv1
  refine wpAnyG_takes (C' := fun W => ∃ x, W = over w x) (gate := some l.toArray.size) hsel hQ ?_ (K := fun a' => wpAnyG P .any l.toArray Q (Gate (fun W => ∃ x, W = over w x) m) g l1 a' w.drew) (listed' := l1) ?_ R1 _ a1 inv1 (hgate _) hB h1
  · intro i hi L W hL hun hG
    refine hG ?_
    simp only [Region.behindGate, Bool.or_eq_true, decide_eq_true_eq] at hi
    rcases hi with hi | hi
    · have : L.size ≤ m := by rw [hL.size]; exact hi
      simp [this]
    · cases hx : L.getD m false with
      | false => rfl
      | true =>
        have := behind_listed hL _ _ hi hx
        rw [getD_both hun] at this
        cases this
  · intro a2 h3 _
    exact h3

/-- What is to be shown of one operation that comes next. -/
def wpNext (P : Program) (md : Region.Mode) (ops : Array Oper) (Q : Exit → Act → World → Prop) (C : World → Prop) (m fuel : Nat) (listed : Array Bool) (i : Nat) (o : Oper) (a : Act) (w : World) : Prop :=
  wpList P ops (fun e a' w' => match e with | .normal => Gate C m (listed.setIfInBounds i true) w' ∧ wpAnyG P md ops Q (Gate C m) fuel (listed.setIfInBounds i true) a' w' | e => Q e a' w') [o] a w

theorem wpNext_op {C : World → Prop} {m fuel : Nat} {listed : Array Bool} {i : Nat} {o : Oper} {a : Act} {w : World} (ho : ops[i]? = some o) (H : wpNext P md ops Q C m fuel listed i o a w) :
    wpOp P ops Q i (fun a' w' => Gate C m (listed.setIfInBounds i true) w' ∧ wpAnyG P md ops Q (Gate C m) fuel (listed.setIfInBounds i true) a' w') a w :=
  wpOp_single ho (K := fun a' w' => Gate C m (listed.setIfInBounds i true) w' ∧ wpAnyG P md ops Q (Gate C m) fuel (listed.setIfInBounds i true) a' w') H (fun ⟨a₀, w₀, hq⟩ => ⟨a₀, w₀, hq⟩)

theorem wpAnyG_1 {C : World → Prop} {m fuel : Nat} {listed : Array Bool} {a : Act} {w : World} (i : Nat) {o : Oper} (hr : Region.ready md ops listed = [i]) (ho : ops[i]? = some o)
    (H : wpNext P md ops Q C m fuel listed i o a w) : wpAnyG P md ops Q (Gate C m) (fuel + 1) listed a w := by
  refine ⟨fun h => (by rw [hr] at h; cases h), fun j hj => ?_⟩
  rw [hr] at hj
  obtain rfl : j = i := by simpa using hj
  exact wpNext_op ho H
theorem wpAnyG_2 {C : World → Prop} {m fuel : Nat} {listed : Array Bool} {a : Act} {w : World} (i j : Nat) {o o' : Oper} (hr : Region.ready md ops listed = [i, j]) (ho : ops[i]? = some o) (ho' : ops[j]? = some o')
    (H : wpNext P md ops Q C m fuel listed i o a w) (H' : wpNext P md ops Q C m fuel listed j o' a w) : wpAnyG P md ops Q (Gate C m) (fuel + 1) listed a w := by
  refine ⟨fun h => (by rw [hr] at h; cases h), fun k hk => ?_⟩
  rw [hr] at hk
  have hk' : k = i ∨ k = j := by simpa using hk
  rcases hk' with rfl | rfl
  · exact wpNext_op ho H
  · exact wpNext_op ho' H'
/-- The last operations, in their forced order. -/
theorem wpAnyG_tail {C : World → Prop} {m fuel : Nat} {listed : Array Bool} {a : Act} {w : World} (T : List Nat) (hf : T.length = fuel) (hm : listed.getD m false = true ∨ ∀ w, C w) (hB : Region.forced md ops T listed = true)
    (H : wpList P ops Q (pickOps ops.toList T) a w) : wpAnyG P md ops Q (Gate C m) fuel listed a w := by
  subst hf
  rcases hm with hm | hm
  · exact wpAnyG_last T listed a w hm hB H
  · induction T generalizing listed a w with
    | nil => exact ⟨by simpa [Region.forced] using hB, H⟩
    | cons i l ih =>
      simp only [Region.forced, Bool.and_eq_true, decide_eq_true_eq] at hB
      refine ⟨fun h1 => (by rw [hB.1] at h1; cases h1), fun j hj => ?_⟩
      have hj2 := hj
      rw [hB.1] at hj
      have hij : j = i := by simpa using hj
      subst hij
      obtain ⟨_, oj, hoj, _⟩ := mem_ready.1 hj2
      have hp : pickOps ops.toList (j :: l) = oj :: pickOps ops.toList l := by simp [pickOps, hoj]
      rw [hp] at H
      have hw : wpOp P ops Q j (wpList P ops Q (pickOps ops.toList l)) a w := by unfold wpOp; simp only [hoj]; exact H
      exact wpOp_mono (fun a' w' h' => ⟨fun _ => hm w', ih hB.2 h'⟩) hw
/-- The last operations, in their forced order, the first of them being the gate. -/
theorem wpAnyG_gate {C : World → Prop} {m fuel : Nat} {listed : Array Bool} {a : Act} {w : World} (T : List Nat) (hf : (m :: T).length = fuel) (hm : m < listed.size) (hB : Region.forced md ops (m :: T) listed = true)
    (H : wpList P ops Q (pickOps ops.toList (m :: T)) a w) : wpAnyG P md ops Q (Gate C m) fuel listed a w := by
  subst hf
  simp only [Region.forced, Bool.and_eq_true, decide_eq_true_eq] at hB
  refine ⟨fun h1 => (by rw [hB.1] at h1; cases h1), fun j hj => ?_⟩
  have hj2 := hj
  rw [hB.1] at hj
  have hij : j = m := by simpa using hj
  subst hij
  obtain ⟨_, oj, hoj, _⟩ := mem_ready.1 hj2
  have hp : pickOps ops.toList (j :: T) = oj :: pickOps ops.toList T := by simp [pickOps, hoj]
  rw [hp] at H
  have hm' : (listed.setIfInBounds j true).getD j false = true := by simp [hm]
  have hw : wpOp P ops Q j (wpList P ops Q (pickOps ops.toList T)) a w := by unfold wpOp; simp only [hoj]; exact H
  exact wpOp_mono (fun a' w' h' => ⟨fun h0 => (by rw [hm'] at h0; cases h0), wpAnyG_last T _ a' w' hm' hB.2 h'⟩) hw

/-- The look whether what has come up is closed. -/
def Region.closedB (md : Region.Mode) (ops : Array Oper) (listed : Array Bool) : Bool :=
  decide (listed.size = ops.size) && (List.range ops.size).all fun j => !listed.getD j false || match ops[j]? with | some o => o.after.all fun e => !Region.binds md e || listed.getD e.on false | none => true
theorem closed_of_B {listed : Array Bool} (h : Region.closedB md ops listed = true) : Closed md ops listed := by
  unfold Region.closedB at h
  simp only [Bool.and_eq_true, decide_eq_true_eq, List.all_eq_true, List.mem_range] at h
  refine ⟨h.1, fun j oj hj hl e he hb => ?_⟩
  have hlt : j < ops.size := (Array.getElem?_eq_some_iff.1 hj).1
  have h2 := h.2 j hlt
  rw [hl, hj] at h2
  simp only [Bool.not_true, Bool.false_or] at h2
  have h3 := Array.all_eq_true'.1 h2 e he
  rw [hb] at h3
  simpa using h3
/-- In the midst: operations that hang on no memory are taken next. -/
theorem wpAnyG_mid {C : World → Prop} {m : Nat} {listed : Array Bool} {a : Act} {w : World} (R : List Nat) (g : Nat) (l2 : Array Bool) {fuel : Nat} (hf : R.length + g = fuel) (hsel : Region.noSelect ops = true)
    (hcl : Region.closedB md ops listed = true) (ht : Region.takes md ops none m R listed = some l2) (hQ : ∀ c (a : Act) d v w, Q (.panic c) (a.put d v) w → Q (.panic c) a w) (hG : Gate C m listed w)
    (h : wpQuiet P ops (fun _ => True) (fun a' => wpAnyG P md ops Q (Gate C m) g l2 a' w) (pickOps ops.toList R) a) : wpAnyG P md ops Q (Gate C m) fuel listed a w := by
  subst hf
  exact wpAnyG_takes (C' := fun _ => True) (gate := none) hsel hQ (fun _ _ _ _ _ _ _ => trivial) (fun a h _ => h) R listed a (closed_of_B hcl) hG ht h
end
end Go.Proofs.YtpfhflkpnjkgkaaDoor
/-
  'GraphOf' of the reference and of the program.
-/

namespace Go.Proofs.YtpfhflkpnjkgkaaDoor
open Go.RowKit

/-- An edge: two different vertices below n, the smaller one first. -/
def PairP (n : Nat) (xs : List Int) : Prop := xs.length = 2 ∧ SetP n xs
instance (n : Nat) (xs : List Int) : Decidable (PairP n xs) := by unfold PairP; infer_instance
theorem PairP.parts {n : Nat} {xs : List Int} (h : PairP n xs) : ∃ u v : Nat, u < v ∧ v < n ∧ xs = [(u : Int), (v : Int)] := by
  obtain ⟨h1, h2, h3⟩ := h
  match xs, h1 with
  | [x, y], _ =>
    have hx := h2 x (by simp)
    have hy := h2 y (by simp)
    have hxy : x < y := by simpa using h3
    exact ⟨x.toNat, y.toNat, by omega, by omega, by rw [Int.toNat_of_nonneg hx.1, Int.toNat_of_nonneg hy.1]⟩

/-- The edges of a list, laid one by one. -/
def laidE (es : List (List Int)) : Nat → Nat → Bool := es.foldl (fun f xs => plus f (xs.getD 0 0).toNat (xs.getD 1 0).toNat) (fun _ _ => false)
theorem laidE_succ {es : List (List Int)} {k : Nat} {u v : Nat} (h : es[k]? = some [(u : Int), (v : Int)]) : laidE (es.take (k + 1)) = plus (laidE (es.take k)) u v := by
  unfold laidE
  rw [take_snoc h, List.foldl_append]
  simp

/-- 'GraphOf' gives a graph. -/
def OkE (n : Int) (es : List (List Int)) : Prop := (1 ≤ n ∧ n ≤ 16) ∧ es.length ≤ 120 ∧ ∀ e ∈ es, PairP n.toNat e

theorem ok_snoc {n : Nat} {es : List (List Int)} {k : Nat} {xs : List Int} (hx : es[k]? = some xs) (h : ∀ e ∈ es.take k, PairP n e) (h1 : PairP n xs) : ∀ e ∈ es.take (k + 1), PairP n e := by
  rw [take_snoc hx]
  intro e he
  rcases List.mem_append.1 he with he | he
  · exact h e he
  · rw [List.mem_singleton.1 he]; exact h1

theorem set_is (v : Value) (xs : List Int) (n : Nat) (hn : n ≤ 1000000) (b : Bool) (h : decide (SetP n xs) = b) (w : World) (hr : Row w 1 v xs.length (ints xs)) :
    Calls Tryd.prog 63 #[v, .int .i64 n] w fun e w' => e = .returned (.bool b) ∧ Below w.heap.size w w' := by
  subst h; exact set_any v xs n hn w hr

theorem pair_cells {w : World} {u : Value} {x y : Int} (h : Row w 1 u 2 (ints [x, y])) :
    ∃ b o c, u = .slice (some ⟨b, o, none⟩) 2 c ∧ w.cell? ⟨b, o, none⟩ = some (.int .i64 x) ∧ w.cell? ⟨b, o + 1, none⟩ = some (.int .i64 y) := by
  obtain ⟨a, c, rfl, h1, h2, h3, h4, h5⟩ := h
  obtain ⟨b, o, rfl, hc⟩ := h5 0 (.int .i64 x) rfl
  obtain ⟨b', o', e, hc'⟩ := h5 1 (.int .i64 y) rfl
  obtain ⟨rfl, rfl⟩ : b = b' ∧ o = o' := by simpa using e
  exact ⟨b, o, c, rfl, hc, hc'⟩

end Go.Proofs.YtpfhflkpnjkgkaaDoor
