import Derived.Deep.QuietTactic
import Derived.BigQuiet
import Derived.Test.YtbhobmngnjfgfaaDoorGq00
import Derived.Test.YtbhobmngnjfgfaaDoorGq01
import Derived.Test.YtbhobmngnjfgfaaDoorGq02
/-
  The program's 'nets': 'join', 'graph'.
-/





namespace Go.Proofs.YtbhobmngnjfgfaaDoor
open Go.RowKit

def sets (ms : List Nat) : List Value := ms.map fun (m : Nat) => Value.int .u32 m
@[simp] theorem sets_length (ms : List Nat) : (sets ms).length = ms.length := by simp [sets]
theorem bits_or {a b : Nat} (ha : a < 4294967296) (hb : b < 4294967296) : bits BinOp.or IntKind.u32 (a : Int) (b : Int) = ((a ||| b : Nat) : Int) := u32_or_nat a b ha hb


def joinS (ms : List Nat) (u v : Nat) : List Nat :=
  let ns := ms.set u (ms.getD u 0 ||| 2 ^ v)
  ns.set v (ns.getD v 0 ||| 2 ^ u)

/-- All are sets of 32 bits. -/
def Small (ms : List Nat) : Prop := ∀ m ∈ ms, m < 4294967296
theorem Small.set {ms : List Nat} (h : Small ms) (u : Nat) {x : Nat} (hx : x < 4294967296) : Small (ms.set u x) := by
  intro m hm
  rcases List.mem_or_eq_of_mem_set hm with hm | rfl
  · exact h m hm
  · exact hx
theorem Small.getD {ms : List Nat} (h : Small ms) (u : Nat) : ms.getD u 0 < 4294967296 := by
  by_cases hu : u < ms.length
  · have : ms.getD u 0 = ms[u] := by simp [List.getD, hu]
    rw [this]; exact h _ (List.getElem_mem hu)
  · simp [List.getD, List.getElem?_eq_none (Nat.le_of_not_lt hu)]
theorem or_small {a b : Nat} (ha : a < 4294967296) (hb : b < 4294967296) : a ||| b < 4294967296 := by
  have := @Nat.or_lt_two_pow a b 32 (by rw [two32]; exact ha) (by rw [two32]; exact hb)
  rwa [two32] at this
theorem pow_small {v : Nat} (h : v < 32) : 2 ^ v < 4294967296 := by
  have := Nat.pow_lt_pow_right (a := 2) (by decide) h
  rwa [two32] at this
theorem Small.join {ms : List Nat} (h : Small ms) {u v : Nat} (hu : u < 32) (hv : v < 32) : Small (joinS ms u v) := by
  have h1 := h.set u (or_small (h.getD u) (pow_small hv))
  exact h1.set v (or_small (h1.getD v) (pow_small hu))
@[simp] theorem joinS_length (ms : List Nat) (u v : Nat) : (joinS ms u v).length = ms.length := by simp [joinS]
theorem sets_set (ms : List Nat) (u x : Nat) : sets (ms.set u x) = (sets ms).set u (.int .u32 (x : Nat)) := by simp [sets, List.map_set]
theorem sets_at {ms : List Nat} {u : Nat} (h : u < ms.length) : (sets ms)[u]? = some (.int .u32 ((ms.getD u 0 : Nat) : Int)) := by simp [sets, List.getD, h]

theorem grown_trans {w w1 w2 : World} {r : Option Nat} (h : w.grownBy w1 r) (h' : w1.grownBy w2 r) : w.grownBy w2 r :=
  ⟨h'.os.trans h.os, h'.tape.trans h.tape, h'.output.trans h.output, Nat.le_trans h.size h'.size, fun k hk hne => (h'.block k (Nat.lt_of_lt_of_le hk h.size) hne).trans (h.block k hk hne)⟩
theorem grown_drew {w w1 : World} {r : Option Nat} (h : w.grownBy w1 r) : w.grownBy w1.drew r := ⟨h.os, h.tape, h.output, h.size, h.block⟩

set_option maxHeartbeats 400000 in
theorem join_any (base : Nat) (g n cap : Nat) (ms : List Nat) (hn : ms.length = n) (hs : Small ms) (u v : Nat) (hu : u < n) (hv : v < n) (hun : u < 32) (hvn : v < 32) (w : World)
    (ho : w.ownsRow base 98 1 (.slice (some ⟨g, 0, none⟩) n cap) n (sets ms)) :
    Calls Tryd.prog 129 #[.slice (some ⟨g, 0, none⟩) n cap, .int .i64 u, .int .i64 v] w fun e w' => e = .returned (.tuple #[]) ∧
      w'.ownsRow base 98 1 (.slice (some ⟨g, 0, none⟩) n cap) n (sets (joinS ms u v)) ∧ w.grownBy w' (some g) := by
  have hf : w.frozen? ⟨g, u, none⟩ = false := ho.frozenAt u
  have hx : w.cell? ⟨g, u, none⟩ = some (.int .u32 ((ms.getD u 0 : Nat) : Int)) := by rw [ho.cellAt u (by omega), sets_at (by omega)]
  have hb : bits BinOp.or IntKind.u32 ((ms.getD u 0 : Nat) : Int) ((2 ^ v : Nat) : Int) = ((ms.getD u 0 ||| 2 ^ v : Nat) : Int) := bits_or (hs.getD u) (pow_small hvn)
  have hst := ho.stored u (.int .u32 ((ms.getD u 0 ||| 2 ^ v : Nat) : Int))
  rw [← sets_set] at hst
  have hs1 := hs.set u (or_small (hs.getD u) (pow_small hvn))
  have hn1 : (ms.set u (ms.getD u 0 ||| 2 ^ v)).length = n := by simpa using hn
  have hJ : joinS ms u v = (ms.set u (ms.getD u 0 ||| 2 ^ v)).set v ((ms.set u (ms.getD u 0 ||| 2 ^ v)).getD v 0 ||| 2 ^ u) := rfl
  rw [hJ]
  clear hJ
  generalize ms.set u (ms.getD u 0 ||| 2 ^ v) = ns at *
  generalize ms.getD u 0 ||| 2 ^ v = y at *
  generalize ms.getD u 0 = x at *
  have hp : ((2 : Int) ^ v) = ((2 ^ v : Nat) : Int) := by simp
  rw [← hp] at hb
  clear hp
  go_enter Tryd.func129, Tryd.ntmps129
  go_wp2_with fail
  refine wp_region_ord [0, 1, 2, 4] [3] [5] [6, 7, 8] (by kernel_rfl) (by kernel_rfl) (fun _ _ d _ _ h => by cases d <;> exact h) ?_
  simp only [pickOps, List.filterMap_cons, List.filterMap_nil, List.getElem?_cons_succ, List.getElem?_cons_zero]
  repeat quiet_step (fail)
  refine wpSegs_cons ?_
  go_wp2_with (go_at_call 106; refine (one_any _ v rfl hvn _).mono ?_; rintro e w' ⟨rfl, rfl⟩)
  refine ⟨(Below.refl _ _).drew, wpSegs_nil ?_⟩
  go_wp2_with fail
  have hg1 := grown_drew hst.2
  have ho1 := hst.1.drew
  clear hst hf hx hb ho hs
  generalize World.drew _ = w1 at *
  have hf : w1.frozen? ⟨g, v, none⟩ = false := ho1.frozenAt v
  have hx : w1.cell? ⟨g, v, none⟩ = some (.int .u32 ((ns.getD v 0 : Nat) : Int)) := by rw [ho1.cellAt v (by omega), sets_at (by omega)]
  have hb : bits BinOp.or IntKind.u32 ((ns.getD v 0 : Nat) : Int) ((2 ^ u : Nat) : Int) = ((ns.getD v 0 ||| 2 ^ u : Nat) : Int) := bits_or (hs1.getD v) (pow_small hun)
  have hst := ho1.stored v (.int .u32 ((ns.getD v 0 ||| 2 ^ u : Nat) : Int))
  rw [← sets_set] at hst
  have HY : ∃ y2, Hid (ns.getD v 0 ||| 2 ^ u = y2) := ⟨_, Lib.hid rfl⟩
  obtain ⟨y2, HY⟩ := HY
  rw [HY.out] at hb hst
  have HX : ∃ x2, Hid (ns.getD v 0 = x2) := ⟨_, Lib.hid rfl⟩
  obtain ⟨x2, HX⟩ := HX
  rw [HX.out] at hb hx
  have hp : ((2 : Int) ^ u) = ((2 ^ u : Nat) : Int) := by simp
  rw [← hp] at hb
  clear hp
  refine wp_region_ord [0, 1, 2, 4] [3] [5] [6, 7, 8] (by kernel_rfl) (by kernel_rfl) (fun _ _ d _ _ h => by cases d <;> exact h) ?_
  simp only [pickOps, List.filterMap_cons, List.filterMap_nil, List.getElem?_cons_succ, List.getElem?_cons_zero]
  repeat quiet_step (fail)
  refine wpSegs_cons ?_
  go_wp2_with (go_at_call 106; refine (one_any _ u rfl hun _).mono ?_; rintro e w' ⟨rfl, rfl⟩)
  refine ⟨(Below.refl _ _).drew, wpSegs_nil ?_⟩
  go_wp2_with fail
  go_end0
  exact ⟨rfl, by rw [HY.out]; exact hst.1.drew, grown_trans hg1 (grown_drew hst.2)⟩

theorem infoR : (Tryd.prog.info? 30).map (fun i => (i.zero, i.size, i.bytes)) = some (some (.slice none 0 0), 1, 24) := by kernel_rfl

theorem Row.setAt {w : World} {a : Option Addr} {len cap n : Nat} {ms : List Nat} (h : Row w 1 (.slice a len cap) n (sets ms)) {j : Nat} (hj : j < ms.length) :
    ∃ b o x, a = some ⟨b, o, none⟩ ∧ w.cell? ⟨b, o + j, none⟩ = some (.int .u32 ((x : Nat) : Int)) ∧ Hid (ms[j]? = some x) := by
  obtain ⟨a', cap', e, h1, h2, h3, h4, h5⟩ := h
  obtain ⟨rfl, rfl, rfl⟩ : a' = a ∧ n = len ∧ cap' = cap := by simpa [eq_comm] using e
  obtain ⟨b, o, rfl, hc⟩ := h5 j (.int .u32 ((ms[j] : Nat) : Int)) (by simp [sets, hj])
  exact ⟨b, o, ms[j], rfl, hc, Lib.hid (by simp [hj])⟩

theorem map_ints_inj {xss yss : List (List Int)} (h : xss.map ints = yss.map ints) : xss = yss := by
  refine (List.map_inj_right (f := ints) ?_).1 h
  intro a b hab
  exact (List.map_inj_right (f := Value.int .i64) (by intro x y e; simpa using e)).1 hab
theorem ints_inj {xs ys : List Int} (h : ints xs = ints ys) : xs = ys :=
  (List.map_inj_right (f := Value.int .i64) (by intro x y e; simpa using e)).1 h

theorem RdG.intsAt {w : World} {vs : List Value} {xss : List (List Int)} {a : Option Addr} {len cap : Nat} (h : RdG w (.slice a len cap) vs (xss.map ints)) {k : Nat} (hk : k < xss.length) :
    ∃ b o u xs, a = some ⟨b, o, none⟩ ∧ w.cell? ⟨b, o + k, none⟩ = some u ∧ Row w 1 u xs.length (ints xs) ∧ Hid (vs[k]? = some u) ∧ Hid (xss[k]? = some xs) := by
  obtain ⟨b, o, u, cs, h1, h2, h3, h4, h5⟩ := h.rowAt (k := k) (by simpa using hk)
  have e : cs = ints xss[k] := by have := h5.out; simpa [hk, eq_comm] using this
  subst e
  exact ⟨b, o, u, xss[k], h1, h2, by simpa using h3, h4, Lib.hid (by simp [hk])⟩

/-- The rows of a graph whose sets of neighbours are ms. -/
def rowsOf (ms : List Nat) : List (List Int) := ms.map nums

theorem infoV : (Tryd.prog.info? 98).map (fun i => (i.zero, i.size, i.bytes)) = some (some (.int .u32 0), 1, 4) := by kernel_rfl
theorem sets_zeros (n : Nat) : List.replicate n (Value.int .u32 0) = sets (List.replicate n 0) := by simp [sets]
theorem small_zeros (n : Nat) : Small (List.replicate n 0) := by
  intro m hm
  rw [List.eq_of_mem_replicate hm]
  decide

theorem join_at (base : Nat) (v : Value) (ms : List Nat) (u x : Nat) (U X : Int) (hU : U = u) (hX : X = x) (hs : Small ms) (hu : u < ms.length) (hx : x < ms.length) (hun : u < 32) (hxn : x < 32) (w : World)
    (ho : w.ownsRow base 98 1 v ms.length (sets ms)) :
    Calls Tryd.prog 129 #[v, .int .i64 U, .int .i64 X] w fun e w' => e = .returned (.tuple #[]) ∧
      w'.ownsRow base 98 1 v ms.length (sets (joinS ms u x)) ∧ w.grownBy w' v.ownBlock := by
  subst hU; subst hX
  obtain ⟨g, cap, rfl⟩ := owns_head ho (by omega)
  exact join_any base g ms.length cap ms rfl hs u x hu hx hun hxn w ho

set_option maxHeartbeats 400000 in
theorem graph_any (v : Value) (ms : List Nat) (hs : Small ms) (hn : ms.length ≤ 1000000) (w : World) (ht : Tab w) (hr : Row w 1 v ms.length (sets ms)) :
    Calls Tryd.prog 130 #[v] w fun e w' => ∃ u vs, e = .returned (.agg #[u]) ∧
      OwnG w' w.heap.size 30 2 u vs ((rowsOf ms).map ints) ∧ Below w.heap.size w w' := by
  obtain ⟨a, cap, rfl, h1, h2, h3, h4, h5⟩ := id hr
  clear h3 h4 h5
  go_enter Tryd.func130, Tryd.ntmps130
  go_wp2_with fail
  go_loopw [9] (fun i wr => ∃ (k : Nat) (u : Value) (vs : List Value), k ≤ ms.length ∧ i = .int .i64 k ∧ wr.heap[w.heap.size + 1]? = some (.cells #[u] 56 (0, 0)) ∧ (∃ r, wr.heap[w.heap.size]? = some (.cells #[r] 56 (0, 0))) ∧
      OwnG wr (w.heap.size + 2) 30 2 u vs ((rowsOf (ms.take k)).map ints) ∧ Below w.heap.size w wr) (fun i _ => ms.length - (intOf i).toNat)
  case atStart =>
    refine ⟨0, .slice none 0 0, [], Nat.zero_le _, rfl, ?_, ⟨.slice none 0 0, ?_⟩, OwnG.nil _ _ (by decide) (World.ownsRow_nil _ _ _ _), ((Below.refl _ _).alloc (Nat.le_refl _) _).alloc (by simp) _⟩
    · have := heap_alloc_new (w.alloc (.cells #[Value.slice none 0 0] 56)) (.cells #[Value.slice none 0 0] 56)
      simpa using this
    · rw [Below.heap_alloc _ _ _ (by simp)]
      exact heap_alloc_new w _
  case round =>
    obtain ⟨k, u, vs, hk, rfl, hcu, ⟨r, hcr⟩, hG, hbel⟩ := hrel
    have hcuc := cell_of_one hcu
    have hcuf := free_of_one hcu
    have hcrc := cell_of_one hcr
    have hcrf := free_of_one hcr
    by_cases hlt : k < ms.length
    · obtain ⟨b, o, x, rfl, hc, HX⟩ := (hr.below hbel).setAt hlt
      have hxs : x < 4294967296 := hs x (List.mem_of_getElem? HX.out)
      have hsz := hbel.size
      have hlen := hG.len
      have hlk : vs.length ≤ k := by rw [hlen]; simp [rowsOf]; omega
      have hB1 : w.heap.size + 1 < wr.heap.size := lt_of_block hcu
      have HL := Lib.hid hlen
      clear hlen
      go_wp2_with fail
      refine wp_region_ord [0, 2] [1] [3, 4] [5, 6, 7] (by kernel_rfl) (by kernel_rfl) (fun _ _ d _ _ h => by cases d <;> exact h) ?_
      simp only [pickOps, List.filterMap_cons, List.filterMap_nil, List.getElem?_cons_succ, List.getElem?_cons_zero]
      repeat quiet_step (fail)
      refine wpSegs_cons ?_
      go_wp2_with fail
      refine (numbers_any x hxs wr.drew (ht.below hbel.drew)).mono ?_
      rintro e w1 ⟨v', rfl, ho1, hb1⟩
      have hb1' := below_drew hb1
      obtain ⟨ga, gc, rfl⟩ := owns_shape ho1
      go_wp2_with fail
      refine wpSegs_cons ?_
      have hbs := run_buildOne (P := Tryd.prog) w1 51 30 _ (.slice ga (nums x).length gc) _ Tryd.underlying51 infoR rfl rfl
      go_wp2_with fail
      clear hbs
      refine ⟨hb1'.alloc hb1'.size _, wpSegs_nil ?_⟩
      refine wpList_push _ rfl _ _ 51 rfl (w.heap.size + 2) 30 _ _ 24 Tryd.underlying51 infoR rfl _ _ _ rfl (hG.below hb1').outer _ rfl rfl (by unfold maxLen; omega) (by omega) (by have := hb1'.size; omega) ?_
      intro g2 c2 w2 ho2 hg2
      have hlt2 : ∀ b, u.ownBlock = some b → w.heap.size + 2 ≤ b := fun b hb => (owns_lt hG.outer hb).1
      have hcu2 : w2.heap[w.heap.size + 1]? = some (.cells #[u] 56 (0, 0)) := by
        rw [hg2.block _ (by have := hb1'.size; omega) (fun e => by have := hlt2 _ e.symm; omega), hb1'.block _ hB1]; exact hcu
      have hcr2 : w2.heap[w.heap.size]? = some (.cells #[r] 56 (0, 0)) := by
        rw [hg2.block _ (by have := hb1'.size; omega) (fun e => by have := hlt2 _ e.symm; omega), hb1'.block _ (by omega)]; exact hcr
      have hcuc2 := cell_of_one hcu2
      have hcuf2 := free_of_one hcu2
      have hG2 := hG.push (cs := ints (nums x)) hb1' (by simpa using ho1) (Nat.le_refl _) (by omega) ho2 hg2
      have hb2 : Below w.heap.size w w2 := (hbel.trans (hb1'.mono hsz)).grown hg2 (by have := hb1'.size; omega) (fun b hb => by have := hlt2 b hb; omega)
      clear hG ho2 hg2 hcu hcr hcuc hcuf hcrc hcrf hc hbel hb1 hb1' ho1 hlt2
      go_wp2_with fail
      go_roundw
      case rel =>
        refine ⟨k + 1, .slice (some ⟨g2, 0, none⟩) (vs.length + 1) c2, vs ++ [.slice ga (nums x).length gc], by omega, by go_num, one_setCell hcu2, ⟨r, by rw [Below.heap_setCell _ _ _ _ (by simp)]; exact hcr2⟩, ?_, hb2.setCell (by simp) _⟩
        have hG3 : OwnG (w2.setCell ⟨w.heap.size + 1, 0, none⟩ (.slice (some ⟨g2, 0, none⟩) (vs.length + 1) c2)) (w.heap.size + 2) 30 2 (.slice (some ⟨g2, 0, none⟩) (vs.length + 1) c2) _ _ := hG2.other (by simp) _
        rw [take_snoc HX.out]
        simpa [rowsOf] using hG3
      case measure => simp [intOf]; omega
    · obtain ⟨ua, uc, rfl⟩ := owns_shape hG.outer
      go_wp2_with fail
      have hce := cell_of_one (one_setCell (u := .slice ua vs.length uc) hcr)
      refine bodyPost_ret (v := .agg #[.slice ua vs.length uc]) (by simp [results, Tryd.results130, go_sem, hce]) rfl ?_
      have e : ms.take k = ms := List.take_of_length_le (by omega)
      rw [e] at hG
      exact ⟨_, vs, rfl, (hG.other (by simp) _).rebase (by omega), hbel.setCell (by simp) _⟩
end Go.Proofs.YtbhobmngnjfgfaaDoor
/-
  The laws' helpers for slices of numbers: 'eqInt64S', 'markInt64S', 'heldInt64S', and those for slices of these.
-/

namespace Go.Proofs.YtbhobmngnjfgfaaDoor
open Go.RowKit

set_option maxHeartbeats 400000 in
theorem eqS_any (v1 v2 : Value) (xs ys : List Int) (w : World) (h1 : Row w 1 v1 xs.length (ints xs)) (h2 : Row w 1 v2 ys.length (ints ys)) :
    Calls Tryd.prog 19 #[v1, v2] w fun e w' => e = .returned (.bool (decide (xs = ys))) ∧ Below w.heap.size w w' := by
  have hl := h1.len
  have hl2 := h2.len
  unfold maxLen at hl hl2
  obtain ⟨a1, c1, rfl, -, -, -⟩ := id h1
  obtain ⟨a2, c2, rfl, -, -, -⟩ := id h2
  by_cases hlen : xs.length = ys.length
  · have hb : ((xs.length : Int) != ys.length) = false := by simp [hlen]
    have HL := Lib.hid hlen
    clear hlen
    go_enter Tryd.func19, Tryd.ntmps19
    go_wp2_with fail
    go_loopw [5] (fun i wr => ∃ k : Nat, k ≤ xs.length ∧ i = .int .i64 k ∧ xs.take k = ys.take k ∧ Below w.heap.size w wr) (fun i _ => xs.length - (intOf i).toNat)
    case atStart => exact ⟨0, Nat.zero_le _, rfl, rfl, Below.refl _ _⟩
    case round =>
      obtain ⟨k, hk, rfl, heq, hbel⟩ := hrel
      have HE := Lib.hid heq
      clear heq
      by_cases hlt : k < xs.length
      · have hlt2 : k < ys.length := by have := HL.out; omega
        obtain ⟨b, o, x, rfl, hc, HX⟩ := (h1.below hbel).intAt hlt
        obtain ⟨b', o', y, rfl, hc', HY⟩ := (h2.below hbel).intAt hlt2
        by_cases hxy : x = y
        · have hn : (x != y) = false := by simp [hxy]
          have HXY := Lib.hid hxy
          clear hxy
          go_wp2_with fail
          refine wp_region_ord [0, 1, 2, 4, 5, 6] [3, 7, 8] [] [] (by kernel_rfl) (by kernel_rfl) (fun _ _ d _ _ h => by cases d <;> exact h) ?_
          simp only [pickOps, List.filterMap_cons, List.filterMap_nil, List.getElem?_cons_succ, List.getElem?_cons_zero]
          repeat quiet_step (fail)
          simp only [wpQuiet_nil_eq, wpSegs_nil_eq]
          go_wp2_with fail
          go_roundw
          case rel => exact ⟨k + 1, by omega, by go_num, by rw [take_snoc HX.out, take_snoc HY.out, HE.out, HXY.out], hbel.drew⟩
          case measure => simp [intOf]; omega
        · have hn : (x != y) = true := by simpa using hxy
          go_wp2_with fail
          refine wp_region_ord [0, 1, 2, 4, 5, 6] [3, 7, 8] [] [] (by kernel_rfl) (by kernel_rfl) (fun _ _ d _ _ h => by cases d <;> exact h) ?_
          simp only [pickOps, List.filterMap_cons, List.filterMap_nil, List.getElem?_cons_succ, List.getElem?_cons_zero]
          repeat quiet_step (fail)
          simp only [wpQuiet_nil_eq, wpSegs_nil_eq]
          go_wp2_with fail
          go_ret
          refine ⟨ret_bool (by rw [Bool.eq_iff_iff]; simp; intro e; subst e; have h1 := HX.out; rw [HY.out] at h1; exact hxy (Option.some.inj h1).symm), hbel.drew⟩
      · go_wp2_with fail
        go_ret
        refine ⟨ret_bool (by rw [Bool.eq_iff_iff]; simp; have := HE.out; rwa [List.take_of_length_le (by omega), List.take_of_length_le (by have := HL.out; omega)] at this), hbel⟩
  · have hb : ((xs.length : Int) != ys.length) = true := by simp; omega
    go_enter Tryd.func19, Tryd.ntmps19
    go_wp2_with fail
    go_ret
    exact ⟨ret_bool (by rw [Bool.eq_iff_iff]; simp; intro e; subst e; exact hlen rfl), Below.refl _ _⟩

/-- n numbers from k on. -/
def from_ (k n : Nat) : List Int := (List.range n).map fun (i : Nat) => ((k + i : Nat) : Int)
@[simp] theorem from_length (k n : Nat) : (from_ k n).length = n := by simp [from_]
theorem from_at {k n i : Nat} (h : i < n) : (from_ k n)[i]? = some ((k + i : Nat) : Int) := by simp [from_, h]

set_option maxHeartbeats 400000 in
theorem markS_any (v : Value) (n : Nat) (cs : List Value) (base : Nat) (k : Nat) (hk : k + n ≤ 1000000000) (w : World) (ho : w.ownsRow base 2 1 v n cs) :
    Calls Tryd.prog 22 #[v, .int .i64 k] w fun e w' => e = .returned (.int .i64 ((k + n : Nat) : Int)) ∧ w'.ownsRow base 2 1 v n (ints (from_ k n)) ∧ w.grownBy w' v.ownBlock := by
  obtain ⟨a, cap, rfl⟩ := owns_shape ho
  have hcl := owns_len ho
  have HCL := Lib.hid hcl
  clear hcl
  go_enter Tryd.func22, Tryd.ntmps22
  go_wp2_with fail
  go_loopw [1, 5] (fun q i wr => ∃ j : Nat, j ≤ n ∧ i = .int .i64 j ∧ q = .int .i64 ((k : Int) + j) ∧ wr.ownsRow base 2 1 (.slice a n cap) n (ints (from_ k j) ++ cs.drop j) ∧ w.grownBy wr (Value.slice a n cap).ownBlock) (fun _ i _ => n - (intOf i).toNat)
  case atStart => exact ⟨0, Nat.zero_le _, rfl, by simp, by simpa [from_, ints] using ho, ⟨rfl, rfl, rfl, Nat.le_refl _, fun _ _ _ => rfl⟩⟩
  case round =>
    obtain ⟨j, hj, rfl, rfl, hown, hg⟩ := hrel
    by_cases hlt : j < n
    · obtain ⟨g, c2, he⟩ := owns_head hown (by omega)
      obtain ⟨rfl, rfl⟩ : a = some ⟨g, 0, none⟩ ∧ cap = c2 := by simpa using he
      have hf : wr.frozen? ⟨g, j, none⟩ = false := hown.frozenAt j
      have hc : wr.cell? ⟨g, j, none⟩ = some (cs[j]'(by have := HCL.out; omega)) := by
        rw [hown.cellAt j (by omega), List.getElem?_append_right (by simp)]
        have := HCL.out
        simp
      have hst := hown.stored j (.int .i64 ((k : Int) + j))
      have e : (ints (from_ k j) ++ cs.drop j).set j (.int .i64 ((k : Int) + j)) = ints (from_ k (j + 1)) ++ cs.drop (j + 1) := by
        have hd : cs.drop j = cs[j]'(by have := HCL.out; omega) :: cs.drop (j + 1) := List.drop_eq_getElem_cons _
        rw [hd, List.set_append, if_neg (by simp), show j - (ints (from_ k j)).length = 0 by simp, List.set_cons_zero]
        simp [from_, ints, List.range_succ]
      rw [e] at hst
      clear e he
      obtain ⟨c, hcc⟩ : ∃ c, wr.cell? ⟨g, j, none⟩ = some c := ⟨_, hc⟩
      clear hc
      go_wp2_with fail
      go_roundw
      case rel => exact ⟨j + 1, by omega, by go_num, by go_num, hst.1, grown_trans hg hst.2⟩
      case measure => simp [intOf]; omega
    · go_wp2_with fail
      go_ret
      obtain rfl : j = n := by omega
      refine ⟨ret_int (by omega), ?_, hg⟩
      rw [List.drop_of_length_le (by have := HCL.out; omega), List.append_nil] at hown
      exact hown

set_option maxHeartbeats 400000 in
theorem heldS_any (v : Value) (n : Nat) (k : Nat) (hk : k + n ≤ 1000000000) (w : World) (hr : Row w 1 v n (ints (from_ k n))) :
    Calls Tryd.prog 23 #[v, .int .i64 k] w fun e w' => e = .returned (.int .i64 ((k + n : Nat) : Int)) ∧ w = w' := by
  obtain ⟨a, cap, rfl, -, -, -⟩ := id hr
  go_enter Tryd.func23, Tryd.ntmps23
  go_wp2_with fail
  go_loop [1, 5] (fun q i => ∃ j : Nat, j ≤ n ∧ i = .int .i64 j ∧ q = .int .i64 ((k : Int) + j)) (fun _ i => n - (intOf i).toNat)
  case atStart => exact ⟨0, Nat.zero_le _, rfl, by simp⟩
  case round =>
    obtain ⟨j, hj, rfl, rfl⟩ := hrel
    by_cases hlt : j < n
    · obtain ⟨b, o, x, rfl, hc, HX⟩ := hr.intAt (xs := from_ k n) (j := j) (by simpa using hlt)
      have hx : x = (k : Int) + j := by have := HX.out; rw [from_at hlt] at this; have := Option.some.inj this; omega
      subst hx
      have hne : ((k : Int) + j != (k : Int) + j) = false := by simp
      go_wp2_with fail
      go_round
      case rel => exact ⟨j + 1, by omega, by go_num, by go_num⟩
      case measure => simp [intOf]; omega
    · go_wp2_with fail
      go_ret
      exact ⟨ret_int (by omega), rfl⟩
end Go.Proofs.YtbhobmngnjfgfaaDoor
/-
  The laws' helpers for slices of slices of numbers and for graphs: 'eqInt64SS', 'markInt64SS', 'heldInt64SS', 'eqGraph', 'markGraph', 'heldGraph'.
-/

namespace Go.Proofs.YtbhobmngnjfgfaaDoor
open Go.RowKit

set_option maxHeartbeats 400000 in
theorem eqSS_any (v1 v2 : Value) (vs1 vs2 : List Value) (xss yss : List (List Int)) (w : World) (h1 : RdG w v1 vs1 (xss.map ints)) (h2 : RdG w v2 vs2 (yss.map ints)) :
    Calls Tryd.prog 96 #[v1, v2] w fun e w' => e = .returned (.bool (decide (xss = yss))) ∧ Below w.heap.size w w' := by
  have hl := h1.outer.len
  have hl2 := h2.outer.len
  unfold maxLen at hl hl2
  have e1 : vs1.length = xss.length := by simpa using h1.len
  have e2 : vs2.length = yss.length := by simpa using h2.len
  obtain ⟨a1, c1, rfl, -, -, -⟩ := id h1.outer
  obtain ⟨a2, c2, rfl, -, -, -⟩ := id h2.outer
  rw [e1] at h1 hl ⊢
  rw [e2] at h2 hl2 ⊢
  clear e1 e2
  by_cases hlen : xss.length = yss.length
  · have hb : ((xss.length : Int) != yss.length) = false := by simp [hlen]
    have HL := Lib.hid hlen
    clear hlen
    go_enter Tryd.func96, Tryd.ntmps96
    go_wp2_with fail
    go_loopw [5] (fun i wr => ∃ k : Nat, k ≤ xss.length ∧ i = .int .i64 k ∧ xss.take k = yss.take k ∧ Below w.heap.size w wr) (fun i _ => xss.length - (intOf i).toNat)
    case atStart => exact ⟨0, Nat.zero_le _, rfl, rfl, Below.refl _ _⟩
    case round =>
      obtain ⟨k, hk, rfl, heq, hbel⟩ := hrel
      have HE := Lib.hid heq
      clear heq
      by_cases hlt : k < xss.length
      · have hlt2 : k < yss.length := by have := HL.out; omega
        obtain ⟨b, o, u, xs, rfl, hc, hu, -, HX⟩ := (h1.below hbel).intsAt hlt
        obtain ⟨b', o', u', ys, rfl, hc', hu', -, HY⟩ := (h2.below hbel).intsAt hlt2
        by_cases hxy : xs = ys
        · have hd : decide (xs = ys) = true := by simp [hxy]
          have HXY := Lib.hid hxy
          clear hxy
          go_wp2_with fail
          refine wp_region_ord [0, 1, 2, 4, 5, 6] [3, 7] [] [8, 9] (by kernel_rfl) (by kernel_rfl) (fun _ _ d _ _ h => by cases d <;> exact h) ?_
          simp only [pickOps, List.filterMap_cons, List.filterMap_nil, List.getElem?_cons_succ, List.getElem?_cons_zero]
          repeat quiet_step (fail)
          simp only [wpQuiet_nil_eq, wpSegs_nil_eq]
          go_wp2_with fail
          refine (eqS_any u u' xs ys wr.drew hu hu').mono ?_
          rintro e w1 ⟨rfl, hb1⟩
          rw [hd]
          go_wp2_with fail
          go_roundw
          case rel => exact ⟨k + 1, by omega, by go_num, by rw [take_snoc HX.out, take_snoc HY.out, HE.out, HXY.out], hbel.trans ((below_drew hb1).mono hbel.size)⟩
          case measure => simp [intOf]; omega
        · have hd : decide (xs = ys) = false := by simp [hxy]
          go_wp2_with fail
          refine wp_region_ord [0, 1, 2, 4, 5, 6] [3, 7] [] [8, 9] (by kernel_rfl) (by kernel_rfl) (fun _ _ d _ _ h => by cases d <;> exact h) ?_
          simp only [pickOps, List.filterMap_cons, List.filterMap_nil, List.getElem?_cons_succ, List.getElem?_cons_zero]
          repeat quiet_step (fail)
          simp only [wpQuiet_nil_eq, wpSegs_nil_eq]
          go_wp2_with fail
          refine (eqS_any u u' xs ys wr.drew hu hu').mono ?_
          rintro e w1 ⟨rfl, hb1⟩
          rw [hd]
          go_wp2_with fail
          go_ret
          refine ⟨ret_bool (by rw [Bool.eq_iff_iff]; simp; intro e; subst e; have h1 := HX.out; rw [HY.out] at h1; exact hxy (Option.some.inj h1).symm), hbel.trans ((below_drew hb1).mono hbel.size)⟩
      · go_wp2_with fail
        go_ret
        refine ⟨ret_bool (by rw [Bool.eq_iff_iff]; simp; have := HE.out; rwa [List.take_of_length_le (by omega), List.take_of_length_le (by have := HL.out; omega)] at this), hbel⟩
  · have hb : ((xss.length : Int) != yss.length) = true := by simp; omega
    go_enter Tryd.func96, Tryd.ntmps96
    go_wp2_with fail
    go_ret
    exact ⟨ret_bool (by rw [Bool.eq_iff_iff]; simp; intro e; subst e; exact hlen rfl), Below.refl _ _⟩

/-- Rows of these lengths, numbered on from k. -/
def number (k : Nat) : List Nat → List (List Int)
  | [] => []
  | n :: ns => from_ k n :: number (k + n) ns
theorem number_snoc (k : Nat) (ns : List Nat) (n : Nat) : number k (ns ++ [n]) = number k ns ++ [from_ (k + ns.sum) n] := by
  induction ns generalizing k with
  | nil => simp [number]
  | cons m ms ih => simp [number, ih, Nat.add_assoc]
@[simp] theorem number_length (k : Nat) (ns : List Nat) : (number k ns).length = ns.length := by
  induction ns generalizing k with
  | nil => rfl
  | cons m ms ih => simp [number, ih]
theorem number_at (k : Nat) (ns : List Nat) (j : Nat) (h : j < ns.length) : (number k ns)[j]? = some (from_ (k + (ns.take j).sum) (ns[j])) := by
  induction ns generalizing k j with
  | nil => simp at h
  | cons m ms ih =>
    cases j with
    | zero => simp [number]
    | succ j => simp [number, ih (k + m) j (by simpa using h), Nat.add_assoc]
theorem sum_take_succ (ns : List Nat) (j : Nat) (h : j < ns.length) : (ns.take (j + 1)).sum = (ns.take j).sum + ns[j] := by
  rw [List.take_succ_eq_append_getElem h, List.sum_append]; simp
theorem sum_take_le (ns : List Nat) (j : Nat) : (ns.take j).sum ≤ ns.sum := by
  have := List.sum_append (l₁ := ns.take j) (l₂ := ns.drop j)
  rw [List.take_append_drop] at this
  omega

set_option maxHeartbeats 400000 in
theorem markSS_any (v : Value) (vs : List Value) (css : List (List Value)) (base : Nat) (k : Nat) (w : World) (hk : k + (css.map List.length).sum ≤ 1000000000) (hn : css.length ≤ 1000000000) (h : OwnG w base 30 2 v vs css) :
    Calls Tryd.prog 107 #[v, .int .i64 k] w fun e w' => e = .returned (.int .i64 ((k + (css.map List.length).sum : Nat) : Int)) ∧
      OwnG w' base 30 2 v vs ((number k (css.map List.length)).map ints) ∧ Wrote w w' (fun b => ∃ u ∈ vs, u.ownBlock = some b) := by
  have hl := h.len
  obtain ⟨a, cap, rfl⟩ := owns_shape h.outer
  obtain ⟨ns, hns⟩ : ∃ ns, css.map List.length = ns := ⟨_, rfl⟩
  have hnl : ns.length = css.length := by rw [← hns]; simp
  rw [hns] at hk ⊢
  have HNS := Lib.hid hns
  clear hns
  rw [← hnl] at hn hl
  rw [hl] at h ⊢
  have HNL := Lib.hid hnl
  clear hnl
  have HVL := Lib.hid hl
  clear hl
  go_enter Tryd.func107, Tryd.ntmps107
  go_wp2_with fail
  go_loopw [1, 5] (fun q i wr => ∃ j : Nat, j ≤ ns.length ∧ i = .int .i64 j ∧ q = .int .i64 ((k + (ns.take j).sum : Nat) : Int) ∧
      OwnG wr base 30 2 (.slice a ns.length cap) vs ((number k (ns.take j)).map ints ++ css.drop j) ∧ Wrote w wr (fun b => ∃ u ∈ vs, u.ownBlock = some b)) (fun _ i _ => ns.length - (intOf i).toNat)
  case atStart => exact ⟨0, Nat.zero_le _, rfl, rfl, by simpa [number] using h, Wrote.refl _ _⟩
  case round =>
    obtain ⟨j, hj, rfl, rfl, hown, hw⟩ := hrel
    have hsl := sum_take_le ns j
    by_cases hlt : j < ns.length
    · obtain ⟨b, o, u, cs, rfl, hc, -, HU, HC⟩ := hown.rd.rowAt (k := j) (by have := HNL.out; simp; omega)
      have hcs : css[j]? = some cs := by
        have := HC.out
        have hlj : ((number k (ns.take j)).map ints).length = j := by simp; omega
        rw [List.getElem?_append_right (by omega), hlj] at this
        simpa using this
      have hnj : cs.length = ns[j] := by
        have h1 := HNS.out
        have : (css.map List.length)[j]? = some cs.length := by simp [hcs]
        rw [h1] at this
        simpa [hlt] using this.symm
      have hss := sum_take_succ ns j hlt
      have hsl2 := sum_take_le ns (j + 1)
      have hb2 : (k + (ns.take j).sum) + cs.length ≤ 1000000000 := by omega
      have HSS : Hid ((ns.take (j + 1)).sum = (ns.take j).sum + cs.length) := by rw [hnj]; exact hss
      have HNJ := Lib.hid hnj
      have HCS := Lib.hid hcs
      clear hss hsl2 hnj hcs hsl
      have hou := hown.rows j u cs HU.out HC.out
      go_wp2_with fail
      refine (markS_any u cs.length cs base (k + (ns.take j).sum) hb2 wr hou).mono ?_
      rintro e w1 ⟨rfl, ho1, hg1⟩
      go_wp2_with fail
      go_roundw
      case rel =>
        refine ⟨j + 1, by omega, by go_num, by rw [HSS.out]; go_num, ?_, hw.trans (Wrote.of_grown hg1) (fun b _ hb => ⟨u, List.mem_of_getElem? HU.out, hb⟩)⟩
        have := hown.write HU.out (cs := ints (from_ (k + (ns.take j).sum) cs.length)) (by simpa using ho1) hg1
        have e : (((number k (ns.take j)).map ints ++ css.drop j).set j (ints (from_ (k + (ns.take j).sum) cs.length))) = (number k (ns.take (j + 1))).map ints ++ css.drop (j + 1) := by
          have hlj : ((number k (ns.take j)).map ints).length = j := by simp; omega
          have hjc : j < css.length := by have := HNL.out; omega
          rw [List.set_append, if_neg (by omega), hlj, Nat.sub_self, List.drop_eq_getElem_cons hjc, List.set_cons_zero, List.take_succ_eq_append_getElem hlt, number_snoc, HNJ.out]
          simp
        rw [e] at this
        exact this
      case measure => simp [intOf]; omega
    · go_wp2_with fail
      go_ret
      have hje : j = ns.length := by omega
      subst hje
      rw [List.take_length] at hown ⊢
      rw [List.drop_of_length_le (by have := HNL.out; omega), List.append_nil] at hown
      exact ⟨rfl, hown, hw⟩

set_option maxHeartbeats 400000 in
theorem eqGraph_any (v1 v2 : Value) (vs1 vs2 : List Value) (xss yss : List (List Int)) (w : World) (h1 : RdG w v1 vs1 (xss.map ints)) (h2 : RdG w v2 vs2 (yss.map ints)) :
    Calls Tryd.prog 34 #[.agg #[v1], .agg #[v2]] w fun e w' => e = .returned (.bool (decide (xss = yss))) ∧ Below w.heap.size w w' := by
  obtain ⟨a1, c1, rfl, -, -, -⟩ := id h1.outer
  obtain ⟨a2, c2, rfl, -, -, -⟩ := id h2.outer
  have hbel : ∀ o1 o2, Below w.heap.size w ((w.alloc o1).alloc o2) := fun o1 o2 => ((Below.refl _ _).alloc (Nat.le_refl _) _).alloc (by simp) _
  go_enter Tryd.func34, Tryd.ntmps34
  go_wp2_with fail
  refine (eqSS_any _ _ vs1 vs2 xss yss _ (h1.below (hbel _ _)) (h2.below (hbel _ _))).mono ?_
  rintro e w1 ⟨rfl, hb1⟩
  have hb2 := (hbel _ _).trans (hb1.mono (hbel _ _).size)
  clear hb1
  by_cases hd : xss = yss
  · have hd' : decide (xss = yss) = true := by simp [hd]
    rw [hd']
    have HD := Lib.hid hd'
    clear hd hd'
    go_wp2_with fail
    go_ret
    exact ⟨by rw [HD.out]; rfl, hb2⟩
  · have hd' : decide (xss = yss) = false := by simp [hd]
    rw [hd']
    have HD := Lib.hid hd'
    clear hd hd'
    go_wp2_with fail
    go_ret
    exact ⟨by rw [HD.out]; rfl, hb2⟩

theorem markGraph_any (v : Value) (vs : List Value) (css : List (List Value)) (base : Nat) (k : Nat) (w : World) (hk : k + (css.map List.length).sum ≤ 1000000000) (hn : css.length ≤ 1000000000) (h : OwnG w base 30 2 v vs css) :
    Calls Tryd.prog 37 #[.agg #[v], .int .i64 k] w fun e w' => e = .returned (.int .i64 ((k + (css.map List.length).sum : Nat) : Int)) ∧
      OwnG w' base 30 2 v vs ((number k (css.map List.length)).map ints) ∧ Wrote w w' (fun b => ∃ u ∈ vs, u.ownBlock = some b) := by
  obtain ⟨a, cap, rfl⟩ := owns_shape h.outer
  go_enter Tryd.func37, Tryd.ntmps37
  go_wp2_with fail
  refine (markSS_any _ vs css base k _ hk hn (h.below ((Below.refl _ _).alloc (Nat.le_refl _) _))).mono ?_
  rintro e w1 ⟨rfl, h1, h2⟩
  go_wp2_with fail
  go_ret
  exact ⟨rfl, h1, ((Wrote.of_below ((Below.refl w.heap.size w).alloc (Nat.le_refl _) _)).mono (fun k hk hk' => (by omega : False).elim)).trans h2 (fun _ _ h => h)⟩

/-- How many numbers there are in rows. -/
def total (rows : List (List Int)) : Nat := (rows.map List.length).sum
theorem total_ints (rows : List (List Int)) : ((rows.map ints).map List.length).sum = total rows := by
  unfold total; rw [List.map_map]; congr 2; funext x; simp

/-- What 'mark' leaves in rows, from 1 on. -/
def marked (rows : List (List Int)) : List (List Int) := number 1 ((rows.map ints).map List.length)

theorem markGraph_1 (v : Value) (vs : List Value) (rows : List (List Int)) (base : Nat) (w : World) (hk : 1 + total rows ≤ 1000000000) (hn : rows.length ≤ 1000000000) (h : OwnG w base 30 2 v vs (rows.map ints)) :
    Calls Tryd.prog 37 #[.agg #[v], .int .i64 1] w fun e w' => e = .returned (.int .i64 (1 + (total rows : Int))) ∧
      OwnG w' base 30 2 v vs ((marked rows).map ints) ∧ Wrote w w' (fun b => ∃ u ∈ vs, u.ownBlock = some b) := by
  refine (markGraph_any v vs (rows.map ints) base 1 w (by rw [total_ints]; exact hk) (by simpa using hn) h).mono ?_
  rintro e w' ⟨rfl, h1, h2⟩
  exact ⟨by rw [total_ints]; exact ret_int (by simp), h1, h2⟩

theorem eqGraph_same (v1 v2 : Value) (vs1 vs2 : List Value) (rows : List (List Int)) (w : World) (h1 : RdG w v1 vs1 (rows.map ints)) (h2 : RdG w v2 vs2 (rows.map ints)) :
    Calls Tryd.prog 34 #[.agg #[v1], .agg #[v2]] w fun e w' => e = .returned (.bool true) ∧ Below w.heap.size w w' :=
  (eqGraph_any v1 v2 vs1 vs2 rows rows w h1 h2).mono fun _ _ ⟨he, hb⟩ => ⟨by rw [he]; exact ret_bool (by simp), hb⟩
end Go.Proofs.YtbhobmngnjfgfaaDoor
