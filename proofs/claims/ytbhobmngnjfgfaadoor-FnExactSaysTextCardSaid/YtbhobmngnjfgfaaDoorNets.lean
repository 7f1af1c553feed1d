/-
  The program's 'nets': 'join', 'graph'.
-/
import Derived.Test.YtbhobmngnjfgfaaDoorSets
import Derived.Test.YtbhobmngnjfgfaaDoorNest
import Derived.Deep.QuietTactic
import Derived.BigQuiet
import Derived.Test.YtbhobmngnjfgfaaDoorOrder
namespace Go.Proofs.YtbhobmngnjfgfaaDoor
open Go.RowKit

def sets (ms : List Nat) : List Value := ms.map fun (m : Nat) => Value.int .u32 m
@[simp] theorem sets_length (ms : List Nat) : (sets ms).length = ms.length := by simp [sets]
theorem bits_or {a b : Nat} (ha : a < 4294967296) (hb : b < 4294967296) : bits BinOp.or IntKind.u32 (a : Int) (b : Int) = ((a ||| b : Nat) : Int) := u32_or_nat a b ha hb


def joinS (ms : List Nat) (u v : Nat) : List Nat :=
  let ns := ms.set u (ms.getD u 0 ||| 2 ^ v)
  ns.set v (ns.getD v 0 ||| 2 ^ u)

/-- All are sets of 32 bits. -/
def Small (ms : List Nat) : Prop := ∀ m ∈ ms, m < 4294967296
theorem Small.set {ms : List Nat} (h : Small ms) (u : Nat) {x : Nat} (hx : x < 4294967296) : Small (ms.set u x) := by
  intro m hm
  rcases List.mem_or_eq_of_mem_set hm with hm | rfl
  · exact h m hm
  · exact hx
theorem Small.getD {ms : List Nat} (h : Small ms) (u : Nat) : ms.getD u 0 < 4294967296 := by
  by_cases hu : u < ms.length
  · have : ms.getD u 0 = ms[u] := by simp [List.getD, hu]
    rw [this]; exact h _ (List.getElem_mem hu)
  · simp [List.getD, List.getElem?_eq_none (Nat.le_of_not_lt hu)]
theorem or_small {a b : Nat} (ha : a < 4294967296) (hb : b < 4294967296) : a ||| b < 4294967296 := by
  have := @Nat.or_lt_two_pow a b 32 (by rw [two32]; exact ha) (by rw [two32]; exact hb)
  rwa [two32] at this
theorem pow_small {v : Nat} (h : v < 32) : 2 ^ v < 4294967296 := by
  have := Nat.pow_lt_pow_right (a := 2) (by decide) h
  rwa [two32] at this
theorem Small.join {ms : List Nat} (h : Small ms) {u v : Nat} (hu : u < 32) (hv : v < 32) : Small (joinS ms u v) := by
  have h1 := h.set u (or_small (h.getD u) (pow_small hv))
  exact h1.set v (or_small (h1.getD v) (pow_small hu))
@[simp] theorem joinS_length (ms : List Nat) (u v : Nat) : (joinS ms u v).length = ms.length := by simp [joinS]
theorem sets_set (ms : List Nat) (u x : Nat) : sets (ms.set u x) = (sets ms).set u (.int .u32 (x : Nat)) := by simp [sets, List.map_set]
theorem sets_at {ms : List Nat} {u : Nat} (h : u < ms.length) : (sets ms)[u]? = some (.int .u32 ((ms.getD u 0 : Nat) : Int)) := by simp [sets, List.getD, h]

theorem grown_trans {w w1 w2 : World} {r : Option Nat} (h : w.grownBy w1 r) (h' : w1.grownBy w2 r) : w.grownBy w2 r :=
  ⟨h'.os.trans h.os, h'.tape.trans h.tape, h'.output.trans h.output, Nat.le_trans h.size h'.size, fun k hk hne => (h'.block k (Nat.lt_of_lt_of_le hk h.size) hne).trans (h.block k hk hne)⟩
theorem grown_drew {w w1 : World} {r : Option Nat} (h : w.grownBy w1 r) : w.grownBy w1.drew r := ⟨h.os, h.tape, h.output, h.size, h.block⟩

set_option maxHeartbeats 400000 in
theorem join_any (base : Nat) (g n cap : Nat) (ms : List Nat) (hn : ms.length = n) (hs : Small ms) (u v : Nat) (hu : u < n) (hv : v < n) (hun : u < 32) (hvn : v < 32) (w : World)
    (ho : w.ownsRow base 98 1 (.slice (some ⟨g, 0, none⟩) n cap) n (sets ms)) :
    Calls Tryd.prog 129 #[.slice (some ⟨g, 0, none⟩) n cap, .int .i64 u, .int .i64 v] w fun e w' => e = .returned (.tuple #[]) ∧
      w'.ownsRow base 98 1 (.slice (some ⟨g, 0, none⟩) n cap) n (sets (joinS ms u v)) ∧ w.grownBy w' (some g) := by
  have hf : w.frozen? ⟨g, u, none⟩ = false := ho.frozenAt u
  have hx : w.cell? ⟨g, u, none⟩ = some (.int .u32 ((ms.getD u 0 : Nat) : Int)) := by rw [ho.cellAt u (by omega), sets_at (by omega)]
  have hb : bits BinOp.or IntKind.u32 ((ms.getD u 0 : Nat) : Int) ((2 ^ v : Nat) : Int) = ((ms.getD u 0 ||| 2 ^ v : Nat) : Int) := bits_or (hs.getD u) (pow_small hvn)
  have hst := ho.stored u (.int .u32 ((ms.getD u 0 ||| 2 ^ v : Nat) : Int))
  rw [← sets_set] at hst
  have hs1 := hs.set u (or_small (hs.getD u) (pow_small hvn))
  have hn1 : (ms.set u (ms.getD u 0 ||| 2 ^ v)).length = n := by simpa using hn
  have hJ : joinS ms u v = (ms.set u (ms.getD u 0 ||| 2 ^ v)).set v ((ms.set u (ms.getD u 0 ||| 2 ^ v)).getD v 0 ||| 2 ^ u) := rfl
  rw [hJ]
  clear hJ
  generalize ms.set u (ms.getD u 0 ||| 2 ^ v) = ns at *
  generalize ms.getD u 0 ||| 2 ^ v = y at *
  generalize ms.getD u 0 = x at *
  have hp : ((2 : Int) ^ v) = ((2 ^ v : Nat) : Int) := by simp
  rw [← hp] at hb
  clear hp
  go_enter Tryd.func129, Tryd.ntmps129
  go_wp2_with fail
  refine wp_region_ord [0, 1, 2, 4] [3] [5] [6, 7, 8] (by kernel_rfl) (by kernel_rfl) (fun _ _ d _ _ h => by cases d <;> exact h) ?_
  simp only [pickOps, List.filterMap_cons, List.filterMap_nil, List.getElem?_cons_succ, List.getElem?_cons_zero]
  repeat quiet_step (fail)
  refine wpSegs_cons ?_
  go_wp2_with (go_at_call 106; refine (one_any _ v rfl hvn _).mono ?_; rintro e w' ⟨rfl, rfl⟩)
  refine ⟨(Below.refl _ _).drew, wpSegs_nil ?_⟩
  go_wp2_with fail
  have hg1 := grown_drew hst.2
  have ho1 := hst.1.drew
  clear hst hf hx hb ho hs
  generalize World.drew _ = w1 at *
  have hf : w1.frozen? ⟨g, v, none⟩ = false := ho1.frozenAt v
  have hx : w1.cell? ⟨g, v, none⟩ = some (.int .u32 ((ns.getD v 0 : Nat) : Int)) := by rw [ho1.cellAt v (by omega), sets_at (by omega)]
  have hb : bits BinOp.or IntKind.u32 ((ns.getD v 0 : Nat) : Int) ((2 ^ u : Nat) : Int) = ((ns.getD v 0 ||| 2 ^ u : Nat) : Int) := bits_or (hs1.getD v) (pow_small hun)
  have hst := ho1.stored v (.int .u32 ((ns.getD v 0 ||| 2 ^ u : Nat) : Int))
  rw [← sets_set] at hst
  have HY : ∃ y2, Hid (ns.getD v 0 ||| 2 ^ u = y2) := ⟨_, Lib.hid rfl⟩
  obtain ⟨y2, HY⟩ := HY
  rw [HY.out] at hb hst
  have HX : ∃ x2, Hid (ns.getD v 0 = x2) := ⟨_, Lib.hid rfl⟩
  obtain ⟨x2, HX⟩ := HX
  rw [HX.out] at hb hx
  have hp : ((2 : Int) ^ u) = ((2 ^ u : Nat) : Int) := by simp
  rw [← hp] at hb
  clear hp
  refine wp_region_ord [0, 1, 2, 4] [3] [5] [6, 7, 8] (by kernel_rfl) (by kernel_rfl) (fun _ _ d _ _ h => by cases d <;> exact h) ?_
  simp only [pickOps, List.filterMap_cons, List.filterMap_nil, List.getElem?_cons_succ, List.getElem?_cons_zero]
  repeat quiet_step (fail)
  refine wpSegs_cons ?_
  go_wp2_with (go_at_call 106; refine (one_any _ u rfl hun _).mono ?_; rintro e w' ⟨rfl, rfl⟩)
  refine ⟨(Below.refl _ _).drew, wpSegs_nil ?_⟩
  go_wp2_with fail
  go_end0
  exact ⟨rfl, by rw [HY.out]; exact hst.1.drew, grown_trans hg1 (grown_drew hst.2)⟩

theorem infoR : (Tryd.prog.info? 30).map (fun i => (i.zero, i.size, i.bytes)) = some (some (.slice none 0 0), 1, 24) := by kernel_rfl

theorem Row.setAt {w : World} {a : Option Addr} {len cap n : Nat} {ms : List Nat} (h : Row w 1 (.slice a len cap) n (sets ms)) {j : Nat} (hj : j < ms.length) :
    ∃ b o x, a = some ⟨b, o, none⟩ ∧ w.cell? ⟨b, o + j, none⟩ = some (.int .u32 ((x : Nat) : Int)) ∧ Hid (ms[j]? = some x) := by
  obtain ⟨a', cap', e, h1, h2, h3, h4, h5⟩ := h
  obtain ⟨rfl, rfl, rfl⟩ : a' = a ∧ n = len ∧ cap' = cap := by simpa [eq_comm] using e
  obtain ⟨b, o, rfl, hc⟩ := h5 j (.int .u32 ((ms[j] : Nat) : Int)) (by simp [sets, hj])
  exact ⟨b, o, ms[j], rfl, hc, Lib.hid (by simp [hj])⟩

theorem map_ints_inj {xss yss : List (List Int)} (h : xss.map ints = yss.map ints) : xss = yss := by
  refine (List.map_inj_right (f := ints) ?_).1 h
  intro a b hab
  exact (List.map_inj_right (f := Value.int .i64) (by intro x y e; simpa using e)).1 hab
theorem ints_inj {xs ys : List Int} (h : ints xs = ints ys) : xs = ys :=
  (List.map_inj_right (f := Value.int .i64) (by intro x y e; simpa using e)).1 h

theorem RdG.intsAt {w : World} {vs : List Value} {xss : List (List Int)} {a : Option Addr} {len cap : Nat} (h : RdG w (.slice a len cap) vs (xss.map ints)) {k : Nat} (hk : k < xss.length) :
    ∃ b o u xs, a = some ⟨b, o, none⟩ ∧ w.cell? ⟨b, o + k, none⟩ = some u ∧ Row w 1 u xs.length (ints xs) ∧ Hid (vs[k]? = some u) ∧ Hid (xss[k]? = some xs) := by
  obtain ⟨b, o, u, cs, h1, h2, h3, h4, h5⟩ := h.rowAt (k := k) (by simpa using hk)
  have e : cs = ints xss[k] := by have := h5.out; simpa [hk, eq_comm] using this
  subst e
  exact ⟨b, o, u, xss[k], h1, h2, by simpa using h3, h4, Lib.hid (by simp [hk])⟩

/-- The rows of a graph whose sets of neighbours are ms. -/
def rowsOf (ms : List Nat) : List (List Int) := ms.map nums

theorem infoV : (Tryd.prog.info? 98).map (fun i => (i.zero, i.size, i.bytes)) = some (some (.int .u32 0), 1, 4) := by kernel_rfl
theorem sets_zeros (n : Nat) : List.replicate n (Value.int .u32 0) = sets (List.replicate n 0) := by simp [sets]
theorem small_zeros (n : Nat) : Small (List.replicate n 0) := by
  intro m hm
  rw [List.eq_of_mem_replicate hm]
  decide

theorem join_at (base : Nat) (v : Value) (ms : List Nat) (u x : Nat) (U X : Int) (hU : U = u) (hX : X = x) (hs : Small ms) (hu : u < ms.length) (hx : x < ms.length) (hun : u < 32) (hxn : x < 32) (w : World)
    (ho : w.ownsRow base 98 1 v ms.length (sets ms)) :
    Calls Tryd.prog 129 #[v, .int .i64 U, .int .i64 X] w fun e w' => e = .returned (.tuple #[]) ∧
      w'.ownsRow base 98 1 v ms.length (sets (joinS ms u x)) ∧ w.grownBy w' v.ownBlock := by
  subst hU; subst hX
  obtain ⟨g, cap, rfl⟩ := owns_head ho (by omega)
  exact join_any base g ms.length cap ms rfl hs u x hu hx hun hxn w ho

set_option maxHeartbeats 400000 in
theorem graph_any (v : Value) (ms : List Nat) (hs : Small ms) (hn : ms.length ≤ 1000000) (w : World) (ht : Tab w) (hr : Row w 1 v ms.length (sets ms)) :
    Calls Tryd.prog 130 #[v] w fun e w' => ∃ u vs, e = .returned (.agg #[u]) ∧
      OwnG w' w.heap.size 30 2 u vs ((rowsOf ms).map ints) ∧ Below w.heap.size w w' := by
  obtain ⟨a, cap, rfl, h1, h2, h3, h4, h5⟩ := id hr
  clear h3 h4 h5
  go_enter Tryd.func130, Tryd.ntmps130
  go_wp2_with fail
  go_loopw [9] (fun i wr => ∃ (k : Nat) (u : Value) (vs : List Value), k ≤ ms.length ∧ i = .int .i64 k ∧ wr.heap[w.heap.size + 1]? = some (.cells #[u] 56 (0, 0)) ∧ (∃ r, wr.heap[w.heap.size]? = some (.cells #[r] 56 (0, 0))) ∧
      OwnG wr (w.heap.size + 2) 30 2 u vs ((rowsOf (ms.take k)).map ints) ∧ Below w.heap.size w wr) (fun i _ => ms.length - (intOf i).toNat)
  case atStart =>
    refine ⟨0, .slice none 0 0, [], Nat.zero_le _, rfl, ?_, ⟨.slice none 0 0, ?_⟩, OwnG.nil _ _ (by decide) (World.ownsRow_nil _ _ _ _), ((Below.refl _ _).alloc (Nat.le_refl _) _).alloc (by simp) _⟩
    · have := heap_alloc_new (w.alloc (.cells #[Value.slice none 0 0] 56)) (.cells #[Value.slice none 0 0] 56)
      simpa using this
    · rw [Below.heap_alloc _ _ _ (by simp)]
      exact heap_alloc_new w _
  case round =>
    obtain ⟨k, u, vs, hk, rfl, hcu, ⟨r, hcr⟩, hG, hbel⟩ := hrel
    have hcuc := cell_of_one hcu
    have hcuf := free_of_one hcu
    have hcrc := cell_of_one hcr
    have hcrf := free_of_one hcr
    by_cases hlt : k < ms.length
    · obtain ⟨b, o, x, rfl, hc, HX⟩ := (hr.below hbel).setAt hlt
      have hxs : x < 4294967296 := hs x (List.mem_of_getElem? HX.out)
      have hsz := hbel.size
      have hlen := hG.len
      have hlk : vs.length ≤ k := by rw [hlen]; simp [rowsOf]; omega
      have hB1 : w.heap.size + 1 < wr.heap.size := lt_of_block hcu
      have HL := Lib.hid hlen
      clear hlen
      go_wp2_with fail
      refine wp_region_ord [0, 2] [1] [3, 4] [5, 6, 7] (by kernel_rfl) (by kernel_rfl) (fun _ _ d _ _ h => by cases d <;> exact h) ?_
      simp only [pickOps, List.filterMap_cons, List.filterMap_nil, List.getElem?_cons_succ, List.getElem?_cons_zero]
      repeat quiet_step (fail)
      refine wpSegs_cons ?_
      go_wp2_with fail
      refine (numbers_any x hxs wr.drew (ht.below hbel.drew)).mono ?_
      rintro e w1 ⟨v', rfl, ho1, hb1⟩
      have hb1' := below_drew hb1
      obtain ⟨ga, gc, rfl⟩ := owns_shape ho1
      go_wp2_with fail
      refine wpSegs_cons ?_
      have hbs := run_buildOne (P := Tryd.prog) w1 51 30 _ (.slice ga (nums x).length gc) _ Tryd.underlying51 infoR rfl rfl
      go_wp2_with fail
      clear hbs
      refine ⟨hb1'.alloc hb1'.size _, wpSegs_nil ?_⟩
      refine wpList_push _ rfl _ _ 51 rfl (w.heap.size + 2) 30 _ _ 24 Tryd.underlying51 infoR rfl _ _ _ rfl (hG.below hb1').outer _ rfl rfl (by unfold maxLen; omega) (by omega) (by have := hb1'.size; omega) ?_
      intro g2 c2 w2 ho2 hg2
      have hlt2 : ∀ b, u.ownBlock = some b → w.heap.size + 2 ≤ b := fun b hb => (owns_lt hG.outer hb).1
      have hcu2 : w2.heap[w.heap.size + 1]? = some (.cells #[u] 56 (0, 0)) := by
        rw [hg2.block _ (by have := hb1'.size; omega) (fun e => by have := hlt2 _ e.symm; omega), hb1'.block _ hB1]; exact hcu
      have hcr2 : w2.heap[w.heap.size]? = some (.cells #[r] 56 (0, 0)) := by
        rw [hg2.block _ (by have := hb1'.size; omega) (fun e => by have := hlt2 _ e.symm; omega), hb1'.block _ (by omega)]; exact hcr
      have hcuc2 := cell_of_one hcu2
      have hcuf2 := free_of_one hcu2
      have hG2 := hG.push (cs := ints (nums x)) hb1' (by simpa using ho1) (Nat.le_refl _) (by omega) ho2 hg2
      have hb2 : Below w.heap.size w w2 := (hbel.trans (hb1'.mono hsz)).grown hg2 (by have := hb1'.size; omega) (fun b hb => by have := hlt2 b hb; omega)
      clear hG ho2 hg2 hcu hcr hcuc hcuf hcrc hcrf hc hbel hb1 hb1' ho1 hlt2
      go_wp2_with fail
      go_roundw
      case rel =>
        refine ⟨k + 1, .slice (some ⟨g2, 0, none⟩) (vs.length + 1) c2, vs ++ [.slice ga (nums x).length gc], by omega, by go_num, one_setCell hcu2, ⟨r, by rw [Below.heap_setCell _ _ _ _ (by simp)]; exact hcr2⟩, ?_, hb2.setCell (by simp) _⟩
        have hG3 : OwnG (w2.setCell ⟨w.heap.size + 1, 0, none⟩ (.slice (some ⟨g2, 0, none⟩) (vs.length + 1) c2)) (w.heap.size + 2) 30 2 (.slice (some ⟨g2, 0, none⟩) (vs.length + 1) c2) _ _ := hG2.other (by simp) _
        rw [take_snoc HX.out]
        simpa [rowsOf] using hG3
      case measure => simp [intOf]; omega
    · obtain ⟨ua, uc, rfl⟩ := owns_shape hG.outer
      go_wp2_with fail
      have hce := cell_of_one (one_setCell (u := .slice ua vs.length uc) hcr)
      refine bodyPost_ret (v := .agg #[.slice ua vs.length uc]) (by simp [results, Tryd.results130, go_sem, hce]) rfl ?_
      have e : ms.take k = ms := List.take_of_length_le (by omega)
      rw [e] at hG
      exact ⟨_, vs, rfl, (hG.other (by simp) _).rebase (by omega), hbel.setCell (by simp) _⟩
end Go.Proofs.YtbhobmngnjfgfaaDoor
