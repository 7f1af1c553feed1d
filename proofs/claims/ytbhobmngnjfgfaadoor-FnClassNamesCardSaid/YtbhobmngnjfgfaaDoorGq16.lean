import Derived.Test.YtbhobmngnjfgfaaDoorGq05
import Derived.Test.YtbhobmngnjfgfaaDoorGq08
import Derived.Test.YtbhobmngnjfgfaaDoorGq11
import Derived.Test.YtbhobmngnjfgfaaDoorGq15
/-
  The drawn graphs and the drawn sets of the laws.
-/




namespace Go.Proofs.YtbhobmngnjfgfaaDoor
open Go.RowKit

theorem Upd.then {lo hi B : Nat} {w w1 w2 : World} (h : Upd lo hi w w1) (hb : Below B w1 w2) (hB : w.heap.size ≤ B) : Upd lo hi w w2 :=
  ⟨hb.os.trans h.os, hb.tape.trans h.tape, hb.output.trans h.output, Nat.le_trans h.size hb.size, fun k hk hn => (hb.block k (by omega)).trans (h.block k hk hn)⟩
theorem OwnG.upd {w w' : World} {base : Nat} {v : Value} {vs : List Value} {css : List (List Value)} {lo hi : Nat} (h : OwnG w base 30 2 v vs css) (u : Upd lo hi w w') (hd : hi ≤ base ∨ hi ≤ lo) : OwnG w' base 30 2 v vs css :=
  ⟨h.len, owns_keep h.outer fun b hb hlt => u.block b hlt (by have := (h.lt (.inl hb)).1; omega), fun i x cs h1 h2 => owns_keep (h.rows i x cs h1 h2) fun b hb hlt => u.block b hlt (by have := (h.lt (.inr ⟨x, List.mem_of_getElem? h1, hb⟩)).1; omega), h.apart, h.unlike⟩
theorem own_upd {w w' : World} {base : Nat} {t : TypeId} {v : Value} {n : Nat} {cs : List Value} {lo hi : Nat} (h : w.ownsRow base t 1 v n cs) (u : Upd lo hi w w') (hd : hi ≤ base ∨ hi ≤ lo) : w'.ownsRow base t 1 v n cs :=
  owns_keep h fun b hb hlt => u.block b hlt (by have := (owns_lt h hb).1; omega)
theorem adj_none {n : Nat} (h1 : 1 ≤ n) (h2 : n ≤ 16) : Adj n fun _ _ => false := ⟨h1, h2, fun _ _ => rfl, fun _ _ _ _ => rfl⟩
theorem laidE_put (es : List (List Int)) (u v : Nat) : laidE (es ++ [[(u : Int), (v : Int)]]) = plus (laidE es) u v := by
  unfold laidE
  rw [List.foldl_append]
  simp
theorem adj_laids {n : Nat} : ∀ (es : List (List Int)) (f : Nat → Nat → Bool), Adj n f → (∀ e ∈ es, PairP n e) → Adj n (es.foldl (fun f xs => plus f (xs.getD 0 0).toNat (xs.getD 1 0).toNat) f) := by
  intro es
  induction es with
  | nil => exact fun f h _ => h
  | cons x es ih =>
    intro f hf h
    obtain ⟨u, v, huv, hv, rfl⟩ := (h x (by simp)).parts
    exact ih _ (by simpa using adj_plus hf (p := u) (q := v) (by omega)) fun e he => h e (by simp [he])
theorem adj_laidE {n : Nat} (h1 : 1 ≤ n) (h2 : n ≤ 16) (es : List (List Int)) (h : ∀ e ∈ es, PairP n e) : Adj n (laidE es) := adj_laids es _ (adj_none h1 h2) h
theorem pairP_of {n u v : Nat} (h : u < v) (hv : v < n) : PairP n [(u : Int), (v : Int)] := by
  refine ⟨rfl, ?_, ?_⟩
  · intro x hx
    simp only [List.mem_cons, List.not_mem_nil, or_false] at hx
    rcases hx with rfl | rfl <;> omega
  · simp [h]
theorem setP_put {k : Nat} {xs : List Int} (h : SetP k xs) : SetP (k + 1) (xs ++ [(k : Int)]) := by
  refine ⟨?_, ?_⟩
  · intro x hx
    simp only [List.mem_append, List.mem_cons, List.not_mem_nil, or_false] at hx
    rcases hx with hx | rfl
    · have := h.1 x hx; omega
    · omega
  · rw [List.pairwise_append]
    refine ⟨h.2, by simp, ?_⟩
    intro a ha b hb
    simp only [List.mem_cons, List.not_mem_nil, or_false] at hb
    subst hb
    exact (h.1 a ha).2
theorem SetP.up {k : Nat} {xs : List Int} (h : SetP k xs) : SetP (k + 1) xs := ⟨fun x hx => by have := h.1 x hx; omega, h.2⟩

theorem Dice.belowAt {D B : Nat} {v : Value} {n : Nat} {w w' : World} (h : Dice D v n w) (hb : Below B w w') (hB : D < B) : Dice D v n w' := by
  obtain ⟨i, x, hv, hi⟩ := h.ex
  exact ⟨i, x, hv.belowAt hb hB, hi⟩

def GenP (D : Nat) (v : Value) (k : Nat) (w : World) (e : Ending) (w' : World) : Prop :=
  ∃ (n : Nat) (f : Nat → Nat → Bool) (u : Value), n ≤ 8 ∧ Adj n f ∧ e = .returned (.agg #[u]) ∧ OwSS w.heap.size w'.heap.size u (rowsB n f) w' ∧ Dice D v k w' ∧ Upd D (D + 1) w w'
def GenS (D : Nat) (v : Value) (k n : Nat) (w : World) (e : Ending) (w' : World) : Prop :=
  ∃ (xs : List Int) (u : Value), SetP n xs ∧ e = .returned u ∧ OwS w.heap.size w'.heap.size u xs w' ∧ Dice D v k w' ∧ Upd D (D + 1) w w'

set_option maxHeartbeats 4000000 in
theorem w6Graph_any (D : Nat) (v : Value) (bs : List UInt8) (w : World) (hd : Dice D v bs.length w) (hr : RdB v bs w) (hl : bs.length ≤ 4096) (hvD : Far D v bs) :
    Calls Tryd.prog 40 #[.pointer (some ⟨D, 0, none⟩), .int .i64 8] w (GenP D v bs.length w) := by
  obtain ⟨B, hB⟩ : ∃ B, w.heap.size = B := ⟨_, rfl⟩
  have hDB : D < B := by have := hd.lt; omega
  obtain ⟨W0, hW0⟩ : ∃ W0, W0 = w.alloc (.cells #[.slice none 0 0] 56) := ⟨_, rfl⟩
  have VR0 : VC 56 B #[.slice none 0 0] W0 := by rw [hW0]; exact VC.new hB
  have b0 : Below B w W0 := by rw [hW0, ← hB]; exact below_alloc' _ _
  have u0 : Upd D (D + 1) w W0 := (Upd.rfl' w).then b0 (by omega) |>.wide (by omega)
  have hz0 : W0.heap.size = B + 1 := by rw [hW0]; simp [hB]
  have HBE : Hid (∀ (N : Int) (n : Nat) (W : World), N = n → 0 < n → n ≤ 1000000 → Dice D v bs.length W → Upd D (D + 1) w W →
    Calls Tryd.prog 48 #[.pointer (some ⟨D, 0, none⟩), .int .i64 N] W fun e w' => ∃ x : Nat, e = .returned (.int .i64 x) ∧ x < n ∧ Dice D v bs.length w' ∧ Upd D (D + 1) W w') :=
    Lib.hid fun N n W hN h0 h1 hdW hu => below_any D v bs n N hN h0 h1 W hdW (hr.upd hu hvD) hl hvD
  have hd0 : Dice D v bs.length W0 := hd.upd (Upd.of_below (hB.symm ▸ b0)) (by omega)
  clear hr hl b0
  go_enter Tryd.func40, Tryd.ntmps40
  go_wp2_with fail
  try rw [← hW0]
  clear hW0
  refine (HBE.out 8 8 W0 rfl (by decide) (by decide) hd0 u0).mono ?_
  rintro e1 w1 ⟨n0, rfl, hn0, hd1, u1⟩
  replace u0 := u0.trans u1
  have VR1 := VR0.upd u1 (by omega)
  have hz1 : B + 1 ≤ w1.heap.size := by have := u1.size; omega
  clear VR0 hd0 u1 hz0
  go_wp2_with fail
  refine (HBE.out 3 3 w1 rfl (by decide) (by decide) hd1 u0).mono ?_
  rintro e1 w2 ⟨o0, rfl, ho0, hd2, u2⟩
  replace u0 := u0.trans u2
  have VR2 := VR1.upd u2 (by omega)
  have hz2 : B + 1 ≤ w2.heap.size := by have := u2.size; omega
  clear VR1 hd1 u2 hz1
  go_wp2_with fail
  obtain ⟨n, hn⟩ : ∃ n : Nat, n = n0 + 1 := ⟨_, rfl⟩
  obtain ⟨S, hS⟩ : ∃ S, w2.heap.size = S := ⟨_, rfl⟩
  obtain ⟨W3, hW3⟩ : ∃ W, W = w2.alloc (.cells #[] 30) := ⟨_, rfl⟩
  have b3 : Below S w2 W3 := by rw [hW3, ← hS]; exact below_alloc' _ _
  have ho3 : W3.ownsRow S 30 1 (.slice (some ⟨S, 0, none⟩) 0 0) 0 [] := by
    rw [hW3, ← hS]
    exact World.ownsRow_lit w2 #[] 0 (Nat.le_refl _) (by simp [maxLen]) rfl
  have hG3 : OwnG W3 S 30 2 (.slice (some ⟨S, 0, none⟩) 0 0) [] (([] : List (List Int)).map ints) := OwnG.nil _ _ (by decide) ho3
  have hd3 : Dice D v bs.length W3 := hd2.upd (Upd.of_below (hS.symm ▸ b3)) (by omega)
  have u3 : Upd D (D + 1) w2 W3 := ((Upd.rfl' w2).then b3 (by omega)).wide (by omega)
  have HU0 := Lib.hid u0
  have HVR := Lib.hid VR2
  try rw [← hW3]
  try rw [hS]
  clear ho3 b3 hW3 hd2 u0 VR2
  have hn1 : (1 : Int) + (n0 : Int) = (n : Int) := by omega
  try rw [hn1]
  have hnpos : 1 ≤ n := by omega
  have hn8 : n ≤ 8 := by omega
  clear hn1 hn hn0
  go_loopw [7, 8] (fun o i wr => ∃ (k : Nat) (vs : List Value) (es : List (List Int)), 1 ≤ k ∧ k ≤ n ∧ i = .int .i64 k ∧ OwnG wr S 30 2 o vs (es.map ints) ∧ es.length ≤ 8 * k ∧ Hid (∀ e ∈ es, PairP n e) ∧ Dice D v bs.length wr ∧ Upd D (D + 1) w2 wr) (fun _ i _ => n - (intOf i).toNat)
  case atStart => exact ⟨1, [], [], Nat.le_refl _, hnpos, rfl, hG3, by simp, Lib.hid (by simp), hd3, u3⟩
  case round =>
    clear hG3 hd3 u3
    obtain ⟨k, vs, es, hk1, hk, rfl, hG, hes, HP, hdk, uk⟩ := hrel
    by_cases hlt : k < n
    · go_wp2_with fail
      go_loopw [7, 9] (fun o i wr => ∃ (j : Nat) (vs : List Value) (es : List (List Int)), j ≤ k ∧ i = .int .i64 j ∧ OwnG wr S 30 2 o vs (es.map ints) ∧ es.length ≤ 8 * k + j ∧ Hid (∀ e ∈ es, PairP n e) ∧ Dice D v bs.length wr ∧ Upd D (D + 1) w2 wr) (fun _ i _ => k - (intOf i).toNat)
      case atStart => exact ⟨0, vs, es, Nat.zero_le _, rfl, hG, by omega, HP, hdk, uk⟩
      case round =>
        clear hG hdk uk HP hes
        obtain ⟨j, vs, es, hj, rfl, hG, hes, HP, hdk, uk⟩ := hrel
        by_cases hlj : j < k
        · have hz := uk.size
          go_wp2_with fail
          refine (HBE.out 4 4 wr rfl (by decide) (by decide) hdk (HU0.out.trans uk)).mono ?_
          rintro e1 w4 ⟨x, rfl, hx, hd4, u4⟩
          have hG4 := hG.upd u4 (by omega)
          replace uk := uk.trans u4
          have hz4 := uk.size
          have hlen : vs.length ≤ 128 := by rw [hG4.len, List.length_map]; omega
          clear hG hdk hz u4
          by_cases hxo : x < 1 + o0
          · have hout := hG4.outer
            have HG := Lib.hid hG4
            have HD4 := Lib.hid hd4
            have HUK := Lib.hid uk
            clear hG4 hd4 uk
            obtain ⟨ua, uc, rfl⟩ := owns_shape hout
            go_wp2_with ((at_builtin; refine wpList_push_at _ rfl _ _ 51 rfl S 30 _ _ 24 Tryd.underlying51 infoR rfl (.slice ua vs.length uc) vs.length vs rfl (hout.alloc _) (w4.heap.size + 1) (by simp) (.slice (some ⟨w4.heap.size, 0, none⟩) 2 2) rfl rfl (by unfold maxLen; omega) (by omega) (by simp; omega) ?_; intro g2 c2 w5 ho2 hg2))
            have hlit := World.ownsRow_lit (base := w4.heap.size) (e := 2) (size := 1) w4 #[.int .i64 (j : Int), .int .i64 (k : Int)] 2 (Nat.le_refl _) (by simp [maxLen]) rfl
            have hGn := HG.out.push (B := w4.heap.size) (cs := ints [(j : Int), (k : Int)]) (below_alloc' w4 _) hlit (Nat.le_refl _) (by omega) ho2 hg2
            have hbn : Below S w4 w5 := ((Below.refl _ _).alloc (by omega) (.cells #[.int .i64 (j : Int), .int .i64 (k : Int)] 2)).grown hg2 (by simp; omega) (fun q hq => (owns_lt hout hq).1)
            go_roundw
            case rel => exact ⟨j + 1, _, es ++ [[(j : Int), (k : Int)]], by omega, by go_num, by rw [List.map_append]; exact hGn, by simp; omega, Lib.hid fun e he => by
              rw [List.mem_append] at he
              rcases he with he | he
              · exact HP.out e he
              · rw [List.mem_singleton] at he
                rw [he]
                exact pairP_of hlj hlt, HD4.out.belowAt hbn (by omega), HUK.out.then hbn (by omega)⟩
            case measure => simp [intOf]; omega
          · go_wp2_with fail
            go_roundw
            case rel => exact ⟨j + 1, vs, es, by omega, by go_num, hG4, by omega, HP, hd4, uk⟩
            case measure => simp [intOf]; omega
        · have hjk : j = k := by omega
          clear hlj
          subst hjk
          go_wp2_with fail
          go_roundw
          case rel => exact ⟨j + 1, vs, es, by omega, by omega, by go_num, hG, by omega, HP, hdk, uk⟩
          case measure => simp [intOf]; omega
    · obtain rfl : k = n := by omega
      have HG := Lib.hid (hG.rd)
      have hz := uk.size
      have VRk := HVR.out.upd uk (by omega)
      have hsp := Lib.hid (specGraphOf (k : Int) _ es wr ⟨vs, HG.out⟩ _ _ (.inr ⟨⟨⟨by omega, by omega⟩, by omega, by simpa using HP.out⟩, rfl, rfl⟩))
      have HUK := Lib.hid (HU0.out.trans uk)
      have HDK := Lib.hid hdk
      clear hG uk hdk
      go_wp2_with fail
      refine hsp.out.mono ?_
      rintro e1 w6 ⟨u, us, rfl, hG6, hb6⟩
      obtain ⟨ga, gc, hgu⟩ := owns_shape hG6.outer
      have VR6 := VRk.belowAt hb6 (by omega)
      have hz6 := hb6.size
      obtain ⟨T, hT⟩ : ∃ T, w6.heap.size = T := ⟨_, rfl⟩
      obtain ⟨W7, hW7⟩ : ∃ W, W = w6.alloc (.cells #[u] 56) := ⟨_, rfl⟩
      have VR7 : VC 56 B #[.slice none 0 0] W7 := by rw [hW7]; exact VR6.belowAt (below_alloc' w6 _) (by omega)
      have b7 : Below T w6 W7 := by rw [hW7, ← hT]; exact below_alloc' _ _
      have hc9 := VR7.cell
      have hf9 := VR7.free
      have hca := (VR7.set u).cell
      have HCA := Lib.hid hca
      have HEND := Lib.hid (show GenP D v bs.length w (.returned (.agg #[u])) (W7.setCell ⟨B, 0, none⟩ u) from by
        have bb : Below B w6 (W7.setCell ⟨B, 0, none⟩ u) := (b7.mono (by omega)).setCell (by simp) _
        have hbb : Below B wr (W7.setCell ⟨B, 0, none⟩ u) := (hb6.mono (by omega)).trans bb
        have hGs : OwnG (W7.setCell ⟨B, 0, none⟩ u) wr.heap.size 30 2 u us ((rowsB k (laidE es)).map ints) :=
          (hG6.below (hT ▸ b7)).other (by show B < _; omega) u
        refine ⟨k, laidE es, u, hn8, adj_laidE hnpos (by omega) es HP.out, rfl, ?_, HDK.out.belowAt hbb hDB, HUK.out.then hbb (by omega)⟩
        exact OwSS.of (w0 := w) (hGs.rebase (by omega)) rfl rfl)
      clear VR6 VR7 b7 hG6 hb6 hca
      subst hgu
      subst hW7
      subst hT
      go_wp2_with fail
      refine bodyPost_ret (v := .agg #[.slice ga us.length gc]) (by simp [results, Tryd.results40, go_sem, HCA.out]) rfl ?_
      exact HEND.out

set_option maxHeartbeats 4000000 in
theorem w5Graph_any (D : Nat) (v : Value) (bs : List UInt8) (w : World) (hd : Dice D v bs.length w) (hr : RdB v bs w) (hl : bs.length ≤ 4096) (hvD : Far D v bs) :
    Calls Tryd.prog 53 #[.pointer (some ⟨D, 0, none⟩), .int .i64 8] w (GenP D v bs.length w) := by
  obtain ⟨B, hB⟩ : ∃ B, w.heap.size = B := ⟨_, rfl⟩
  have hDB : D < B := by have := hd.lt; omega
  obtain ⟨W0, hW0⟩ : ∃ W0, W0 = w.alloc (.cells #[.slice none 0 0] 56) := ⟨_, rfl⟩
  have VR0 : VC 56 B #[.slice none 0 0] W0 := by rw [hW0]; exact VC.new hB
  have b0 : Below B w W0 := by rw [hW0, ← hB]; exact below_alloc' _ _
  have u0 : Upd D (D + 1) w W0 := (Upd.rfl' w).then b0 (by omega) |>.wide (by omega)
  have hz0 : W0.heap.size = B + 1 := by rw [hW0]; simp [hB]
  have HBE : Hid (∀ (N : Int) (n : Nat) (W : World), N = n → 0 < n → n ≤ 1000000 → Dice D v bs.length W → Upd D (D + 1) w W →
    Calls Tryd.prog 48 #[.pointer (some ⟨D, 0, none⟩), .int .i64 N] W fun e w' => ∃ x : Nat, e = .returned (.int .i64 x) ∧ x < n ∧ Dice D v bs.length w' ∧ Upd D (D + 1) W w') :=
    Lib.hid fun N n W hN h0 h1 hdW hu => below_any D v bs n N hN h0 h1 W hdW (hr.upd hu hvD) hl hvD
  have hd0 : Dice D v bs.length W0 := hd.upd (Upd.of_below (hB.symm ▸ b0)) (by omega)
  clear hr hl b0
  go_enter Tryd.func53, Tryd.ntmps53
  go_wp2_with fail
  try rw [← hW0]
  clear hW0
  refine (HBE.out 8 8 W0 rfl (by decide) (by decide) hd0 u0).mono ?_
  rintro e1 w1 ⟨n0, rfl, hn0, hd1, u1⟩
  replace u0 := u0.trans u1
  have VR1 := VR0.upd u1 (by omega)
  have hz1 : B + 1 ≤ w1.heap.size := by have := u1.size; omega
  clear VR0 hd0 u1 hz0
  go_wp2_with fail
  refine (HBE.out 3 3 w1 rfl (by decide) (by decide) hd1 u0).mono ?_
  rintro e1 w2 ⟨o0, rfl, ho0, hd2, u2⟩
  replace u0 := u0.trans u2
  have VR2 := VR1.upd u2 (by omega)
  have hz2 : B + 1 ≤ w2.heap.size := by have := u2.size; omega
  clear VR1 hd1 u2 hz1
  go_wp2_with fail
  obtain ⟨n, hn⟩ : ∃ n : Nat, n = n0 + 1 := ⟨_, rfl⟩
  obtain ⟨S, hS⟩ : ∃ S, w2.heap.size = S := ⟨_, rfl⟩
  obtain ⟨W3, hW3⟩ : ∃ W, W = w2.alloc (.cells #[] 30) := ⟨_, rfl⟩
  have b3 : Below S w2 W3 := by rw [hW3, ← hS]; exact below_alloc' _ _
  have ho3 : W3.ownsRow S 30 1 (.slice (some ⟨S, 0, none⟩) 0 0) 0 [] := by
    rw [hW3, ← hS]
    exact World.ownsRow_lit w2 #[] 0 (Nat.le_refl _) (by simp [maxLen]) rfl
  have hG3 : OwnG W3 S 30 2 (.slice (some ⟨S, 0, none⟩) 0 0) [] (([] : List (List Int)).map ints) := OwnG.nil _ _ (by decide) ho3
  have hd3 : Dice D v bs.length W3 := hd2.upd (Upd.of_below (hS.symm ▸ b3)) (by omega)
  have u3 : Upd D (D + 1) w2 W3 := ((Upd.rfl' w2).then b3 (by omega)).wide (by omega)
  have HU0 := Lib.hid u0
  have HVR := Lib.hid VR2
  try rw [← hW3]
  try rw [hS]
  clear ho3 b3 hW3 hd2 u0 VR2
  have hn1 : (1 : Int) + (n0 : Int) = (n : Int) := by omega
  try rw [hn1]
  have hnpos : 1 ≤ n := by omega
  have hn8 : n ≤ 8 := by omega
  clear hn1 hn hn0
  go_loopw [7, 8] (fun o i wr => ∃ (k : Nat) (vs : List Value) (es : List (List Int)), 1 ≤ k ∧ k ≤ n ∧ i = .int .i64 k ∧ OwnG wr S 30 2 o vs (es.map ints) ∧ es.length ≤ 8 * k ∧ Hid (∀ e ∈ es, PairP n e) ∧ Dice D v bs.length wr ∧ Upd D (D + 1) w2 wr) (fun _ i _ => n - (intOf i).toNat)
  case atStart => exact ⟨1, [], [], Nat.le_refl _, hnpos, rfl, hG3, by simp, Lib.hid (by simp), hd3, u3⟩
  case round =>
    clear hG3 hd3 u3
    obtain ⟨k, vs, es, hk1, hk, rfl, hG, hes, HP, hdk, uk⟩ := hrel
    by_cases hlt : k < n
    · go_wp2_with fail
      go_loopw [7, 9] (fun o i wr => ∃ (j : Nat) (vs : List Value) (es : List (List Int)), j ≤ k ∧ i = .int .i64 j ∧ OwnG wr S 30 2 o vs (es.map ints) ∧ es.length ≤ 8 * k + j ∧ Hid (∀ e ∈ es, PairP n e) ∧ Dice D v bs.length wr ∧ Upd D (D + 1) w2 wr) (fun _ i _ => k - (intOf i).toNat)
      case atStart => exact ⟨0, vs, es, Nat.zero_le _, rfl, hG, by omega, HP, hdk, uk⟩
      case round =>
        clear hG hdk uk HP hes
        obtain ⟨j, vs, es, hj, rfl, hG, hes, HP, hdk, uk⟩ := hrel
        by_cases hlj : j < k
        · have hz := uk.size
          go_wp2_with fail
          refine (HBE.out 4 4 wr rfl (by decide) (by decide) hdk (HU0.out.trans uk)).mono ?_
          rintro e1 w4 ⟨x, rfl, hx, hd4, u4⟩
          have hG4 := hG.upd u4 (by omega)
          replace uk := uk.trans u4
          have hz4 := uk.size
          have hlen : vs.length ≤ 128 := by rw [hG4.len, List.length_map]; omega
          clear hG hdk hz u4
          by_cases hxo : x < 1 + o0
          · have hout := hG4.outer
            have HG := Lib.hid hG4
            have HD4 := Lib.hid hd4
            have HUK := Lib.hid uk
            clear hG4 hd4 uk
            obtain ⟨ua, uc, rfl⟩ := owns_shape hout
            go_wp2_with ((at_builtin; refine wpList_push_at _ rfl _ _ 51 rfl S 30 _ _ 24 Tryd.underlying51 infoR rfl (.slice ua vs.length uc) vs.length vs rfl (hout.alloc _) (w4.heap.size + 1) (by simp) (.slice (some ⟨w4.heap.size, 0, none⟩) 2 2) rfl rfl (by unfold maxLen; omega) (by omega) (by simp; omega) ?_; intro g2 c2 w5 ho2 hg2))
            have hlit := World.ownsRow_lit (base := w4.heap.size) (e := 2) (size := 1) w4 #[.int .i64 (j : Int), .int .i64 (k : Int)] 2 (Nat.le_refl _) (by simp [maxLen]) rfl
            have hGn := HG.out.push (B := w4.heap.size) (cs := ints [(j : Int), (k : Int)]) (below_alloc' w4 _) hlit (Nat.le_refl _) (by omega) ho2 hg2
            have hbn : Below S w4 w5 := ((Below.refl _ _).alloc (by omega) (.cells #[.int .i64 (j : Int), .int .i64 (k : Int)] 2)).grown hg2 (by simp; omega) (fun q hq => (owns_lt hout hq).1)
            go_roundw
            case rel => exact ⟨j + 1, _, es ++ [[(j : Int), (k : Int)]], by omega, by go_num, by rw [List.map_append]; exact hGn, by simp; omega, Lib.hid fun e he => by
              rw [List.mem_append] at he
              rcases he with he | he
              · exact HP.out e he
              · rw [List.mem_singleton] at he
                rw [he]
                exact pairP_of hlj hlt, HD4.out.belowAt hbn (by omega), HUK.out.then hbn (by omega)⟩
            case measure => simp [intOf]; omega
          · go_wp2_with fail
            go_roundw
            case rel => exact ⟨j + 1, vs, es, by omega, by go_num, hG4, by omega, HP, hd4, uk⟩
            case measure => simp [intOf]; omega
        · have hjk : j = k := by omega
          clear hlj
          subst hjk
          go_wp2_with fail
          go_roundw
          case rel => exact ⟨j + 1, vs, es, by omega, by omega, by go_num, hG, by omega, HP, hdk, uk⟩
          case measure => simp [intOf]; omega
    · obtain rfl : k = n := by omega
      have HG := Lib.hid (hG.rd)
      have hz := uk.size
      have VRk := HVR.out.upd uk (by omega)
      have hsp := Lib.hid (specGraphOf (k : Int) _ es wr ⟨vs, HG.out⟩ _ _ (.inr ⟨⟨⟨by omega, by omega⟩, by omega, by simpa using HP.out⟩, rfl, rfl⟩))
      have HUK := Lib.hid (HU0.out.trans uk)
      have HDK := Lib.hid hdk
      clear hG uk hdk
      go_wp2_with fail
      refine hsp.out.mono ?_
      rintro e1 w6 ⟨u, us, rfl, hG6, hb6⟩
      obtain ⟨ga, gc, hgu⟩ := owns_shape hG6.outer
      have VR6 := VRk.belowAt hb6 (by omega)
      have hz6 := hb6.size
      obtain ⟨T, hT⟩ : ∃ T, w6.heap.size = T := ⟨_, rfl⟩
      obtain ⟨W7, hW7⟩ : ∃ W, W = w6.alloc (.cells #[u] 56) := ⟨_, rfl⟩
      have VR7 : VC 56 B #[.slice none 0 0] W7 := by rw [hW7]; exact VR6.belowAt (below_alloc' w6 _) (by omega)
      have b7 : Below T w6 W7 := by rw [hW7, ← hT]; exact below_alloc' _ _
      have hc9 := VR7.cell
      have hf9 := VR7.free
      have hca := (VR7.set u).cell
      have HCA := Lib.hid hca
      have HEND := Lib.hid (show GenP D v bs.length w (.returned (.agg #[u])) (W7.setCell ⟨B, 0, none⟩ u) from by
        have bb : Below B w6 (W7.setCell ⟨B, 0, none⟩ u) := (b7.mono (by omega)).setCell (by simp) _
        have hbb : Below B wr (W7.setCell ⟨B, 0, none⟩ u) := (hb6.mono (by omega)).trans bb
        have hGs : OwnG (W7.setCell ⟨B, 0, none⟩ u) wr.heap.size 30 2 u us ((rowsB k (laidE es)).map ints) :=
          (hG6.below (hT ▸ b7)).other (by show B < _; omega) u
        refine ⟨k, laidE es, u, hn8, adj_laidE hnpos (by omega) es HP.out, rfl, ?_, HDK.out.belowAt hbb hDB, HUK.out.then hbb (by omega)⟩
        exact OwSS.of (w0 := w) (hGs.rebase (by omega)) rfl rfl)
      clear VR6 VR7 b7 hG6 hb6 hca
      subst hgu
      subst hW7
      subst hT
      go_wp2_with fail
      refine bodyPost_ret (v := .agg #[.slice ga us.length gc]) (by simp [results, Tryd.results53, go_sem, HCA.out]) rfl ?_
      exact HEND.out

set_option maxHeartbeats 4000000 in
theorem w5Set_any (D : Nat) (v : Value) (bs : List UInt8) (n : Nat) (N : Int) (hN : N = n) (hn : n ≤ 100) (w : World) (hd : Dice D v bs.length w) (hr : RdB v bs w) (hl : bs.length ≤ 4096) (hvD : Far D v bs) :
    Calls Tryd.prog 60 #[.pointer (some ⟨D, 0, none⟩), .int .i64 N] w (GenS D v bs.length n w) := by
  subst hN
  obtain ⟨B, hB⟩ : ∃ B, w.heap.size = B := ⟨_, rfl⟩
  have hDB : D < B := by have := hd.lt; omega
  obtain ⟨W0, hW0⟩ : ∃ W0, W0 = w.alloc (.cells #[] 2) := ⟨_, rfl⟩
  have b0 : Below B w W0 := by rw [hW0, ← hB]; exact below_alloc' _ _
  have ho0 : W0.ownsRow B 2 1 (.slice (some ⟨B, 0, none⟩) 0 0) 0 [] := by rw [hW0, ← hB]; exact World.ownsRow_lit w #[] 0 (Nat.le_refl _) (by simp [maxLen]) rfl
  have u0 : Upd D (D + 1) w W0 := (Upd.rfl' w).then b0 (by omega) |>.wide (by omega)
  have HBE : Hid (∀ (N : Int) (n : Nat) (W : World), N = n → 0 < n → n ≤ 1000000 → Dice D v bs.length W → Upd D (D + 1) w W →
    Calls Tryd.prog 48 #[.pointer (some ⟨D, 0, none⟩), .int .i64 N] W fun e w' => ∃ x : Nat, e = .returned (.int .i64 x) ∧ x < n ∧ Dice D v bs.length w' ∧ Upd D (D + 1) W w') :=
    Lib.hid fun N n W hN h0 h1 hdW hu => below_any D v bs n N hN h0 h1 W hdW (hr.upd hu hvD) hl hvD
  have hd0 : Dice D v bs.length W0 := hd.belowAt b0 (by omega)
  have hz0 : B ≤ W0.heap.size := by rw [hW0]; simp; omega
  clear hr hl b0
  go_enter Tryd.func60, Tryd.ntmps60
  go_wp2_with fail
  try rw [← hWA]
  try rw [← hW0]
  try rw [hB]
  try rw [hA]
  try rw [hBA]
  clear hW0
  try clear hWA
  go_loopw [5, 6] (fun o i wr => ∃ (k : Nat) (xs : List Int), k ≤ n ∧ i = .int .i64 k ∧ wr.ownsRow B 2 1 o xs.length (ints xs) ∧ Hid (xs.length ≤ k) ∧ Hid (SetP k xs) ∧ Dice D v bs.length wr ∧ Upd D (D + 1) w wr ∧ B ≤ wr.heap.size) (fun _ i _ => n - (intOf i).toNat)
  case atStart => exact ⟨0, [], Nat.zero_le _, rfl, by simpa [ints] using ho0, Lib.hid (Nat.le_refl _), Lib.hid (setP_nil 0), hd0, u0, hz0⟩
  case round =>
    clear ho0 hd0 u0 hz0
    obtain ⟨k, xs, hk, rfl, ho, HL, HP, hdk, uk, hBw⟩ := hrel
    by_cases hlt : k < n
    · go_wp2_with fail
      refine (HBE.out 2 2 wr rfl (by decide) (by decide) hdk uk).mono ?_
      rintro e1 w1 ⟨x, rfl, hx, hd1, u1⟩
      have ho1 := own_upd ho u1 (by omega)
      have hz := u1.size
      have hzz := uk.size
      have hlx := HL.out
      have hBk : B ≤ w1.heap.size := by omega
      replace uk := uk.trans u1
      clear ho hdk u1
      by_cases hx0 : x = 0
      · have hb : ((x : Int) == 0) = true := by simp [hx0]
        have HD1 := Lib.hid hd1
        have HUK := Lib.hid uk
        clear hd1 uk hx0
        go_wp2_with (at_builtin; refine wpList_push _ rfl _ _ 30 rfl B 2 _ _ 8 Tryd.underlying30 infoI rfl _ _ _ rfl ho1 _ rfl rfl (by unfold maxLen; omega) (by omega) (by omega) ?_; intro g' c' w2 ho2 hg)
        have hbn : Below B w1 w2 := (Below.refl _ _).grown hg (by omega) fun b hb' => (owns_lt ho1 hb').1
        go_roundw
        case rel => exact ⟨k + 1, xs ++ [(k : Int)], by omega, by go_num, by simpa [ints] using ho2, Lib.hid (by simp; omega), Lib.hid (setP_put HP.out), HD1.out.belowAt hbn hDB, HUK.out.then hbn (by omega), by have := hbn.size; omega⟩
        case measure => simp [intOf]; omega
      · have hb : ((x : Int) == 0) = false := by simp [hx0]
        clear hx0
        go_wp2_with fail
        go_roundw
        case rel => exact ⟨k + 1, xs, by omega, by go_num, ho1, Lib.hid (by omega), Lib.hid HP.out.up, hd1, uk, hBk⟩
        case measure => simp [intOf]; omega
    · have hkn : k = n := by omega
      clear hlt
      subst hkn
      have HE := Lib.hid ho
      go_wp2_with fail
      go_ret
      exact ⟨xs, _, HP.out, rfl, OwS.of (w0 := w) (owns_base HE.out (by omega)) rfl rfl, hdk, uk⟩

set_option maxHeartbeats 4000000 in
theorem w6Set_any (D : Nat) (v : Value) (bs : List UInt8) (g : Value) (rows : List (List Int)) (n : Nat) (hrn : rows.length = n) (hn : n ≤ 100) (w : World) (hg : OwSS (D + 1) w.heap.size g rows w) (hd : Dice D v bs.length w) (hr : RdB v bs w) (hl : bs.length ≤ 4096) (hvD : Far D v bs) :
    Calls Tryd.prog 42 #[.pointer (some ⟨D, 0, none⟩), .agg #[g]] w (GenS D v bs.length n w) := by
  obtain ⟨a, c, rfl⟩ := hg.shape
  rw [hrn]
  obtain ⟨A, hA⟩ : ∃ A, w.heap.size = A := ⟨_, rfl⟩
  obtain ⟨WA, hWA⟩ : ∃ W, W = w.alloc (.cells #[.slice a n c] 56) := ⟨_, rfl⟩
  have bA : Below A w WA := by rw [hWA, ← hA]; exact below_alloc' _ _
  have VA : VC 56 A #[.slice a n c] WA := by rw [hWA]; exact VC.new hA
  have hzA : WA.heap.size = A + 1 := by rw [hWA]; simp [hA]
  obtain ⟨B, hBA⟩ : ∃ B, A + 1 = B := ⟨_, rfl⟩
  have hB : WA.heap.size = B := by omega
  have hDA : D < A := by have := hd.lt; omega
  have hDB : D < B := by omega
  obtain ⟨W0, hW0⟩ : ∃ W0, W0 = WA.alloc (.cells #[] 2) := ⟨_, rfl⟩
  have b0 : Below B WA W0 := by rw [hW0, ← hB]; exact below_alloc' _ _
  have ho0 : W0.ownsRow B 2 1 (.slice (some ⟨B, 0, none⟩) 0 0) 0 [] := by rw [hW0, ← hB]; exact World.ownsRow_lit WA #[] 0 (Nat.le_refl _) (by simp [maxLen]) rfl
  have u0 : Upd D (D + 1) w W0 := ((Upd.rfl' w).then bA (by omega)).then b0 (by omega) |>.wide (by omega)
  replace b0 : Below A w W0 := bA.trans (b0.mono (by omega))
  replace VA : VC 56 A #[.slice a n c] W0 := by rw [hW0]; exact VA.belowAt (below_alloc' WA _) (by omega)
  have HBE : Hid (∀ (N : Int) (n : Nat) (W : World), N = n → 0 < n → n ≤ 1000000 → Dice D v bs.length W → Upd D (D + 1) w W →
    Calls Tryd.prog 48 #[.pointer (some ⟨D, 0, none⟩), .int .i64 N] W fun e w' => ∃ x : Nat, e = .returned (.int .i64 x) ∧ x < n ∧ Dice D v bs.length w' ∧ Upd D (D + 1) W w') :=
    Lib.hid fun N n W hN h0 h1 hdW hu => below_any D v bs n N hN h0 h1 W hdW (hr.upd hu hvD) hl hvD
  have hd0 : Dice D v bs.length W0 := hd.belowAt b0 (by omega)
  have hz0 : B ≤ W0.heap.size := by rw [hW0]; simp; omega
  clear hr hl b0
  go_enter Tryd.func42, Tryd.ntmps42
  go_wp2_with fail
  try rw [← hWA]
  try rw [← hW0]
  try rw [hB]
  try rw [hA]
  try rw [hBA]
  clear hW0
  try clear hWA
  go_loopw [5, 6] (fun o i wr => ∃ (k : Nat) (xs : List Int), k ≤ n ∧ i = .int .i64 k ∧ wr.ownsRow B 2 1 o xs.length (ints xs) ∧ Hid (xs.length ≤ k) ∧ Hid (SetP k xs) ∧ Dice D v bs.length wr ∧ Upd D (D + 1) w wr ∧ B ≤ wr.heap.size ∧ VC 56 A #[.slice a n c] wr) (fun _ i _ => n - (intOf i).toNat)
  case atStart => exact ⟨0, [], Nat.zero_le _, rfl, by simpa [ints] using ho0, Lib.hid (Nat.le_refl _), Lib.hid (setP_nil 0), hd0, u0, hz0, VA⟩
  case round =>
    clear ho0 hd0 u0 hz0 VA
    obtain ⟨k, xs, hk, rfl, ho, HL, HP, hdk, uk, hBw, VA⟩ := hrel
    have hcg := VA.cell
    by_cases hlt : k < n
    · go_wp2_with fail
      refine (HBE.out 2 2 wr rfl (by decide) (by decide) hdk uk).mono ?_
      rintro e1 w1 ⟨x, rfl, hx, hd1, u1⟩
      have ho1 := own_upd ho u1 (by omega)
      replace VA := VA.upd u1 (by omega)
      clear hcg
      have hz := u1.size
      have hzz := uk.size
      have hlx := HL.out
      have hBk : B ≤ w1.heap.size := by omega
      replace uk := uk.trans u1
      clear ho hdk u1
      by_cases hx0 : x = 0
      · have hb : ((x : Int) == 0) = true := by simp [hx0]
        have HD1 := Lib.hid hd1
        have HUK := Lib.hid uk
        clear hd1 uk hx0
        go_wp2_with (at_builtin; refine wpList_push _ rfl _ _ 30 rfl B 2 _ _ 8 Tryd.underlying30 infoI rfl _ _ _ rfl ho1 _ rfl rfl (by unfold maxLen; omega) (by omega) (by omega) ?_; intro g' c' w2 ho2 hg)
        have hbn : Below B w1 w2 := (Below.refl _ _).grown hg (by omega) fun b hb' => (owns_lt ho1 hb').1
        go_roundw
        case rel => exact ⟨k + 1, xs ++ [(k : Int)], by omega, by go_num, by simpa [ints] using ho2, Lib.hid (by simp; omega), Lib.hid (setP_put HP.out), HD1.out.belowAt hbn hDB, HUK.out.then hbn (by omega), by have := hbn.size; omega, VA.belowAt hbn (by omega)⟩
        case measure => simp [intOf]; omega
      · have hb : ((x : Int) == 0) = false := by simp [hx0]
        clear hx0
        go_wp2_with fail
        go_roundw
        case rel => exact ⟨k + 1, xs, by omega, by go_num, ho1, Lib.hid (by omega), Lib.hid HP.out.up, hd1, uk, hBk, VA⟩
        case measure => simp [intOf]; omega
    · have hkn : k = n := by omega
      clear hlt
      subst hkn
      have HE := Lib.hid ho
      go_wp2_with fail
      go_ret
      exact ⟨xs, _, HP.out, rfl, OwS.of (w0 := w) (owns_base HE.out (by omega)) rfl rfl, hdk, uk⟩
end Go.Proofs.YtbhobmngnjfgfaaDoor
