/-
  The kind []Fact (a slice of structs of 3 numbers): how it lies, the helpers of the laws.
-/
import Derived.Test.YtbhobmngnjfgfaaDoorKinds
import Derived.Test.YtbhobmngnjfgfaaDoorMade
namespace Go.Proofs.YtbhobmngnjfgfaaDoor
open Go.RowKit

def cellsF (L : List (Int × Int × Int)) : List Value := L.flatMap fun p => [.int .i64 p.1, .int .i64 p.2.1, .int .i64 p.2.2]
theorem cellsF_cons (p : Int × Int × Int) (L : List (Int × Int × Int)) : cellsF (p :: L) = .int .i64 p.1 :: .int .i64 p.2.1 :: .int .i64 p.2.2 :: cellsF L := rfl
@[simp] theorem cellsF_length (L : List (Int × Int × Int)) : (cellsF L).length = L.length * 3 := by
  induction L with
  | nil => rfl
  | cons p L ih => rw [cellsF_cons]; simp [ih]; omega
theorem cellsF_snoc (L : List (Int × Int × Int)) (p : Int × Int × Int) : cellsF (L ++ [p]) = cellsF L ++ [.int .i64 p.1, .int .i64 p.2.1, .int .i64 p.2.2] := by simp [cellsF]
theorem cellsF_at {L : List (Int × Int × Int)} : ∀ {k : Nat} {p : Int × Int × Int}, L[k]? = some p → (cellsF L)[k * 3]? = some (.int .i64 p.1) ∧ (cellsF L)[k * 3 + 1]? = some (.int .i64 p.2.1) ∧ (cellsF L)[k * 3 + 2]? = some (.int .i64 p.2.2) := by
  induction L with
  | nil => intro k p h; simp at h
  | cons q L ih =>
    intro k p h
    cases k with
    | zero => simp at h; subst h; simp [cellsF_cons]
    | succ k =>
      have := ih (k := k) (p := p) (by simpa using h)
      rw [show (k + 1) * 3 = k * 3 + 3 by omega, cellsF_cons]
      simpa using this
/-- v is a slice that reads L. -/
abbrev RdF (v : Value) (L : List (Int × Int × Int)) (w : World) : Prop := Row w 3 v L.length (cellsF L)
/-- The same, of the call's own; its block lies from lo up to hi. -/
structure OwF (lo hi : Nat) (v : Value) (L : List (Int × Int × Int)) (w : World) : Prop where
  own : w.ownsRow lo 169 3 v L.length (cellsF L)
  hi : ∀ k, v.ownBlock = some k → k < hi
section
variable {lo hi : Nat} {v : Value} {L : List (Int × Int × Int)} {w w' : World}
theorem OwF.of {w0 : World} (h : w.ownsRow w0.heap.size 169 3 v L.length (cellsF L)) (h0 : w0.heap.size = lo) (h1 : w.heap.size = hi) : OwF lo hi v L w := by
  subst h0; subst h1
  exact ⟨h, fun k hk => (owns_lt h hk).2⟩
theorem OwF.upd {lo' hi' : Nat} (h : OwF lo hi v L w) (u : Upd lo' hi' w w') (hd : hi ≤ lo' ∨ hi' ≤ lo ∨ hi' ≤ lo') : OwF lo hi v L w' :=
  ⟨owns_keep h.own fun b hb hlt => u.block b hlt (by have := (owns_lt h.own hb).1; have := h.hi b hb; omega), h.hi⟩
theorem OwF.rd (h : OwF lo hi v L w) : RdF v L w := Row.of_owns h.own
theorem OwF.shape (h : OwF lo hi v L w) : ∃ a c, v = .slice a L.length c := owns_shape h.own
theorem RdF.below {B : Nat} (h : RdF v L w) (hb : Below B w w') (hB : w.heap.size = B) : RdF v L w' := by subst hB; exact Row.below h hb
theorem RdF.at {a : Option Addr} {n c : Nat} (h : Row w 3 (.slice a n c) n (cellsF L)) {k : Nat} {p : Int × Int × Int} (hp : L[k]? = some p) :
    ∃ b o, a = some ⟨b, o, none⟩ ∧ w.cell? ⟨b, o + k * 3, none⟩ = some (.int .i64 p.1) ∧ w.cell? ⟨b, o + k * 3 + 1, none⟩ = some (.int .i64 p.2.1) ∧ w.cell? ⟨b, o + k * 3 + 2, none⟩ = some (.int .i64 p.2.2) := by
  obtain ⟨a', cap', e, h1, h2, h3, h4, h5⟩ := h
  obtain ⟨rfl, -, -⟩ : a = a' ∧ n = n ∧ c = cap' := by simpa using e
  obtain ⟨g0, g1, g2⟩ := cellsF_at hp
  obtain ⟨b, o, rfl, hc0⟩ := h5 _ _ g0
  obtain ⟨b', o', e', hc1⟩ := h5 _ _ g1
  obtain ⟨rfl, rfl⟩ : b = b' ∧ o = o' := by simpa using e'
  obtain ⟨b', o', e', hc2⟩ := h5 _ _ g2
  obtain ⟨rfl, rfl⟩ : b = b' ∧ o = o' := by simpa using e'
  exact ⟨b, o, rfl, hc0, by rw [Nat.add_assoc]; exact hc1, by rw [Nat.add_assoc]; exact hc2⟩
end
theorem headF {w : World} {base size : Nat} {e : TypeId} {v : Value} {n : Nat} {cs : List Value} (h : w.ownsRow base e size v n cs) (hn : 0 < n) : ∃ g cap, v = .slice (some ⟨g, 0, none⟩) n cap := by
  obtain ⟨_, ⟨rfl, rfl⟩ | ⟨g, cap, cur, rfl, _⟩⟩ := h
  · omega
  · exact ⟨g, cap, rfl⟩
theorem infoEF : (Tryd.prog.info? 169).map (fun i => (i.zero, i.size, i.bytes)) = some (some (.agg #[.int .i64 0, .int .i64 0, .int .i64 0]), 3, 24) := by kernel_rfl

theorem szF_k {v : Value} {L : List (Int × Int × Int)} {w : World} (h : RdF v L w) {M : Int} (hL : M ≤ 1048576) (hL0 : 0 ≤ M) :
    Calls Tryd.prog 80 #[v, .int .i64 M] w fun e w' => ∃ r, e = .returned (.int .i64 r) ∧ LeftS M L.length r ∧ Upd 0 0 w w' := by
  obtain ⟨a, c, rfl, -, -, -⟩ := id h
  have hl := h.len
  unfold maxLen at hl
  have hw : wrap64 (M - (L.length : Int)) = M - (L.length : Int) := by unfold wrap64; omega
  by_cases hlt : M - (L.length : Int) < 0
  · go_enter Tryd.func80, Tryd.ntmps80
    go_wp2_with fail
    go_ret
    exact ⟨-1, rfl, .inl rfl, Upd.rfl' _⟩
  · go_enter Tryd.func80, Tryd.ntmps80
    go_wp2_with fail
    go_ret
    exact ⟨_, rfl, .inr ⟨by omega, rfl⟩, Upd.rfl' _⟩

set_option maxHeartbeats 1000000 in
theorem toF_el (x y z : Int) (w : World) :
    Calls Tryd.prog 157 #[.agg #[.int .i64 x, .int .i64 y, .int .i64 z]] w fun e w' => e = .returned (.agg #[.int .i64 x, .int .i64 y, .int .i64 z]) ∧ Below w.heap.size w w' := by
  obtain ⟨B, hB⟩ : ∃ B, w.heap.size = B := ⟨_, rfl⟩
  obtain ⟨W0, hW0⟩ : ∃ W0, W0 = ((w.alloc (.cells #[.int .i64 x, .int .i64 y, .int .i64 z] 171)).alloc (.cells #[.int .i64 0, .int .i64 0, .int .i64 0] 169)).alloc (.cells #[.int .i64 0, .int .i64 0, .int .i64 0] 169) := ⟨_, rfl⟩
  have u0 : Below B w W0 := by rw [hW0, ← hB]; exact (((Below.refl _ _).alloc (Nat.le_refl _) _).alloc (by simp) _).alloc (by simp; omega) _
  go_enter Tryd.func157, Tryd.ntmps157
  go_wp2_with fail
  obtain ⟨W1, hW1⟩ : ∃ W1, W1 = ((w.alloc (.cells #[.int .i64 x, .int .i64 y, .int .i64 z] 171)).alloc (.cells #[.int .i64 x, .int .i64 y, .int .i64 z] 169)).alloc (.cells #[.int .i64 x, .int .i64 y, .int .i64 z] 169) := ⟨_, rfl⟩
  have hb : Below B w W1 := by rw [hW1]; exact (((Below.refl _ _ : Below B w w).alloc (by omega) _).alloc (by simp; omega) _).alloc (by simp; omega) _
  have VX : VC 169 (B + 1) #[.int .i64 x, .int .i64 y, .int .i64 z] W1 := by rw [hW1]; exact (VC.new (by simp [hB])).upd (Upd.alloc _ _) (by omega)
  rw [← hW1]
  have c0 : W1.cell? ⟨B + 1, 0, none⟩ = some (.int .i64 x) := by unfold VC at VX; simp [World.cell?, VX]
  have c1 : W1.cell? ⟨B + 1, 1, none⟩ = some (.int .i64 y) := by unfold VC at VX; simp [World.cell?, VX]
  have c2 : W1.cell? ⟨B + 1, 2, none⟩ = some (.int .i64 z) := by unfold VC at VX; simp [World.cell?, VX]
  refine bodyPost_ret (v := .agg #[.int .i64 x, .int .i64 y, .int .i64 z]) (by simp [results, Tryd.results157, go_sem, c0, c1, c2]) rfl ?_
  exact ⟨rfl, by rw [hB]; exact hb⟩

set_option maxHeartbeats 1000000 in
theorem eqF_el (x y z : Int) (w : World) :
    Calls Tryd.prog 159 #[.agg #[.int .i64 x, .int .i64 y, .int .i64 z], .agg #[.int .i64 x, .int .i64 y, .int .i64 z]] w fun e w' => e = .returned (.bool true) ∧ Below w.heap.size w w' := by
  have h0 : (x != x) = false := by simp
  have h1 : (y != y) = false := by simp
  have h2 : (z != z) = false := by simp
  obtain ⟨B, hB⟩ : ∃ B, w.heap.size = B := ⟨_, rfl⟩
  go_enter Tryd.func159, Tryd.ntmps159
  go_wp2_with fail
  go_ret
  exact ⟨rfl, by rw [hB]; exact (((Below.refl _ _ : Below B w w).alloc (by omega) _).alloc (by simp; omega) _)⟩

set_option maxHeartbeats 2000000 in
theorem eqF_k {v1 v2 : Value} {L : List (Int × Int × Int)} {w : World} (h1 : RdF v1 L w) (h2 : RdF v2 L w) :
    Calls Tryd.prog 87 #[v1, v2] w fun e w' => e = .returned (.bool true) ∧ Upd 0 0 w w' := by
  have hl := h1.len
  unfold maxLen at hl
  obtain ⟨a1, c1, rfl, -, -, -⟩ := id h1
  obtain ⟨a2, c2, rfl, -, -, -⟩ := id h2
  obtain ⟨B, hB⟩ : ∃ B, w.heap.size = B := ⟨_, rfl⟩
  have hb : ((L.length : Int) != L.length) = false := by simp
  have hbr : Below B w w := Below.refl _ _
  go_enter Tryd.func87, Tryd.ntmps87
  go_wp2_with fail
  go_loopw [5] (fun i wr => ∃ k : Nat, k ≤ L.length ∧ i = .int .i64 k ∧ Below B w wr) (fun i _ => L.length - (intOf i).toNat)
  case atStart => exact ⟨0, Nat.zero_le _, rfl, hbr⟩
  case round =>
    clear hbr
    obtain ⟨k, hk, rfl, hb⟩ := hrel
    have hsz := hb.size
    by_cases hlt : k < L.length
    · obtain ⟨p, hp⟩ : ∃ p, L[k]? = some p := ⟨_, List.getElem?_eq_getElem hlt⟩
      obtain ⟨b1, o1, rfl, hc0, hc1, hc2⟩ := RdF.at (RdF.below h1 hb hB) hp
      obtain ⟨b2, o2, rfl, hd0, hd1, hd2⟩ := RdF.at (RdF.below h2 hb hB) hp
      have HE := Lib.hid (eqF_el (p.1) (p.2.1) (p.2.2) wr.drew)
      have hbd : Below B w wr.drew := hb.drew
      clear hp
      go_wp2_with fail
      refine wp_region_ord [0, 1, 2, 4, 5, 6] [3, 7] [] [8, 9] (by kernel_rfl) (by kernel_rfl) (fun _ _ d _ _ h => by cases d <;> exact h) ?_
      simp only [pickOps, List.filterMap_cons, List.filterMap_nil, List.getElem?_cons_succ, List.getElem?_cons_zero]
      repeat quiet_step (fail)
      simp only [wpQuiet_nil_eq, wpSegs_nil_eq]
      go_wp2_with fail
      refine HE.out.mono ?_
      rintro e1 w1 ⟨rfl, hb1⟩
      have hb2 := hbd.trans (hb1.mono (by have := hbd.size; omega))
      clear hb1 hb hbd HE
      go_wp2_with fail
      go_roundw
      case rel => exact ⟨k + 1, by omega, by go_num, hb2⟩
      case measure => simp [intOf]; omega
    · obtain rfl : k = L.length := by omega
      go_wp2_with fail
      go_ret
      exact ⟨rfl, Upd.of_below (by rw [hB]; exact hb)⟩

theorem flatF (n : Nat) : ((List.replicate n ([.int .i64 0, .int .i64 0, .int .i64 0] : List Value)).flatten).length = n * 3 := by
  induction n with
  | zero => rfl
  | succ n ih => rw [List.replicate_succ, List.flatten_cons, List.length_append, ih]; simp; omega
theorem fillF {L : List (Int × Int × Int)} {k : Nat} {p : Int × Int × Int} (hp : L[k]? = some p) :
    (((cellsF (L.take k) ++ (List.replicate (L.length - k) ([.int .i64 0, .int .i64 0, .int .i64 0] : List Value)).flatten).set (k * 3) (.int .i64 p.1)).set (k * 3 + 1) (.int .i64 p.2.1)).set (k * 3 + 2) (.int .i64 p.2.2) = cellsF (L.take (k + 1)) ++ (List.replicate (L.length - (k + 1)) ([.int .i64 0, .int .i64 0, .int .i64 0] : List Value)).flatten := by
  have hk := (List.getElem?_eq_some_iff.1 hp).1
  have h1 : (cellsF (L.take k)).length = k * 3 := by rw [cellsF_length, List.length_take]; congr 1; omega
  rw [show L.length - k = (L.length - (k + 1)) + 1 by omega, List.replicate_succ, List.flatten_cons, take_snoc hp, cellsF_snoc]
  generalize cellsF (L.take k) = A at *
  generalize (List.replicate (L.length - (k + 1)) ([.int .i64 0, .int .i64 0, .int .i64 0] : List Value)).flatten = Z
  rw [← h1]
  simp
set_option maxHeartbeats 2000000 in
theorem toF_k {v : Value} {L : List (Int × Int × Int)} {w : World} (h : RdF v L w) (hn : L.length ≤ 1048576) {lo : Nat} (hlo : w.heap.size = lo) :
    Calls Tryd.prog 84 #[v] w fun e w' => ∃ u, e = .returned u ∧ OwF lo w'.heap.size u L w' ∧ Upd 0 0 w w' := by
  obtain ⟨a, c, rfl, -, -, -⟩ := id h
  have hbl : Below lo w w := Below.refl _ _
  go_enter Tryd.func84, Tryd.ntmps84
  go_wp2_with (at_make; refine wpList_makeN _ rfl _ _ 44 rfl lo 169 (.agg #[.int .i64 0, .int .i64 0, .int .i64 0]) 3 24 Tryd.underlying44 infoEF [.int .i64 0, .int .i64 0, .int .i64 0] rfl rfl .i64 .i64 _ _ L.length rfl rfl (by omega) (by omega) (by omega) (by unfold maxLen; omega) (by omega) ?_; intro w1 ho1 hb1)
  go_loopw [4] (fun i wr => ∃ k : Nat, k ≤ L.length ∧ i = .int .i64 k ∧ wr.ownsRow lo 169 3 (.slice (some ⟨lo, 0, none⟩) L.length L.length) L.length (cellsF (L.take k) ++ (List.replicate (L.length - k) ([.int .i64 0, .int .i64 0, .int .i64 0] : List Value)).flatten) ∧ Below lo w wr) (fun i _ => L.length - (intOf i).toNat)
  case atStart => exact ⟨0, Nat.zero_le _, by first | rfl | trivial, by simpa [cellsF] using hlo ▸ ho1, hlo ▸ hb1⟩
  case round =>
    clear hbl ho1 hb1
    obtain ⟨k, hk, rfl, ho, hb⟩ := hrel
    have hsz := hb.size
    by_cases hlt : k < L.length
    · obtain ⟨p, hp⟩ : ∃ p, L[k]? = some p := ⟨L[k]'(by omega), List.getElem?_eq_getElem (by omega)⟩
      obtain ⟨b1, o1, rfl, hc0, hc1, hc2⟩ := RdF.at (RdF.below h hb hlo) hp
      have HE := Lib.hid (toF_el (p.1) (p.2.1) (p.2.2) wr)
      have HF := Lib.hid (fillF hp)
      go_wp2_with fail
      refine HE.out.mono ?_
      rintro e1 w2 ⟨rfl, hb2⟩
      have ho2 := owns_below ho hb2
      have hbb := hb.trans (hb2.mono (by omega))
      have hf0 : World.frozen? w2 ⟨lo, k * 3, none⟩ = false := ho2.frozenAt (k * 3)
      obtain ⟨z0, hz0⟩ : ∃ z, World.cell? w2 ⟨lo, k * 3, none⟩ = some z := by
        rw [ho2.cellAt (k * 3) (by omega)]
        exact ⟨_, List.getElem?_eq_getElem (by have h1 := ho2.1; omega)⟩
      have hst0 := ho2.stored (k * 3) (.int .i64 p.1)
      have hf1 : World.frozen? (w2.setCell ⟨lo, k * 3, none⟩ (.int .i64 p.1)) ⟨lo, k * 3 + 1, none⟩ = false := hst0.1.frozenAt (k * 3 + 1)
      obtain ⟨z1, hz1⟩ : ∃ z, World.cell? (w2.setCell ⟨lo, k * 3, none⟩ (.int .i64 p.1)) ⟨lo, k * 3 + 1, none⟩ = some z := by
        rw [hst0.1.cellAt (k * 3 + 1) (by omega)]
        exact ⟨_, List.getElem?_eq_getElem (by have h1 := hst0.1.1; omega)⟩
      have hst1 := hst0.1.stored (k * 3 + 1) (.int .i64 p.2.1)
      have hf2 : World.frozen? ((w2.setCell ⟨lo, k * 3, none⟩ (.int .i64 p.1)).setCell ⟨lo, k * 3 + 1, none⟩ (.int .i64 p.2.1)) ⟨lo, k * 3 + 2, none⟩ = false := hst1.1.frozenAt (k * 3 + 2)
      obtain ⟨z2, hz2⟩ : ∃ z, World.cell? ((w2.setCell ⟨lo, k * 3, none⟩ (.int .i64 p.1)).setCell ⟨lo, k * 3 + 1, none⟩ (.int .i64 p.2.1)) ⟨lo, k * 3 + 2, none⟩ = some z := by
        rw [hst1.1.cellAt (k * 3 + 2) (by omega)]
        exact ⟨_, List.getElem?_eq_getElem (by have h1 := hst1.1.1; omega)⟩
      have hst2 := hst1.1.stored (k * 3 + 2) (.int .i64 p.2.2)
      have hbs : Below lo w ((((w2.setCell ⟨lo, k * 3, none⟩ (.int .i64 p.1)).setCell ⟨lo, k * 3 + 1, none⟩ (.int .i64 p.2.1)).setCell ⟨lo, k * 3 + 2, none⟩ (.int .i64 p.2.2))) := (((hbb.setCell (Nat.le_refl _) _).setCell (Nat.le_refl _) _).setCell (Nat.le_refl _) _)
      have HST := Lib.hid (And.intro hst2.1 hbs)
      clear hst0 hst1 hst2 hbs hb hb2 ho ho2 hp
      go_wp2_with fail
      rw [HF.out] at HST
      go_roundw
      case rel => exact ⟨k + 1, by omega, by go_num, HST.out.1, HST.out.2⟩
      case measure => simp [intOf]; omega
    · obtain rfl : k = L.length := by omega
      rw [List.take_length, Nat.sub_self] at ho
      simp only [List.replicate_zero, List.flatten_nil, List.append_nil] at ho
      have HO := Lib.hid ho
      go_wp2_with fail
      go_ret
      exact ⟨_, rfl, ⟨HO.out, fun y hy => by have := (owns_lt HO.out hy).2; exact this⟩, Upd.of_below (by rw [hlo]; exact hb)⟩

set_option maxHeartbeats 2000000 in
theorem markF_k {lo hi : Nat} {v : Value} {L : List (Int × Int × Int)} {w : World} (h : OwF lo hi v L w) {k : Nat} {K0 K' : Int} (hK : K0 = k) (hK' : K' = ((k + 3 * L.length : Nat) : Int)) (hk : k + 3 * L.length ≤ 1000000000) :
    Calls Tryd.prog 88 #[v, .int .i64 K0] w fun e w' => e = .returned (.int .i64 K') ∧ True ∧ Upd lo hi w w' := by
  subst hK
  obtain ⟨a, c, rfl⟩ := h.shape
  have H := Lib.hid h
  have HK := Lib.hid hK'
  have ho0 := h.own
  obtain ⟨n, hn⟩ : ∃ n, L.length = n := ⟨_, rfl⟩
  obtain ⟨cs0, hcs⟩ : ∃ cs, cellsF L = cs := ⟨_, rfl⟩
  rw [hn, hcs] at ho0
  rw [hn] at hk HK ⊢
  have HN := Lib.hid hn
  clear hn hcs h hK'
  have hg0 : w.grownBy w (Value.slice a n c).ownBlock := ⟨rfl, rfl, rfl, Nat.le_refl _, fun _ _ _ => rfl⟩
  go_enter Tryd.func88, Tryd.ntmps88
  go_wp2_with fail
  go_loopw [1, 5] (fun q i wr => ∃ (j : Nat) (cs : List Value), j ≤ n ∧ i = .int .i64 j ∧ q = .int .i64 ((k : Int) + 3 * (j : Int)) ∧ wr.ownsRow lo 169 3 (.slice a n c) n cs ∧ w.grownBy wr (Value.slice a n c).ownBlock) (fun _ i _ => n - (intOf i).toNat)
  case atStart => exact ⟨0, _, Nat.zero_le _, rfl, by simp, ho0, hg0⟩
  case round =>
    clear ho0 hg0
    obtain ⟨j, cs, hj, rfl, rfl, ho, hg⟩ := hrel
    by_cases hlt : j < n
    · obtain ⟨g, c2, he⟩ := headF ho (by omega)
      obtain ⟨rfl, rfl⟩ : a = some ⟨g, 0, none⟩ ∧ c = c2 := by simpa using he
      clear he
      have hw0 : wrap64 ((k : Int) + 3 * (j : Int) + 1) = (k : Int) + 3 * (j : Int) + 1 := by unfold wrap64; omega
      have hw1 : wrap64 ((k : Int) + 3 * (j : Int) + 1 + 1) = (k : Int) + 3 * (j : Int) + 1 + 1 := by unfold wrap64; omega
      have hw2 : wrap64 ((k : Int) + 3 * (j : Int) + 1 + 1 + 1) = (k : Int) + 3 * (j : Int) + 1 + 1 + 1 := by unfold wrap64; omega
      have hf0 : World.frozen? wr ⟨g, j * 3, none⟩ = false := ho.frozenAt (j * 3)
      obtain ⟨z0, hz0⟩ : ∃ z, World.cell? wr ⟨g, j * 3, none⟩ = some z := by
        rw [ho.cellAt (j * 3) (by omega)]
        exact ⟨_, List.getElem?_eq_getElem (by have h1 := ho.1; omega)⟩
      have hst0 := ho.stored (j * 3) (.int .i64 ((k : Int) + 3 * (j : Int)))
      have hf1 : World.frozen? (wr.setCell ⟨g, j * 3, none⟩ (.int .i64 ((k : Int) + 3 * (j : Int)))) ⟨g, j * 3 + 1, none⟩ = false := hst0.1.frozenAt (j * 3 + 1)
      obtain ⟨z1, hz1⟩ : ∃ z, World.cell? (wr.setCell ⟨g, j * 3, none⟩ (.int .i64 ((k : Int) + 3 * (j : Int)))) ⟨g, j * 3 + 1, none⟩ = some z := by
        rw [hst0.1.cellAt (j * 3 + 1) (by omega)]
        exact ⟨_, List.getElem?_eq_getElem (by have h1 := hst0.1.1; omega)⟩
      have hst1 := hst0.1.stored (j * 3 + 1) (.int .i64 ((k : Int) + 3 * (j : Int) + 1))
      have hf2 : World.frozen? ((wr.setCell ⟨g, j * 3, none⟩ (.int .i64 ((k : Int) + 3 * (j : Int)))).setCell ⟨g, j * 3 + 1, none⟩ (.int .i64 ((k : Int) + 3 * (j : Int) + 1))) ⟨g, j * 3 + 2, none⟩ = false := hst1.1.frozenAt (j * 3 + 2)
      obtain ⟨z2, hz2⟩ : ∃ z, World.cell? ((wr.setCell ⟨g, j * 3, none⟩ (.int .i64 ((k : Int) + 3 * (j : Int)))).setCell ⟨g, j * 3 + 1, none⟩ (.int .i64 ((k : Int) + 3 * (j : Int) + 1))) ⟨g, j * 3 + 2, none⟩ = some z := by
        rw [hst1.1.cellAt (j * 3 + 2) (by omega)]
        exact ⟨_, List.getElem?_eq_getElem (by have h1 := hst1.1.1; omega)⟩
      have hst2 := hst1.1.stored (j * 3 + 2) (.int .i64 ((k : Int) + 3 * (j : Int) + 1 + 1))
      have HST := Lib.hid (And.intro hst2.1 (grown_trans (grown_trans (grown_trans (hg) hst0.2) hst1.2) hst2.2))
      clear hst0 hst1 hst2 ho hg
      go_wp2_with fail
      go_roundw
      case rel => exact ⟨j + 1, _, by omega, by go_num, by go_num, HST.out.1, HST.out.2⟩
      case measure => simp [intOf]; omega
    · obtain rfl : j = n := by omega
      go_wp2_with fail
      go_ret
      exact ⟨ret_int (by rw [HK.out]; omega), trivial, Upd.of_wrote (Wrote.of_grown hg) fun b hb => ⟨(owns_lt ho hb).1, H.out.hi b (by rw [HN.out]; exact hb)⟩⟩


end Go.Proofs.YtbhobmngnjfgfaaDoor
