import Derived.Test.YtpfhflkpnjkgkaaCardCertNumbersJn02
import Derived.Test.YtpfhflkpnjkgkaaGq11
/-
  Small helps for the laws that draw.
-/


namespace Go.Proofs.Ytpfhflkpnjkgkaa
open Go.RowKit
/-- A memory in which a cell reads so. -/
structure KeptC (G : Nat) (g : Value) where
  W : World
  h : W.cell? ⟨G, 0, none⟩ = some g
theorem Upd.ofB {D : Nat} {w w' : World} (h : Below w.heap.size w w') : Upd D (D + 1) w w' := (Upd.of_below h).wide (by omega)
/-- 'append(s, y)' in one step; the row stays where it was, or lies in new memory. -/
theorem wpList_push_wh {P : Program} (wr : World) {ops : Array Oper} {rest : List Oper} {o : Oper} {a : Act} {Q : Exit → Act → World → Prop} (hgd : o.guard = none) (s x : Operand) (t : TypeId)
    (ho : o.op = .call { callee := .builtin .append, args := #[s, x], argTypes := #[t, t] })
    (base : Nat) (e e2 : TypeId) (z : Value) (bytes : Nat) (ht : P.underlying t = some (.slice e)) (hinfo : (P.info? e).map (fun i => (i.zero, i.size, i.bytes)) = some (some z, 1, bytes)) (hzs : z.cells.size = 1)
    (v : Value) (n : Nat) (xs : List Value) (hs : a.eval s = v) (hown : wr.ownsRow base e 1 v n xs)
    (y : Value) (hx : a.eval x = .slice (some ⟨wr.heap.size, 0, none⟩) 1 1) (hy : y.oneCell' = true)
    (h63 : n + 1 ≤ maxLen) (hbytes : (n + 1) * bytes ≤ 140737488355328) (hbase : base ≤ wr.heap.size)
    (h : ∀ g' c' w', w'.ownsRow base e 1 (.slice (some ⟨g', 0, none⟩) (n + 1) c') (n + 1) (xs ++ [y]) → wr.grownBy w' v.ownBlock → (v.ownBlock = some g' ∨ wr.heap.size ≤ g') → wpList P ops Q rest (a.put o.dst (.slice (some ⟨g', 0, none⟩) (n + 1) c')) w') :
    wpList P ops Q (o :: rest) a (wr.alloc (.cells #[y] e2)) := by
  have hlit : (wr.alloc (.cells #[y] e2)).ownsRow wr.heap.size e2 1 (.slice (some ⟨wr.heap.size, 0, none⟩) 1 1) 1 [y] := World.ownsRow_lit wr #[y] 1 (Nat.le_refl _) (by simp [maxLen]) rfl
  refine wpList_extend_where (wr.alloc (.cells #[y] e2)) hgd s x t ho base e z bytes ht hinfo hzs v n xs hs (hown.alloc _) _ 1 [y] (by omega) hx (Row.of_owns hlit) (by simp [hy]) h63 hbytes (by simp; omega) ?_
  intro g' c' w' h1 h2 h3
  refine h g' c' w' h1 ⟨h2.os, h2.tape, h2.output, ?_, fun k hk hne => ?_⟩ ?_
  · have := h2.size; simp at this; omega
  · exact (h2.block k (by simp; omega) hne).trans (Below.heap_alloc _ _ _ hk)
  · rcases h3 with h3 | h3
    · exact .inl h3
    · right; simp at h3; omega

end Go.Proofs.Ytpfhflkpnjkgkaa
/-
  'l1DrawAny' of the reference: some graph, valid or not.
-/


namespace Go.Proofs.Ytpfhflkpnjkgkaa
open Go.RowKit

/-- Some graph; the cursor alone has turned. -/
structure GrQ (D : Nat) (v : Value) (n : Nat) (w : World) (E : Ending) (w' : World) : Prop where
  ex : ∃ u rows, E = .returned (.agg #[u]) ∧ RdSS u rows w' ∧ rows.length ≤ 17
  cur : Cur D v n w'
  upd : Upd D (D + 1) w w'
/-- Rows of the call's own. -/
structure OwR (w : World) (base : Nat) (v : Value) (vs : List Value) (css : List (List Value)) : Prop where
  len : vs.length = css.length
  outer : w.ownsRow base 26 1 v vs.length vs
  rows : ∀ (i : Nat) u cs, vs[i]? = some u → css[i]? = some cs → w.ownsRow base 2 1 u cs.length cs
section
variable {w w' : World} {base : Nat} {v : Value} {vs : List Value} {css : List (List Value)}
theorem OwR.of (h : OwnG w base 26 2 v vs css) : OwR w base v vs css := ⟨h.len, h.outer, h.rows⟩
theorem OwR.keep (h : OwR w base v vs css) (hk : ∀ b, base ≤ b → b < w.heap.size → w'.heap[b]? = w.heap[b]?) : OwR w' base v vs css :=
  ⟨h.len, owns_keep h.outer fun b hb hlt => hk b (owns_lt h.outer hb).1 hlt, fun i u cs h1 h2 => owns_keep (h.rows i u cs h1 h2) fun b hb hlt => hk b (owns_lt (h.rows i u cs h1 h2) hb).1 hlt⟩
theorem OwR.rd (h : OwR w base v vs css) : RdG w v vs css := ⟨h.len, Row.of_owns h.outer, fun i u cs h1 h2 => Row.of_owns (h.rows i u cs h1 h2)⟩
theorem OwR.rebase {base' : Nat} (h : OwR w base v vs css) (hb : base' ≤ base) : OwR w base' v vs css := ⟨h.len, owns_base h.outer hb, fun i u cs h1 h2 => owns_base (h.rows i u cs h1 h2) hb⟩
theorem own_put {w1 : World} {og n c i : Nat} {u' : Value} {cs' : List Value} {r : Option Nat} (h : OwnG w base 26 2 (.slice (some ⟨og, 0, none⟩) n c) vs css) (hn : vs.length = n) (hg : w.grownBy w1 r)
    (hr : r = none ∨ ∃ u, vs[i]? = some u ∧ r = u.ownBlock) (hu : w1.ownsRow base 2 1 u' cs'.length cs') :
    OwR (w1.setCell ⟨og, i, none⟩ u') base (.slice (some ⟨og, 0, none⟩) n c) (vs.set i u') (css.set i cs') := by
  have hro : r ≠ some og := fun he => by
    rcases hr with rfl | ⟨u, hu1, rfl⟩
    · cases he
    · have hi2 : i < vs.length := (List.getElem?_eq_some_iff.1 hu1).1
      exact owns_unlike (h.rows i u (css[i]'(by rw [← h.len]; exact hi2)) hu1 (by simp)) h.outer (by decide) he rfl
  have ho1 := h.outer.kept hg (.inr fun he => hro (by rw [← he]; rfl))
  rw [hn] at ho1
  have hst := ho1.stored i u'
  have kp : ∀ {x : Value} {m : Nat} {cs : List Value}, w1.ownsRow base 2 1 x m cs → (w1.setCell ⟨og, i, none⟩ u').ownsRow base 2 1 x m cs := fun hx => hx.kept hst.2 (by
    cases hv : Value.ownBlock _ with
    | none => exact .inl rfl
    | some b => exact .inr fun he => owns_unlike hx ho1 (by decide) hv (by rw [he]; rfl))
  refine ⟨by simp [h.len], by have := hst.1; simpa [hn] using this, fun j x cs h1 h2 => ?_⟩
  by_cases hij : i = j
  · subst hij
    have h3 : i < vs.length := by simpa using (List.getElem?_eq_some_iff.1 h1).1
    rw [List.getElem?_set_self h3] at h1
    rw [List.getElem?_set_self (by rw [← h.len]; exact h3)] at h2
    simp at h1 h2
    subst h1 h2
    exact kp hu
  · rw [List.getElem?_set_ne hij] at h1 h2
    refine kp ((h.rows j x cs h1 h2).kept hg ?_)
    cases hv : x.ownBlock with
    | none => exact .inl rfl
    | some b =>
      refine .inr fun he => ?_
      rcases hr with rfl | ⟨u, hu1, rfl⟩
      · cases he
      · have hi2 : i < vs.length := (List.getElem?_eq_some_iff.1 hu1).1
        have hj2 : j < vs.length := (List.getElem?_eq_some_iff.1 h1).1
        rw [List.getElem?_eq_getElem hi2] at hu1
        rw [List.getElem?_eq_getElem hj2] at h1
        have e1 := Option.some.inj hu1
        have e2 := Option.some.inj h1
        have hap := List.pairwise_iff_getElem.1 h.apart
        rcases Nat.lt_or_gt_of_ne hij with hlt | hlt
        · exact hap i j hi2 hj2 hlt b (by rw [e1]; exact he.symm) (by rw [e2]; exact hv)
        · exact hap j i hj2 hi2 hlt b (by rw [e2]; exact hv) (by rw [e1]; exact he.symm)
end
/-- A memory in which two cells read so. -/
structure Kept2 (T : Nat) (u : Value) (og x : Nat) (row : Value) where
  W : World
  h1 : W.cell? ⟨T, 0, none⟩ = some u
  h2 : W.cell? ⟨og, x, none⟩ = some row

set_option maxHeartbeats 4000000 in
theorem l1DrawAny_any (D : Nat) (v : Value) (bs : List UInt8) (w : World) (hd : Cur D v bs.length w) (hr : RdB v bs w) (hl : bs.length ≤ 4096) (hvD : Far D v bs) :
    Calls Try.prog 21 #[.pointer (some ⟨D, 0, none⟩)] w (GrQ D v bs.length w) := by
  obtain ⟨B, hB⟩ : ∃ B, w.heap.size = B := ⟨_, rfl⟩
  have hDB : D < B := by have := hd.lt; omega
  have HBE : Hid (∀ (N : Int) (n : Nat) (W : World), N = n → 0 < n → n ≤ 256 → Cur D v bs.length W → Upd D (D + 1) w W →
    Calls Try.prog 29 #[.pointer (some ⟨D, 0, none⟩), .int .i64 N] W fun e w' => ∃ x : Nat, e = .returned (.int .i64 x) ∧ x < n ∧ Cur D v bs.length w' ∧ Upd D (D + 1) W w') :=
    Lib.hid fun N n W hN h0 h1 hdW hu => l1Below_any D v bs n N hN h0 h1 W hdW (hr.upd hu hvD) hl hvD
  have HON : Hid (∀ (N : Int) (n : Nat) (W : World), N = n → 0 < n → n ≤ 256 → Cur D v bs.length W → Upd D (D + 1) w W →
    Calls Try.prog 22 #[.pointer (some ⟨D, 0, none⟩), .int .i64 N] W fun e w' => ∃ b : Bool, e = .returned (.bool b) ∧ Cur D v bs.length w' ∧ Upd D (D + 1) W w') :=
    Lib.hid fun N n W hN h0 h1 hdW hu => l1Once_any D v bs n N hN h0 h1 W hdW (hr.upd hu hvD) hl hvD
  have HNM : Hid (∀ (W : World), Cur D v bs.length W → Upd D (D + 1) w W → Calls Try.prog 41 #[.pointer (some ⟨D, 0, none⟩), .int .i64 16] W (NumP D v bs.length W)) :=
    Lib.hid fun W hdW hu => l1Num_any D v bs W hdW (hr.upd hu hvD) hl hvD
  obtain ⟨W0, hW0⟩ : ∃ W0, W0 = w.alloc (.cells #[.slice none 0 0] 42) := ⟨_, rfl⟩
  have VR0 : GC W0 B (.slice none 0 0) := by rw [hW0, ← hB]; exact GC.new _ _
  have b0 : Below B w W0 := by rw [hW0, ← hB]; exact below_alloc' _ _
  have u0 : Upd D (D + 1) w W0 := (Upd.rfl' w).then b0 (by omega) |>.wide (by omega)
  have hz0 : W0.heap.size = B + 1 := by rw [hW0]; simp [hB]
  have hd0 : Cur D v bs.length W0 := hd.belowAt b0 hDB
  have HDR := Lib.hid (l1Draw_any D v bs W0 hd0 (hr.upd u0 hvD) hl hvD)
  clear hr hl b0 hd
  go_enter Try.func21, Try.ntmps21
  go_wp2_with fail
  try rw [← hW0]
  clear hW0
  refine HDR.out.mono ?_
  rintro e1 w1 ⟨⟨u, vs, rows, rfl, hG, hsh⟩, hd1, u1⟩
  rw [hz0] at hG
  replace u0 := u0.trans u1
  have VR1 : GC w1 B (.slice none 0 0) := VC.upd (t := 42) VR0 u1 (by omega)
  have hz1 : B + 1 ≤ w1.heap.size := by have := u1.size; omega
  clear VR0 hd0 u1 hz0 HDR
  have hvl : vs.length = rows.length := by rw [hG.len, List.length_map]
  have hn1 := hsh.1
  have hn16 := hsh.2.1
  obtain ⟨og, c, rfl⟩ := owns_head hG.outer (by omega)
  obtain ⟨n, hn⟩ : ∃ n, vs.length = n := ⟨_, rfl⟩
  rw [hn] at hG hvl ⊢
  have hvl1 : n ≤ rows.length := by omega
  have hvl2 : rows.length ≤ n := by omega
  have HN := Lib.hid hn
  clear hvl hn
  obtain ⟨T, hT⟩ : ∃ T, w1.heap.size = T := ⟨_, rfl⟩
  obtain ⟨W2, hW2⟩ : ∃ W, W = w1.alloc (.cells #[.slice (some ⟨og, 0, none⟩) n c] 42) := ⟨_, rfl⟩
  have b2 : Below T w1 W2 := by rw [hW2, ← hT]; exact below_alloc' _ _
  have VR2 : GC W2 B (.slice none 0 0) := VR1.belowAt b2 (by omega)
  have VT2 : GC W2 T (.slice (some ⟨og, 0, none⟩) n c) := by rw [hW2, ← hT]; exact GC.new _ _
  have hG2 : OwnG W2 (B + 1) 26 2 (.slice (some ⟨og, 0, none⟩) n c) vs (rows.map ints) := hG.below (hT ▸ b2)
  have hd2 := hd1.belowAt b2 (by omega)
  have u2 := u0.then b2 (by omega)
  have hbc := HON.out 12 12 W2 rfl (by decide) (by decide) hd2 u2
  have HSH : Hid (∀ r ∈ rows, r.length ≤ 32) := Lib.hid hsh.2.2
  clear hG hd1 u0 VR1 hsh b2
  go_wp2_with fail
  try rw [← hW2]
  clear hW2
  refine hbc.mono ?_
  rintro e1 w3 ⟨b3, rfl, hd3, u3⟩
  have VR3 : GC w3 B (.slice none 0 0) := VC.upd (t := 42) VR2 u3 (by omega)
  have VT3 : GC w3 T (.slice (some ⟨og, 0, none⟩) n c) := VC.upd (t := 42) VT2 u3 (by omega)
  have hG3 := hG2.upd u3 (by omega)
  replace u2 := u2.trans u3
  clear VR2 VT2 hG2 hd2 u3 hbc
  cases b3 with
  | false =>
    have hcT9 := (VT3).cell
    have hcR9 := (VR3).cell
    have hfR9 := (VR3).free
    have hsz9 : B ≤ (w3).heap.size := by have := (VR3).lt; omega
    have bb9 : Below B (w3) ((w3).setCell ⟨B, 0, none⟩ (.slice (some ⟨og, 0, none⟩) n c)) := (Below.refl _ _).setCell (by simp) _
    have hend9 : GrQ D v bs.length w (.returned (.agg #[.slice (some ⟨og, 0, none⟩) n c])) ((w3).setCell ⟨B, 0, none⟩ (.slice (some ⟨og, 0, none⟩) n c)) :=
      ⟨⟨_, _, rfl, ⟨_, ((OwR.of hG3).keep fun b hb hlt => Below.heap_setCell _ _ _ _ (by simp; omega)).rd⟩, by omega⟩, (hd3).belowAt bb9 (by omega), (u2).then bb9 (by omega)⟩
    have HCE9 := Lib.hid ((VR3).set (.slice (some ⟨og, 0, none⟩) n c)).cell
    have HEND9 := Lib.hid hend9
    clear hend9 bb9
    go_wp2_with fail
    refine bodyPost_ret (v := .agg #[.slice (some ⟨og, 0, none⟩) n c]) (by simp [results, Try.results21, go_sem, HCE9.out]) rfl ?_
    exact HEND9.out
  | true =>
    have hcT := VT3.cell
    have hbc := HBE.out (n : Int) n w3 rfl (by omega) (by omega) hd3 u2
    go_wp2_with fail
    refine hbc.mono ?_
    rintro e1 w4 ⟨x, rfl, hx, hd4, u4⟩
    have VR4 : GC w4 B (.slice none 0 0) := VC.upd (t := 42) VR3 u4 (by omega)
    have VT4 : GC w4 T (.slice (some ⟨og, 0, none⟩) n c) := VC.upd (t := 42) VT3 u4 (by omega)
    have hG4 := hG3.upd u4 (by omega)
    replace u2 := u2.trans u4
    clear VR3 VT3 hG3 hd3 u4 hbc hcT
    have hbc := HBE.out 5 5 w4 rfl (by omega) (by omega) hd4 u2
    go_wp2_with fail
    refine hbc.mono ?_
    rintro e1 w5 ⟨y, rfl, hy, hd5, u5⟩
    have VR5 : GC w5 B (.slice none 0 0) := VC.upd (t := 42) VR4 u5 (by omega)
    have VT5 : GC w5 T (.slice (some ⟨og, 0, none⟩) n c) := VC.upd (t := 42) VT4 u5 (by omega)
    have hG5 := hG4.upd u5 (by omega)
    replace u2 := u2.trans u5
    clear VR4 VT4 hG4 hd4 u5 hbc
    have hcT := VT5.cell
    have hz5 : B + 1 ≤ w5.heap.size := by have := VR5.lt; omega
    have hTB : B < T := by omega
    have hogB : B + 1 ≤ og := (owns_lt hG5.outer (b := og) rfl).1
    have hogT : og ≠ T := fun he => by
      have h1 := VT5.unlike hG5.outer (by decide)
      exact h1 (by rw [← he]; rfl)
    have hoo : w5.ownsRow (B + 1) 26 1 (.slice (some ⟨og, 0, none⟩) n c) n vs := by have := hG5.outer; rwa [HN.out] at this
    obtain ⟨row, hrow⟩ : ∃ row, vs[x]? = some row := ⟨_, List.getElem?_eq_getElem (by have := HN.out; omega)⟩
    obtain ⟨cs, hcs⟩ : ∃ cs, rows[x]? = some cs := ⟨_, List.getElem?_eq_getElem (by omega)⟩
    have hcrow : w5.cell? ⟨og, x, none⟩ = some row := by rw [hoo.cellAt x (by omega)]; exact hrow
    have hfrow : w5.frozen? ⟨og, x, none⟩ = false := hoo.frozenAt x
    rcases (show y = 0 ∨ y = 1 ∨ y = 2 ∨ y = 3 ∨ y = 4 by omega) with rfl | rfl | rfl | rfl | rfl
    · obtain ⟨ra, rc, hre⟩ := owns_shape (hG5.rows x row (ints cs) hrow (by rw [List.getElem?_map, hcs]; rfl))
      rw [ints_length] at hre
      subst hre
      obtain ⟨m, hm⟩ : ∃ m, cs.length = m := ⟨_, rfl⟩
      have hm32 : m ≤ 32 := by rw [← hm]; exact HSH.out cs (List.mem_of_getElem? hcs)
      rw [hm] at hrow hcrow
      have hsub1 : ∀ k : Kept2 T (.slice (some ⟨og, 0, none⟩) n c) og x (.slice ra m rc), k.W.cell? ⟨T, 0, none⟩ = some (.slice (some ⟨og, 0, none⟩) n c) := fun k => k.h1
      have hsub2 : ∀ k : Kept2 T (.slice (some ⟨og, 0, none⟩) n c) og x (.slice ra m rc), k.W.cell? ⟨og, x, none⟩ = some (.slice ra m rc) := fun k => k.h2
      have HC0 : Hid (∃ k : Kept2 T (.slice (some ⟨og, 0, none⟩) n c) og x (.slice ra m rc), w5.drew = k.W) := Lib.hid ⟨⟨w5.drew, hcT, hcrow⟩, rfl⟩
      haveI hne : Nonempty (Kept2 T (.slice (some ⟨og, 0, none⟩) n c) og x (.slice ra m rc)) := ⟨⟨w5.drew, hcT, hcrow⟩⟩
      go_wp2_with fail
      refine wp_region_order [0, 2, 3, 5, 8] [1, 4, 6, 7] [9, 10, 11] [12, 13] (fun W => ∃ k : Kept2 T (.slice (some ⟨og, 0, none⟩) n c) og x (.slice ra m rc), W = k.W) (by kernel_rfl) (by kernel_rfl) (fun _ _ d _ _ h => by cases d <;> exact h) HC0.out ?_
      simp only [pickOps, List.filterMap_cons, List.filterMap_nil, List.getElem?_cons_succ, List.getElem?_cons_zero]
      repeat quiet_step (fail)
      simp only [wpQuiet_nil_eq]
      have VRd : GC w5.drew B (.slice none 0 0) := VR5
      have VTd : GC w5.drew T (.slice (some ⟨og, 0, none⟩) n c) := VT5
      have hGd := hG5.upd (Upd.drew w5) (by omega)
      have hdd := hd5.upd (Upd.drew w5) (by omega)
      have udd := u2.trans ((Upd.drew w5).wide (by omega))
      have hzd : B + 1 ≤ w5.drew.heap.size := hz5
      clear VR5 VT5 hG5 hd5 u2 hcT hcrow hfrow hoo HC0
      generalize w5.drew = wd at *
      refine wpSegs_cons ?_
      go_wp2_with fail
      refine (HNM.out wd hdd udd).mono ?_
      rintro e1 w6 ⟨⟨z, rfl⟩, hd6, u6⟩
      have VR6 : GC w6 B (.slice none 0 0) := VC.upd (t := 42) VRd u6 (by omega)
      have VT6 : GC w6 T (.slice (some ⟨og, 0, none⟩) n c) := VC.upd (t := 42) VTd u6 (by omega)
      have hG6 := hGd.upd u6 (by omega)
      have u26 := udd.trans u6
      have hz6 : B + 1 ≤ w6.heap.size := by have := u6.size; omega
      have hrow6 : w6.ownsRow (B + 1) 2 1 (.slice ra m rc) m (ints cs) := by
        have := hG6.rows x _ (ints cs) hrow (by rw [List.getElem?_map, hcs]; rfl)
        rwa [ints_length, hm] at this
      have hoo6 : w6.ownsRow (B + 1) 26 1 (.slice (some ⟨og, 0, none⟩) n c) n vs := by have := hG6.outer; rwa [HN.out] at this
      have hcr6 : w6.cell? ⟨og, x, none⟩ = some (.slice ra m rc) := by rw [hoo6.cellAt x (by omega)]; exact hrow
      have hrT : (Value.slice ra m rc).ownBlock ≠ some T := VT6.unlike hrow6 (by decide)
      have hrO : (Value.slice ra m rc).ownBlock ≠ some og := fun he => owns_unlike hrow6 hoo6 (by decide) he rfl
      have hrB : (Value.slice ra m rc).ownBlock ≠ some B := fun he => by have := (owns_lt hrow6 he).1; omega
      have HC6 : Hid (∃ k : Kept2 T (.slice (some ⟨og, 0, none⟩) n c) og x (.slice ra m rc), w6 = k.W) := Lib.hid ⟨⟨w6, VT6.cell, hcr6⟩, rfl⟩
      have HC7 : Hid (∃ k : Kept2 T (.slice (some ⟨og, 0, none⟩) n c) og x (.slice ra m rc), w6.alloc (.cells #[.int .i64 z] 2) = k.W) := Lib.hid ⟨⟨_, (VT6.alloc _).cell, ((below_alloc' w6 _).cell (p := ⟨og, x, none⟩) (block_lt hcr6)).trans hcr6⟩, rfl⟩
      have HG6 := Lib.hid hG6
      have HS6 := Lib.hid (And.intro VR6 (And.intro VT6 (And.intro hd6 u26)))
      have HR6 := Lib.hid hrow6
      have HX6 := Lib.hid (And.intro hrT (And.intro hrO hrB))
      have HO6 := Lib.hid hoo6
      clear VRd VTd hGd hdd udd hzd hG6 hd6 u6 u26 VR6 VT6 hrow6 hoo6 hcr6 hrT hrO hrB
      go_wp2_with fail
      refine ⟨HC6.out, ?_⟩
      refine wpSegs_cons ?_
      go_wp2_with fail
      refine ⟨HC7.out, ?_⟩
      refine wpSegs_cons ?_
      go_wp2_with (at_builtin; refine wpList_push_wh w6 rfl _ _ 26 rfl (B + 1) 2 _ _ 8 Try.underlying26 infoI rfl (.slice ra m rc) m (ints cs) rfl HR6.out (.int .i64 z) rfl rfl (by unfold maxLen; omega) (by omega) (by omega) ?_; intro g8 c8 w8 ho8 hg8 hw8)
      obtain ⟨VR6, VT6, hd6, u26⟩ := HS6.out
      obtain ⟨hrT, hrO, hrB⟩ := HX6.out
      have VR8 : GC w8 B (.slice none 0 0) := VC.grown (t := 42) VR6 hg8 hrB
      have VT8 : GC w8 T (.slice (some ⟨og, 0, none⟩) n c) := VC.grown (t := 42) VT6 hg8 hrT
      have hoo8 : w8.ownsRow (B + 1) 26 1 (.slice (some ⟨og, 0, none⟩) n c) n vs := HO6.out.kept hg8 (.inr fun he => hrO (by rw [← he]; rfl))
      have hcr8 : w8.cell? ⟨og, x, none⟩ = some (.slice ra m rc) := by rw [hoo8.cellAt x (by omega)]; exact hrow
      have hfr8 : w8.frozen? ⟨og, x, none⟩ = false := hoo8.frozenAt x
      have b8 : Below (B + 1) w6 w8 := (Below.refl _ _).grown hg8 (by omega) fun b hb => (owns_lt HR6.out hb).1
      have hd8 := hd6.belowAt b8 (by omega)
      have u28 := u26.then b8 (by omega)
      have HC8 : Hid (∃ k : Kept2 T (.slice (some ⟨og, 0, none⟩) n c) og x (.slice ra m rc), w8 = k.W) := Lib.hid ⟨⟨w8, VT8.cell, hcr8⟩, rfl⟩
      have hcs8 : (rows.map ints).set x (ints (cs ++ [z])) = (rows.set x (cs ++ [z])).map ints := by rw [List.map_set]
      have hu8 : w8.ownsRow (B + 1) 2 1 (.slice (some ⟨g8, 0, none⟩) (m + 1) c8) (ints (cs ++ [z])).length (ints (cs ++ [z])) := by
        rw [ints_snoc, List.length_append, ints_length, hm]
        exact ho8
      have hR9 := own_put (i := x) HG6.out HN.out hg8 (.inr ⟨_, hrow, rfl⟩) hu8
      rw [hcs8] at hR9
      have VR9 := VR8.other (p := ⟨og, x, none⟩) (by simp; omega) (.slice (some ⟨g8, 0, none⟩) (m + 1) c8)
      have VT9 := VT8.other (p := ⟨og, x, none⟩) (by simp; omega) (.slice (some ⟨g8, 0, none⟩) (m + 1) c8)
      have bb9' : Below (B + 1) w8 (w8.setCell ⟨og, x, none⟩ (.slice (some ⟨g8, 0, none⟩) (m + 1) c8)) := (Below.refl _ _).setCell (by simp; omega) _
      have hd9 := hd8.belowAt bb9' (by omega)
      have u29 := u28.then bb9' (by have := u28.size; omega)
      have hrl : (rows.set x (cs ++ [z])).length ≤ 17 := by simp; omega
      clear VR6 VT6 hd6 u26 hrT hrO hrB hoo8 b8 hd8 u28 hcs8 hu8 ho8 hg8 hw8 bb9' HC6 HC7 VR8
      have hcT8 := VT8.cell
      clear VT8
      refine ⟨HC8.out, ?_⟩
      simp only [wpSegs_nil_eq]
      have hcT9 := (VT9).cell
      have hcR9 := (VR9).cell
      have hfR9 := (VR9).free
      have hsz9 : B ≤ (w8.setCell ⟨og, x, none⟩ (.slice (some ⟨g8, 0, none⟩) (m + 1) c8)).heap.size := by have := (VR9).lt; omega
      have bb9 : Below B (w8.setCell ⟨og, x, none⟩ (.slice (some ⟨g8, 0, none⟩) (m + 1) c8)) ((w8.setCell ⟨og, x, none⟩ (.slice (some ⟨g8, 0, none⟩) (m + 1) c8)).setCell ⟨B, 0, none⟩ (.slice (some ⟨og, 0, none⟩) n c)) := (Below.refl _ _).setCell (by simp) _
      have hend9 : GrQ D v bs.length w (.returned (.agg #[.slice (some ⟨og, 0, none⟩) n c])) ((w8.setCell ⟨og, x, none⟩ (.slice (some ⟨g8, 0, none⟩) (m + 1) c8)).setCell ⟨B, 0, none⟩ (.slice (some ⟨og, 0, none⟩) n c)) :=
        ⟨⟨_, _, rfl, ⟨_, ((hR9).keep fun b hb hlt => Below.heap_setCell _ _ _ _ (by simp; omega)).rd⟩, hrl⟩, (hd9).belowAt bb9 (by omega), (u29).then bb9 (by omega)⟩
      have HCE9 := Lib.hid ((VR9).set (.slice (some ⟨og, 0, none⟩) n c)).cell
      have HEND9 := Lib.hid hend9
      clear hend9 bb9
      go_wp2_with fail
      refine bodyPost_ret (v := .agg #[.slice (some ⟨og, 0, none⟩) n c]) (by simp [results, Try.results21, go_sem, HCE9.out]) rfl ?_
      exact HEND9.out
    · obtain ⟨W6, hW6⟩ : ∃ W, W = w5.alloc (.cells #[.int .i64 (x : Int)] 2) := ⟨_, rfl⟩
      obtain ⟨S, hS⟩ : ∃ S, w5.heap.size = S := ⟨_, rfl⟩
      have hg6 : w5.grownBy W6 none := by rw [hW6]; exact World.grownBy_alloc _ _ _
      have b6 : Below S w5 W6 := by rw [hW6, ← hS]; exact below_alloc' _ _
      have hu6 : W6.ownsRow (B + 1) 2 1 (.slice (some ⟨S, 0, none⟩) 1 1) (ints ([(x : Int)])).length (ints ([(x : Int)])) := by
        rw [hW6]; subst hS
        exact World.ownsRow_lit w5 _ 1 (by omega) (by simp [maxLen]) rfl
      have hcs' : (rows.map ints).set x (ints ([(x : Int)])) = (rows.set x ([(x : Int)])).map ints := by rw [List.map_set]
      have hR8 := own_put (i := x) hG5 HN.out hg6 (.inl rfl) hu6
      rw [hcs'] at hR8
      have VR6 := VR5.belowAt b6 (by omega)
      have VT6 := VT5.belowAt b6 (by have := VT5.lt; omega)
      have hcr6 : W6.cell? ⟨og, x, none⟩ = some row := (b6.cell (p := ⟨og, x, none⟩) (by have := block_lt hcrow; omega)).trans hcrow
      have hfr6 : W6.frozen? ⟨og, x, none⟩ = false := (b6.frozen (p := ⟨og, x, none⟩) (by have := block_lt hcrow; omega)).trans hfrow
      have VR8 := VR6.other (p := ⟨og, x, none⟩) (by simp; omega) (.slice (some ⟨S, 0, none⟩) 1 1)
      have VT8 := VT6.other (p := ⟨og, x, none⟩) (by simp; omega) (.slice (some ⟨S, 0, none⟩) 1 1)
      have bb8 : Below (B + 1) W6 (W6.setCell ⟨og, x, none⟩ (.slice (some ⟨S, 0, none⟩) 1 1)) := (Below.refl _ _).setCell (by simp; omega) _
      have hd8 := (hd5.belowAt b6 (by omega)).belowAt bb8 (by omega)
      have u8 := (u2.then b6 (by omega)).then bb8 (by omega)
      have hcT6 := VT6.cell
      have HW6 := Lib.hid hW6
      rw [hW6] at hcr6 hfr6 hcT6
      have hrl : (rows.set x ([(x : Int)])).length ≤ 17 := by simp; omega
      clear hoo hcrow hfrow hrow hcs VR5 VT5 VR6 VT6 hd5 u2 b6 bb8 hg6 hu6 hcs' hG5
      rw [hW6] at VR8 VT8 hR8 hd8 u8
      have hcT9 := (VT8).cell
      have hcR9 := (VR8).cell
      have hfR9 := (VR8).free
      have hsz9 : B ≤ ((w5.alloc (.cells #[.int .i64 (x : Int)] 2)).setCell ⟨og, x, none⟩ (.slice (some ⟨S, 0, none⟩) 1 1)).heap.size := by have := (VR8).lt; omega
      have bb9 : Below B ((w5.alloc (.cells #[.int .i64 (x : Int)] 2)).setCell ⟨og, x, none⟩ (.slice (some ⟨S, 0, none⟩) 1 1)) (((w5.alloc (.cells #[.int .i64 (x : Int)] 2)).setCell ⟨og, x, none⟩ (.slice (some ⟨S, 0, none⟩) 1 1)).setCell ⟨B, 0, none⟩ (.slice (some ⟨og, 0, none⟩) n c)) := (Below.refl _ _).setCell (by simp) _
      have hend9 : GrQ D v bs.length w (.returned (.agg #[.slice (some ⟨og, 0, none⟩) n c])) (((w5.alloc (.cells #[.int .i64 (x : Int)] 2)).setCell ⟨og, x, none⟩ (.slice (some ⟨S, 0, none⟩) 1 1)).setCell ⟨B, 0, none⟩ (.slice (some ⟨og, 0, none⟩) n c)) :=
        ⟨⟨_, _, rfl, ⟨_, ((hR8).keep fun b hb hlt => Below.heap_setCell _ _ _ _ (by simp; omega)).rd⟩, hrl⟩, (hd8).belowAt bb9 (by omega), (u8).then bb9 (by omega)⟩
      have HCE9 := Lib.hid ((VR8).set (.slice (some ⟨og, 0, none⟩) n c)).cell
      have HEND9 := Lib.hid hend9
      clear hend9 bb9
      go_wp2_with fail
      refine bodyPost_ret (v := .agg #[.slice (some ⟨og, 0, none⟩) n c]) (by simp [results, Try.results21, go_sem, HCE9.out]) rfl ?_
      exact HEND9.out
    · clear hoo hcrow hfrow hrow hcs
      have hbc := HBE.out 2 2 w5 rfl (by omega) (by omega) hd5 u2
      go_wp2_with fail
      refine hbc.mono ?_
      rintro e1 w6 ⟨z, rfl, hz, hd6, u6⟩
      have VR6 : GC w6 B (.slice none 0 0) := VC.upd (t := 42) VR5 u6 (by omega)
      have VT6 : GC w6 T (.slice (some ⟨og, 0, none⟩) n c) := VC.upd (t := 42) VT5 u6 (by omega)
      replace u2 := u2.trans u6
      have hz6 : B + 1 ≤ w6.heap.size := by have := VR6.lt; omega
      obtain ⟨m, hm⟩ : ∃ m : Nat, (16 : Int) + (z : Int) = (m : Int) := ⟨16 + z, by omega⟩
      have HEM := Lib.hid (empty_any m (by omega) w6)
      clear VR5 VT5 hd5 u6 hbc hcT hG5
      go_wp2_with fail
      refine HEM.out.mono ?_
      rintro e1 w7 ⟨uu, vs7, rfl, hG7, hb7⟩
      obtain ⟨a7, c7, rfl⟩ := owns_shape hG7.outer
      have VR7 := VR6.below hb7
      have VT7 := VT6.below hb7
      have hcT7 := VT7.cell
      have hfT7 := VT7.free
      have u7 := u2.then hb7 (by have := u2.size; omega)
      have hd7 := hd6.belowAt hb7 hd6.lt
      have VT8 := VT7.set (.slice a7 vs7.length c7)
      have VR8 := VR7.other (p := ⟨T, 0, none⟩) (by simp; omega) (.slice a7 vs7.length c7)
      have bb8 : Below (B + 1) w7 (w7.setCell ⟨T, 0, none⟩ (.slice a7 vs7.length c7)) := (Below.refl _ _).setCell (by simp; omega) _
      have hd8 := hd7.belowAt bb8 (by omega)
      have u8 := u7.then bb8 (by omega)
      have hG8 := VT7.own hG7 (x := .slice a7 vs7.length c7)
      have hR8 := (OwR.of hG8).rebase (show B + 1 ≤ w6.heap.size by omega)
      clear hG7 hb7 VR7 VT7 VR6 VT6 hd6 hd7 u2 u7 HEM bb8 hG8
      have hcT9 := (VT8).cell
      have hcR9 := (VR8).cell
      have hfR9 := (VR8).free
      have hsz9 : B ≤ (w7.setCell ⟨T, 0, none⟩ (.slice a7 vs7.length c7)).heap.size := by have := (VR8).lt; omega
      have bb9 : Below B (w7.setCell ⟨T, 0, none⟩ (.slice a7 vs7.length c7)) ((w7.setCell ⟨T, 0, none⟩ (.slice a7 vs7.length c7)).setCell ⟨B, 0, none⟩ (.slice a7 vs7.length c7)) := (Below.refl _ _).setCell (by simp) _
      have hend9 : GrQ D v bs.length w (.returned (.agg #[.slice a7 vs7.length c7])) ((w7.setCell ⟨T, 0, none⟩ (.slice a7 vs7.length c7)).setCell ⟨B, 0, none⟩ (.slice a7 vs7.length c7)) :=
        ⟨⟨_, _, rfl, ⟨_, ((hR8).keep fun b hb hlt => Below.heap_setCell _ _ _ _ (by simp; omega)).rd⟩, by simp; omega⟩, (hd8).belowAt bb9 (by omega), (u8).then bb9 (by omega)⟩
      have HCE9 := Lib.hid ((VR8).set (.slice a7 vs7.length c7)).cell
      have HEND9 := Lib.hid hend9
      clear hend9 bb9
      go_wp2_with fail
      refine bodyPost_ret (v := .agg #[.slice a7 vs7.length c7]) (by simp [results, Try.results21, go_sem, HCE9.out]) rfl ?_
      exact HEND9.out
    · clear hoo hcrow hfrow hrow hcs
      have hfT := VT5.free
      have VT8 := VT5.set (.slice none 0 0)
      have VR8 := VR5.other (p := ⟨T, 0, none⟩) (by simp; omega) (.slice none 0 0)
      have bb8 : Below (B + 1) w5 (w5.setCell ⟨T, 0, none⟩ (.slice none 0 0)) := (Below.refl _ _).setCell (by simp; omega) _
      have hd8 := hd5.belowAt bb8 (by omega)
      have u8 := u2.then bb8 (by omega)
      have hR8 : OwR (w5.setCell ⟨T, 0, none⟩ (.slice none 0 0)) (B + 1) (.slice none 0 0) [] (([] : List (List Int)).map ints) := ⟨rfl, World.ownsRow_nil _ _ _ 1, fun i u cs h => by simp at h⟩
      clear VR5 VT5 hd5 u2 bb8 hG5
      have hcT9 := (VT8).cell
      have hcR9 := (VR8).cell
      have hfR9 := (VR8).free
      have hsz9 : B ≤ (w5.setCell ⟨T, 0, none⟩ (.slice none 0 0)).heap.size := by have := (VR8).lt; omega
      have bb9 : Below B (w5.setCell ⟨T, 0, none⟩ (.slice none 0 0)) ((w5.setCell ⟨T, 0, none⟩ (.slice none 0 0)).setCell ⟨B, 0, none⟩ (.slice none 0 0)) := (Below.refl _ _).setCell (by simp) _
      have hend9 : GrQ D v bs.length w (.returned (.agg #[.slice none 0 0])) ((w5.setCell ⟨T, 0, none⟩ (.slice none 0 0)).setCell ⟨B, 0, none⟩ (.slice none 0 0)) :=
        ⟨⟨_, _, rfl, ⟨_, ((hR8).keep fun b hb hlt => Below.heap_setCell _ _ _ _ (by simp; omega)).rd⟩, by simp⟩, (hd8).belowAt bb9 (by omega), (u8).then bb9 (by omega)⟩
      have HCE9 := Lib.hid ((VR8).set (.slice none 0 0)).cell
      have HEND9 := Lib.hid hend9
      clear hend9 bb9
      go_wp2_with fail
      refine bodyPost_ret (v := .agg #[.slice none 0 0]) (by simp [results, Try.results21, go_sem, HCE9.out]) rfl ?_
      exact HEND9.out
    · obtain ⟨W6, hW6⟩ : ∃ W, W = w5.alloc (.cells #[] 2) := ⟨_, rfl⟩
      obtain ⟨S, hS⟩ : ∃ S, w5.heap.size = S := ⟨_, rfl⟩
      have hg6 : w5.grownBy W6 none := by rw [hW6]; exact World.grownBy_alloc _ _ _
      have b6 : Below S w5 W6 := by rw [hW6, ← hS]; exact below_alloc' _ _
      have hu6 : W6.ownsRow (B + 1) 2 1 (.slice (some ⟨S, 0, none⟩) 0 0) (ints ([])).length (ints ([])) := by
        rw [hW6]; subst hS
        exact World.ownsRow_lit w5 _ 0 (by omega) (by simp [maxLen]) rfl
      have hcs' : (rows.map ints).set x (ints ([])) = (rows.set x ([])).map ints := by rw [List.map_set]
      have hR8 := own_put (i := x) hG5 HN.out hg6 (.inl rfl) hu6
      rw [hcs'] at hR8
      have VR6 := VR5.belowAt b6 (by omega)
      have VT6 := VT5.belowAt b6 (by have := VT5.lt; omega)
      have hcr6 : W6.cell? ⟨og, x, none⟩ = some row := (b6.cell (p := ⟨og, x, none⟩) (by have := block_lt hcrow; omega)).trans hcrow
      have hfr6 : W6.frozen? ⟨og, x, none⟩ = false := (b6.frozen (p := ⟨og, x, none⟩) (by have := block_lt hcrow; omega)).trans hfrow
      have VR8 := VR6.other (p := ⟨og, x, none⟩) (by simp; omega) (.slice (some ⟨S, 0, none⟩) 0 0)
      have VT8 := VT6.other (p := ⟨og, x, none⟩) (by simp; omega) (.slice (some ⟨S, 0, none⟩) 0 0)
      have bb8 : Below (B + 1) W6 (W6.setCell ⟨og, x, none⟩ (.slice (some ⟨S, 0, none⟩) 0 0)) := (Below.refl _ _).setCell (by simp; omega) _
      have hd8 := (hd5.belowAt b6 (by omega)).belowAt bb8 (by omega)
      have u8 := (u2.then b6 (by omega)).then bb8 (by omega)
      have hcT6 := VT6.cell
      have HW6 := Lib.hid hW6
      rw [hW6] at hcr6 hfr6 hcT6
      have hrl : (rows.set x ([])).length ≤ 17 := by simp; omega
      clear hoo hcrow hfrow hrow hcs VR5 VT5 VR6 VT6 hd5 u2 b6 bb8 hg6 hu6 hcs' hG5
      rw [hW6] at VR8 VT8 hR8 hd8 u8
      have hcT9 := (VT8).cell
      have hcR9 := (VR8).cell
      have hfR9 := (VR8).free
      have hsz9 : B ≤ ((w5.alloc (.cells #[] 2)).setCell ⟨og, x, none⟩ (.slice (some ⟨S, 0, none⟩) 0 0)).heap.size := by have := (VR8).lt; omega
      have bb9 : Below B ((w5.alloc (.cells #[] 2)).setCell ⟨og, x, none⟩ (.slice (some ⟨S, 0, none⟩) 0 0)) (((w5.alloc (.cells #[] 2)).setCell ⟨og, x, none⟩ (.slice (some ⟨S, 0, none⟩) 0 0)).setCell ⟨B, 0, none⟩ (.slice (some ⟨og, 0, none⟩) n c)) := (Below.refl _ _).setCell (by simp) _
      have hend9 : GrQ D v bs.length w (.returned (.agg #[.slice (some ⟨og, 0, none⟩) n c])) (((w5.alloc (.cells #[] 2)).setCell ⟨og, x, none⟩ (.slice (some ⟨S, 0, none⟩) 0 0)).setCell ⟨B, 0, none⟩ (.slice (some ⟨og, 0, none⟩) n c)) :=
        ⟨⟨_, _, rfl, ⟨_, ((hR8).keep fun b hb hlt => Below.heap_setCell _ _ _ _ (by simp; omega)).rd⟩, hrl⟩, (hd8).belowAt bb9 (by omega), (u8).then bb9 (by omega)⟩
      have HCE9 := Lib.hid ((VR8).set (.slice (some ⟨og, 0, none⟩) n c)).cell
      have HEND9 := Lib.hid hend9
      clear hend9 bb9
      go_wp2_with fail
      refine bodyPost_ret (v := .agg #[.slice (some ⟨og, 0, none⟩) n c]) (by simp [results, Try.results21, go_sem, HCE9.out]) rfl ?_
      exact HEND9.out
end Go.Proofs.Ytpfhflkpnjkgkaa
