import Derived.Test.YtpfhflkpnjkgkaaGq03
/-
  'GraphOk' of the reference and of the program: each returns okB of the rows.
-/

namespace Go.Proofs.Ytpfhflkpnjkgkaa
open Go.RowKit

theorem not_ok_size {xss : List (List Int)} (h : ¬ (1 ≤ xss.length ∧ xss.length ≤ 16)) : okB xss = false := by
  unfold okB; rw [decide_eq_false_iff_not]; exact fun h' => h h'.1
theorem not_ok_row {xss : List (List Int)} {k : Nat} {xs : List Int} (hx : xss[k]? = some xs) (h : ¬ SetP xss.length xs ∨ (k : Int) ∈ xs) : okB xss = false := by
  unfold okB; rw [decide_eq_false_iff_not]
  intro h'
  have hk := (List.getElem?_eq_some_iff.1 hx).1
  have e : xss.getD k [] = xs := by simp [List.getD, hx]
  have := h'.2.1 k hk
  rw [e] at this
  rcases h with h | h
  · exact h this.1
  · exact this.2 h
theorem not_ok_back {xss : List (List Int)} {k m j : Nat} {xs ys : List Int} (hx : xss[k]? = some xs) (hj : xs[j]? = some (m : Int)) (hy : xss[m]? = some ys) (h : ¬ (k : Int) ∈ ys) : okB xss = false := by
  unfold okB; rw [decide_eq_false_iff_not]
  intro h'
  have hk := (List.getElem?_eq_some_iff.1 hx).1
  have e : xss.getD k [] = xs := by simp [List.getD, hx]
  have e2 : xss.getD m [] = ys := by simp [List.getD, hy]
  have := h'.2.2 k hk (m : Int) (by rw [e]; exact List.mem_of_getElem? hj)
  rw [Int.toNat_natCast, e2] at this
  exact h this

/-- The first k rows are sets without their own number. -/
def Rows1 (xss : List (List Int)) (k : Nat) : Prop := ∀ v, v < k → SetP xss.length (xss.getD v []) ∧ ¬ (v : Int) ∈ xss.getD v []
def Rows2 (xss : List (List Int)) (k : Nat) : Prop := ∀ v, v < k → ∀ u ∈ xss.getD v [], (v : Int) ∈ xss.getD u.toNat []
theorem Rows1.succ {xss : List (List Int)} {k : Nat} {xs : List Int} (h : Rows1 xss k) (hx : xss[k]? = some xs) (h1 : SetP xss.length xs) (h2 : ¬ (k : Int) ∈ xs) : Rows1 xss (k + 1) := by
  intro v hv
  by_cases e : v = k
  · subst e
    have e : xss.getD v [] = xs := by simp [List.getD, hx]
    rw [e]; exact ⟨h1, h2⟩
  · exact h v (by omega)
theorem Rows2.succ {xss : List (List Int)} {k : Nat} {xs : List Int} (h : Rows2 xss k) (hx : xss[k]? = some xs) (h1 : ∀ u ∈ xs, (k : Int) ∈ xss.getD u.toNat []) : Rows2 xss (k + 1) := by
  intro v hv
  by_cases e : v = k
  · subst e
    have e : xss.getD v [] = xs := by simp [List.getD, hx]
    rw [e]; exact h1
  · exact h v (by omega)
theorem Rows1.at {xss : List (List Int)} {k j : Nat} {xs : List Int} {x : Int} (h : Rows1 xss xss.length) (hx : xss[k]? = some xs) (hj : xs[j]? = some x) : ∃ m : Nat, x = m ∧ m < xss.length := by
  have hk := (List.getElem?_eq_some_iff.1 hx).1
  have e : xss.getD k [] = xs := by simp [List.getD, hx]
  have h1 := (h k hk).1
  rw [e] at h1
  have := h1.1 x (List.mem_of_getElem? hj)
  exact ⟨x.toNat, by omega, by omega⟩
theorem back_succ {xss : List (List Int)} {k m j : Nat} {xs ys : List Int} (hj : xs[j]? = some (m : Int)) (hy : xss[m]? = some ys) (h : ∀ u ∈ xs.take j, (k : Int) ∈ xss.getD u.toNat []) (h1 : (k : Int) ∈ ys) :
    ∀ u ∈ xs.take (j + 1), (k : Int) ∈ xss.getD u.toNat [] := by
  rw [take_snoc hj]
  intro u hu
  rcases List.mem_append.1 hu with hu | hu
  · exact h u hu
  · rw [List.mem_singleton.1 hu, Int.toNat_natCast]
    have e2 : xss.getD m [] = ys := by simp [List.getD, hy]
    rw [e2]; exact h1
theorem ok_of_rows {xss : List (List Int)} (h0 : 1 ≤ xss.length ∧ xss.length ≤ 16) (h1 : Rows1 xss xss.length) (h2 : Rows2 xss xss.length) : okB xss = true := by
  unfold okB; rw [decide_eq_true_eq]; exact ⟨h0, h1, h2⟩

set_option maxHeartbeats 2000000 in
theorem specOk (v : Value) (xss : List (List Int)) (w : World) (hr : RdSS v xss w) :
    Calls Try.prog 37 #[.agg #[v]] w fun e w' => e = .returned (.bool (okB xss)) ∧ Below w.heap.size w w' := by
  obtain ⟨vs, hG⟩ := hr.ex
  have hl := hG.outer.len
  unfold maxLen at hl
  have e1 : vs.length = xss.length := by simpa using hG.len
  obtain ⟨a, c, rfl, -, -, -⟩ := id hG.outer
  rw [e1] at hG hl ⊢
  clear e1 hr
  obtain ⟨B, hB⟩ : ∃ B, w.heap.size = B := ⟨_, rfl⟩
  have hb0 : Below B w (w.alloc (.cells #[.slice a xss.length c] 42)) := by subst hB; exact below_alloc' _ _
  have hV0 : VC 42 B #[.slice a xss.length c] (w.alloc (.cells #[.slice a xss.length c] 42)) := VC.new hB
  have hsz : (w.alloc (.cells #[.slice a xss.length c] 42)).heap.size = B + 1 := by simp [hB]
  have hc0 := hV0.cell
  go_enter Try.func37, Try.ntmps37
  go_wp2_with fail
  generalize w.alloc (.cells #[.slice a xss.length c] 42) = W at *
  refine (size_any a xss.length c W).mono ?_
  rintro e w1 ⟨rfl, hb1⟩
  have hV1 := hV0.upd (Upd.of_below hb1) (by omega)
  have hb01 := hb0.trans (hb1.mono (by omega))
  clear hc0 hV0 hb0 hb1
  have hc1 := hV1.cell
  by_cases hin : 1 ≤ xss.length ∧ xss.length ≤ 16
  case neg =>
    have hd := Lib.hid (l1In_is xss.length 1 16 false (by simp; omega) w1)
    have HF := Lib.hid (not_ok_size hin)
    clear hin
    go_wp2_with fail
    refine hd.out.mono ?_
    rintro e w' ⟨rfl, rfl⟩
    go_wp2_with fail
    go_ret
    exact ⟨ret_bool HF.out.symm, by rw [hB]; exact hb01⟩
  have hd := Lib.hid (l1In_is xss.length 1 16 true (by simp; omega) w1)
  go_wp2_with fail
  refine hd.out.mono ?_
  rintro e w' ⟨rfl, rfl⟩
  clear hd
  go_wp2_with fail
  go_loopw [4] (fun i wr => ∃ k : Nat, k ≤ xss.length ∧ i = .int .i64 k ∧ Hid (Rows1 xss k) ∧ VC 42 B #[.slice a xss.length c] wr ∧ Below B w wr) (fun i _ => xss.length - (intOf i).toNat)
  case atStart => exact ⟨0, Nat.zero_le _, rfl, Lib.hid (fun v hv => absurd hv (by omega)), hV1, hb01⟩
  case round =>
    clear hc1 hV1 hb01
    obtain ⟨k, hk, rfl, HR, hV, hb⟩ := hrel
    have hcV := hV.cell
    by_cases hlt : k < xss.length
    · have hGr := hG.below (hB.symm ▸ hb)
      obtain ⟨b, o, u, xs, rfl, hc, hu, -, HX⟩ := hGr.intsAt hlt
      by_cases hset : SetP xss.length xs
      case neg =>
        have hd : decide (SetP xss.length xs) = false := by simpa using hset
        have HF := Lib.hid (not_ok_row HX.out (.inl hset))
        have hsa := set_any u xs xss.length (by omega) wr hu
        rw [hd] at hsa
        have HSA := Lib.hid hsa
        clear hset hd hsa
        go_wp2_with fail
        refine HSA.out.mono ?_
        rintro e w2 ⟨rfl, hb2⟩
        go_wp2_with fail
        go_ret
        exact ⟨ret_bool HF.out.symm, by rw [hB]; exact hb.trans (hb2.mono (by have := hV.lt; omega))⟩
      have hd : decide (SetP xss.length xs) = true := by simpa using hset
      have hsa := set_any u xs xss.length (by omega) wr hu
      rw [hd] at hsa
      have HSA := Lib.hid hsa
      have HSET := Lib.hid hset
      clear hset hd hsa
      go_wp2_with fail
      refine HSA.out.mono ?_
      rintro e w2 ⟨rfl, hb2⟩
      have hV2 := hV.upd (Upd.of_below hb2) (by omega)
      have hc2 : w2.cell? ⟨b, o + k, none⟩ = some u := (hb2.cell (p := ⟨b, o + k, none⟩) (block_lt hc)).trans hc
      have hu2 := Row.below hu hb2
      have hbw2 := hb.trans (hb2.mono (by have := hV.lt; omega))
      clear hcV hc hu hb2 hV hb HSA
      have hcV := hV2.cell
      by_cases hin2 : (k : Int) ∈ xs
      · have hd : xs.contains (k : Int) = true := by simpa using hin2
        have HF := Lib.hid (not_ok_row HX.out (.inr hin2))
        have hha := has_any u xs k w2 hu2
        rw [hd] at hha
        have HHA := Lib.hid hha
        clear hin2 hd hha
        go_wp2_with fail
        refine HHA.out.mono ?_
        rintro e w3 ⟨rfl, rfl⟩
        go_wp2_with fail
        go_ret
        exact ⟨ret_bool HF.out.symm, by rw [hB]; exact hbw2⟩
      · have hd : xs.contains (k : Int) = false := by simpa using hin2
        have HR1 := Lib.hid (HR.out.succ HX.out HSET.out hin2)
        have hha := has_any u xs k w2 hu2
        rw [hd] at hha
        have HHA := Lib.hid hha
        clear hin2 hd hha
        go_wp2_with fail
        refine HHA.out.mono ?_
        rintro e w3 ⟨rfl, rfl⟩
        go_wp2_with fail
        go_roundw
        case rel => exact ⟨k + 1, by omega, by go_num, HR1, hV2, hbw2⟩
        case measure => simp [intOf]; omega
    · obtain rfl : k = xss.length := by omega
      have HR1 := HR
      go_wp2_with fail
      go_loopw [5] (fun i wr => ∃ k : Nat, k ≤ xss.length ∧ i = .int .i64 k ∧ Hid (Rows2 xss k) ∧ VC 42 B #[.slice a xss.length c] wr ∧ Below B w wr) (fun i _ => xss.length - (intOf i).toNat)
      case atStart => exact ⟨0, Nat.zero_le _, rfl, Lib.hid (fun v hv => absurd hv (by omega)), hV, hb⟩
      case round =>
        clear hcV hV hb
        obtain ⟨k, hk, rfl, HR2, hV, hb⟩ := hrel
        have hcV := hV.cell
        by_cases hlt : k < xss.length
        · have hGr := hG.below (hB.symm ▸ hb)
          obtain ⟨b, o, u, xs, rfl, hc, hu, -, HX⟩ := hGr.intsAt hlt
          have hxl := hu.len
          unfold maxLen at hxl
          obtain ⟨ua, uc, rfl, -, -, -⟩ := id hu
          clear hGr
          go_wp2_with fail
          go_loopw [6] (fun i wr => ∃ j : Nat, j ≤ xs.length ∧ i = .int .i64 j ∧ Hid (∀ u ∈ xs.take j, (k : Int) ∈ xss.getD u.toNat []) ∧ VC 42 B #[.slice (some ⟨b, o, none⟩) xss.length c] wr ∧ Below B w wr) (fun i _ => xs.length - (intOf i).toNat)
          case atStart => exact ⟨0, Nat.zero_le _, rfl, Lib.hid (by simp), hV, hb⟩
          case round =>
            clear hcV hV hb hc hu
            obtain ⟨j, hj, rfl, HJ, hV, hb⟩ := hrel
            have hcV := hV.cell
            have hGr := hG.below (hB.symm ▸ hb)
            obtain ⟨b1, o1, u1, xs1, e1, hc, hu, -, HX1⟩ := hGr.intsAt hlt
            obtain ⟨rfl, rfl⟩ : b = b1 ∧ o = o1 := by simpa using e1
            obtain rfl : xs = xs1 := by have h1 := HX.out; rw [HX1.out] at h1; exact (Option.some.inj h1).symm
            obtain ⟨ua, uc, rfl, -, -, -⟩ := id hu
            by_cases hjt : j < xs.length
            · obtain ⟨ub, uo, x, rfl, hcx, HJX⟩ := hu.intAt hjt
              obtain ⟨m, rfl, hm⟩ := Rows1.at HR1.out HX.out HJX.out
              obtain ⟨b2, o2, u2, ys, e2, hcy, hy, -, HY⟩ := hGr.intsAt hm
              obtain ⟨rfl, rfl⟩ : b = b2 ∧ o = o2 := by simpa using e2
              have hhd := has_any u2 ys (k : Int) wr.drew hy
              by_cases hin2 : (k : Int) ∈ ys
              · have hd : ys.contains (k : Int) = true := by simpa using hin2
                have HJ1 := Lib.hid (back_succ HJX.out HY.out HJ.out hin2)
                rw [hd] at hhd
                have HHA := Lib.hid hhd
                clear hin2 hd hhd e1 e2
                go_wp2_with fail
                refine wp_region_ord [0, 2, 4, 7, 12] [1, 3, 5, 6, 8, 9, 10, 11] [] [13, 14] (by kernel_rfl) (by kernel_rfl) (fun _ _ d _ _ h => by cases d <;> exact h) ?_
                simp only [pickOps, List.filterMap_cons, List.filterMap_nil, List.getElem?_cons_succ, List.getElem?_cons_zero]
                repeat quiet_step (fail)
                simp only [wpQuiet_nil_eq, wpSegs_nil_eq]
                go_wp2_with fail
                refine HHA.out.mono ?_
                rintro e w3 ⟨rfl, rfl⟩
                go_wp2_with fail
                go_roundw
                case rel => exact ⟨j + 1, by omega, by go_num, HJ1, hV, hb.drew⟩
                case measure => simp [intOf]; omega
              · have hd : ys.contains (k : Int) = false := by simpa using hin2
                have HF := Lib.hid (not_ok_back HX.out HJX.out HY.out hin2)
                rw [hd] at hhd
                have HHA := Lib.hid hhd
                clear hin2 hd hhd e1 e2
                go_wp2_with fail
                refine wp_region_ord [0, 2, 4, 7, 12] [1, 3, 5, 6, 8, 9, 10, 11] [] [13, 14] (by kernel_rfl) (by kernel_rfl) (fun _ _ d _ _ h => by cases d <;> exact h) ?_
                simp only [pickOps, List.filterMap_cons, List.filterMap_nil, List.getElem?_cons_succ, List.getElem?_cons_zero]
                repeat quiet_step (fail)
                simp only [wpQuiet_nil_eq, wpSegs_nil_eq]
                go_wp2_with fail
                refine HHA.out.mono ?_
                rintro e w3 ⟨rfl, rfl⟩
                go_wp2_with fail
                go_ret
                exact ⟨ret_bool HF.out.symm, by rw [hB]; exact hb.drew⟩
            · obtain rfl : j = xs.length := by omega
              have HR3 := Lib.hid (HR2.out.succ HX.out (by have := HJ.out; rwa [List.take_length] at this))
              go_wp2_with fail
              go_roundw
              case rel => exact ⟨k + 1, by omega, by go_num, HR3, hV, hb⟩
              case measure => simp [intOf]; omega
        · obtain rfl : k = xss.length := by omega
          have HT := Lib.hid (ok_of_rows hin HR1.out HR2.out)
          go_wp2_with fail
          go_ret
          exact ⟨ret_bool HT.out.symm, by rw [hB]; exact hb⟩

end Go.Proofs.Ytpfhflkpnjkgkaa
/-
  Bundles for functions that build a graph: the reference's graph in a variable, the program's nets.
-/

namespace Go.Proofs.Ytpfhflkpnjkgkaa
open Go.RowKit

/-- Block b is a variable of type Graph that holds the slice v. -/
def GC (w : World) (b : Nat) (v : Value) : Prop := w.heap[b]? = some (.cells #[v] 42 (0, 0))
section
variable {w w' : World} {b : Nat} {v : Value}
theorem GC.lt (h : GC w b v) : b < w.heap.size := lt_of_block h
theorem GC.cell (h : GC w b v) : w.cell? ⟨b, 0, none⟩ = some v := cell_of_one h
theorem GC.free (h : GC w b v) : w.frozen? ⟨b, 0, none⟩ = false := free_of_one h
theorem GC.below (h : GC w b v) (hb : Below w.heap.size w w') : GC w' b v := (hb.block b h.lt).trans h
theorem GC.belowAt (h : GC w b v) {B : Nat} (hb : Below B w w') (hB : b < B) : GC w' b v := (hb.block b hB).trans h
theorem GC.set (h : GC w b v) (u : Value) : GC (w.setCell ⟨b, 0, none⟩ u) b u := one_setCell h
theorem GC.other (h : GC w b v) {p : Addr} (hp : b ≠ p.block) (u : Value) : GC (w.setCell p u) b v := (Below.heap_setCell _ _ _ _ hp).trans h
theorem GC.new (w : World) (v : Value) : GC (w.alloc (.cells #[v] 42)) w.heap.size v := heap_alloc_new w _
theorem GC.alloc (h : GC w b v) (o : Obj) : GC (w.alloc o) b v := (Below.heap_alloc _ _ _ h.lt).trans h
theorem GC.drew (h : GC w b v) : GC w.drew b v := h
theorem GC.wrote {S : Nat → Prop} (h : GC w b v) (hw : Wrote w w' S) (hS : ¬ S b) : GC w' b v := (hw.block b h.lt hS).trans h
/-- What is owned lies in no such variable. -/
theorem GC.unlike {base : Nat} {e : TypeId} {u : Value} {n : Nat} {cs : List Value} (h : GC w b v) (ho : w.ownsRow base e 1 u n cs) (he : 42 ≠ e) : u.ownBlock ≠ some b := fun e' => by
  obtain ⟨cur, hcur⟩ := owns_block ho e'
  unfold GC at h
  rw [h] at hcur
  simp at hcur
  exact he hcur.2
theorem GC.own {base : Nat} {u x : Value} {vs : List Value} {css : List (List Value)} (h : GC w b v) (hG : OwnG w base 26 2 u vs css) : OwnG (w.setCell ⟨b, 0, none⟩ x) base 26 2 u vs css :=
  hG.unlike_setCell (p := ⟨b, 0, none⟩) (c := #[v]) (t := 42) (fr := (0, 0)) h (by decide) (by decide) x
end

theorem below_alloc (w : World) (o : Obj) : Below w.heap.size w (w.alloc o) := (Below.refl _ _).alloc (Nat.le_refl _) _

/-- The reference builds a graph: B holds the result (nothing yet), C the graph, whose rows are the sets ms. -/
structure SG (w0 : World) (B C : Nat) (a : Option Addr) (n c : Nat) (vs : List Value) (ms : List Nat) (wr : World) : Prop where
  res : GC wr B (.slice none 0 0)
  var : GC wr C (.slice a n c)
  own : OwnG wr (B + 1) 26 2 (.slice a n c) vs ((rowsOf ms).map ints)
  bel : Below B w0 wr
  ord : B < C
  len : ms.length = n

theorem SG.start {w0 w1 : World} {B : Nat} {a : Option Addr} {n c : Nat} {vs : List Value} {ms : List Nat} (hR : GC w1 B (.slice none 0 0)) (hG : OwnG w1 (B + 1) 26 2 (.slice a n c) vs ((rowsOf ms).map ints)) (hb : Below B w0 w1) (hl : ms.length = n) :
    SG w0 B w1.heap.size a n c vs ms (w1.alloc (.cells #[.slice a n c] 42)) :=
  ⟨hR.alloc _, GC.new _ _, hG.below (below_alloc _ _), hb.alloc (by have := hR.lt; omega) _, hR.lt, hl⟩

theorem SG.store {w0 : World} {B C : Nat} {a : Option Addr} {n c : Nat} {vs : List Value} {ms : List Nat} {wr : World} (h : SG w0 B C a n c vs ms wr) : SG w0 B C a n c vs ms (wr.setCell ⟨C, 0, none⟩ (.slice a n c)) :=
  ⟨h.res.other (by have := h.ord; simp; omega) _, h.var.set _, h.var.own h.own, h.bel.setCell (by have := h.ord; simp; omega) _, h.ord, h.len⟩

theorem SG.below {w0 : World} {B C : Nat} {a : Option Addr} {n c : Nat} {vs : List Value} {ms : List Nat} {wr w' : World} (h : SG w0 B C a n c vs ms wr) (hb : Below wr.heap.size wr w') : SG w0 B C a n c vs ms w' :=
  ⟨h.res.below hb, h.var.below hb, h.own.below hb, h.bel.trans (hb.mono (by have := h.res.lt; omega)), h.ord, h.len⟩

theorem SG.link {w0 : World} {B C : Nat} {a : Option Addr} {n c : Nat} {vs : List Value} {ms : List Nat} {wr : World} (h : SG w0 B C a n c vs ms wr) (i j : Nat) (I J : Int) (hI : I = i) (hJ : J = j) (hi : i < n) (hj : j < n) (hn : n ≤ 32) :
    Calls Try.prog 60 #[.agg #[.slice a n c], .int .i64 I, .int .i64 J] wr fun e w' => e = .returned (.agg #[.slice a n c]) ∧ ∃ vs', SG w0 B C a n c vs' (joinS ms i j) w' := by
  have hl := h.len
  have hB := h.res.lt
  refine (link_sets (B + 1) (.slice a n c) vs ms i j I J hI hJ wr (by omega) (by omega) (by omega) (by omega) (by omega) (by omega) h.own).mono ?_
  rintro e w2 ⟨vs2, rfl, hG2, hw2⟩
  refine ⟨rfl, vs2, h.res.wrote hw2 ?_, h.var.wrote hw2 ?_, hG2, h.bel.trans (hw2.below (by omega) fun k hk => by have := (owns_lt h.own.outer hk).1; omega), h.ord, by simpa using hl⟩
  · exact h.res.unlike h.own.outer (by decide)
  · exact h.var.unlike h.own.outer (by decide)

theorem SG.done {w0 : World} {B C : Nat} {a : Option Addr} {n c : Nat} {vs : List Value} {ms : List Nat} {wr : World} (h : SG w0 B C a n c vs ms wr) (hB : w0.heap.size = B) (ok : Bool) :
    GRes w0 (rowsOf ms) ok (.returned (.tuple #[.agg #[.slice a n c], .bool ok])) (wr.setCell ⟨B, 0, none⟩ (.slice a n c)) :=
  ⟨_, vs, rfl, by rw [hB]; exact (h.res.own h.own).rebase (by omega), by rw [hB]; exact h.bel.setCell (by simp) _⟩

/-- No graph. -/
theorem GRes.nothing (w w' : World) (hb : Below w.heap.size w w') : GRes w [] false (.returned (.tuple #[.agg #[.slice none 0 0], .bool false])) w' :=
  ⟨_, [], rfl, OwnG.nil _ _ (by decide) (World.ownsRow_nil _ _ _ 1), hb⟩

/-- The program's result: what 'graph' made, stored in the variable of the result. -/
theorem GRes.stored {w0 wr w' : World} {B : Nat} {r u : Value} {vs : List Value} {ms : List Nat} (hB : w0.heap.size = B) (hr : GC wr B r) (hb : Below B w0 wr) (hG : OwnG w' wr.heap.size 26 2 u vs ((rowsOf ms).map ints)) (hb' : Below wr.heap.size wr w') (ok : Bool) :
    GRes w0 (rowsOf ms) ok (.returned (.tuple #[.agg #[u], .bool ok])) (w'.setCell ⟨B, 0, none⟩ u) := by
  have h1 := hr.lt
  exact ⟨u, vs, rfl, by rw [hB]; exact ((hr.below hb').own hG).rebase (Nat.le_of_lt h1), by rw [hB]; exact (hb.trans (hb'.mono (Nat.le_of_lt h1))).setCell (Nat.le_refl _) _⟩
end Go.Proofs.Ytpfhflkpnjkgkaa
/-
  The program's sets of neighbours: 'maskOf', 'netsOf', 'all', 'complement', 'SetOk'; the reference's 'l1Edge', 'SetOk', 'l1CopyGraph', 'l2Other', 'l1All'.
-/


namespace Go.Proofs.Ytpfhflkpnjkgkaa
open Go.RowKit

theorem size_rd (v : Value) (xss : List (List Int)) (w : World) (hr : RdSS v xss w) :
    Calls Try.prog 48 #[.agg #[v]] w fun e w' => e = .returned (.int .i64 xss.length) ∧ Below w.heap.size w w' := by
  obtain ⟨a, c, rfl⟩ := hr.shape
  exact size_any a xss.length c w

/-- Nothing in what is owned but the outer row. -/
theorem rowB_all (n : Nat) : rowB n (fun _ => true) = (List.range n).map fun (i : Nat) => (i : Int) := by
  unfold rowB
  rw [List.filter_eq_self.2 (by simp)]

end Go.Proofs.Ytpfhflkpnjkgkaa
/-
  Plain facts: a graph laid edge by edge; sets with and without.
-/

namespace Go.Proofs.Ytpfhflkpnjkgkaa
open Go.RowKit

/-- The edges of g (asked at the smaller vertex first) whose greater vertex is below k, and those of k to vertices below j. -/
def tri (g : Nat → Nat → Bool) (k j : Nat) : Nat → Nat → Bool := fun a b =>
  (decide (a < b) && (decide (b < k) || (decide (b = k) && decide (a < j))) && g a b) || (decide (b < a) && (decide (a < k) || (decide (a = k) && decide (b < j))) && g b a)

theorem tri_yes (g : Nat → Nat → Bool) {k j : Nat} (hg : g j k = true) (hjk : j < k) : plus (tri g k j) j k = tri g k (j + 1) := by
  funext a b
  unfold plus tri
  by_cases h1 : a = j ∧ b = k
  · obtain ⟨rfl, rfl⟩ := h1
    simp [hg, hjk]
  · by_cases h2 : a = k ∧ b = j
    · obtain ⟨rfl, rfl⟩ := h2
      simp [hg, hjk]
    · have e1 : (decide (a = j) && decide (b = k)) = false := by simp; intro h; exact fun h' => h1 ⟨h, h'⟩
      have e2 : (decide (a = k) && decide (b = j)) = false := by simp; intro h; exact fun h' => h2 ⟨h, h'⟩
      have e3 : (decide (b = k) && decide (a < j + 1)) = (decide (b = k) && decide (a < j)) := by rw [Bool.eq_iff_iff]; simp; intro h; omega
      have e4 : (decide (a = k) && decide (b < j + 1)) = (decide (a = k) && decide (b < j)) := by rw [Bool.eq_iff_iff]; simp; intro h; omega
      rw [e1, e2, e3, e4]
      simp
theorem tri_no (g : Nat → Nat → Bool) {k j : Nat} (hg : g j k = false) : tri g k j = tri g k (j + 1) := by
  funext a b
  unfold tri
  by_cases h1 : a = j ∧ b = k
  · obtain ⟨rfl, rfl⟩ := h1
    by_cases hab : a < b
    · have : ¬ b < a := by omega
      simp [hg, this]
    · by_cases hba : b < a
      · have h1 : ¬ a < b := by omega
        have h2 : ¬ a = b := by omega
        simp [h1, h2]
      · simp [hab, hba]
  · by_cases h2 : a = k ∧ b = j
    · obtain ⟨rfl, rfl⟩ := h2
      by_cases hab : a < b
      · have h1 : ¬ b < a := by omega
        have h2 : ¬ b = a := by omega
        simp [h1, h2]
      · by_cases hba : b < a
        · simp [hg, hab]
        · simp [hab, hba]
    · have e3 : (decide (b = k) && decide (a < j + 1)) = (decide (b = k) && decide (a < j)) := by rw [Bool.eq_iff_iff]; simp; intro h; omega
      have e4 : (decide (a = k) && decide (b < j + 1)) = (decide (a = k) && decide (b < j)) := by rw [Bool.eq_iff_iff]; simp; intro h; omega
      rw [e3, e4]
theorem tri_next (g : Nat → Nat → Bool) (k : Nat) : tri g k k = tri g (k + 1) 0 := by
  funext a b
  unfold tri
  by_cases hab : a < b
  · have h1 : ¬ b < a := by omega
    have e : (decide (b < k) || (decide (b = k) && decide (a < k))) = decide (b < k + 1) := by rw [Bool.eq_iff_iff]; simp; omega
    simp [hab, h1, e]
  · by_cases hba : b < a
    · have e : (decide (a < k) || (decide (a = k) && decide (b < k))) = decide (a < k + 1) := by rw [Bool.eq_iff_iff]; simp; omega
      simp [hab, hba, e]
    · simp [hab, hba]
theorem tri_zero (g : Nat → Nat → Bool) : tri g 0 0 = fun _ _ => false := by
  funext a b
  unfold tri
  simp
/-- All edges laid. -/
def sym (g : Nat → Nat → Bool) : Nat → Nat → Bool := fun a b => (decide (a < b) && g a b) || (decide (b < a) && g b a)
theorem tri_all (g : Nat → Nat → Bool) (n : Nat) : NB n (tri g n 0) = NB n (sym g) := by
  refine NB_ext fun a b ha hb => ?_
  unfold tri sym
  simp [ha, hb]
theorem sym_of (g : Nat → Nat → Bool) (n : Nat) (h : ∀ a b, a < n → b < n → g a b = g b a) : NB n (sym g) = NB n (fun a b => decide (a ≠ b) && g a b) := by
  refine NB_ext fun a b ha hb => ?_
  unfold sym
  rcases Nat.lt_trichotomy a b with h1 | h1 | h1
  · have h2 : ¬ b < a := by omega
    have h3 : ¬ a = b := by omega
    simp [h1, h2, h3]
  · subst h1; simp
  · have h2 : ¬ a < b := by omega
    have h3 : ¬ a = b := by omega
    simp [h1, h2, h3, h b a hb ha]

/-! ### Sets -/
theorem testBit_flip {m : Nat} (h : m < 4294967296) (i : Nat) : (4294967295 - m).testBit i = (decide (i < 32) && !m.testBit i) := by
  have := Nat.testBit_two_pow_sub_succ (x := m) (n := 32) (by rw [two32]; exact h) i
  rwa [show 2 ^ 32 - (m + 1) = 4294967295 - m by rw [two32]; omega] at this
theorem maskB_andNot {n : Nat} (hn : n ≤ 32) (p : Nat → Bool) {m : Nat} (hm : m < 4294967296) :
    bits BinOp.andNot IntKind.u32 ((maskB n p : Nat) : Int) ((m : Nat) : Int) = ((maskB n (fun i => p i && !m.testBit i) : Nat) : Int) := by
  rw [u32_andNot_nat _ _ (maskB_small hn p) hm]
  congr 1
  apply Nat.eq_of_testBit_eq
  intro i
  rw [Nat.testBit_and, testBit_maskB, testBit_flip hm, testBit_maskB]
  by_cases h : i < n
  · have : i < 32 := by omega
    simp [h, this]
  · simp [h]
theorem maskB_and {n : Nat} (hn : n ≤ 32) (p : Nat → Bool) {m : Nat} (hm : m < 4294967296) :
    bits BinOp.and IntKind.u32 ((maskB n p : Nat) : Int) ((m : Nat) : Int) = ((maskB n (fun i => p i && m.testBit i) : Nat) : Int) := by
  rw [u32_and_nat _ _ (maskB_small hn p) hm]
  congr 1
  apply Nat.eq_of_testBit_eq
  intro i
  rw [Nat.testBit_and, testBit_maskB, testBit_maskB, Bool.and_assoc]
theorem maskB_or {n : Nat} (hn : n ≤ 32) (p q : Nat → Bool) :
    bits BinOp.or IntKind.u32 ((maskB n p : Nat) : Int) ((maskB n q : Nat) : Int) = ((maskB n (fun i => p i || q i) : Nat) : Int) := by
  rw [u32_or_nat _ _ (maskB_small hn p) (maskB_small hn q)]
  congr 1
  apply Nat.eq_of_testBit_eq
  intro i
  rw [Nat.testBit_or, testBit_maskB, testBit_maskB, testBit_maskB]
  cases decide (i < n) <;> simp
theorem pow_maskB {n v : Nat} (hv : v < n) : 2 ^ v = maskB n (fun i => decide (i = v)) := by
  apply Nat.eq_of_testBit_eq
  intro i
  rw [testBit_maskB, Nat.testBit_two_pow, Bool.eq_iff_iff]
  simp
  constructor
  · rintro rfl; exact ⟨hv, rfl⟩
  · rintro ⟨_, rfl⟩; rfl
theorem full_maskB (n : Nat) : 2 ^ n - 1 = maskB n (fun _ => true) := by
  apply Nat.eq_of_testBit_eq
  intro i
  rw [testBit_maskB, Nat.testBit_two_pow_sub_one]
  simp
theorem maskB_zero (n : Nat) : maskB n (fun _ => false) = 0 := by
  apply Nat.eq_of_testBit_eq
  intro i
  rw [testBit_maskB]
  simp
theorem maskB_eq_zero {n : Nat} {p : Nat → Bool} : maskB n p = 0 ↔ ∀ i, i < n → p i = false := by
  constructor
  · intro h i hi
    have := testBit_maskB n p i
    rw [h] at this
    simpa [hi] using this.symm
  · intro h
    rw [maskB_ext (q := fun _ => false) h, maskB_zero]
/-- Sets of the first k numbers of a list. -/
theorem inL_take_succ {xs : List Int} {k : Nat} {x : Nat} (h : xs[k]? = some (x : Int)) : inL (xs.take (k + 1)) = fun i => inL (xs.take k) i || decide (i = x) := by
  funext i
  unfold inL
  rw [take_snoc h, Bool.eq_iff_iff]
  simp
  constructor
  · rintro (h | h)
    · exact .inl h
    · exact .inr (by omega)
  · rintro (h | rfl)
    · exact .inl h
    · exact .inr rfl
end Go.Proofs.Ytpfhflkpnjkgkaa
/-
  'l6Of', 'PathGraph', 'LoopGraph' of the reference; 'pathNets', 'PathGraph', 'LoopGraph' of the program.
-/

namespace Go.Proofs.Ytpfhflkpnjkgkaa
open Go.RowKit

/-- The nets of a path on n vertices, k of its edges laid. -/
def pathM (n k : Nat) : List Nat := (List.range k).foldl (fun ms v => joinS ms v (v + 1)) (List.replicate n 0)
theorem pathM_succ (n k : Nat) : pathM n (k + 1) = joinS (pathM n k) k (k + 1) := by simp [pathM, List.range_succ]
@[simp] theorem pathM_length (n k : Nat) : (pathM n k).length = n := by
  induction k with
  | zero => simp [pathM]
  | succ k ih => rw [pathM_succ, joinS_length, ih]

theorem of_yes (n : Nat) (h1 : 1 ≤ n) (h2 : n ≤ 16) (w : World) :
    Calls Try.prog 61 #[.int .i64 n] w (GRes w (rowsOf (List.replicate n 0)) true) := by
  have hin : decide ((1 : Int) ≤ n ∧ (n : Int) ≤ 16) = true := by simp; omega
  obtain ⟨B, hBe⟩ : ∃ B, w.heap.size = B := ⟨_, rfl⟩
  have hR0 : GC (w.alloc (.cells #[.slice none 0 0] 42)) B (.slice none 0 0) := by subst hBe; exact GC.new _ _
  have hba : Below B w (w.alloc (.cells #[.slice none 0 0] 42)) := by subst hBe; exact below_alloc _ _
  go_enter Try.func61, Try.ntmps61
  go_wp2_with fail
  refine (l1In_any _ _ _ _).mono ?_
  rintro e w' ⟨rfl, rfl⟩
  rw [hin]
  go_wp2_with fail
  refine (empty_any n (by omega) _).mono ?_
  rintro e w1 ⟨u, vs, rfl, hG, hb1⟩
  obtain ⟨a, c, rfl⟩ := owns_shape hG.outer
  have hR1 := hR0.below hb1
  have hc := hR1.cell
  have hf := hR1.free
  rw [← rowsOf_zeros] at hG
  have hfin := GRes.stored hBe hR0 hba hG hb1 true
  have hce := (hR1.set (.slice a vs.length c)).cell
  have HF := Lib.hid hfin
  have HCE := Lib.hid hce
  clear hb1 hfin hce
  go_wp2_with fail
  refine bodyPost_ret (v := .tuple #[.agg #[.slice a vs.length c], .bool true]) (by simp [results, Try.results61, go_sem, HCE.out]) rfl ?_
  exact HF.out

theorem of_no (n : Int) (h : ¬ (1 ≤ n ∧ n ≤ 16)) (w : World) :
    Calls Try.prog 61 #[.int .i64 n] w (GRes w [] false) := by
  have hin : decide ((1 : Int) ≤ n ∧ n ≤ 16) = false := by simpa using h
  go_enter Try.func61, Try.ntmps61
  go_wp2_with fail
  refine (l1In_any _ _ _ _).mono ?_
  rintro e w' ⟨rfl, rfl⟩
  rw [hin]
  go_wp2_with fail
  refine bodyPost_ret (v := .tuple #[.agg #[.slice none 0 0], .bool false]) (by simp [results, Try.results61, go_sem]) rfl ?_
  exact GRes.nothing _ _ (below_alloc _ _)

/-- A graph that a call made goes into a variable. -/
theorem SG.ofRes {w0 w1 : World} {B : Nat} {a : Option Addr} {n c : Nat} {vs : List Value} {ms : List Nat} {o : Obj} (hB : w0.heap.size = B) (hR : GC (w0.alloc o) B (.slice none 0 0))
    (hG : OwnG w1 (w0.alloc o).heap.size 26 2 (.slice a n c) vs ((rowsOf ms).map ints)) (hb : Below (w0.alloc o).heap.size (w0.alloc o) w1) (hl : ms.length = n) :
    SG w0 B w1.heap.size a n c vs ms (w1.alloc (.cells #[.slice a n c] 42)) :=
  SG.start (hR.below hb) (by simpa [hB] using hG) (by subst hB; exact (below_alloc _ _).trans (hb.mono (by simp))) hl

set_option maxHeartbeats 1000000 in
theorem specPath_yes (n : Nat) (h1 : 1 ≤ n) (h2 : n ≤ 16) (w : World) :
    Calls Try.prog 53 #[.int .i64 n] w (GRes w (rowsOf (pathM n (n - 1))) true) := by
  obtain ⟨B, hBe⟩ : ∃ B, w.heap.size = B := ⟨_, rfl⟩
  have hR0 : GC (w.alloc (.cells #[.slice none 0 0] 42)) B (.slice none 0 0) := by subst hBe; exact GC.new _ _
  go_enter Try.func53, Try.ntmps53
  go_wp2_with fail
  refine (of_yes n h1 h2 _).mono ?_
  rintro e w1 ⟨u, vs, rfl, hG, hb1⟩
  obtain ⟨a, c, rfl⟩ := owns_shape hG.outer
  have hvl : vs.length = n := by rw [hG.len]; simp
  rw [hvl] at hG ⊢
  have hS := SG.ofRes (ms := pathM n 0) hBe hR0 hG hb1 (by simp)
  obtain ⟨C, hCe⟩ : ∃ C, w1.heap.size = C := ⟨_, rfl⟩
  rw [hCe] at hS
  clear hG hb1 hvl hR0
  go_wp2_with fail
  go_loopw [6] (fun i wr => ∃ (k : Nat) (vs : List Value), k < n ∧ i = .int .i64 ((k + 1 : Nat) : Int) ∧ SG w B C a n c vs (pathM n k) wr) (fun i _ => n - (intOf i).toNat)
  case atStart => exact ⟨0, vs, by omega, rfl, hS⟩
  case round =>
    obtain ⟨k, vs', hk, rfl, hS⟩ := hrel
    have hcC := hS.var.cell
    by_cases hlt : k + 1 < n
    · go_wp2_with fail
      refine (hS.link k (k + 1) _ _ (by omega) (by omega) (by omega) (by omega) (by omega)).mono ?_
      rintro e w2 ⟨rfl, vs2, hS2⟩
      have hcC2 := hS2.var.cell
      have hfC2 := hS2.var.free
      go_wp2_with fail
      go_roundw
      case rel => exact ⟨k + 1, vs2, by omega, by go_num, by rw [pathM_succ]; exact hS2.store⟩
      case measure => simp [intOf]; omega
    · have hcR := hS.res.cell
      have hfR := hS.res.free
      have hfin := hS.done hBe true
      have hce := (hS.res.set (.slice a n c)).cell
      obtain rfl : k = n - 1 := by omega
      have HF := Lib.hid hfin
      have HCE := Lib.hid hce
      clear hfin hce
      go_wp2_with fail
      refine bodyPost_ret (v := .tuple #[.agg #[.slice a n c], .bool true]) (by simp [results, Try.results53, go_sem, HCE.out]) rfl ?_
      exact HF.out

set_option maxHeartbeats 1000000 in
theorem specPath_no (n : Int) (h : ¬ (1 ≤ n ∧ n ≤ 16)) (w : World) :
    Calls Try.prog 53 #[.int .i64 n] w (GRes w [] false) := by
  obtain ⟨B, hBe⟩ : ∃ B, w.heap.size = B := ⟨_, rfl⟩
  have hR0 : GC (w.alloc (.cells #[.slice none 0 0] 42)) B (.slice none 0 0) := by subst hBe; exact GC.new _ _
  have H := Lib.hid h
  clear h
  go_enter Try.func53, Try.ntmps53
  go_wp2_with fail
  refine (of_no n H.out _).mono ?_
  rintro e w1 ⟨u, vs, rfl, hG, hb1⟩
  obtain ⟨a, c, rfl⟩ := owns_shape hG.outer
  have hvl : vs.length = 0 := by rw [hG.len]; simp
  rw [hvl] at hG ⊢
  have hS := SG.ofRes (ms := []) hBe hR0 hG hb1 rfl
  obtain ⟨C, hCe⟩ : ∃ C, w1.heap.size = C := ⟨_, rfl⟩
  rw [hCe] at hS
  clear hG hb1 hvl hR0
  go_wp2_with fail
  go_loopw [6] (fun i wr => i = .int .i64 1 ∧ SG w B C a 0 c vs [] wr) (fun _ _ => 0)
  case atStart => exact ⟨rfl, hS⟩
  case round =>
    obtain ⟨rfl, hS⟩ := hrel
    have hcC := hS.var.cell
    have hcR := hS.res.cell
    have hfR := hS.res.free
    have HF := Lib.hid (hS.done hBe false)
    have HCE := Lib.hid (hS.res.set (.slice a 0 c)).cell
    by_cases hlt : 1 < n
    all_goals
      go_wp2_with fail
      refine bodyPost_ret (v := .tuple #[.agg #[.slice a 0 c], .bool false]) (by simp [results, Try.results53, go_sem, HCE.out]) rfl ?_
      exact HF.out

/-! ### LoopGraph -/
def loopM (n : Nat) : List Nat := joinS (pathM n (n - 1)) 0 (n - 1)
@[simp] theorem loopM_length (n : Nat) : (loopM n).length = n := by simp [loopM]

set_option maxHeartbeats 1000000 in
theorem specLoop_yes (n : Nat) (h1 : 3 ≤ n) (h2 : n ≤ 16) (w : World) :
    Calls Try.prog 52 #[.int .i64 n] w (GRes w (rowsOf (loopM n)) true) := by
  obtain ⟨B, hBe⟩ : ∃ B, w.heap.size = B := ⟨_, rfl⟩
  have hR0 : GC (w.alloc (.cells #[.slice none 0 0] 42)) B (.slice none 0 0) := by subst hBe; exact GC.new _ _
  go_enter Try.func52, Try.ntmps52
  go_wp2_with fail
  refine (specPath_yes n (by omega) h2 _).mono ?_
  rintro e w1 ⟨u, vs, rfl, hG, hb1⟩
  obtain ⟨a, c, rfl⟩ := owns_shape hG.outer
  have hvl : vs.length = n := by rw [hG.len]; simp
  rw [hvl] at hG ⊢
  have hS := SG.ofRes (ms := pathM n (n - 1)) hBe hR0 hG hb1 (by simp)
  obtain ⟨C, hCe⟩ : ∃ C, w1.heap.size = C := ⟨_, rfl⟩
  rw [hCe] at hS
  clear hG hb1 hvl hR0
  have hl := hS.link 0 (n - 1) 0 ((n : Int) - 1) (by simp) (by omega) (by omega) (by omega) (by omega)
  rw [hCe] at hCe
  have hcC := hS.var.cell
  generalize hW : w1.alloc (.cells #[.slice a n c] 42) = W at *
  have HW := Lib.hid hW
  clear hW
  go_wp2_with fail
  rw [HW.out]
  go_wp2_with fail
  refine hl.mono ?_
  rintro e w2 ⟨rfl, vs2, hS2⟩
  have hcR := hS2.res.cell
  have hfR := hS2.res.free
  have HF := Lib.hid (hS2.done hBe true)
  have HCE := Lib.hid (hS2.res.set (.slice a n c)).cell
  go_wp2_with fail
  refine bodyPost_ret (v := .tuple #[.agg #[.slice a n c], .bool true]) (by simp [results, Try.results52, go_sem, HCE.out]) rfl ?_
  exact HF.out

set_option maxHeartbeats 1000000 in
theorem specLoop_no (n : Int) (h : ¬ (3 ≤ n ∧ n ≤ 16)) (w : World) :
    Calls Try.prog 52 #[.int .i64 n] w (GRes w [] false) := by
  by_cases hp : 1 ≤ n ∧ n ≤ 16
  · obtain ⟨k, rfl⟩ := Int.eq_ofNat_of_zero_le (show 0 ≤ n by omega)
    have h3 : (k : Int) < 3 := by omega
    have h1 : 1 ≤ k := by omega
    clear h hp
    go_enter Try.func52, Try.ntmps52
    go_wp2_with fail
    refine (specPath_yes k h1 (by omega) _).mono ?_
    rintro e w1 ⟨u, vs, rfl, hG, hb1⟩
    obtain ⟨a, c, rfl⟩ := owns_shape hG.outer
    have hR0 := GC.new w (.slice none 0 0)
    have hR := (hR0.below hb1).alloc (.cells #[.slice a vs.length c] 42)
    have hb : Below w.heap.size w (w1.alloc (.cells #[.slice a vs.length c] 42)) := ((below_alloc _ _).trans (hb1.mono (by simp))).alloc (by have := hb1.size; simp at this; omega) _
    have hcR := hR.cell
    have hfR := hR.free
    have HCE := Lib.hid (hR.set (.slice none 0 0)).cell
    clear hG hb1
    go_wp2_with fail
    refine bodyPost_ret (v := .tuple #[.agg #[.slice none 0 0], .bool false]) (by simp [results, Try.results52, go_sem, HCE.out]) rfl ?_
    exact GRes.nothing _ _ (hb.setCell (by simp) _)
  · have H := Lib.hid hp
    clear hp h
    go_enter Try.func52, Try.ntmps52
    go_wp2_with fail
    refine (specPath_no n H.out _).mono ?_
    rintro e w1 ⟨u, vs, rfl, hG, hb1⟩
    obtain ⟨a, c, rfl⟩ := owns_shape hG.outer
    have hR0 := GC.new w (.slice none 0 0)
    have hR := (hR0.below hb1).alloc (.cells #[.slice a vs.length c] 42)
    have hb : Below w.heap.size w (w1.alloc (.cells #[.slice a vs.length c] 42)) := ((below_alloc _ _).trans (hb1.mono (by simp))).alloc (by have := hb1.size; simp at this; omega) _
    have hcR := hR.cell
    have hfR := hR.free
    have HCE := Lib.hid (hR.set (.slice none 0 0)).cell
    clear hG hb1
    go_wp2_with fail
    refine bodyPost_ret (v := .tuple #[.agg #[.slice none 0 0], .bool false]) (by simp [results, Try.results52, go_sem, HCE.out]) rfl ?_
    exact GRes.nothing _ _ (hb.setCell (by simp) _)

end Go.Proofs.Ytpfhflkpnjkgkaa
