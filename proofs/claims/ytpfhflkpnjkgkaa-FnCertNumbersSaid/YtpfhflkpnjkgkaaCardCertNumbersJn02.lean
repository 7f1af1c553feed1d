import Derived.Laws.AppendOwn
import Derived.Test.YtpfhflkpnjkgkaaCardCertNumbersJn01
import Derived.Test.YtpfhflkpnjkgkaaGq00
/-
  'l1Draw' of the reference.
-/

namespace Go.Proofs.Ytpfhflkpnjkgkaa
open Go.RowKit

set_option maxHeartbeats 4000000 in
theorem l1Draw_any (D : Nat) (v : Value) (bs : List UInt8) (w : World) (hd : Cur D v bs.length w) (hr : RdB v bs w) (hl : bs.length ≤ 4096) (hvD : Far D v bs) :
    Calls Try.prog 40 #[.pointer (some ⟨D, 0, none⟩)] w (GrP D v bs.length w) := by
  obtain ⟨B, hB⟩ : ∃ B, w.heap.size = B := ⟨_, rfl⟩
  have hDB : D < B := by have := hd.lt; omega
  have HBE : Hid (∀ (N : Int) (n : Nat) (W : World), N = n → 0 < n → n ≤ 256 → Cur D v bs.length W → Upd D (D + 1) w W →
    Calls Try.prog 29 #[.pointer (some ⟨D, 0, none⟩), .int .i64 N] W fun e w' => ∃ x : Nat, e = .returned (.int .i64 x) ∧ x < n ∧ Cur D v bs.length w' ∧ Upd D (D + 1) W w') :=
    Lib.hid fun N n W hN h0 h1 hdW hu => l1Below_any D v bs n N hN h0 h1 W hdW (hr.upd hu hvD) hl hvD
  have HOF : Hid (∀ (N : Int) (n : Nat) (W : World), N = n → 1 ≤ n → n ≤ 7 → Cur D v bs.length W → Upd D (D + 1) w W →
    Calls Try.prog 54 #[.pointer (some ⟨D, 0, none⟩), .int .i64 N] W (GrP D v bs.length W)) :=
    Lib.hid fun N n W hN h0 h1 hdW hu => l1DrawOf_any D v bs n N hN h0 h1 W hdW (hr.upd hu hvD) hl hvD
  obtain ⟨W0, hW0⟩ : ∃ W0, W0 = w.alloc (.cells #[.slice none 0 0] 42) := ⟨_, rfl⟩
  have VR0 : GC W0 B (.slice none 0 0) := by rw [hW0, ← hB]; exact GC.new _ _
  have b0 : Below B w W0 := by rw [hW0, ← hB]; exact below_alloc' _ _
  have u0 : Upd D (D + 1) w W0 := (Upd.rfl' w).then b0 (by omega) |>.wide (by omega)
  have hz0 : W0.heap.size = B + 1 := by rw [hW0]; simp [hB]
  have hd0 : Cur D v bs.length W0 := hd.belowAt b0 hDB
  clear hr hl b0 hd
  go_enter Try.func40, Try.ntmps40
  go_wp2_with fail
  try rw [← hW0]
  clear hW0
  refine (HBE.out 6 6 W0 rfl (by decide) (by decide) hd0 u0).mono ?_
  rintro e1 w1 ⟨x0, rfl, hx0, hd1, u1⟩
  replace u0 := u0.trans u1
  have VR1 : GC w1 B (.slice none 0 0) := VC.upd (t := 42) VR0 u1 (by omega)
  have hz1 : B + 1 ≤ w1.heap.size := by have := u1.size; omega
  clear VR0 hd0 u1 hz0
  by_cases h0 : x0 = 0
  · subst h0
    go_wp2_with fail
    refine (HBE.out 4 4 w1 rfl (by decide) (by decide) hd1 u0).mono ?_
    rintro e1 w2 ⟨y, rfl, hy, hd2, u2⟩
    replace u0 := u0.trans u2
    have VR2 : GC w2 B (.slice none 0 0) := VC.upd (t := 42) VR1 u2 (by omega)
    have hz2 : B + 1 ≤ w2.heap.size := by have := u2.size; omega
    clear VR1 hd1 u2
    obtain ⟨n, hyn⟩ : ∃ n : Nat, (3 : Int) + (y : Int) = (n : Int) := ⟨3 + y, by omega⟩
    have HLO := Lib.hid (specLoop_yes n (by omega) (by omega) w2)
    have hn16 : 3 ≤ n ∧ n ≤ 16 := by omega
    clear HBE HOF
    go_wp2_with fail
    refine HLO.out.mono ?_
    rintro e1 w3 ⟨u, vs, rfl, hG, hb3⟩
    obtain ⟨ga, gc, rfl⟩ := owns_shape hG.outer
    obtain ⟨T, hT⟩ : ∃ T, w3.heap.size = T := ⟨_, rfl⟩
    obtain ⟨W4, hW4⟩ : ∃ W, W = w3.alloc (.cells #[.slice ga vs.length gc] 42) := ⟨_, rfl⟩
    have hz3 : B + 1 ≤ w3.heap.size := by have := hb3.size; omega
    have b4 : Below T w3 W4 := by rw [hW4, ← hT]; exact below_alloc' _ _
    have VR4 : GC W4 B (.slice none 0 0) := (VR2.belowAt hb3 (by omega)).belowAt b4 (by omega)
    have VT4 : GC W4 T (.slice ga vs.length gc) := by rw [hW4, ← hT]; exact GC.new _ _
    have hc4 := VT4.cell
    have hcR := VR4.cell
    have hfR := VR4.free
    have bb : Below B w3 (W4.setCell ⟨B, 0, none⟩ (.slice ga vs.length gc)) := (b4.mono (by omega)).setCell (by simp) _
    have hend : GrP D v bs.length w (.returned (.agg #[.slice ga vs.length gc])) (W4.setCell ⟨B, 0, none⟩ (.slice ga vs.length gc)) :=
      ⟨⟨_, vs, _, rfl, by rw [hB]; exact (VR4.own (hG.below (hT ▸ b4))).rebase (by omega), short_rowsOf (by first | (simp; omega) | simp) (by first | (simp; omega) | simp)⟩,
       (hd2.belowAt hb3 (by omega)).belowAt bb (by omega), (u0.then hb3 (by omega)).then bb (by omega)⟩
    have hce := (VR4.set (.slice ga vs.length gc)).cell
    have HCE := Lib.hid hce
    have HEND := Lib.hid hend
    have HW4 := Lib.hid hW4
    rw [hW4, ← hT] at hc4
    rw [hW4] at hcR hfR
    clear hend hce bb hG hb3 hd2 u0 VR4 VR2 VT4 b4 hW4 HLO
    go_wp2_with fail
    refine bodyPost_ret (v := .agg #[.slice ga vs.length gc]) (by have h := HCE.out; rw [HW4.out] at h; simp [results, Try.results40, go_sem, h]) rfl ?_
    rw [← HW4.out]
    exact HEND.out
  · have hb0 : ((x0 : Int) == 0) = false := by rw [beq_eq_false_iff_ne]; omega
    by_cases h1 : x0 = 1
    · subst h1
      go_wp2_with fail
      refine (HBE.out 6 6 w1 rfl (by decide) (by decide) hd1 u0).mono ?_
      rintro e1 w2 ⟨y, rfl, hy, hd2, u2⟩
      replace u0 := u0.trans u2
      have VR2 : GC w2 B (.slice none 0 0) := VC.upd (t := 42) VR1 u2 (by omega)
      have hz2 : B + 1 ≤ w2.heap.size := by have := u2.size; omega
      clear VR1 hd1 u2
      obtain ⟨n, hyn⟩ : ∃ n : Nat, (1 : Int) + (y : Int) = (n : Int) := ⟨1 + y, by omega⟩
      have HLO := Lib.hid (specPath_yes n (by omega) (by omega) w2)
      have hn16 : 1 ≤ n ∧ n ≤ 16 := by omega
      clear HBE HOF
      go_wp2_with fail
      refine HLO.out.mono ?_
      rintro e1 w3 ⟨u, vs, rfl, hG, hb3⟩
      obtain ⟨ga, gc, rfl⟩ := owns_shape hG.outer
      obtain ⟨T, hT⟩ : ∃ T, w3.heap.size = T := ⟨_, rfl⟩
      obtain ⟨W4, hW4⟩ : ∃ W, W = w3.alloc (.cells #[.slice ga vs.length gc] 42) := ⟨_, rfl⟩
      have hz3 : B + 1 ≤ w3.heap.size := by have := hb3.size; omega
      have b4 : Below T w3 W4 := by rw [hW4, ← hT]; exact below_alloc' _ _
      have VR4 : GC W4 B (.slice none 0 0) := (VR2.belowAt hb3 (by omega)).belowAt b4 (by omega)
      have VT4 : GC W4 T (.slice ga vs.length gc) := by rw [hW4, ← hT]; exact GC.new _ _
      have hc4 := VT4.cell
      have hcR := VR4.cell
      have hfR := VR4.free
      have bb : Below B w3 (W4.setCell ⟨B, 0, none⟩ (.slice ga vs.length gc)) := (b4.mono (by omega)).setCell (by simp) _
      have hend : GrP D v bs.length w (.returned (.agg #[.slice ga vs.length gc])) (W4.setCell ⟨B, 0, none⟩ (.slice ga vs.length gc)) :=
        ⟨⟨_, vs, _, rfl, by rw [hB]; exact (VR4.own (hG.below (hT ▸ b4))).rebase (by omega), short_rowsOf (by first | (simp; omega) | simp) (by first | (simp; omega) | simp)⟩,
         (hd2.belowAt hb3 (by omega)).belowAt bb (by omega), (u0.then hb3 (by omega)).then bb (by omega)⟩
      have hce := (VR4.set (.slice ga vs.length gc)).cell
      have HCE := Lib.hid hce
      have HEND := Lib.hid hend
      have HW4 := Lib.hid hW4
      rw [hW4, ← hT] at hc4
      rw [hW4] at hcR hfR
      clear hend hce bb hG hb3 hd2 u0 VR4 VR2 VT4 b4 hW4 HLO
      go_wp2_with fail
      refine bodyPost_ret (v := .agg #[.slice ga vs.length gc]) (by have h := HCE.out; rw [HW4.out] at h; simp [results, Try.results40, go_sem, h]) rfl ?_
      rw [← HW4.out]
      exact HEND.out
    · have hb1 : ((x0 : Int) == 1) = false := by rw [beq_eq_false_iff_ne]; omega
      go_wp2_with fail
      refine (HBE.out 7 7 w1 rfl (by decide) (by decide) hd1 u0).mono ?_
      rintro e1 w2 ⟨y, rfl, hy, hd2, u2⟩
      replace u0 := u0.trans u2
      have VR2 : GC w2 B (.slice none 0 0) := VC.upd (t := 42) VR1 u2 (by omega)
      have hz2 : B + 1 ≤ w2.heap.size := by have := u2.size; omega
      clear VR1 hd1 u2
      obtain ⟨n, hyn⟩ : ∃ n : Nat, (1 : Int) + (y : Int) = (n : Int) := ⟨1 + y, by omega⟩
      have HLO := Lib.hid (HOF.out (n : Int) n w2 rfl (by omega) (by omega) hd2 u0)
      clear HBE HOF
      go_wp2_with fail
      refine HLO.out.mono ?_
      rintro e1 w3 ⟨⟨u, vs, rows, rfl, hG, hsh⟩, hd3, u3⟩
      obtain ⟨ga, gc, rfl⟩ := owns_shape hG.outer
      have VR3 : GC w3 B (.slice none 0 0) := VC.upd (t := 42) VR2 u3 (by omega)
      have hz3 : B + 1 ≤ w3.heap.size := by have := u3.size; omega
      have hcR := VR3.cell
      have hfR := VR3.free
      have bb : Below B w3 (w3.setCell ⟨B, 0, none⟩ (.slice ga vs.length gc)) := (Below.refl _ _).setCell (by simp) _
      have hend : GrP D v bs.length w (.returned (.agg #[.slice ga vs.length gc])) (w3.setCell ⟨B, 0, none⟩ (.slice ga vs.length gc)) :=
        ⟨⟨_, vs, _, rfl, by rw [hB]; exact (VR3.own hG).rebase (by omega), hsh⟩, hd3.belowAt bb (by omega), (u0.trans u3).then bb (by omega)⟩
      have hce := (VR3.set (.slice ga vs.length gc)).cell
      have HCE := Lib.hid hce
      have HEND := Lib.hid hend
      clear hend hce bb hG hd3 u0 u3 VR3 VR2 HLO
      go_wp2_with fail
      refine bodyPost_ret (v := .agg #[.slice ga vs.length gc]) (by simp [results, Try.results40, go_sem, HCE.out]) rfl ?_
      exact HEND.out
end Go.Proofs.Ytpfhflkpnjkgkaa
/-
  'append' onto an owned row, once more: the row stays where it was, or lies in new memory. No program in sight.
-/


namespace Go.Proofs.Ytpfhflkpnjkgkaa
open Go.RowKit

theorem run_append_where {P : Program} (w : World) (base : Nat) (t ty e : TypeId) (i : TypeInfo) (z : Value) (size bytes : Nat) (ht : P.underlying t = some (.slice e)) (hi : P.info? e = some i) (hz : i.zero = some z)
    (hsize : i.size = size) (hby : i.bytes = bytes) (hzs : z.cells.size = size) (hsz : 0 < size)
    (v : Value) (n : Nat) (xs : List Value) (hown : w.ownsRow base e size v n xs)
    (a : Addr) (m c : Nat) (news : List Value) (hl : news.length = m * size) (hnews : ∀ j u, news[j]? = some u → w.cell? (a.add j) = some u) (h1 : ∀ u ∈ news, u.oneCell' = true)
    (h63 : n + m ≤ maxLen) (hbytes : (n + m) * bytes ≤ 140737488355328) (hbase : base ≤ w.heap.size) :
    ∃ v' w', (Builtin.append_ #[t, t] ty #[v, .slice (some a) m c]).run P w = .ok v' w' ∧ w'.ownsRow base e size v' (n + m) (xs ++ news) ∧ w.grownBy w' v.ownBlock ∧
      (∀ k, v'.ownBlock = some k → v.ownBlock = some k ∨ w.heap.size ≤ k) := by
  obtain ⟨v', w', hr, h2, h3, h4⟩ := run_append_own (P := P) w base t ty e i z size bytes ht hi hz hsize hby hzs hsz v n xs hown a m c news hl hnews h1 h63 hbytes hbase
  refine ⟨v', w', hr, h2, h3, ?_⟩
  subst hsize
  subst hby
  have hsmall : n + m ≤ 9223372036854775807 := by simp only [maxLen] at h63; omega
  rcases hown.2 with ⟨rfl, rfl⟩ | ⟨g, cap, cur, rfl, hbg, hg, hnc, hcm, hcs, htake⟩
  · by_cases hm : m = 0
    · have := h4.2 ⟨rfl, hm⟩
      subst this
      intro k hk
      simp [Value.ownBlock] at hk
    · have hr' := run_append_nil (P := P) w t ty e i z ht hi hz a m c news hl hnews (by omega) (by omega) (by have hb := hbytes; simp only [Nat.zero_add] at hb; omega)
      rw [hr] at hr'
      have he := (Result.ok.inj hr').1
      subst he
      intro k hk
      simp [Value.ownBlock] at hk
      exact .inr (by omega)
  · by_cases hroom : n + m ≤ cap
    · have hfit : n * i.size + news.length ≤ cur.size := by rw [hl, hcs, ← Nat.add_mul]; exact Nat.mul_le_mul_right _ hroom
      have hr' := run_append_room (P := P) w t ty e i ht hi g n cap cur hg a m c news hl hnews h1 hroom hfit
      rw [hr] at hr'
      have he := (Result.ok.inj hr').1
      subst he
      intro k hk
      exact .inl (by simpa [Value.ownBlock] using hk)
    · have holds : ∀ j u, xs[j]? = some u → w.cell? ((⟨g, 0, none⟩ : Addr).add j) = some u := hown.cells (g := g) rfl
      have hr' := run_append_grow (P := P) w t ty e i z ht hi hz ⟨g, 0, none⟩ n cap xs hown.1 holds a m c news hl hnews (by omega) (by omega) (growslice_fits (by omega) hbytes)
      rw [hr] at hr'
      have he := (Result.ok.inj hr').1
      subst he
      intro k hk
      simp [Value.ownBlock] at hk
      exact .inr (by omega)

/-- The same as a step of a walk: one or more elements from a slice that reads. -/
theorem wpList_extend_where {P : Program} (w : World) {ops : Array Oper} {rest : List Oper} {o : Oper} {a : Act} {Q : Exit → Act → World → Prop} (hgd : o.guard = none) (s x : Operand) (t : TypeId)
    (ho : o.op = .call { callee := .builtin .append, args := #[s, x], argTypes := #[t, t] })
    (base : Nat) (e : TypeId) (z : Value) (bytes : Nat) (ht : P.underlying t = some (.slice e)) (hinfo : (P.info? e).map (fun i => (i.zero, i.size, i.bytes)) = some (some z, 1, bytes)) (hzs : z.cells.size = 1)
    (v : Value) (n : Nat) (xs : List Value) (hs : a.eval s = v) (hown : w.ownsRow base e 1 v n xs)
    (v2 : Value) (m : Nat) (news : List Value) (hm : 0 < m) (hx : a.eval x = v2) (hr : Row w 1 v2 m news) (h1 : ∀ u ∈ news, u.oneCell' = true)
    (h63 : n + m ≤ maxLen) (hbytes : (n + m) * bytes ≤ 140737488355328) (hbase : base ≤ w.heap.size)
    (h : ∀ g' c' w', w'.ownsRow base e 1 (.slice (some ⟨g', 0, none⟩) (n + m) c') (n + m) (xs ++ news) → w.grownBy w' v.ownBlock → (v.ownBlock = some g' ∨ w.heap.size ≤ g') → wpList P ops Q rest (a.put o.dst (.slice (some ⟨g', 0, none⟩) (n + m) c')) w') :
    wpList P ops Q (o :: rest) a w := by
  obtain ⟨i, hi, hz, hsize, hby⟩ := info_parts hinfo
  obtain ⟨ao, cap, rfl, hle, hmx, hlen, hnone, hcell⟩ := hr
  obtain ⟨b0, o0, rfl, -⟩ := hcell 0 (news[0]'(by omega)) (by simp)
  refine wpList_plain hgd fun K hK => ?_
  obtain ⟨v', w', hrun, h2, h3, h4⟩ := run_append_where (P := P) w base t o.type e i z 1 bytes ht hi hz hsize hby hzs (by decide) v n xs hown ⟨b0, o0, none⟩ m cap news (by omega) (fun j u hj => by
    obtain ⟨b, o', e', hc⟩ := hcell j u hj
    obtain ⟨rfl, rfl⟩ : b0 = b ∧ o0 = o' := by simpa using e'
    rw [Addr.add_lit]; exact hc) h1 h63 hbytes hbase
  unfold Oper.wp execOp
  simp only [ho, resolve, invoke, builtin, Sem.run_bind, Sem.run_pure, Result.andThen_ok, List.map_toArray, List.map_cons, List.map_nil, hs, hx, hrun]
  obtain ⟨g', c', rfl⟩ := owns_head h2 (by omega)
  exact hK _ _ (h g' c' w' h2 h3 (h4 g' rfl))
end Go.Proofs.Ytpfhflkpnjkgkaa
