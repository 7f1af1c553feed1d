/-
  'KneserGraph' of the reference and of the program.
-/
import Derived.Test.YtmnkdgnbfkdfkaaDoorPath
import Derived.Test.YtmnkdgnbfkdfkaaDoorSpecB
import Derived.BigQuiet
import Derived.Deep.QuietTactic
namespace Go.Proofs.YtmnkdgnbfkdfkaaDoor
open Go.RowKit

/-- The pairs (a, b) with a < b, by b. -/
def prs (b : Nat) : List (Nat × Nat) := (List.range b).flatMap fun b' => (List.range b').map fun a => (a, b')
def prsAt (b a : Nat) : List (Nat × Nat) := prs b ++ (List.range a).map fun a => (a, b)
theorem prs_succ (b : Nat) : prs (b + 1) = prsAt b b := by simp [prs, prsAt, List.range_succ]
theorem prsAt_succ (b a : Nat) : prsAt b (a + 1) = prsAt b a ++ [(a, b)] := by simp [prsAt, List.range_succ]
theorem prsAt_zero (b : Nat) : prsAt b 0 = prs b := by simp [prsAt]
theorem prs_length_le (b : Nat) : (prs b).length ≤ b * b := by
  induction b with
  | zero => simp [prs]
  | succ b ih =>
    rw [prs_succ]
    simp only [prsAt, List.length_append, List.length_map, List.length_range]
    have : (b + 1) * (b + 1) = b * b + 2 * b + 1 := by rw [Nat.add_mul, Nat.mul_add]; omega
    omega
theorem prsAt_length (b a : Nat) (hb : b ≤ 6) (ha : a ≤ b) : (prsAt b a).length ≤ 100 := by
  have := prs_length_le b
  have h2 : b * b ≤ 6 * 6 := Nat.mul_le_mul hb hb
  simp only [prsAt, List.length_append, List.length_map, List.length_range]
  omega
def pairI (p : Nat × Nat) : List Int := [(p.1 : Int), (p.2 : Int)]
theorem infoR2 : (Tryd.prog.info? 49).map (fun i => (i.zero, i.size, i.bytes)) = some (some (.slice none 0 0), 1, 24) := infoR

/-- The pairs so far, in memory. -/
structure PS (w0 : World) (B : Nat) (u : Value) (vs : List Value) (ps : List (Nat × Nat)) (wr : World) : Prop where
  res : GC wr B (.slice none 0 0)
  own : OwnG wr (B + 1) 49 2 u vs ((ps.map pairI).map ints)
  bel : Below B w0 wr

theorem prs_small (n : Nat) (h1 : 4 ≤ n) (h2 : n ≤ 6) : (prs n).length ≤ 15 := by
  rcases (by omega : n = 4 ∨ n = 5 ∨ n = 6) with rfl | rfl | rfl <;> decide

theorem PS.start {w w1 : World} {B : Nat} (hBe : w.heap.size = B) (hw1 : w.alloc (.cells #[.slice none 0 0] 28) = w1) :
    PS w B (.slice (some ⟨B + 1, 0, none⟩) 0 0) [] [] (w1.alloc (.cells #[] 49)) := by
  subst hw1; subst hBe
  refine ⟨(GC.new _ _).alloc _, ?_, (below_alloc _ _).trans ((below_alloc _ _).mono (by simp))⟩
  refine OwnG.nil _ _ (by decide) ?_
  have := World.ownsRow_lit (w.alloc (.cells #[.slice none 0 0] 28)) #[] 0 (Nat.le_refl _) (by simp [maxLen]) rfl (e := 49) (size := 1)
  simpa using this

theorem PS.push {w wr w2 : World} {B g2 c2 : Nat} {u : Value} {vs : List Value} {ps : List (Nat × Nat)} (h : PS w B u vs ps wr) (p : Nat × Nat)
    (ho : w2.ownsRow (B + 1) 49 1 (.slice (some ⟨g2, 0, none⟩) (vs.length + 1) c2) (vs.length + 1) (vs ++ [.slice (some ⟨wr.heap.size, 0, none⟩) 2 2]))
    (hg : (wr.alloc (.cells #[.int .i64 p.1, .int .i64 p.2] 2)).grownBy w2 u.ownBlock) :
    PS w B (.slice (some ⟨g2, 0, none⟩) (vs.length + 1) c2) (vs ++ [.slice (some ⟨wr.heap.size, 0, none⟩) 2 2]) (ps ++ [p]) w2 := by
  have hlt := h.res.lt
  have hba : Below wr.heap.size wr (wr.alloc (.cells #[.int .i64 p.1, .int .i64 p.2] 2)) := below_alloc _ _
  have hou : (wr.alloc (.cells #[.int .i64 p.1, .int .i64 p.2] 2)).ownsRow wr.heap.size 2 1 (.slice (some ⟨wr.heap.size, 0, none⟩) 2 2) 2 (ints (pairI p)) :=
    World.ownsRow_lit wr #[.int .i64 p.1, .int .i64 p.2] 2 (Nat.le_refl _) (by simp [maxLen]) rfl
  have hblk : ∀ k, u.ownBlock = some k → B + 1 ≤ k := fun k hk => (owns_lt h.own.outer hk).1
  refine ⟨?_, ?_, ?_⟩
  · exact (hg.block _ (by simp; omega) (fun e => by have := hblk _ e.symm; omega)).trans (h.res.alloc _)
  · have := h.own.push (cs := ints (pairI p)) hba hou (Nat.le_refl _) (by omega) ho hg
    simpa using this
  · exact (h.bel.trans (hba.mono (by omega))).grown hg (by simp; omega) (fun b hb => by have := hblk b hb; omega)

/-- Two pairs share no number. -/
def away (p q : Nat × Nat) : Bool := !((pairI p).contains (q.1 : Int)) && !((pairI p).contains (q.2 : Int))
def kS (P : List (Nat × Nat)) (v : Nat) (ms : List Nat) (u : Nat) : List Nat := if away (P.getD u (0, 0)) (P.getD v (0, 0)) then joinS ms u v else ms
def kR (P : List (Nat × Nat)) (v k : Nat) (ms : List Nat) : List Nat := (List.range k).foldl (kS P v) ms
def kM (P : List (Nat × Nat)) (m k : Nat) : List Nat := (List.range k).foldl (fun ms v => kR P v v ms) (List.replicate m 0)
theorem kR_succ (P : List (Nat × Nat)) (v k : Nat) (ms : List Nat) : kR P v (k + 1) ms = kS P v (kR P v k ms) k := by simp [kR, List.range_succ]
theorem kM_succ (P : List (Nat × Nat)) (m k : Nat) : kM P m (k + 1) = kR P k k (kM P m k) := by simp [kM, List.range_succ]

/-- As 'SG.link', with what lies under the graph's blocks kept. -/
theorem SG.link_over {w0 : World} {B C : Nat} {a : Option Addr} {n c : Nat} {vs : List Value} {ms : List Nat} {wr : World} (h : SG w0 B C a n c vs ms wr) {wp : World} {D : Nat} (hb : Below D wp wr) (hD : ∀ k, (Value.slice a n c).ownBlock = some k → D ≤ k)
    (i j : Nat) (I J : Int) (hI : I = i) (hJ : J = j) (hi : i < n) (hj : j < n) (hn : n ≤ 32) (hDs : D ≤ wr.heap.size) :
    Calls Tryd.prog 35 #[.agg #[.slice a n c], .int .i64 I, .int .i64 J] wr fun e w' => e = .returned (.agg #[.slice a n c]) ∧ ∃ vs', SG w0 B C a n c vs' (joinS ms i j) w' ∧ Below D wp w' := by
  have hl := h.len
  have hB := h.res.lt
  refine (link_sets (B + 1) (.slice a n c) vs ms i j I J hI hJ wr (by omega) (by omega) (by omega) (by omega) (by omega) (by omega) h.own).mono ?_
  rintro e w2 ⟨vs2, rfl, hG2, hw2⟩
  refine ⟨rfl, vs2, ⟨h.res.wrote hw2 ?_, h.var.wrote hw2 ?_, hG2, h.bel.trans (hw2.below (by omega) fun k hk => by have := (owns_lt h.own.outer hk).1; omega), h.ord, by simpa using hl⟩, hb.trans (hw2.below hDs fun k hk => hD k hk)⟩
  · exact h.res.unlike h.own.outer (by decide)
  · exact h.var.unlike h.own.outer (by decide)

theorem below_drewN (w : World) (n : Nat) : Below w.heap.size w (w.drewN n) := ⟨rfl, rfl, rfl, Nat.le_refl _, fun _ _ => rfl⟩
theorem Row.drewN {w : World} {size : Nat} {v : Value} {n : Nat} {cs : List Value} (h : Row w size v n cs) (k : Nat) : Row (w.drewN k) size v n cs := h.below (below_drewN w k)

theorem has_is {w : World} {v : Value} {p : Nat × Nat} (hx : Row w 1 v (pairI p).length (ints (pairI p))) (x : Int) {b : Bool} (h : (pairI p).contains x = b) (j : Nat) :
    Calls Tryd.prog 44 #[v, .int .i64 x] (w.drewN j) fun e w' => e = .returned (.bool b) ∧ w' = w.drewN j := by
  subst h
  exact (has_any _ (pairI p) x (w.drewN j) (hx.drewN j)).mono fun _ _ h => ⟨h.1, h.2.symm⟩

/-- What a pair reads as. -/
theorem pair_at {w : World} {u : Value} {p : Nat × Nat} (h : Row w 1 u (pairI p).length (ints (pairI p))) :
    ∃ b o c, u = .slice (some ⟨b, o, none⟩) 2 c ∧ w.cell? ⟨b, o, none⟩ = some (.int .i64 p.1) ∧ w.cell? ⟨b, o + 1, none⟩ = some (.int .i64 p.2) := by
  obtain ⟨a, c, rfl, -, -, -⟩ := id h
  obtain ⟨b, o, x, rfl, hc0, h0⟩ := Row.intAt (k := .i64) h (j := 0) (by simp [pairI])
  obtain ⟨b', o', y, e, hc1, h1⟩ := Row.intAt (k := .i64) h (j := 1) (by simp [pairI])
  obtain ⟨rfl, rfl⟩ : b = b' ∧ o = o' := by simpa using e
  have e0 : x = p.1 := by have := h0.out; simpa [pairI, eq_comm] using this
  have e1 : y = p.2 := by have := h1.out; simpa [pairI, eq_comm] using this
  subst e0; subst e1
  exact ⟨b, o, c, rfl, hc0, hc1⟩

set_option maxHeartbeats 1000000 in
theorem specKneser_yes (n : Nat) (h1 : 4 ≤ n) (h2 : n ≤ 6) (w : World) :
    Calls Tryd.prog 28 #[.int .i64 n] w (GRes w (rowsOf (kM (prs n) (prs n).length (prs n).length)) true) := by
  have hin : decide ((4 : Int) ≤ n ∧ (n : Int) ≤ 6) = true := by simp; omega
  obtain ⟨B, hBe⟩ : ∃ B, w.heap.size = B := ⟨_, rfl⟩
  obtain ⟨wa, hwa⟩ : ∃ wa, w.alloc (.cells #[.slice none 0 0] 28) = wa := ⟨_, rfl⟩
  have hP := PS.start hBe hwa
  go_enter Tryd.func28, Tryd.ntmps28
  go_wp2_with fail
  refine (l1In_any _ _ _ _).mono ?_
  rintro e w' ⟨rfl, rfl⟩
  rw [hin]
  have hsa : wa.heap.size = B + 1 := by rw [← hwa, ← hBe]; simp
  go_wp2_with fail
  go_loopw [5, 4] (fun iv u wr => ∃ (b : Nat) (vs : List Value), 1 ≤ b ∧ b ≤ n ∧ iv = .int .i64 (b : Int) ∧ PS w B u vs (prs b) wr) (fun iv _ _ => n - (intOf iv).toNat)
  case atStart => exact ⟨1, [], by omega, by omega, rfl, hP⟩
  case round =>
    clear hP
    obtain ⟨b, vs, hb1, hb, rfl, hP⟩ := hrel
    by_cases hlt : b < n
    · go_wp2_with fail
      go_loopw [6, 4] (fun iv u wr => ∃ (a : Nat) (vs : List Value), a ≤ b ∧ iv = .int .i64 (a : Int) ∧ PS w B u vs (prsAt b a) wr) (fun iv _ _ => b - (intOf iv).toNat)
      case atStart => exact ⟨0, vs, by omega, rfl, by rw [prsAt_zero]; exact hP⟩
      case round =>
        clear hP
        obtain ⟨a, vs, ha, rfl, hP⟩ := hrel
        by_cases hla : a < b
        · have hlen : vs.length = (prsAt b a).length := by rw [hP.own.len]; simp
          have hl100 := prsAt_length b a (by omega) (by omega)
          have hout := hP.own.outer
          have hBlt := hP.res.lt
          obtain ⟨ua, uc, rfl⟩ := owns_shape hP.own.outer
          go_wp2_with (at_builtin; refine wpList_push_at _ rfl _ _ 26 rfl (B + 1) 49 _ _ 24 Tryd.underlying26 infoR rfl _ _ _ rfl (hout.alloc _) (wr.heap.size + 1) (by simp) _ rfl rfl (by unfold maxLen; omega) (by omega) (by simp; omega) ?_; intro g2 c2 w2 ho2 hg2)
          have hP2 := hP.push (a, b) ho2 hg2
          go_roundw
          case rel => exact ⟨a + 1, _, by omega, by go_num, by rw [prsAt_succ, ← hlen]; exact hP2⟩
          case measure => simp [intOf]; omega
        · obtain rfl : a = b := by omega
          go_wp2_with fail
          go_roundw
          case rel => exact ⟨a + 1, vs, by omega, by omega, by go_num, by rw [prs_succ]; exact hP⟩
          case measure => simp [intOf]; omega
    · obtain rfl : b = n := by omega
      obtain ⟨wp, rfl⟩ : ∃ x, x = wr := ⟨wr, rfl⟩
      have hm15 := prs_small b h1 h2
      have hlen : vs.length = (prs b).length := by rw [hP.own.len]; simp
      obtain ⟨m, hm⟩ : ∃ m, (prs b).length = m := ⟨_, rfl⟩
      rw [hm] at hm15
      obtain ⟨pa, pc, rfl⟩ := owns_shape hP.own.outer
      rw [hm] at hlen
      have hRd := hP.own.rd
      have hR0 := hP.res
      have hbw := hP.bel
      rw [hlen] at hRd ⊢
      obtain ⟨D, hD⟩ : ∃ D, wp.heap.size = D := ⟨_, rfl⟩
      clear hP
      rw [hm]
      go_wp2_with fail
      refine (empty_any m (by omega) _).mono ?_
      rintro e w1 ⟨u, gs, rfl, hG, hbe⟩
      obtain ⟨ga, gc, rfl⟩ := owns_shape hG.outer
      have hgl : gs.length = m := by rw [hG.len]; simp
      rw [hgl] at hG ⊢
      rw [← rowsOf_zeros] at hG
      have hlt0 := hR0.lt
      have hS := SG.start (ms := kM (prs b) m 0) (hR0.below hbe) (hG.rebase (by omega)) (hbw.trans (hbe.mono (by omega))) (by simp [kM])
      have hBD : Below D wp (w1.alloc (.cells #[.slice ga m gc] 28)) := by subst hD; exact hbe.alloc hbe.size _
      have hga : ∀ k, (Value.slice ga m gc).ownBlock = some k → D ≤ k := fun k hk => by have := (owns_lt hG.outer hk).1; omega
      obtain ⟨C, hCe⟩ : ∃ C, w1.heap.size = C := ⟨_, rfl⟩
      have hDC : D ≤ C := by have := hbe.size; omega
      rw [hCe] at hS
      clear hG hbe hgl hR0 hbw
      go_wp2_with fail
      go_loopw [8] (fun iv W => ∃ (k : Nat) (gs : List Value), k ≤ m ∧ iv = .int .i64 (k : Int) ∧ SG w B C ga m gc gs (kM (prs b) m k) W ∧ Below D wp W) (fun iv _ => m - (intOf iv).toNat)
      case atStart => exact ⟨0, gs, by omega, rfl, hS, hBD⟩
      case round =>
        clear hS hBD
        obtain ⟨k, gs, hk, rfl, hS, hBD⟩ := hrel
        have hcC := hS.var.cell
        by_cases hlt : k < m
        · go_wp2_with fail
          refine (size_any _ _ _ _).mono ?_
          rintro e w2 ⟨rfl, hb2⟩
          have hS2 := hS.below hb2
          have hBD2 : Below D wp w2 := hBD.trans (hb2.mono (by have := hBD.size; omega))
          clear hS hBD hb2 hcC
          go_wp2_with fail
          go_loopw [9] (fun iv W => ∃ (u : Nat) (gs : List Value), u ≤ k ∧ iv = .int .i64 (u : Int) ∧ SG w B C ga m gc gs (kR (prs b) k u (kM (prs b) m k)) W ∧ Below D wp W) (fun iv _ => k - (intOf iv).toNat)
          case atStart => exact ⟨0, gs, by omega, rfl, hS2, hBD2⟩
          case round =>
            clear hS2 hBD2
            obtain ⟨u, gs, hu, rfl, hS, hBD⟩ := hrel
            by_cases hlu : u < k
            · have hRW := hRd.below (hD.symm ▸ hBD)
              obtain ⟨pb, po, x, xs, rfl, hcx, hx, -, HX⟩ := hRW.intsAt (k := u) (by simp; omega)
              obtain ⟨pb', po', y, ys, e', hcy, hy, -, HY⟩ := hRW.intsAt (k := k) (by simp; omega)
              obtain ⟨rfl, rfl⟩ : pb = pb' ∧ po = po' := by simpa using e'
              obtain ⟨p, hp⟩ : ∃ p, (prs b)[u]? = some p := ⟨_, List.getElem?_eq_getElem (by omega)⟩
              obtain ⟨q, hq⟩ : ∃ q, (prs b)[k]? = some q := ⟨_, List.getElem?_eq_getElem (by omega)⟩
              obtain rfl : xs = pairI p := by have := HX.out; rw [List.getElem?_map, hp] at this; simpa [eq_comm] using this
              obtain rfl : ys = pairI q := by have := HY.out; rw [List.getElem?_map, hq] at this; simpa [eq_comm] using this
              have hstep : kR (prs b) k (u + 1) (kM (prs b) m k) = if away p q then joinS (kR (prs b) k u (kM (prs b) m k)) u k else kR (prs b) k u (kM (prs b) m k) := by
                rw [kR_succ, kS, List.getD, hp, List.getD, hq]; rfl
              obtain ⟨qb, qo, qc, rfl, hq0, hq1⟩ := pair_at hy
              obtain ⟨xb, xo, xc, rfl, -, -⟩ := pair_at hx
              have HS := Lib.hid hstep
              clear hstep hp hq HX HY e'
              have hcC := hS.var.cell
              by_cases h3 : (pairI p).contains (q.1 : Int) = true
              · have haw : away p q = false := by simp only [away, h3, Bool.not_true, Bool.false_and]
                have HA1 := Lib.hid (has_is hx (q.1 : Int) h3)
                go_wp2_with fail
                refine wp_region_quiet_lit (by kernel_rfl) (by kernel_rfl) ?_
                repeat (first | go_big_quiet_step ((first | (go_at_call 44; with_reducible exact Calls.quiet_of_same (HA1.out _)))) | quiet_step ((first | (go_at_call 44; with_reducible exact Calls.quiet_of_same (HA1.out _)))))
                refine wpQuiet_nil ?_
                intro _ hw'
                obtain ⟨nq, hw''⟩ := hw'
                subst hw''
                go_wp2_with fail
                go_roundw
                case rel => exact ⟨u + 1, gs, by omega, by go_num, by rw [HS.out, haw]; exact hS.below (below_drewN _ _), hBD.trans ((below_drewN _ _).mono (by have := hBD.size; omega))⟩
                case measure => simp [intOf]; omega
              · rw [Bool.not_eq_true] at h3
                by_cases h4 : (pairI p).contains (q.2 : Int) = true
                · have haw : away p q = false := by simp only [away, h3, h4, Bool.not_true, Bool.and_false]
                  have HA1 := Lib.hid (has_is hx (q.1 : Int) h3)
                  have HA2 := Lib.hid (has_is hx (q.2 : Int) h4)
                  go_wp2_with fail
                  refine wp_region_quiet_lit (by kernel_rfl) (by kernel_rfl) ?_
                  repeat (first | go_big_quiet_step ((first | (go_at_call 44; with_reducible exact Calls.quiet_of_same (HA1.out _)) | (go_at_call 44; with_reducible exact Calls.quiet_of_same (HA2.out _)))) | quiet_step ((first | (go_at_call 44; with_reducible exact Calls.quiet_of_same (HA1.out _)) | (go_at_call 44; with_reducible exact Calls.quiet_of_same (HA2.out _)))))
                  refine wpQuiet_nil ?_
                  intro _ hw'
                  obtain ⟨nq, hw''⟩ := hw'
                  subst hw''
                  go_wp2_with fail
                  go_roundw
                  case rel => exact ⟨u + 1, gs, by omega, by go_num, by rw [HS.out, haw]; exact hS.below (below_drewN _ _), hBD.trans ((below_drewN _ _).mono (by have := hBD.size; omega))⟩
                  case measure => simp [intOf]; omega
                · rw [Bool.not_eq_true] at h4
                  have haw : away p q = true := by simp only [away, h3, h4, Bool.not_false, Bool.and_self]
                  have HA1 := Lib.hid (has_is hx (q.1 : Int) h3)
                  have HA2 := Lib.hid (has_is hx (q.2 : Int) h4)
                  go_wp2_with fail
                  refine wp_region_quiet_lit (by kernel_rfl) (by kernel_rfl) ?_
                  repeat (first | go_big_quiet_step ((first | (go_at_call 44; with_reducible exact Calls.quiet_of_same (HA1.out _)) | (go_at_call 44; with_reducible exact Calls.quiet_of_same (HA2.out _)))) | quiet_step ((first | (go_at_call 44; with_reducible exact Calls.quiet_of_same (HA1.out _)) | (go_at_call 44; with_reducible exact Calls.quiet_of_same (HA2.out _)))))
                  refine wpQuiet_nil ?_
                  intro _ hw'
                  obtain ⟨nq, hw''⟩ := hw'
                  subst hw''
                  have hS1 := hS.below (below_drewN wr nq)
                  have hBD1 := hBD.trans ((below_drewN wr nq).mono (by have := hBD.size; omega))
                  have hcC1 := hS1.var.cell
                  generalize wr.drewN nq = wd at *
                  go_wp2_with fail
                  refine (hS1.link_over hBD1 hga u k _ _ (by omega) (by omega) (by omega) (by omega) (by omega) (by have := hBD1.size; omega)).mono ?_
                  rintro e w3 ⟨rfl, gs3, hS3, hBD3⟩
                  have hcC3 := hS3.var.cell
                  have hfC3 := hS3.var.free
                  go_wp2_with fail
                  go_roundw
                  case rel => exact ⟨u + 1, gs3, by omega, by go_num, by rw [HS.out, haw]; exact hS3.store, hBD3.setCell hDC _⟩
                  case measure => simp [intOf]; omega
            · obtain rfl : u = k := by omega
              go_wp2_with fail
              go_roundw
              case rel => exact ⟨u + 1, gs, by omega, by go_num, by rw [kM_succ]; exact hS, hBD⟩
              case measure => simp [intOf]; omega
        · obtain rfl : k = m := by omega
          go_wp2_with fail
          refine (size_any _ _ _ _).mono ?_
          rintro e w2 ⟨rfl, hb2⟩
          have hS2 := hS.below hb2
          have hcC := hS2.var.cell
          have hcR := hS2.res.cell
          have hfR := hS2.res.free
          have HF := Lib.hid (hS2.done hBe true)
          have HCE := Lib.hid (hS2.res.set (.slice ga k gc)).cell
          clear hb2
          go_wp2_with fail
          refine bodyPost_ret (v := .tuple #[.agg #[.slice ga k gc], .bool true]) (by simp [results, Tryd.results28, go_sem, HCE.out]) rfl ?_
          rw [hm]
          exact HF.out

theorem specKneser_no (n : Int) (h : ¬ (4 ≤ n ∧ n ≤ 6)) (w : World) :
    Calls Tryd.prog 28 #[.int .i64 n] w (GRes w [] false) := by
  have hin : decide (4 ≤ n ∧ n ≤ 6) = false := by simpa using h
  go_enter Tryd.func28, Tryd.ntmps28
  go_wp2_with fail
  refine (l1In_any _ _ _ _).mono ?_
  rintro e w' ⟨rfl, rfl⟩
  rw [hin]
  go_wp2_with fail
  refine bodyPost_ret (v := .tuple #[.agg #[.slice none 0 0], .bool false]) (by simp [results, Tryd.results28, go_sem]) rfl ?_
  exact GRes.nothing _ _ (below_alloc _ _)

theorem implKneser_no (n : Int) (h : ¬ (4 ≤ n ∧ n ≤ 6)) (w : World) :
    Calls Tryd.prog 29 #[.int .i64 n] w (GRes w [] false) := by
  have hin : decide (4 ≤ n ∧ n ≤ 6) = false := by simpa using h
  go_enter Tryd.func29, Tryd.ntmps29
  go_wp2_with fail
  refine (inRange_any _ _ _ _).mono ?_
  rintro e w' ⟨rfl, rfl⟩
  rw [hin]
  go_wp2_with fail
  refine bodyPost_ret (v := .tuple #[.agg #[.slice none 0 0], .bool false]) (by simp [results, Tryd.results29, go_sem]) rfl ?_
  exact GRes.nothing _ _ (below_alloc _ _)

theorem one_at (v : Int) (n x : Nat) (h : v = n) (h1 : n < 32) (hx : 2 ^ n = x) (w : World) :
    Calls Tryd.prog 45 #[.int .i64 v] w fun e w' => e = .returned (.int .u32 (x : Int)) ∧ w = w' := by
  subst hx
  exact one_any v n h h1 w

def maskP (p : Nat × Nat) : Nat := 2 ^ p.1 ||| 2 ^ p.2
def jS (Q : List Nat) (i : Nat) (ms : List Nat) (k : Nat) : List Nat := if Q.getD i 0 &&& Q.getD k 0 = 0 then joinS ms i k else ms
def jR (Q : List Nat) (i k : Nat) (ms : List Nat) : List Nat := (List.range k).foldl (jS Q i) ms
def jM (Q : List Nat) (m k : Nat) : List Nat := (List.range k).foldl (fun ms i => jR Q i m ms) (List.replicate m 0)
theorem jR_succ (Q : List Nat) (i k : Nat) (ms : List Nat) : jR Q i (k + 1) ms = jS Q i (jR Q i k ms) k := by simp [jR, List.range_succ]
theorem jM_succ (Q : List Nat) (m k : Nat) : jM Q m (k + 1) = jR Q k m (jM Q m k) := by simp [jM, List.range_succ]
@[simp] theorem jS_length (Q : List Nat) (i : Nat) (ms : List Nat) (k : Nat) : (jS Q i ms k).length = ms.length := by unfold jS; split <;> simp
@[simp] theorem jR_length (Q : List Nat) (i k : Nat) (ms : List Nat) : (jR Q i k ms).length = ms.length := by
  induction k with
  | zero => simp [jR]
  | succ k ih => rw [jR_succ]; simp [ih]
@[simp] theorem jM_length (Q : List Nat) (m k : Nat) : (jM Q m k).length = m := by
  induction k with
  | zero => simp [jM]
  | succ k ih => rw [jM_succ]; simp [ih]
set_option maxRecDepth 100000 in
theorem kneser_same (n : Nat) (h1 : 4 ≤ n) (h2 : n ≤ 6) : kM (prs n) (prs n).length (prs n).length = jM ((prs n).map maskP) (prs n).length (prs n).length := by
  rcases (by omega : n = 4 ∨ n = 5 ∨ n = 6) with rfl | rfl | rfl <;> kernel_rfl

theorem NS.push {w wr w2 : World} {B g2 c2 n : Nat} {u : Value} {ms : List Nat} (h : NS B w u ms wr) (hB : B ≤ wr.heap.size) (x : Nat) (hx : x < 4294967296) (hn : n = ms.length)
    (ho : w2.ownsRow B 53 1 (.slice (some ⟨g2, 0, none⟩) (n + 1) c2) (n + 1) (sets ms ++ [.int .u32 (x : Int)])) (hg : wr.grownBy w2 u.ownBlock) :
    NS B w (.slice (some ⟨g2, 0, none⟩) (n + 1) c2) (ms ++ [x]) w2 := by
  subst hn
  refine ⟨by simpa [sets] using ho, ?_, h.bel.trans (below_of_grown hg hB fun k hk => (owns_lt h.own hk).1)⟩
  intro m hm
  rcases List.mem_append.1 hm with hm | hm
  · exact h.small m hm
  · rw [List.mem_singleton] at hm; omega

set_option maxHeartbeats 1000000 in
theorem implKneser_yes (n : Nat) (h1 : 4 ≤ n) (h2 : n ≤ 6) (w : World) (ht : Tab w) :
    Calls Tryd.prog 29 #[.int .i64 n] w (GRes w (rowsOf (jM ((prs n).map maskP) (prs n).length (prs n).length)) true) := by
  have hin : decide ((4 : Int) ≤ n ∧ (n : Int) ≤ 6) = true := by simp; omega
  obtain ⟨B, hBe⟩ : ∃ B, w.heap.size = B := ⟨_, rfl⟩
  have hR0 : GC (w.alloc (.cells #[.slice none 0 0] 28)) B (.slice none 0 0) := by subst hBe; exact GC.new _ _
  have hb0 : Below B w (w.alloc (.cells #[.slice none 0 0] 28)) := by subst hBe; exact below_alloc _ _
  have ht1 := ht.alloc (.cells #[.slice none 0 0] 28)
  go_enter Tryd.func29, Tryd.ntmps29
  go_wp2_with fail
  refine (inRange_any _ _ _ _).mono ?_
  rintro e w' ⟨rfl, rfl⟩
  rw [hin]
  obtain ⟨W1, hW1⟩ : ∃ W, w.alloc (.cells #[.slice none 0 0] 28) = W := ⟨_, rfl⟩
  obtain ⟨B1, hB1⟩ : ∃ B, W1.heap.size = B := ⟨_, rfl⟩
  rw [hW1] at hR0 hb0 ht1 ⊢
  have hN : NS B1 W1 (.slice (some ⟨B1, 0, none⟩) 0 0) ((prs 0).map maskP) (W1.alloc (.cells #[] 53)) := by
    subst hB1
    exact ⟨World.ownsRow_lit W1 #[] 0 (Nat.le_refl _) (by simp [maxLen]) rfl, (by intro m hm; cases hm), below_alloc _ _⟩
  have hBB : B < B1 := by subst hB1; exact hR0.lt
  go_wp2_with fail
  go_loopw [18, 4] (fun iv u wr => ∃ v : Nat, v ≤ n ∧ iv = .int .i64 (v : Int) ∧ NS B1 W1 u ((prs v).map maskP) wr) (fun iv _ _ => n - (intOf iv).toNat)
  case atStart => exact ⟨0, by omega, rfl, hN⟩
  case round =>
    clear hN
    obtain ⟨v, hv, rfl, hN⟩ := hrel
    by_cases hlt : v < n
    · go_wp2_with fail
      go_loopw [22, 4] (fun iv u wr => ∃ a : Nat, a ≤ v ∧ iv = .int .i64 (a : Int) ∧ NS B1 W1 u ((prsAt v a).map maskP) wr) (fun iv _ _ => v - (intOf iv).toNat)
      case atStart => exact ⟨0, by omega, rfl, by rw [prsAt_zero]; exact hN⟩
      case round =>
        clear hN
        obtain ⟨a, ha, rfl, hN⟩ := hrel
        by_cases hla : a < v
        · have hl100 := prsAt_length v a (by omega) (by omega)
          have hout := hN.own
          obtain ⟨l, hl⟩ : ∃ l, ((prsAt v a).map maskP).length = l := ⟨_, rfl⟩
          have hl2 : l ≤ 100 := by rw [← hl]; simpa using hl100
          rw [hl] at hout
          have hsz := hN.bel.size
          obtain ⟨ua, uc, rfl⟩ := owns_shape hout
          obtain ⟨x, hx⟩ : ∃ x, 2 ^ a = x := ⟨_, rfl⟩
          obtain ⟨y, hy⟩ : ∃ y, 2 ^ v = y := ⟨_, rfl⟩
          have hxs : x < 4294967296 := by rw [← hx]; exact pow_small (by omega)
          have hys : y < 4294967296 := by rw [← hy]; exact pow_small (by omega)
          obtain ⟨z, hz⟩ : ∃ z, x ||| y = z := ⟨_, rfl⟩
          have hb : bits BinOp.or IntKind.u32 (x : Int) (y : Int) = (z : Int) := by rw [← hz]; exact bits_or hxs hys
          have hzs : z < 4294967296 := by rw [← hz]; exact or_small hxs hys
          have hstep : (prsAt v (a + 1)).map maskP = (prsAt v a).map maskP ++ [z] := by rw [prsAt_succ, List.map_append]; simp [maskP, hx, hy, hz]
          have HS := Lib.hid hstep
          have HX := Lib.hid hx
          have HY := Lib.hid hy
          have HLL := Lib.hid hl
          clear hstep hx hy hz hl hl100
          go_wp2_with (first
            | (go_at_call 45; refine (one_at _ a x rfl (by omega) HX.out _).mono ?_; rintro e w' ⟨rfl, rfl⟩)
            | (go_at_call 45; refine (one_at _ v y rfl (by omega) HY.out _).mono ?_; rintro e w' ⟨rfl, rfl⟩)
            | (at_builtin; refine wpList_push _ rfl _ _ 42 rfl B1 53 _ _ 4 Tryd.underlying42 infoV rfl _ _ _ rfl hout _ rfl rfl (by unfold maxLen; omega) (by omega) (by omega) ?_; intro g2 c2 w2 ho2 hg2))
          have hN2 := hN.push (by omega) z hzs HLL.out.symm ho2 hg2
          go_roundw
          case rel => exact ⟨a + 1, by omega, by go_num, by rw [HS.out]; exact hN2⟩
          case measure => simp [intOf]; omega
        · obtain rfl : a = v := by omega
          go_wp2_with fail
          go_roundw
          case rel => exact ⟨a + 1, by omega, by go_num, by rw [prs_succ]; exact hN⟩
          case measure => simp [intOf]; omega
    · obtain rfl : v = n := by omega
      obtain ⟨wp, rfl⟩ : ∃ x, x = wr := ⟨wr, rfl⟩
      have hm15 := prs_small v h1 h2
      obtain ⟨m, hm⟩ : ∃ m, (prs v).length = m := ⟨_, rfl⟩
      obtain ⟨Q, hQ⟩ : ∃ Q, (prs v).map maskP = Q := ⟨_, rfl⟩
      have hQm : Q.length = m := by rw [← hQ, ← hm]; simp
      rw [hQ] at hN
      rw [hm] at hm15
      have HQ := Lib.hid hQ
      have HM := Lib.hid hm
      clear hQ hm
      have hsm := hN.small
      have hRp := Row.of_owns hN.own
      have hRg := hR0.belowAt hN.bel hBB
      have hb1 : Below B w wp := hb0.trans (hN.bel.mono (by omega))
      have htp : Tab wp := ht1.keep hN.bel (by subst hB1; exact ht1.lt)
      obtain ⟨pa, pc, rfl⟩ := owns_shape hN.own
      rw [hQm] at hRp ⊢
      obtain ⟨D, hD⟩ : ∃ D, wp.heap.size = D := ⟨_, rfl⟩
      clear hN
      go_wp2_with (at_make; refine wpList_make _ rfl _ _ 43 rfl wp.heap.size 53 (.int .u32 0) 4 Tryd.underlying43 infoV rfl .i64 .i64 _ _ m rfl rfl (by omega) (by omega) (by omega) (by unfold maxLen; omega) (by simp) ?_; intro w1 ho1 hbm)
      have hN := NS.made ho1 hbm (Nat.le_refl _) (Below.refl _ _)
      clear ho1 hbm
      simp only [hD] at hN
      go_wp2_with fail
      go_loopw [40] (fun s wr => ∃ i : Nat, i ≤ m ∧ s = .int .i64 (i : Int) ∧ NS D wp (.slice (some ⟨D, 0, none⟩) m m) (jM Q m i) wr) (fun s _ => m - (intOf s).toNat)
      case atStart => exact ⟨0, by omega, rfl, hN⟩
      case round =>
        clear hN
        obtain ⟨i, hi, rfl, hN⟩ := hrel
        by_cases hlt : i < m
        · have hRw := hRp.below (hD.symm ▸ hN.bel)
          obtain ⟨b, o, x, rfl, hcx, HX⟩ := hRw.setAt (j := i) (by omega)
          have hxs : x < 4294967296 := hsm x (List.mem_of_getElem? HX.out)
          clear hRw
          go_wp2_with fail
          go_loopw [47] (fun s wr => ∃ k : Nat, k ≤ m ∧ s = .int .i64 (k : Int) ∧ NS D wp (.slice (some ⟨D, 0, none⟩) m m) (jR Q i k (jM Q m i)) wr) (fun s _ => m - (intOf s).toNat)
          case atStart => exact ⟨0, by omega, rfl, hN⟩
          case round =>
            clear hN hcx
            obtain ⟨k, hk, rfl, hN⟩ := hrel
            by_cases hlk : k < m
            · have hRw := hRp.below (hD.symm ▸ hN.bel)
              obtain ⟨b', o', y, e', hcy, HY⟩ := hRw.setAt (j := k) (by omega)
              obtain ⟨rfl, rfl⟩ : b = b' ∧ o = o' := by simpa using e'
              have hys : y < 4294967296 := hsm y (List.mem_of_getElem? HY.out)
              have hNB : D ≤ wr.heap.size := by have := hN.bel.size; omega
              obtain ⟨z, hz⟩ : ∃ z, x &&& y = z := ⟨_, rfl⟩
              have hstep : jR Q i (k + 1) (jM Q m i) = if z = 0 then joinS (jR Q i k (jM Q m i)) i k else jR Q i k (jM Q m i) := by
                subst hz
                rw [jR_succ, jS, List.getD, List.getD, HX.out, HY.out]; rfl
              have hb : bits BinOp.and IntKind.u32 (x : Int) (y : Int) = (z : Int) := by rw [← hz]; exact u32_and_nat x y hxs hys
              have HS := Lib.hid hstep
              have hlr : (jR Q i k (jM Q m i)).length = m := by simp
              clear hstep hz e' hRw
              by_cases h0 : z = 0
              · have hz0 : ((z : Int) == 0) = true := by simp [h0]
                go_wp2_with fail
                refine (hN.join hNB i k _ _ (by omega) (by omega) (by omega) (by omega) (by omega)).mono ?_
                rintro e w2 ⟨rfl, hN2, -⟩
                go_wp2_with fail
                go_roundw
                case rel => exact ⟨k + 1, by omega, by go_num, by rw [HS.out, if_pos h0]; exact hN2⟩
                case measure => simp [intOf]; omega
              · have hz0 : ((z : Int) == 0) = false := by simpa using h0
                go_wp2_with fail
                go_roundw
                case rel => exact ⟨k + 1, by omega, by go_num, by rw [HS.out, if_neg h0]; exact hN⟩
                case measure => simp [intOf]; omega
            · obtain rfl : k = m := by omega
              go_wp2_with fail
              go_roundw
              case rel => exact ⟨i + 1, by omega, by go_num, by rw [jM_succ]; exact hN⟩
              case measure => simp [intOf]; omega
        · obtain rfl : i = m := by omega
          have hR1 := hRg.belowAt hN.bel (by have := hRg.lt; omega)
          have hbr : Below B w wr := hb1.trans (hN.bel.mono (by have := hRg.lt; omega))
          go_wp2_with fail
          refine (hN.graph htp (by have := htp.lt; omega) (by simp; omega)).mono ?_
          rintro e w2 ⟨u, vs, rfl, hG, hb2⟩
          obtain ⟨ua, uc, rfl⟩ := owns_shape hG.outer
          have hR2 := hR1.below hb2
          have hcR := hR2.cell
          have hfR := hR2.free
          have HF := Lib.hid (GRes.stored hBe hR1 hbr hG hb2 true)
          have HCE := Lib.hid (hR2.set (.slice ua vs.length uc)).cell
          clear hb2 hbr hb1
          go_wp2_with fail
          refine bodyPost_ret (v := .tuple #[.agg #[.slice ua vs.length uc], .bool true]) (by simp [results, Tryd.results29, go_sem, HCE.out]) rfl ?_
          rw [HQ.out, HM.out]
          exact HF.out
end Go.Proofs.YtmnkdgnbfkdfkaaDoor
