/-
  'l16Reach' of the reference: what is reached from a vertex within a set.
-/
import Derived.Test.YtcjbobponlpkaaaDoorReach
import Derived.Test.YtcjbobponlpkaaaDoorQueue
namespace Go.Proofs.YtcjbobponlpkaaaDoor
open Go.RowKit

def natInts (T : List Nat) : List Value := ints (T.map fun (i : Nat) => (i : Int))
@[simp] theorem natInts_length (T : List Nat) : (natInts T).length = T.length := by simp [natInts]
theorem qtail_nat {w : World} {base : Nat} {e : TypeId} {g o n cap x : Nat} {T : List Nat} (h : Qu w base e (.slice (some ⟨g, o, none⟩) n cap) (natInts (x :: T))) :
    ∃ o' cap', sliced (some ⟨g, o, none⟩) 1 n cap 1 = .slice (some ⟨g, o', none⟩) T.length cap' ∧ Qu w base e (.slice (some ⟨g, o', none⟩) T.length cap') (natInts T) := by
  have := Qu.tail (cs := natInts T) h
  rwa [natInts_length] at this
def slLen : Value → Nat
  | .slice _ n _ => n
  | _ => 0
structure Bfs (n : Nat) (e : Nat → Nat → Bool) (p : Nat → Bool) (s : Nat) (o : Nat → Bool) (T : List Nat) : Prop where
  start : o s = true
  ways : ∀ b, o b = true → b < n ∧ Way n e p s b
  todo : ∀ a ∈ T, o a = true
  closed : ∀ a, o a = true → a ∈ T ∨ ∀ b, b < n → e a b = true → p b = true → o b = true
structure Bfs2 (n : Nat) (e : Nat → Nat → Bool) (p : Nat → Bool) (s a j : Nat) (o : Nat → Bool) (T : List Nat) : Prop where
  start : o s = true
  at_ : o a = true
  ways : ∀ b, o b = true → b < n ∧ Way n e p s b
  todo : ∀ a ∈ T, o a = true
  closed : ∀ x, o x = true → x = a ∨ x ∈ T ∨ ∀ b, b < n → e x b = true → p b = true → o b = true
  near : ∀ b : Nat, (b : Int) ∈ (rowB n p).take j → e a b = true → o b = true
section
variable {n : Nat} {e : Nat → Nat → Bool} {p o : Nat → Bool} {s a j q : Nat} {T : List Nat}
theorem Bfs.first (hs : s < n) : Bfs n e p s (fun b => decide (b = s)) [s] := by
  refine ⟨by simp, fun b hb => ?_, fun x hx => by simpa using hx, fun x hx => .inl (by simpa using hx)⟩
  simp at hb; subst hb; exact ⟨hs, .here⟩
theorem Bfs.enter (h : Bfs n e p s o (a :: T)) : Bfs2 n e p s a 0 o T := by
  refine ⟨h.start, h.todo a (by simp), h.ways, fun x hx => h.todo x (by simp [hx]), fun x hx => ?_, fun b hb => by simp at hb⟩
  rcases h.closed x hx with h1 | h1
  · rcases List.mem_cons.1 h1 with h1 | h1
    · exact .inl h1
    · exact .inr (.inl h1)
  · exact .inr (.inr h1)
theorem Bfs2.skip (h : Bfs2 n e p s a j o T) (hq : (rowB n p)[j]? = some (q : Int)) (hn : e a q = true → o q = true) : Bfs2 n e p s a (j + 1) o T := by
  refine ⟨h.start, h.at_, h.ways, h.todo, h.closed, fun b hb he => ?_⟩
  rw [take_snoc hq, List.mem_append] at hb
  rcases hb with hb | hb
  · exact h.near b hb he
  · simp at hb
    obtain rfl : b = q := by omega
    exact hn he
theorem Bfs2.put (h : Bfs2 n e p s a j o T) (hq : (rowB n p)[j]? = some (q : Int)) (he : e a q = true) : Bfs2 n e p s a (j + 1) (fun b => o b || decide (b = q)) (T ++ [q]) := by
  obtain ⟨q', hqn, hpq, e1⟩ := row_at hq
  obtain rfl : q = q' := by omega
  refine ⟨by simp [h.start], by simp [h.at_], fun b hb => ?_, fun x hx => ?_, fun x hx => ?_, fun b hb he' => ?_⟩
  · rw [Bool.or_eq_true] at hb
    rcases hb with hb | hb
    · exact h.ways b hb
    · simp at hb; subst hb
      exact ⟨hqn, .step (h.ways a h.at_).2 hqn he hpq⟩
  · rcases List.mem_append.1 hx with hx | hx
    · simp [h.todo x hx]
    · simp at hx; simp [hx]
  · rw [Bool.or_eq_true] at hx
    rcases hx with hx | hx
    · rcases h.closed x hx with h1 | h1 | h1
      · exact .inl h1
      · exact .inr (.inl (by simp [h1]))
      · exact .inr (.inr fun b h2 h3 h4 => by simp [h1 b h2 h3 h4])
    · simp at hx; exact .inr (.inl (by simp [hx]))
  · rw [take_snoc hq, List.mem_append] at hb
    rcases hb with hb | hb
    · simp [h.near b hb he']
    · simp at hb
      obtain rfl : b = q := by omega
      simp
theorem Bfs2.leave (h : Bfs2 n e p s a (rowB n p).length o T) : Bfs n e p s o T := by
  refine ⟨h.start, h.ways, h.todo, fun x hx => ?_⟩
  rcases h.closed x hx with h1 | h1 | h1
  · refine .inr fun b h2 h3 h4 => ?_
    rw [h1] at h3
    exact h.near b (by rw [List.take_length]; exact nat_mem_rowB.2 ⟨h2, h4⟩) h3
  · exact .inl h1
  · exact .inr h1
theorem Bfs.done (h : Bfs n e p s o []) : o = wayB n e p s := by
  refine way_pt h.start h.ways fun a b ha hb he hp => ?_
  rcases h.closed a ha with h1 | h1
  · cases h1
  · exact h1 b hb he hp
end

set_option maxHeartbeats 4000000 in
theorem l16Reach_any (g : Value) (n : Nat) (e : Nat → Nat → Bool) (hn : n ≤ 16) (v2 : Value) (p : Nat → Bool) (s : Nat) (hs : s < n) (S : Int) (hS : S = s) (w : World) (hr : RdSS g (rowsB n e) w) (hp : RdS v2 (rowB n p) w) :
    Calls Tryd.prog 79 #[.agg #[g], v2, .int .i64 S, .bool false] w (SRes w (rowB n (wayB n e p s))) := by
  obtain ⟨a, c, rfl⟩ := hr.shape
  obtain ⟨a2, c2, rfl, -, -, -⟩ := id hp
  rw [rowsB_length] at hr ⊢
  have hpl := rowB_length n p
  subst hS
  obtain ⟨B, hB⟩ : ∃ B, w.heap.size = B := ⟨_, rfl⟩
  obtain ⟨W0, hW0⟩ : ∃ W0, W0 = w.alloc (.cells #[.slice a n c] 28) := ⟨_, rfl⟩
  obtain ⟨W1, hW1⟩ : ∃ W1, W1 = W0.alloc (.cells #[.int .i64 s] 2) := ⟨_, rfl⟩
  obtain ⟨W2, hW2⟩ : ∃ W2, W2 = W1.alloc (.cells #[.int .i64 s] 2) := ⟨_, rfl⟩
  have hz0 : W0.heap.size = B + 1 := by simp [hW0, hB]
  have hz1 : W1.heap.size = B + 2 := by simp [hW1, hz0]
  have hz2 : W2.heap.size = B + 3 := by simp [hW2, hz1]
  have u0 : Below B w W0 := by rw [hW0, ← hB]; exact below_alloc' _ _
  have VG0 : VC 28 B #[.slice a n c] W0 := by rw [hW0]; exact VC.new hB
  have u1 : Below (B + 1) W0 W1 := by rw [hW1, ← hz0]; exact below_alloc' _ _
  have u2 : Below (B + 2) W1 W2 := by rw [hW2, ← hz1]; exact below_alloc' _ _
  have u02 : Below (B + 1) W0 W2 := u1.trans (u2.mono (by omega))
  have ho1 : W1.ownsRow (B + 1) 2 1 (.slice (some ⟨B + 1, 0, none⟩) 1 1) 1 (natInts [s]) := by
    rw [hW1, ← hz0]
    exact World.ownsRow_lit W0 #[.int .i64 s] 1 (Nat.le_refl _) (by simp [maxLen]) rfl
  have ho2 : W2.ownsRow (B + 1) 2 1 (.slice (some ⟨B + 1, 0, none⟩) 1 1) 1 (natInts [s]) := owns_below ho1 (hz1.symm ▸ u2)
  have hq2' : W2.ownsRow (B + 2) 2 1 (.slice (some ⟨B + 2, 0, none⟩) 1 1) 1 (natInts [s]) := by
    rw [hW2, ← hz1]
    exact World.ownsRow_lit W1 #[.int .i64 s] 1 (Nat.le_refl _) (by simp [maxLen]) rfl
  have hq2 : Qu W2 (B + 1) 2 (.slice (some ⟨B + 2, 0, none⟩) 1 1) (natInts [s]) := Qu.of_owns (cs := natInts [s]) (owns_base hq2' (by omega))
  have hrs : rowB n (fun b => decide (b = s)) = [(s : Int)] := by
    rw [← nums_maskB (by omega : n ≤ 32), ← pow_maskB hs]
    have hs0 : into (nums 0) s = nums (0 ||| 2 ^ s) := into_nums 0 s (by omega)
    rw [Nat.zero_or] at hs0
    rw [← hs0]
    simp [nums, bitsOf_zero, into]
  clear hq2' u1 u2 ho1
  go_enter Tryd.func79, Tryd.ntmps79
  go_wp2_with fail
  rw [← hW0, ← hW1, ← hW2]
  clear hW0 hW1 hW2
  have hbW : Below (B + 1) W2 W2 := Below.refl _ _
  go_loopw [9, 10] (fun u td wr => ∃ (os : List Int) (T : List Nat) (o : Nat → Bool), Hid (os = rowB n o) ∧ os.length ≤ n ∧ T.length ≤ os.length ∧ Hid (Bfs n e p s o T) ∧ u.ownBlock ≠ td.ownBlock ∧ wr.ownsRow (B + 1) 2 1 u os.length (ints os) ∧ Qu wr (B + 1) 2 td (natInts T) ∧ Below (B + 1) W2 wr) (fun u td _ => slLen td + (n - slLen u))
  case atStart => exact ⟨[(s : Int)], [s], _, Lib.hid hrs.symm, by simp; omega, by simp, Lib.hid (Bfs.first hs), by simp [Value.ownBlock], ho2, hq2, hbW⟩
  case round =>
    clear ho2 hq2 hbW
    obtain ⟨os, T, o, HOS, hol, hTl, HI, hne, ho, hq, hb⟩ := hrel
    have hsz := hb.size
    have hbw := u0.trans ((u02.trans hb).mono (by omega))
    have VGr := VG0.belowAt (u02.trans hb) (by omega)
    have hcg := VGr.cell
    cases T with
    | nil =>
      have HD : Hid (os = rowB n (wayB n e p s)) := Lib.hid (by rw [HOS.out, HI.out.done])
      obtain ⟨qg, qo, qc, rfl⟩ := hq.shape
      obtain ⟨ua, uc, rfl⟩ := owns_shape ho
      go_wp2_with fail
      go_ret
      rw [← HD.out]
      exact ⟨_, rfl, by rw [hB]; exact owns_base ho (by omega), by rw [hB]; exact hbw⟩
    | cons x T1 =>
      obtain ⟨qg, qo, qc, rfl⟩ := hq.shape
      have hcx := hq.cells 0 (.int .i64 x) (by simp [natInts, ints])
      rw [Addr.add_lit, Nat.add_zero] at hcx
      obtain ⟨to, tc, htail, hq1⟩ := qtail_nat hq
      have hsl := run_tail1 (P := Tryd.prog) wr 25 2 _ _ Tryd.underlying25 infoI (some ⟨qg, qo, none⟩) T1.length qc
      rw [natInts_length] at htail hne
      rw [show T1.length + 1 = (x :: T1).length from rfl, htail] at hsl
      rw [natInts_length]
      rw [List.length_cons] at hsl hne ⊢
      have hTl2 : T1.length + 1 ≤ os.length := by simpa using hTl
      have hT16 : T1.length + 1 ≤ n := by omega
      clear hTl
      have hxn : x < n := (HI.out.ways x (HI.out.todo x (by simp))).1
      have HE := Lib.hid HI.out.enter
      obtain ⟨ua, uc, rfl⟩ := owns_shape ho
      have hne1 : (Value.slice ua os.length uc).ownBlock ≠ (Value.slice (some ⟨qg, to, none⟩) T1.length tc).ownBlock := hne
      clear htail hne hq HI hbw
      go_wp2_with fail
      clear hsl hcx hcg VGr
      go_loopw [9, 10, 12] (fun u td i wr => ∃ (j : Nat) (os' : List Int) (T' : List Nat) (o' : Nat → Bool), j ≤ (rowB n p).length ∧ i = .int .i64 j ∧ Hid (os' = rowB n o') ∧ os'.length ≤ n ∧ T'.length + os.length = T1.length + os'.length ∧ Hid (Bfs2 n e p s x j o' T') ∧ u.ownBlock ≠ td.ownBlock ∧ wr.ownsRow (B + 1) 2 1 u os'.length (ints os') ∧ Qu wr (B + 1) 2 td (natInts T') ∧ Below (B + 1) W2 wr) (fun _ _ i _ => (rowB n p).length - (intOf i).toNat)
      case atStart => exact ⟨0, os, T1, o, Nat.zero_le _, rfl, HOS, hol, rfl, HE, hne1, ho, hq1, hb⟩
      case round =>
        clear hne1 ho hq1 hb HE HOS hsz
        obtain ⟨j, os', T', o', hj, rfl, HOS, hol', hcnt, HI, hne, ho, hq, hb⟩ := hrel
        have hsz := hb.size
        have hbw := u0.trans ((u02.trans hb).mono (by omega))
        have VGr := VG0.belowAt (u02.trans hb) (by omega)
        have hcg := VGr.cell
        obtain ⟨kg, ko, kc, rfl⟩ := hq.shape
        obtain ⟨va, vc, rfl⟩ := owns_shape ho
        rw [natInts_length] at hne hq ⊢
        by_cases hlt : j < (rowB n p).length
        · obtain ⟨yb, yo, y, rfl, hcy, HY⟩ := Row.intAt (RdS.below hp hbw hB) hlt
          obtain ⟨q, hqn, hpq, rfl⟩ := row_at HY.out
          obtain ⟨vsr, hGx⟩ := (hr.below hbw hB).ex
          obtain ⟨rb, ro, r, xs, rfl, hc, hxr, -, HXX⟩ := hGx.intsAt (k := x) (by simpa using hxn)
          obtain rfl : rowB n (e x) = xs := by have h := HXX.out; rw [rowsB_at e hxn] at h; exact Option.some.inj h
          have HH1 := Lib.hid (has_any r (rowB n (e x)) q wr hxr)
          have HH2 := Lib.hid (has_any (.slice va os'.length vc) os' q wr (Row.of_owns ho))
          rw [contains_rowB, decide_eq_true hqn, Bool.true_and] at HH1
          rw [show os'.contains (q : Int) = o' q by rw [HOS.out, contains_rowB, decide_eq_true hqn, Bool.true_and]] at HH2
          obtain ⟨b1, HB1⟩ : ∃ b, Hid (e x q = b) := ⟨_, Lib.hid rfl⟩
          obtain ⟨b2, HB2⟩ : ∃ b, Hid (o' q = b) := ⟨_, Lib.hid rfl⟩
          rw [HB1.out] at HH1
          rw [HB2.out] at HH2
          clear hGx HXX hxr
          by_cases hqx : q = x
          · have hd : ((q : Int) != (x : Int)) = false := by simp [hqx]
            have HSK := Lib.hid (HI.out.skip HY.out (fun _ => by rw [hqx]; exact HI.out.at_))
            clear hqx
            go_wp2_with fail
            go_roundw
            case rel => exact ⟨j + 1, os', T', o', by omega, by go_num, HOS, hol', hcnt, HSK, hne, ho, hq, hb⟩
            case measure => simp [intOf]; omega
          · have hd : ((q : Int) != (x : Int)) = true := by rw [bne_iff_ne]; omega
            clear hqx
            cases b1 with
            | false =>
              have HSK := Lib.hid (HI.out.skip HY.out (fun h => by rw [HB1.out] at h; cases h))
              go_wp2_with fail
              refine HH1.out.mono ?_
              rintro e1 w' ⟨rfl, rfl⟩
              go_wp2_with fail
              go_roundw
              case rel => exact ⟨j + 1, os', T', o', by omega, by go_num, HOS, hol', hcnt, HSK, hne, ho, hq, hb⟩
              case measure => simp [intOf]; omega
            | true =>
              cases b2 with
              | true =>
                have HSK := Lib.hid (HI.out.skip HY.out (fun _ => HB2.out))
                go_wp2_with fail
                refine HH1.out.mono ?_
                rintro e1 w' ⟨rfl, rfl⟩
                go_wp2_with fail
                refine HH2.out.mono ?_
                rintro e1 w' ⟨rfl, rfl⟩
                go_wp2_with fail
                go_roundw
                case rel => exact ⟨j + 1, os', T', o', by omega, by go_num, HOS, hol', hcnt, HSK, hne, ho, hq, hb⟩
                case measure => simp [intOf]; omega
              | false =>
                have HPU := Lib.hid (HI.out.put HY.out HB1.out)
                have HIN := Lib.hid (into_any (.slice va os'.length vc) os' q wr (Row.of_owns ho) (by omega))
                obtain ⟨os2, HO2⟩ : ∃ os2, Hid (into os' q = os2) := ⟨_, Lib.hid rfl⟩
                rw [HO2.out] at HIN
                have HE : Hid (os2 = rowB n (fun b => o' b || decide (b = q))) := Lib.hid (by rw [← HO2.out, HOS.out, into_rowB (by omega) _ hqn])
                have hol2 : os2.length = os'.length + 1 := by rw [HE.out, HOS.out]; exact rowB_put_length HB2.out hqn
                have hol3 : os2.length ≤ n := by rw [HE.out]; exact rowB_length _ _
                have hT' : T'.length ≤ n := by omega
                have hos2 : os2 ≠ os' := fun h => by rw [h] at hol2; omega
                have HNE := Lib.hid hos2
                have HOL2 := Lib.hid hol2
                clear hos2 hol2
                go_wp2_with fail
                refine HH1.out.mono ?_
                rintro e1 w' ⟨rfl, rfl⟩
                go_wp2_with fail
                refine HH2.out.mono ?_
                rintro e1 w' ⟨rfl, rfl⟩
                go_wp2_with fail
                refine HIN.out.mono ?_
                rintro e1 w3 ⟨u3, rfl, hu3, hb3⟩
                have ho3 : w3.ownsRow wr.heap.size 2 1 u3 os2.length (ints os2) := by
                  rcases hu3 with ⟨_, h⟩ | ho3
                  · exact (HNE.out h).elim
                  · exact ho3
                obtain ⟨wa, wc, rfl⟩ := owns_shape ho3
                have hb4 := hb.trans (hb3.mono (by omega))
                have hq3 := hq.below hb3
                have hz3 := hb3.size
                have hkb : kg < wr.heap.size := (hq.lt rfl).2
                clear hu3 hb3 HIN ho hq hb hbw hcg VGr hcy hc
                go_wp2_with (at_builtin; refine wpList_qpush _ rfl _ _ 25 rfl (B + 1) 2 _ _ 8 Tryd.underlying25 infoI rfl (.slice (some ⟨kg, ko, none⟩) T'.length kc) T'.length (natInts T') rfl (natInts_length _) hq3 _ rfl rfl (by unfold maxLen; omega) (by omega) (by omega) ?_; intro g' o4 c' w4 hq4 hg hwh)
                have hne4 : (Value.slice wa os2.length wc).ownBlock ≠ (Value.slice (some ⟨g', o4, none⟩) (T'.length + 1) c').ownBlock := fun h => by
                  obtain ⟨h1, h2⟩ := owns_lt ho3 (b := g') (by rw [h]; rfl)
                  rcases hwh with hwh | hwh
                  · simp [Value.ownBlock] at hwh; omega
                  · omega
                have ho4 : w4.ownsRow (B + 1) 2 1 (.slice wa os2.length wc) os2.length (ints os2) := owns_base (ho3.kept hg (.inr fun h => by
                  have := owns_lt ho3 (b := kg) (by rw [h]; rfl)
                  omega)) (by omega)
                have hb5 := hb4.grown hg (by omega) (fun b hb' => (hq3.lt hb').1)
                have hq5 : Qu w4 (B + 1) 2 (.slice (some ⟨g', o4, none⟩) (T'.length + 1) c') (natInts (T' ++ [q])) := by simpa [natInts, ints] using hq4
                clear hq4 hg hwh hq3 ho3 hb4
                go_wp2_with fail
                go_roundw
                case rel => exact ⟨j + 1, os2, T' ++ [q], _, by omega, by go_num, HE, hol3, by have := HOL2.out; simp; omega, HPU, hne4, ho4, hq5, hb5⟩
                case measure => simp [intOf]; omega
        · obtain rfl : j = (rowB n p).length := by omega
          have HL := Lib.hid HI.out.leave
          go_wp2_with fail
          go_roundw
          case rel => exact ⟨os', T', o', HOS, hol', by omega, HL, hne, ho, hq, hb⟩
          case measure => simp [slLen]; omega
end Go.Proofs.YtcjbobponlpkaaaDoor
