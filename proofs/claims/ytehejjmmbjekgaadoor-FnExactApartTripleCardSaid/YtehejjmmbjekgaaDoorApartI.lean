/-
  'aroundPath', 'isApart' of the program.
-/
import Derived.Test.YtehejjmmbjekgaaDoorPathI
import Derived.Test.YtehejjmmbjekgaaDoorApartP
import Derived.Test.YtehejjmmbjekgaaDoorMissEx
import Derived.Laws.Cover3
namespace Go.Proofs.YtehejjmmbjekgaaDoor
open Go.RowKit

theorem vhas_any (m v : Nat) (V : Int) (hV : V = v) (hm : m < 4294967296) (hv : v < 32) (M : Int) (hM : M = m) (b : Bool) (hb : m.testBit v = b) (w : World) :
    Calls Tryd.prog 149 #[.int .u32 M, .int .i64 V] w fun e w' => e = .returned (.bool b) ∧ w = w' := by
  subst hM
  subst hV; subst hb
  have hz : m / 2 ^ v ≤ m := Nat.div_le_self _ _
  have e1 : (bits BinOp.and IntKind.u32 ((m : Int) / 2 ^ v) 1 == 1) = m.testBit v := by
    have h1 : ((m : Int) / 2 ^ v) = ((m / 2 ^ v : Nat) : Int) := by simp
    rw [h1, show (1 : Int) = ((1 : Nat) : Int) from rfl, u32_and_nat (m / 2 ^ v) 1 (by omega) (by decide), Nat.and_one_is_mod, Nat.testBit_eq_decide_div_mod_eq, Bool.eq_iff_iff]
    simp
    omega
  have HE := Lib.hid e1
  clear e1 hz
  go_enter Tryd.func149, Tryd.ntmps149
  go_wp2_with fail
  go_ret
  exact ⟨ret_bool HE.out, rfl⟩

theorem off_mask {n : Nat} (hn : n ≤ 32) (e : Nat → Nat → Bool) (x : Nat) (hx : x < n) (z1 z2 z3 z4 : Int) (h1 : z1 = (maskB n (fun _ => true) : Nat)) (h2 : z2 = (maskB n (e x) : Nat)) (h3 : z3 = ((2 ^ x : Nat) : Int)) (h4 : z4 = (maskB n (offB e x) : Nat)) :
    bits BinOp.andNot IntKind.u32 (bits BinOp.andNot IntKind.u32 z1 z2) z3 = z4 := by
  rw [h1, h2, h3, h4, mask_andNot hn, pow_maskB hx, mask_andNot hn]
  congr 2
  funext i
  unfold offB
  simp [Bool.and_comm]

set_option maxHeartbeats 4000000 in
theorem around_any (v : Value) (n : Nat) (e : Nat → Nat → Bool) (hA : Adj n e) (x y q : Nat) (hx : x < n) (hy : y < n) (hq : q < n) (w : World) (ht : Tab w) (hr : Row w 1 v n (sets (NB n e))) (b : Bool) (hb : offWay n e x y q = b) :
    Calls Tryd.prog 147 #[v, .int .i64 x, .int .i64 y, .int .i64 q] w fun r w' => ∃ u, r = .returned u ∧ Hid (IsPath b u) ∧ Below w.heap.size w w' := by
  have hn := hA.le
  obtain ⟨a, c, rfl, -, -, -⟩ := id hr
  obtain ⟨B, hB⟩ : ∃ B, w.heap.size = B := ⟨_, rfl⟩
  have hTB : 0 < B := by rw [← hB]; exact ht.lt
  obtain ⟨z1, HZ1⟩ : ∃ z : Int, Hid (z = (maskB n (fun _ => true) : Nat)) := ⟨_, Lib.hid rfl⟩
  obtain ⟨z2, HZ2⟩ : ∃ z : Int, Hid (z = (maskB n (e q) : Nat)) := ⟨_, Lib.hid rfl⟩
  obtain ⟨z3, HZ3⟩ : ∃ z : Int, Hid (z = ((2 ^ q : Nat) : Int)) := ⟨_, Lib.hid rfl⟩
  obtain ⟨z4, HZ4⟩ : ∃ z : Int, Hid (z = (maskB n (offB e q) : Nat)) := ⟨_, Lib.hid rfl⟩
  have hbb := off_mask (by omega) e q hq z1 z2 z3 z4 HZ1.out HZ2.out HZ3.out HZ4.out
  have hoffn : ∀ i, (maskB n (offB e q)).testBit i = (decide (i < n) && offB e q i) := fun i => testBit_maskB _ _ _
  obtain ⟨b1, HB1⟩ : ∃ b1, Hid (offB e q x = b1) := ⟨_, Lib.hid rfl⟩
  obtain ⟨b2, HB2⟩ : ∃ b2, Hid (offB e q y = b2) := ⟨_, Lib.hid rfl⟩
  have HH1 : Hid (∀ W : World, Calls Tryd.prog 149 #[.int .u32 z4, .int .i64 x] W fun e w' => e = .returned (.bool b1) ∧ W = w') := Lib.hid fun W => vhas_any (maskB n (offB e q)) x x rfl (maskB_small (by omega) _) (by omega) z4 HZ4.out b1 (by rw [hoffn, HB1.out]; simp [hx]) W
  have HH2 : Hid (∀ W : World, Calls Tryd.prog 149 #[.int .u32 z4, .int .i64 y] W fun e w' => e = .returned (.bool b2) ∧ W = w') := Lib.hid fun W => vhas_any (maskB n (offB e q)) y y rfl (maskB_small (by omega) _) (by omega) z4 HZ4.out b2 (by rw [hoffn, HB2.out]; simp [hy]) W
  have HALL : Hid (∀ m : More, Calls Tryd.prog 125 #[.slice a n c] (over w m) fun e w' => e = .returned (.int .u32 z1) ∧ over w m = w') := Lib.hid fun m => all_netsAt _ n hn z1 HZ1.out ⟨_, _, rfl⟩ _
  have HONE : Hid (∀ m : More, Calls Tryd.prog 88 #[.int .i64 (q : Int)] (over w m) fun e w' => e = .returned (.int .u32 z3) ∧ over w m = w') := Lib.hid fun m => one_at _ q rfl (by omega) z3 HZ3.out _
  have HOW := Lib.hid hb
  have HPA : Hid (∀ W, Below B w W → offB e q x = true → offB e q y = true → Calls Tryd.prog 157 #[.slice a n c, .int .i64 x, .int .i64 y, .int .u32 z4] W fun r w' => ∃ u, r = .returned u ∧ Hid (IsPath b u) ∧ Below W.heap.size W w') := Lib.hid fun W hbW h1 h2 =>
    pathOf_any (.slice a n c) n e hA (offB e q) x y hx hy h2 z4 HZ4.out W (ht.keep hbW hTB) (hr.below (hB.symm ▸ hbW)) b (by rw [← hb]; exact offWay_rev hA hx hy h1 h2)
  obtain ⟨gb, go, xx, rfl, hcx, HXX⟩ := hr.setAt (j := q) (by simpa using hq)
  obtain rfl : maskB n (e q) = xx := by have h := HXX.out; rw [NB_at e hq] at h; exact Option.some.inj h
  rw [← HZ2.out] at hcx
  clear hb hoffn HXX
  go_enter Tryd.func147, Tryd.ntmps147
  go_wp2_with fail
  refine wp_region_calm (by kernel_rfl) (by kernel_rfl) ?_
  repeat (first | go_big_quiet_step ((first | (go_at_call 125; with_reducible exact calls_over_same (HALL.out _)) | (go_at_call 88; with_reducible exact calls_over_same (HONE.out _)))) | quiet_step ((first | (go_at_call 125; with_reducible exact calls_over_same (HALL.out _)) | (go_at_call 88; with_reducible exact calls_over_same (HONE.out _)))))
  refine wpQuiet_nil ?_
  intro W' hbW'
  rw [hB] at hbW'
  try rw [hbb]
  clear hcx
  cases b1 with
  | false =>
    have HBF : Hid (b = false) := Lib.hid (by rw [← HOW.out]; unfold offWay; rw [HB1.out]; rfl)
    go_wp2_with fail
    refine (HH1.out _).mono ?_
    rintro e1 w1 ⟨rfl, rfl⟩
    go_wp2_with fail
    go_ret
    exact ⟨_, rfl, Lib.hid (.inl ⟨HBF.out, rfl⟩), by rw [hB]; exact hbW'⟩
  | true =>
    cases b2 with
    | false =>
      have HBF : Hid (b = false) := Lib.hid (by rw [← HOW.out]; unfold offWay; rw [HB1.out, HB2.out]; rfl)
      go_wp2_with fail
      refine (HH1.out _).mono ?_
      rintro e1 w1 ⟨rfl, rfl⟩
      go_wp2_with fail
      refine (HH2.out _).mono ?_
      rintro e1 w1 ⟨rfl, rfl⟩
      go_wp2_with fail
      go_ret
      exact ⟨_, rfl, Lib.hid (.inl ⟨HBF.out, rfl⟩), by rw [hB]; exact hbW'⟩
    | true =>
      have HP2 := Lib.hid (HPA.out W' hbW' HB1.out HB2.out)
      go_wp2_with fail
      refine (HH1.out _).mono ?_
      rintro e1 w1 ⟨rfl, rfl⟩
      go_wp2_with fail
      refine (HH2.out _).mono ?_
      rintro e1 w1 ⟨rfl, rfl⟩
      go_wp2_with fail
      refine HP2.out.mono ?_
      rintro e1 w2 ⟨u, rfl, HU, hb2⟩
      go_wp2_with fail
      go_ret
      exact ⟨_, rfl, HU, by rw [hB]; exact hbW'.trans (hb2.mono (by have := hbW'.size; omega))⟩

theorem lack_three {n : Nat} {e : Nat → Nat → Bool} {s x y z : Nat} (hA : Adj n e) (hxy : x < y) (hyz : y < z) (hzn : z < n) (hr : rowB n s.testBit = [(x : Int), (y : Int), (z : Int)]) (hb : Bits3 s x y z) :
    lackSum n e s.testBit (rowB n s.testBit) / 2 = (!e x y).toNat + (!e x z).toNat + (!e y z).toNat := by
  have hn := hA.le
  have sx : lackM n e s.testBit x = maskB n fun b => (decide (b = y) && !e x y) || (decide (b = z) && !e x z) := maskB_ext fun b hbn => by
    rw [hb b]
    by_cases h1 : b = x
    · subst h1
      have h2 : ¬ b = y := by omega
      have h3 : ¬ b = z := by omega
      simp [h2, h3]
    · by_cases h2 : b = y
      · subst h2
        have h3 : ¬ b = z := by omega
        simp [h1, h3]
      · by_cases h3 : b = z
        · subst h3; simp [h1, h2]
        · simp [h1, h2, h3]
  have sy : lackM n e s.testBit y = maskB n fun b => (decide (b = x) && !e x y) || (decide (b = z) && !e y z) := maskB_ext fun b hbn => by
    rw [hb b]
    by_cases h1 : b = x
    · subst h1
      have h2 : ¬ b = y := by omega
      have h3 : ¬ b = z := by omega
      rw [hA.sym y b (by omega) (by omega)]
      simp [h2, h3]
    · by_cases h2 : b = y
      · subst h2
        have h3 : ¬ b = z := by omega
        simp [h1, h3]
      · by_cases h3 : b = z
        · subst h3; simp [h1, h2]
        · simp [h1, h2, h3]
  have sz : lackM n e s.testBit z = maskB n fun b => (decide (b = x) && !e x z) || (decide (b = y) && !e y z) := maskB_ext fun b hbn => by
    rw [hb b]
    by_cases h1 : b = x
    · subst h1
      have h2 : ¬ b = y := by omega
      have h3 : ¬ b = z := by omega
      rw [hA.sym z b (by omega) (by omega)]
      simp [h2, h3]
    · by_cases h2 : b = y
      · subst h2
        have h3 : ¬ b = z := by omega
        rw [hA.sym z b (by omega) (by omega)]
        simp [h1, h3]
      · by_cases h3 : b = z
        · subst h3; simp [h1, h2]
        · simp [h1, h2, h3]
  unfold lackSum
  rw [hr]
  simp only [List.map_cons, List.map_nil, List.sum_cons, List.sum_nil, Int.toNat_natCast]
  rw [sx, sy, sz, size_two hyz hzn hn, size_two (by omega) hzn hn, size_two hxy (by omega) hn]
  cases e x y <;> cases e x z <;> cases e y z <;> rfl
theorem st_three {e : Nat → Nat → Bool} {x y z : Nat} : (!e x y).toNat + (!e x z).toNat + (!e y z).toNat = 3 ↔ St e x y z := by
  unfold St
  cases e x y <;> cases e x z <;> cases e y z <;> simp

/-- Is the set three vertices apart? -/
noncomputable def fitA (n : Nat) (e : Nat → Nat → Bool) (s : Nat) : Bool :=
  match rowB n s.testBit with
  | [x, y, z] => decide (lackSum n e s.testBit (rowB n s.testBit) / 2 = 3) && (offWay n e x.toNat y.toNat z.toNat && (offWay n e x.toNat z.toNat y.toNat && offWay n e y.toNat z.toNat x.toNat))
  | _ => false
theorem fitA_three {n : Nat} {e : Nat → Nat → Bool} {s x y z : Nat} (hr : rowB n s.testBit = [(x : Int), (y : Int), (z : Int)]) :
    fitA n e s = (decide (lackSum n e s.testBit (rowB n s.testBit) / 2 = 3) && (offWay n e x y z && (offWay n e x z y && offWay n e y z x))) := by
  unfold fitA
  rw [hr]
  simp
theorem fitA_iff {n : Nat} {e : Nat → Nat → Bool} {s x y z : Nat} (hA : Adj n e) (hxy : x < y) (hyz : y < z) (hzn : z < n) (hr : rowB n s.testBit = [(x : Int), (y : Int), (z : Int)]) (hb : Bits3 s x y z) : fitA n e s = true ↔ Apart n e x y z := by
  rw [fitA_three hr, lack_three hA hxy hyz hzn hr hb, Bool.and_eq_true, Bool.and_eq_true, Bool.and_eq_true, decide_eq_true_eq, st_three]
  exact ⟨fun ⟨h1, h2, h3, h4⟩ => ⟨hxy, hyz, hzn, h1, h2, h3, h4⟩, fun h => ⟨h.st, h.way1, h.way2, h.way3⟩⟩
end Go.Proofs.YtehejjmmbjekgaaDoor
