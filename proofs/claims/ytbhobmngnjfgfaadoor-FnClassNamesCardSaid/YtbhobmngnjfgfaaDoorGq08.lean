import Derived.Test.YtbhobmngnjfgfaaDoorGq07
/-
  The complement: 'l2Other' of the reference; 'maskOf', 'netsOf', 'firstOf', 'all', 'complement' of the program.
-/



namespace Go.Proofs.YtbhobmngnjfgfaaDoor
open Go.RowKit

/-! ### The program -/
theorem one_at (v : Int) (n : Nat) (h : v = n) (h1 : n < 32) (z : Int) (hz : z = ((2 ^ n : Nat) : Int)) (w : World) :
    Calls Tryd.prog 106 #[.int .i64 v] w fun e w' => e = .returned (.int .u32 z) ∧ w = w' := by
  subst hz; exact one_any v n h h1 w

set_option maxHeartbeats 1000000 in
theorem maskOf_any (v : Value) (xs : List Int) (n : Nat) (hn : n ≤ 16) (hset : SetP n xs) (w : World) (hr : RdS v xs w) :
    Calls Tryd.prog 113 #[v] w fun e w' => e = .returned (.int .u32 (maskB n (inL xs) : Nat)) ∧ w = w' := by
  have hl := hr.len
  unfold maxLen at hl
  obtain ⟨a, c, rfl, -, -, -⟩ := id hr
  have HS := Lib.hid hset
  clear hset
  have hz : Hid (((maskB n (inL (xs.take 0)) : Nat) : Int) = 0) := Lib.hid (by rw [show inL (xs.take 0) = fun _ => false by funext i; simp [inL], maskB_zero]; rfl)
  go_enter Tryd.func113, Tryd.ntmps113
  go_wp2_with fail
  go_loopw [3, 8] (fun m i wr => ∃ (k : Nat) (y : Int), k ≤ xs.length ∧ i = .int .i64 k ∧ m = .int .u32 y ∧ Hid (y = (maskB n (inL (xs.take k)) : Nat)) ∧ w = wr) (fun _ i _ => xs.length - (intOf i).toNat)
  case atStart => exact ⟨0, 0, Nat.zero_le _, rfl, rfl, Lib.hid hz.out.symm, rfl⟩
  case round =>
    clear hz
    obtain ⟨k, y, hk, rfl, rfl, HY, rfl⟩ := hrel
    by_cases hlt : k < xs.length
    · obtain ⟨b, o, x, rfl, hc, HX⟩ := hr.intAt hlt
      obtain ⟨m, rfl⟩ := Int.eq_ofNat_of_zero_le (HS.out.1 x (List.mem_of_getElem? HX.out)).1
      have hm : m < n := by have := (HS.out.1 m (List.mem_of_getElem? HX.out)).2; omega
      obtain ⟨z, HZ⟩ : ∃ z : Int, Hid (z = ((2 ^ m : Nat) : Int)) := ⟨_, Lib.hid rfl⟩
      obtain ⟨y2, HY2⟩ : ∃ y2 : Int, Hid (y2 = (maskB n (inL (xs.take (k + 1))) : Nat)) := ⟨_, Lib.hid rfl⟩
      have hor : bits BinOp.or IntKind.u32 y z = y2 := by
        rw [HY.out, HZ.out, HY2.out, pow_maskB hm, maskB_or (by omega), inL_take_succ HX.out]
      go_wp2_with (go_at_call 106; refine (one_at _ m rfl (by omega) z HZ.out _).mono ?_; rintro e w' ⟨rfl, rfl⟩)
      go_roundw
      case rel => exact ⟨k + 1, y2, by omega, by go_num, rfl, HY2, by trivial⟩
      case measure => simp [intOf]; omega
    · obtain rfl : k = xs.length := by omega
      go_wp2_with fail
      go_ret
      exact ⟨ret_int (by have := HY.out; rwa [List.take_length] at this), rfl⟩

theorem mask_row (n : Nat) (p : Nat → Bool) : maskB n (inL (rowB n p)) = maskB n p := by
  refine maskB_ext fun i hi => ?_
  unfold inL
  rw [Bool.eq_iff_iff, decide_eq_true_eq, nat_mem_rowB]
  simp [hi]

theorem rowsB_take_succ (n : Nat) (f : Nat → Nat → Bool) (k : Nat) (hk : k < n) : sets ((NB n f).take (k + 1)) = sets ((NB n f).take k) ++ [.int .u32 (maskB n (f k) : Nat)] := by
  rw [take_snoc (NB_at f hk)]
  simp [sets]

set_option maxHeartbeats 1000000 in
theorem netsOf_any (v : Value) (n : Nat) (e : Nat → Nat → Bool) (hn : n ≤ 16) (w : World) (hr : RdSS v (rowsB n e) w) :
    Calls Tryd.prog 103 #[.agg #[v]] w fun r w' => ∃ u, r = .returned u ∧ w'.ownsRow w.heap.size 98 1 u n (sets (NB n e)) ∧ Below w.heap.size w w' := by
  obtain ⟨vs, hG⟩ := hr.ex
  have e1 : vs.length = n := by simpa using hG.len
  obtain ⟨a, c, rfl, -, -, -⟩ := id hG.outer
  rw [e1] at hG ⊢
  clear e1 hr
  obtain ⟨B, hB⟩ : ∃ B, w.heap.size = B := ⟨_, rfl⟩
  have u1 : Below B w (w.alloc (.cells #[.slice a n c] 56)) := by subst hB; exact below_alloc' _ _
  have VG0 : VC 56 B #[.slice a n c] (w.alloc (.cells #[.slice a n c] 56)) := VC.new hB
  have hz0 : (w.alloc (.cells #[.slice a n c] 56)).heap.size = B + 1 := by simp [hB]
  have ho0 := World.ownsRow_lit (base := B) (e := 98) (size := 1) (w.alloc (.cells #[.slice a n c] 56)) #[] 0 (by omega) (by simp [maxLen]) rfl
  have u2 : Below B w ((w.alloc (.cells #[.slice a n c] 56)).alloc (.cells #[] 98)) := u1.alloc (by omega) _
  have VG1 := (VG0.upd (Upd.alloc _ (.cells #[] 98)) (by omega)).cell
  rw [hz0] at ho0
  go_enter Tryd.func103, Tryd.ntmps103
  go_wp2_with fail
  go_loopw [3, 10] (fun u i wr => ∃ k : Nat, k ≤ n ∧ i = .int .i64 k ∧ wr.ownsRow B 98 1 u k (sets ((NB n e).take k)) ∧ Below B w wr) (fun _ i _ => n - (intOf i).toNat)
  case atStart => exact ⟨0, Nat.zero_le _, rfl, by simpa [sets] using ho0, u2⟩
  case round =>
    clear ho0 u1 u2 VG0 VG1 hz0
    obtain ⟨k, hk, rfl, ho, hb⟩ := hrel
    have hsz := hb.size
    by_cases hlt : k < n
    · have hGr := hG.below (hB.symm ▸ hb)
      obtain ⟨rb, ro, r, xs, rfl, hc, hx, -, HX⟩ := hGr.intsAt (by simpa using hlt)
      obtain rfl : rowB n (e k) = xs := by have h := HX.out; rw [rowsB_at e hlt] at h; exact Option.some.inj h
      have hm := maskOf_any r (rowB n (e k)) n hn (setP_rowB _ _) wr hx
      rw [mask_row] at hm
      obtain ⟨y, HY⟩ : ∃ y : Nat, Hid (maskB n (e k) = y) := ⟨_, Lib.hid rfl⟩
      rw [HY.out] at hm
      have HM := Lib.hid hm
      clear hm hGr hx
      go_wp2_with fail
      refine HM.out.mono ?_
      rintro e1 w2 ⟨rfl, rfl⟩
      go_wp2_with (at_builtin; refine wpList_push _ rfl _ _ 120 rfl B 98 _ _ 4 Tryd.underlying120 infoV rfl _ _ _ rfl ho _ rfl rfl (by unfold maxLen; omega) (by omega) (by omega) ?_; intro g' c' w2 ho2 hg)
      go_roundw
      case rel => exact ⟨k + 1, by omega, by go_num, by rw [rowsB_take_succ n e k hlt, HY.out]; exact ho2, hb.grown hg (by omega) fun b hb' => (owns_lt ho hb').1⟩
      case measure => simp [intOf]; omega
    · obtain rfl : k = n := by omega
      rw [List.take_of_length_le (by simp)] at ho
      go_wp2_with fail
      go_ret
      exact ⟨_, rfl, by rw [hB]; exact ho, by rw [hB]; exact hb⟩

theorem firstOf_any (n : Nat) (hn : n ≤ 16) (w : World) :
    Calls Tryd.prog 153 #[.int .i64 n] w fun e w' => e = .returned (.int .u32 (maskB n (fun _ => true) : Nat)) ∧ w = w' := by
  have e1 : (2 : Int) ^ n % 4294967296 = ((2 ^ n : Nat) : Int) := by
    have : 2 ^ n ≤ 2 ^ 16 := Nat.pow_le_pow_right (by decide) hn
    have e2 : ((2 ^ n : Nat) : Int) = 2 ^ n := by simp
    rw [← e2]
    generalize 2 ^ n = q at *
    clear e2
    omega
  have h1 : 0 < 2 ^ n := Nat.two_pow_pos n
  have h2 : 2 ^ n ≤ 65536 := Nat.pow_le_pow_right (n := 2) (by decide) hn
  have HE : Hid (((2 ^ n : Nat) : Int) - 1 = (maskB n (fun _ => true) : Nat)) := Lib.hid (by rw [← full_maskB]; omega)
  have HE1 := Lib.hid e1
  have hm : (2 : Int) ^ min n 32 % 4294967296 = ((2 ^ n : Nat) : Int) := by rw [Nat.min_eq_left (by omega)]; exact e1
  obtain ⟨q, hq⟩ : ∃ q : Nat, 2 ^ n = q := ⟨_, rfl⟩
  rw [hq] at hm h1 h2 HE HE1
  clear e1 hq
  go_enter Tryd.func153, Tryd.ntmps153
  go_wp2_with fail
  go_ret
  refine ⟨ret_int ?_, rfl⟩
  rw [← HE.out]
  rw [HE1.out]
  omega
theorem all_nets (a : Option Addr) (n c : Nat) (hn : n ≤ 16) (w : World) :
    Calls Tryd.prog 119 #[.slice a n c] w fun e w' => e = .returned (.int .u32 (maskB n (fun _ => true) : Nat)) ∧ w = w' := by
  go_enter Tryd.func119, Tryd.ntmps119
  go_wp2_with fail
  refine (firstOf_any n hn w).mono ?_
  rintro e w' ⟨rfl, rfl⟩
  go_wp2_with fail
  go_ret
  exact ⟨rfl, rfl⟩
theorem all_netsAt (v : Value) (n : Nat) (hn : n ≤ 16) (z : Int) (hz : z = (maskB n (fun _ => true) : Nat)) (hv : ∃ a c, v = .slice a n c) (w : World) :
    Calls Tryd.prog 119 #[v] w fun e w' => e = .returned (.int .u32 z) ∧ w = w' := by
  obtain ⟨a, c, rfl⟩ := hv
  subst hz
  exact all_nets a n c hn w

set_option maxHeartbeats 1000000 in
theorem complement_any (v : Value) (n : Nat) (f : Nat → Nat → Bool) (hn : n ≤ 16) (w : World) (hr : Row w 1 v n (sets (NB n f))) :
    Calls Tryd.prog 136 #[v] w fun r w' => ∃ u, r = .returned u ∧ w'.ownsRow w.heap.size 98 1 u n (sets (NB n fun a b => decide (a ≠ b) && !f a b)) ∧ Below w.heap.size w w' := by
  obtain ⟨a, c, rfl, -, -, -⟩ := id hr
  obtain ⟨B, hB⟩ : ∃ B, w.heap.size = B := ⟨_, rfl⟩
  have ho0 := World.ownsRow_lit (base := B) (e := 98) (size := 1) w #[] 0 (by omega) (by simp [maxLen]) rfl
  have u1 : Below B w (w.alloc (.cells #[] 98)) := by subst hB; exact below_alloc' _ _
  rw [hB] at ho0
  go_enter Tryd.func136, Tryd.ntmps136
  go_wp2_with fail
  go_loopw [3, 9] (fun u i wr => ∃ k : Nat, k ≤ n ∧ i = .int .i64 k ∧ wr.ownsRow B 98 1 u k (sets ((NB n fun a b => decide (a ≠ b) && !f a b).take k)) ∧ Below B w wr) (fun _ i _ => n - (intOf i).toNat)
  case atStart => exact ⟨0, Nat.zero_le _, rfl, by simpa [sets] using ho0, u1⟩
  case round =>
    clear ho0 u1
    obtain ⟨k, hk, rfl, ho, hb⟩ := hrel
    have hsz := hb.size
    by_cases hlt : k < n
    · obtain ⟨rb, ro, x, rfl, hc, HX⟩ := (hr.below (hB.symm ▸ hb)).setAt (by simpa using hlt)
      obtain rfl : maskB n (f k) = x := by have h := HX.out; rw [NB_at f hlt] at h; exact Option.some.inj h
      obtain ⟨z1, HZ1⟩ : ∃ z : Int, Hid (z = (maskB n (fun _ => true) : Nat)) := ⟨_, Lib.hid rfl⟩
      obtain ⟨z2, HZ2⟩ : ∃ z : Int, Hid (z = ((2 ^ k : Nat) : Int)) := ⟨_, Lib.hid rfl⟩
      obtain ⟨x, HXX⟩ : ∃ z : Int, Hid (((maskB n (f k) : Nat) : Int) = z) := ⟨_, Lib.hid rfl⟩
      obtain ⟨z3, HZ3⟩ : ∃ z : Int, Hid (z = (maskB n (fun i => true && !(maskB n (f k)).testBit i) : Nat)) := ⟨_, Lib.hid rfl⟩
      obtain ⟨z4, HZ4⟩ : ∃ z : Nat, Hid (z = maskB n (fun b => decide (k ≠ b) && !f k b)) := ⟨_, Lib.hid rfl⟩
      have hb1 : bits BinOp.andNot IntKind.u32 z1 x = z3 := by rw [HZ1.out, ← HXX.out, HZ3.out, maskB_andNot (by omega) _ (maskB_small (by omega) _)]
      have hb2 : bits BinOp.andNot IntKind.u32 z3 z2 = (z4 : Int) := by
        rw [HZ3.out, HZ2.out, HZ4.out, maskB_andNot (by omega) _ (pow_small (by omega))]
        congr 1
        refine maskB_ext fun i hi => ?_
        rw [testBit_maskB, Nat.testBit_two_pow]
        simp [hi]
        rw [Bool.and_comm]
      rw [HXX.out] at hc
      have HN : Hid (sets ((NB n fun a b => decide (a ≠ b) && !f a b).take (k + 1)) = sets ((NB n fun a b => decide (a ≠ b) && !f a b).take k) ++ [.int .u32 (z4 : Int)]) := Lib.hid (by rw [rowsB_take_succ n _ k hlt, HZ4.out])
      have HAL := Lib.hid (all_netsAt (.slice (some ⟨rb, ro, none⟩) n c) n hn z1 HZ1.out ⟨_, _, rfl⟩ wr)
      clear HX
      go_wp2_with fail
      refine HAL.out.mono ?_
      rintro e w' ⟨rfl, rfl⟩
      go_wp2_with fail
      refine (one_at _ k rfl (by omega) z2 HZ2.out _).mono ?_
      rintro e w' ⟨rfl, rfl⟩
      go_wp2_with (at_builtin; refine wpList_push _ rfl _ _ 120 rfl B 98 _ _ 4 Tryd.underlying120 infoV rfl _ _ _ rfl ho _ rfl rfl (by unfold maxLen; omega) (by omega) (by omega) ?_; intro g' c' w2 ho2 hg)
      go_roundw
      case rel => exact ⟨k + 1, by omega, by go_num, by rw [HN.out]; exact ho2, hb.grown hg (by omega) fun b hb' => (owns_lt ho hb').1⟩
      case measure => simp [intOf]; omega
    · obtain rfl : k = n := by omega
      rw [List.take_of_length_le (by simp)] at ho
      go_wp2_with fail
      go_ret
      exact ⟨_, rfl, by rw [hB]; exact ho, by rw [hB]; exact hb⟩
end Go.Proofs.YtbhobmngnjfgfaaDoor
/-
  'Complement' of the reference and of the program.
-/

namespace Go.Proofs.YtbhobmngnjfgfaaDoor
open Go.RowKit

theorem GRes.put {w0 wr w' : World} {B b : Nat} {u : Value} {vs : List Value} {rows : List (List Int)} (hB : w0.heap.size = B) (hb : Below B w0 wr) (hbb : B ≤ b) (hbr : b < wr.heap.size)
    (hG : OwnG w' wr.heap.size 30 2 u vs (rows.map ints)) (hb' : Below wr.heap.size wr w') (ok : Bool) :
    GRes w0 rows ok (.returned (.tuple #[.agg #[u], .bool ok])) (w'.setCell ⟨b, 0, none⟩ u) := by
  subst hB
  exact ⟨u, vs, rfl, (hG.other hbr _).rebase (by omega), (hb.trans (hb'.mono (by omega))).setCell hbb _⟩

set_option maxHeartbeats 1000000 in
theorem implComplement (v : Value) (xss : List (List Int)) (w : World) (ht : Tab w) (hr : RdSS v xss w) (rows : List (List Int)) (ok : Bool)
    (h : (okB xss = false ∧ rows = [] ∧ ok = false) ∨ ∃ n e, Adj n e ∧ xss = rowsB n e ∧ rows = rowsB n (fun a b => decide (a ≠ b) && !e a b) ∧ ok = true) :
    Calls Tryd.prog 58 #[.agg #[v]] w (GRes w rows ok) := by
  obtain ⟨a, c, rfl⟩ := hr.shape
  obtain ⟨B, hB⟩ : ∃ B, w.heap.size = B := ⟨_, rfl⟩
  have u1 : Below B w (w.alloc (.cells #[.slice a xss.length c] 56)) := by subst hB; exact below_alloc' _ _
  have VG : VC 56 B #[.slice a xss.length c] (w.alloc (.cells #[.slice a xss.length c] 56)) := VC.new hB
  have hz1 : (w.alloc (.cells #[.slice a xss.length c] 56)).heap.size = B + 1 := by simp [hB]
  have u2 := u1.alloc (by omega) (.cells #[.slice none 0 0] 56)
  have VR : VC 56 (B + 1) #[.slice none 0 0] ((w.alloc (.cells #[.slice a xss.length c] 56)).alloc (.cells #[.slice none 0 0] 56)) := VC.new hz1
  replace VG := VG.upd (Upd.alloc _ (.cells #[.slice none 0 0] 56)) (by omega)
  have hz2 : ((w.alloc (.cells #[.slice a xss.length c] 56)).alloc (.cells #[.slice none 0 0] 56)).heap.size = B + 2 := by simp [hB]
  have hTB : 2 < B := by rw [← hB]; exact ht.lt
  have H := Lib.hid h
  clear h u1 hz1
  have hcg := VG.cell
  go_enter Tryd.func58, Tryd.ntmps58
  go_wp2_with fail
  generalize (w.alloc (.cells #[.slice a xss.length c] 56)).alloc (.cells #[.slice none 0 0] 56) = W at *
  refine (implOk _ xss W (hr.below u2 hB)).mono ?_
  rintro e1 w1 ⟨rfl, hb1⟩
  replace VG := VG.upd (Upd.of_below hb1) (by omega)
  replace VR := VR.upd (Upd.of_below hb1) (by omega)
  have hb := u2.trans (hb1.mono (by omega))
  clear hb1 u2 hcg
  have hcg := VG.cell
  have hcr := VR.cell
  have hfr := VR.free
  rcases H.out with ⟨hok, rfl, rfl⟩ | ⟨n, e, hA, rfl, rfl, rfl⟩
  · rw [hok]
    have HCE := Lib.hid (VR.set (.slice none 0 0)).cell
    have HB := Lib.hid (hb.setCell (p := ⟨B + 1, 0, none⟩) (by simp) (.slice none 0 0))
    clear hok
    go_wp2_with fail
    refine bodyPost_ret (v := .tuple #[.agg #[.slice none 0 0], .bool false]) (by simp [results, Tryd.results58, go_sem, HCE.out]) rfl ?_
    exact GRes.nothing _ _ (by rw [hB]; exact HB.out)
  · rw [okB_adj hA]
    rw [rowsB_length] at *
    have hn := hA.le
    go_wp2_with fail
    refine (netsOf_any _ n e hn w1 (hr.below hb hB)).mono ?_
    rintro e1 w2 ⟨u, rfl, hN, hb2⟩
    go_wp2_with fail
    refine (complement_any u n e hn w2 (Row.of_owns hN)).mono ?_
    rintro e1 w3 ⟨u3, rfl, hN3, hb3⟩
    have hb13 := hb2.trans (hb3.mono hb2.size)
    have hsm := NB_small (n := n) (by omega) (fun a b => decide (a ≠ b) && !e a b)
    have hrow : Row w3 1 u3 (NB n fun a b => decide (a ≠ b) && !e a b).length (sets (NB n fun a b => decide (a ≠ b) && !e a b)) := by rw [NB_length]; exact Row.of_owns hN3
    go_wp2_with fail
    refine (graph_any u3 (NB n fun a b => decide (a ≠ b) && !e a b) hsm (by simp; omega) w3 (ht.keep (hb.trans (hb13.mono (by have := VR.lt; omega))) hTB) hrow).mono ?_
    rintro e1 w4 ⟨u4, vs, rfl, hG, hb4⟩
    rw [rowsOf_NB (by omega)] at hG
    obtain ⟨ua, uc, rfl⟩ := owns_shape hG.outer
    have hb14 := hb13.trans (hb4.mono hb13.size)
    have HF := Lib.hid (GRes.put (b := B + 1) hB hb (by omega) (by have := VR.lt; omega) (hG.rebase hb13.size) hb14 true)
    replace VR := VR.upd (Upd.of_below hb14) (by omega)
    have HCE := Lib.hid (VR.set (.slice ua vs.length uc)).cell
    clear hG hb2 hb3 hb4 hb13 hb14 hcg hcr hfr hsm hrow hN hN3
    have hcr := VR.cell
    have hfr := VR.free
    go_wp2_with fail
    refine bodyPost_ret (v := .tuple #[.agg #[.slice ua vs.length uc], .bool true]) (by simp [results, Tryd.results58, go_sem, HCE.out]) rfl ?_
    exact HF.out

theorem total_rowsB (n : Nat) (f : Nat → Nat → Bool) (hn : n ≤ 32) : total (rowsB n f) ≤ 32 * n := by
  have := total_rowsOf (NB n f)
  rw [NB_length, rowsOf_NB hn] at this
  exact this

end Go.Proofs.YtbhobmngnjfgfaaDoor
/-
  'GraphOf' of the reference and of the program.
-/

namespace Go.Proofs.YtbhobmngnjfgfaaDoor
open Go.RowKit

/-- An edge: two different vertices below n, the smaller one first. -/
def PairP (n : Nat) (xs : List Int) : Prop := xs.length = 2 ∧ SetP n xs
instance (n : Nat) (xs : List Int) : Decidable (PairP n xs) := by unfold PairP; infer_instance
theorem PairP.parts {n : Nat} {xs : List Int} (h : PairP n xs) : ∃ u v : Nat, u < v ∧ v < n ∧ xs = [(u : Int), (v : Int)] := by
  obtain ⟨h1, h2, h3⟩ := h
  match xs, h1 with
  | [x, y], _ =>
    have hx := h2 x (by simp)
    have hy := h2 y (by simp)
    have hxy : x < y := by simpa using h3
    exact ⟨x.toNat, y.toNat, by omega, by omega, by rw [Int.toNat_of_nonneg hx.1, Int.toNat_of_nonneg hy.1]⟩

/-- The edges of a list, laid one by one. -/
def laidE (es : List (List Int)) : Nat → Nat → Bool := es.foldl (fun f xs => plus f (xs.getD 0 0).toNat (xs.getD 1 0).toNat) (fun _ _ => false)
theorem laidE_succ {es : List (List Int)} {k : Nat} {u v : Nat} (h : es[k]? = some [(u : Int), (v : Int)]) : laidE (es.take (k + 1)) = plus (laidE (es.take k)) u v := by
  unfold laidE
  rw [take_snoc h, List.foldl_append]
  simp

/-- 'GraphOf' gives a graph. -/
def OkE (n : Int) (es : List (List Int)) : Prop := (1 ≤ n ∧ n ≤ 16) ∧ es.length ≤ 120 ∧ ∀ e ∈ es, PairP n.toNat e

theorem ok_snoc {n : Nat} {es : List (List Int)} {k : Nat} {xs : List Int} (hx : es[k]? = some xs) (h : ∀ e ∈ es.take k, PairP n e) (h1 : PairP n xs) : ∀ e ∈ es.take (k + 1), PairP n e := by
  rw [take_snoc hx]
  intro e he
  rcases List.mem_append.1 he with he | he
  · exact h e he
  · rw [List.mem_singleton.1 he]; exact h1

theorem set_is (v : Value) (xs : List Int) (n : Nat) (hn : n ≤ 1000000) (b : Bool) (h : decide (SetP n xs) = b) (w : World) (hr : Row w 1 v xs.length (ints xs)) :
    Calls Tryd.prog 160 #[v, .int .i64 n] w fun e w' => e = .returned (.bool b) ∧ Below w.heap.size w w' := by
  subst h; exact set_any v xs n hn w hr

theorem pair_cells {w : World} {u : Value} {x y : Int} (h : Row w 1 u 2 (ints [x, y])) :
    ∃ b o c, u = .slice (some ⟨b, o, none⟩) 2 c ∧ w.cell? ⟨b, o, none⟩ = some (.int .i64 x) ∧ w.cell? ⟨b, o + 1, none⟩ = some (.int .i64 y) := by
  obtain ⟨a, c, rfl, h1, h2, h3, h4, h5⟩ := h
  obtain ⟨b, o, rfl, hc⟩ := h5 0 (.int .i64 x) rfl
  obtain ⟨b', o', e, hc'⟩ := h5 1 (.int .i64 y) rfl
  obtain ⟨rfl, rfl⟩ : b = b' ∧ o = o' := by simpa using e
  exact ⟨b, o, c, rfl, hc, hc'⟩

set_option maxHeartbeats 2000000 in
theorem specGraphOf (n : Int) (v : Value) (es : List (List Int)) (w : World) (hr : RdSS v es w) (rows : List (List Int)) (ok : Bool)
    (h : (¬ OkE n es ∧ rows = [] ∧ ok = false) ∨ (OkE n es ∧ rows = rowsB n.toNat (laidE es) ∧ ok = true)) :
    Calls Tryd.prog 108 #[.int .i64 n, v] w (GRes w rows ok) := by
  obtain ⟨vs, hG⟩ := hr.ex
  have hl := hG.outer.len
  unfold maxLen at hl
  have e1 : vs.length = es.length := by simpa using hG.len
  obtain ⟨a, c, rfl, -, -, -⟩ := id hG.outer
  rw [e1] at hG hl ⊢
  clear e1 hr
  have H := Lib.hid h
  clear h
  obtain ⟨B, hB⟩ : ∃ B, w.heap.size = B := ⟨_, rfl⟩
  have u1 : Below B w (w.alloc (.cells #[.slice none 0 0] 56)) := by subst hB; exact below_alloc' _ _
  have hz1 : (w.alloc (.cells #[.slice none 0 0] 56)).heap.size = B + 1 := by simp [hB]
  have hR0 : GC (w.alloc (.cells #[.slice none 0 0] 56)) B (.slice none 0 0) := by subst hB; exact GC.new _ _
  have hcr := hR0.cell
  have hfr := hR0.free
  have HCE0 := Lib.hid (hR0.set (.slice none 0 0)).cell
  have HB0 := Lib.hid (u1.setCell (p := ⟨B, 0, none⟩) (by simp) (.slice none 0 0))
  have hno : ∀ (hn : ¬ OkE n es), Hid (rows = [] ∧ ok = false) := fun hn => by
    rcases H.out with ⟨_, h2⟩ | ⟨h1, _⟩
    · exact Lib.hid h2
    · exact (hn h1).elim
  have HNO := Lib.hid hno
  clear hno
  by_cases hin : 1 ≤ n ∧ n ≤ 16
  case neg =>
    obtain ⟨rfl, rfl⟩ := (HNO.out fun h => hin h.1).out
    have hin' := Lib.hid (l1In_is n 1 16 false (by simpa using hin))
    clear hin
    go_enter Tryd.func108, Tryd.ntmps108
    go_wp2_with fail
    refine (hin'.out _).mono ?_
    rintro e1 w1 ⟨rfl, rfl⟩
    go_wp2_with fail
    refine bodyPost_ret (v := .tuple #[.agg #[.slice none 0 0], .bool false]) (by simp [results, Tryd.results108, go_sem, hcr]) rfl ?_
    exact GRes.nothing _ _ (by rw [hB]; exact u1)
  have hin' := Lib.hid (l1In_is n 1 16 true (by simpa using hin))
  obtain ⟨m, rfl⟩ := Int.eq_ofNat_of_zero_le (show 0 ≤ n by omega)
  have hm1 : 1 ≤ m := by omega
  have hm2 : m ≤ 16 := by omega
  by_cases hlen : 120 < es.length
  · obtain ⟨rfl, rfl⟩ := (HNO.out fun h => by have := h.2.1; omega).out
    clear hin
    go_enter Tryd.func108, Tryd.ntmps108
    go_wp2_with fail
    refine (hin'.out _).mono ?_
    rintro e1 w1 ⟨rfl, rfl⟩
    go_wp2_with fail
    refine bodyPost_ret (v := .tuple #[.agg #[.slice none 0 0], .bool false]) (by simp [results, Tryd.results108, go_sem, hcr]) rfl ?_
    exact GRes.nothing _ _ (by rw [hB]; exact u1)
  go_enter Tryd.func108, Tryd.ntmps108
  go_wp2_with fail
  refine (hin'.out _).mono ?_
  rintro e1 w1 ⟨rfl, rfl⟩
  go_wp2_with fail
  refine (empty_any m (by omega) _).mono ?_
  rintro e1 w1 ⟨u, us, rfl, hE, hb1⟩
  obtain ⟨a1, c1, rfl⟩ := owns_shape hE.outer
  have hul : us.length = m := by rw [hE.len]; simp
  rw [hul] at hE ⊢
  rw [← rowsB_zeros, ← rowsOf_NB (by omega)] at hE
  have hS := SG.ofRes (ms := NB m fun _ _ => false) hB hR0 hE hb1 (by simp)
  obtain ⟨C, hCe⟩ : ∃ C, w1.heap.size = C := ⟨_, rfl⟩
  rw [hCe] at hS
  clear hE hb1 hul hcr hfr HCE0 HB0 hR0 u1 hz1 hin'
  go_wp2_with fail
  go_loopw [7] (fun i wr => ∃ (k : Nat) (us : List Value), k ≤ es.length ∧ i = .int .i64 k ∧ Hid (∀ e ∈ es.take k, PairP m e) ∧ SG w B C a1 m c1 us (NB m (laidE (es.take k))) wr) (fun i _ => es.length - (intOf i).toNat)
  case atStart => exact ⟨0, us, Nat.zero_le _, rfl, Lib.hid (by simp), hS⟩
  case round =>
    clear hS
    obtain ⟨k, us, hk, rfl, HP, hS⟩ := hrel
    by_cases hlt : k < es.length
    · have hGr := hG.below (hB.symm ▸ hS.bel)
      obtain ⟨b, o, r, xs, rfl, hc, hx, -, HX⟩ := hGr.intsAt hlt
      have hxl := hx.len
      unfold maxLen at hxl
      obtain ⟨ra, rc, rfl, -, -, -⟩ := id hx
      by_cases h2 : xs.length = 2
      case neg =>
        have hd : ((xs.length : Int) != 2) = true := by simp; omega
        obtain ⟨rfl, rfl⟩ := (HNO.out fun h => h2 (h.2.2 xs (List.mem_of_getElem? HX.out)).1).out
        have hcr := hS.res.cell
        have hfr := hS.res.free
        have HCE := Lib.hid (hS.res.set (.slice none 0 0)).cell
        have HB := Lib.hid (hS.bel.setCell (p := ⟨B, 0, none⟩) (by simp) (.slice none 0 0))
        clear h2
        go_wp2_with fail
        refine bodyPost_ret (v := .tuple #[.agg #[.slice none 0 0], .bool false]) (by simp [results, Tryd.results108, go_sem, HCE.out]) rfl ?_
        exact GRes.nothing _ _ (by rw [hB]; exact HB.out)
      have hd : ((xs.length : Int) != 2) = false := by simp [h2]
      by_cases hset : SetP m xs
      case neg =>
        have HS := Lib.hid (set_is (.slice ra xs.length rc) xs m (by omega) false (by simpa using hset) wr hx)
        obtain ⟨rfl, rfl⟩ := (HNO.out fun h => hset (h.2.2 xs (List.mem_of_getElem? HX.out)).2).out
        clear hset h2
        go_wp2_with fail
        refine HS.out.mono ?_
        rintro e1 w3 ⟨rfl, hb3⟩
        replace hS := hS.below hb3
        have hcr := hS.res.cell
        have hfr := hS.res.free
        have HCE := Lib.hid (hS.res.set (.slice none 0 0)).cell
        have HB := Lib.hid (hS.bel.setCell (p := ⟨B, 0, none⟩) (by simp) (.slice none 0 0))
        clear hb3
        go_wp2_with fail
        refine bodyPost_ret (v := .tuple #[.agg #[.slice none 0 0], .bool false]) (by simp [results, Tryd.results108, go_sem, HCE.out]) rfl ?_
        exact GRes.nothing _ _ (by rw [hB]; exact HB.out)
      have HS := Lib.hid (set_is (.slice ra xs.length rc) xs m (by omega) true (by simpa using hset) wr hx)
      have hP1 : PairP m xs := ⟨h2, hset⟩
      obtain ⟨x, y, hxy, hym, rfl⟩ := hP1.parts
      have HP1 := Lib.hid (ok_snoc HX.out HP.out hP1)
      have HL := Lib.hid (laidE_succ HX.out)
      clear hset h2 hP1
      go_wp2_with fail
      refine HS.out.mono ?_
      rintro e1 w3 ⟨rfl, hb3⟩
      replace hS := hS.below hb3
      have hx3 := Row.below hx hb3
      have hc3 : w3.cell? ⟨b, o + k, none⟩ = some (.slice ra 2 rc) := (hb3.cell (p := ⟨b, o + k, none⟩) (block_lt hc)).trans hc
      obtain ⟨xb, xo, xc, e2, hx0, hx1⟩ := pair_cells hx3
      obtain ⟨rfl, rfl⟩ : ra = some ⟨xb, xo, none⟩ ∧ rc = xc := by simpa using e2
      have hcC := hS.var.cell
      clear hc hx hb3 hx3 e2 HS hGr
      have hSd := hS.below (below_drewN' w3 1)
      have hl2 := hSd.link x y (x : Int) (y : Int) rfl rfl (by omega) (by omega) (by omega)
      have HL2 : Hid (Calls Tryd.prog 172 #[.agg #[.slice a1 m c1], .int .i64 (x : Int), .int .i64 (y : Int)] w3.drew _) := Lib.hid hl2
      clear hSd hl2
      go_wp2_with fail
      refine wp_region_ord [1, 2, 3, 7, 8, 9] [0, 4, 5, 6, 10, 11, 12] [] [13, 14] (by kernel_rfl) (by kernel_rfl) (fun _ _ d _ _ h => by cases d <;> exact h) ?_
      simp only [pickOps, List.filterMap_cons, List.filterMap_nil, List.getElem?_cons_succ, List.getElem?_cons_zero]
      repeat quiet_step (fail)
      simp only [wpQuiet_nil_eq, wpSegs_nil_eq]
      go_wp2_with fail
      refine HL2.out.mono ?_
      rintro e1 w4 ⟨rfl, us4, hS4⟩
      rw [joinS_NB _ (by omega) (by omega), ← HL.out] at hS4
      have hcC4 := hS4.var.cell
      have hfC4 := hS4.var.free
      clear hS hcC
      go_wp2_with fail
      go_roundw
      case rel => exact ⟨k + 1, us4, by omega, by go_num, HP1, hS4.store⟩
      case measure => simp [intOf]; omega
    · obtain rfl : k = es.length := by omega
      rw [List.take_length] at hS
      have hok : OkE (m : Int) es := ⟨hin, by omega, by have := HP.out; rwa [List.take_length] at this⟩
      obtain ⟨rfl, rfl⟩ : rows = rowsB m (laidE es) ∧ ok = true := by
        rcases H.out with ⟨h1, _⟩ | ⟨_, h2⟩
        · exact (h1 hok).elim
        · simpa using h2
      have hcC := hS.var.cell
      have hcR := hS.res.cell
      have hfR := hS.res.free
      have hfin := hS.done hB true
      rw [rowsOf_NB (by omega)] at hfin
      have HF := Lib.hid hfin
      have HCE := Lib.hid (hS.res.set (.slice a1 m c1)).cell
      clear hfin hok
      go_wp2_with fail
      refine bodyPost_ret (v := .tuple #[.agg #[.slice a1 m c1], .bool true]) (by simp [results, Tryd.results108, go_sem, HCE.out]) rfl ?_
      exact HF.out

end Go.Proofs.YtbhobmngnjfgfaaDoor
/-
  'l1There', 'l2Pair', 'EdgeIn' of the reference; 'isVertex', 'isPair', 'EdgeIn' of the program.
-/

namespace Go.Proofs.YtbhobmngnjfgfaaDoor
open Go.RowKit

/-- A vertex of n. -/
def inN (n : Nat) (v : Int) : Bool := decide (0 ≤ v ∧ v < (n : Int))
theorem inN_iff {n : Nat} {v : Int} : inN n v = true ↔ 0 ≤ v ∧ v < (n : Int) := by unfold inN; simp
theorem inN_nat {n : Nat} {v : Int} (h : inN n v = true) : ∃ k : Nat, v = k ∧ k < n := by
  have := inN_iff.1 h
  exact ⟨v.toNat, by omega, by omega⟩
def vertexB (xss : List (List Int)) (v : Int) : Bool := okB xss && inN xss.length v
def edgeB (xss : List (List Int)) (u v : Int) : Bool := okB xss && inN xss.length u && (xss.getD u.toNat []).contains v

theorem ok_size {xss : List (List Int)} (h : okB xss = true) : 1 ≤ xss.length ∧ xss.length ≤ 16 := by
  have : OkP xss := by unfold okB at h; simpa using h
  exact this.1

theorem there_any (v : Value) (xss : List (List Int)) (x : Int) (hn : xss.length ≤ 1000) (w : World) (hr : RdSS v xss w) :
    Calls Tryd.prog 132 #[.agg #[v], .int .i64 x] w fun e w' => e = .returned (.bool (inN xss.length x)) ∧ Below w.heap.size w w' := by
  obtain ⟨a, c, rfl⟩ := hr.shape
  obtain ⟨B, hB⟩ : ∃ B, w.heap.size = B := ⟨_, rfl⟩
  have hb0 : Below B w (w.alloc (.cells #[.slice a xss.length c] 56)) := by subst hB; exact below_alloc' _ _
  have hV0 : VC 56 B #[.slice a xss.length c] (w.alloc (.cells #[.slice a xss.length c] 56)) := VC.new hB
  have hsz : (w.alloc (.cells #[.slice a xss.length c] 56)).heap.size = B + 1 := by simp [hB]
  have hc0 := hV0.cell
  have hI := Lib.hid (l1In_is x 0 ((xss.length : Int) - 1) (inN xss.length x) (by unfold inN; rw [Bool.eq_iff_iff]; simp; omega))
  go_enter Tryd.func132, Tryd.ntmps132
  go_wp2_with fail
  generalize w.alloc (.cells #[.slice a xss.length c] 56) = W at *
  refine (size_any a xss.length c W).mono ?_
  rintro e w1 ⟨rfl, hb1⟩
  have hb01 := hb0.trans (hb1.mono (by omega))
  clear hb1
  go_wp2_with fail
  refine (hI.out w1).mono ?_
  rintro e w2 ⟨rfl, rfl⟩
  go_wp2_with fail
  go_ret
  exact ⟨rfl, by rw [hB]; exact hb01⟩

set_option maxHeartbeats 1000000 in
theorem isVertex_any (v : Value) (xss : List (List Int)) (x : Int) (w : World) (hr : RdSS v xss w) :
    Calls Tryd.prog 137 #[.agg #[v], .int .i64 x] w fun e w' => e = .returned (.bool (vertexB xss x)) ∧ Below w.heap.size w w' := by
  obtain ⟨a, c, rfl⟩ := hr.shape
  obtain ⟨B, hB⟩ : ∃ B, w.heap.size = B := ⟨_, rfl⟩
  have hb0 : Below B w (w.alloc (.cells #[.slice a xss.length c] 56)) := by subst hB; exact below_alloc' _ _
  have hV0 : VC 56 B #[.slice a xss.length c] (w.alloc (.cells #[.slice a xss.length c] 56)) := VC.new hB
  have hsz : (w.alloc (.cells #[.slice a xss.length c] 56)).heap.size = B + 1 := by simp [hB]
  have hc0 := hV0.cell
  have hI := Lib.hid (inRange_is x 0 ((xss.length : Int) - 1) (inN xss.length x) (by unfold inN; rw [Bool.eq_iff_iff]; simp; omega))
  go_enter Tryd.func137, Tryd.ntmps137
  go_wp2_with fail
  generalize w.alloc (.cells #[.slice a xss.length c] 56) = W at *
  refine (implOk _ xss W (hr.below hb0 hB)).mono ?_
  rintro e w1 ⟨rfl, hb1⟩
  have hV1 := hV0.upd (Upd.of_below hb1) (by omega)
  have hb01 := hb0.trans (hb1.mono (by omega))
  clear hb1 hc0 hV0
  have hc1 := hV1.cell
  cases hok : okB xss with
  | false =>
    go_wp2_with fail
    go_ret
    exact ⟨ret_bool (by simp [vertexB, hok]), by rw [hB]; exact hb01⟩
  | true =>
    have hn := ok_size hok
    go_wp2_with fail
    refine (hI.out w1).mono ?_
    rintro e w2 ⟨rfl, rfl⟩
    go_wp2_with fail
    go_ret
    exact ⟨ret_bool (by simp [vertexB, hok]), by rw [hB]; exact hb01⟩

set_option maxHeartbeats 1000000 in
theorem isPair_any (v : Value) (xss : List (List Int)) (x y : Int) (w : World) (hr : RdSS v xss w) :
    Calls Tryd.prog 127 #[.agg #[v], .int .i64 x, .int .i64 y] w fun e w' => e = .returned (.bool (vertexB xss x && vertexB xss y)) ∧ Below w.heap.size w w' := by
  obtain ⟨a, c, rfl⟩ := hr.shape
  obtain ⟨B, hB⟩ : ∃ B, w.heap.size = B := ⟨_, rfl⟩
  have hb0 : Below B w (w.alloc (.cells #[.slice a xss.length c] 56)) := by subst hB; exact below_alloc' _ _
  have hV0 : VC 56 B #[.slice a xss.length c] (w.alloc (.cells #[.slice a xss.length c] 56)) := VC.new hB
  have hsz : (w.alloc (.cells #[.slice a xss.length c] 56)).heap.size = B + 1 := by simp [hB]
  have hc0 := hV0.cell
  go_enter Tryd.func127, Tryd.ntmps127
  go_wp2_with fail
  generalize w.alloc (.cells #[.slice a xss.length c] 56) = W at *
  refine (isVertex_any _ xss x W (hr.below hb0 hB)).mono ?_
  rintro e w1 ⟨rfl, hb1⟩
  have hV1 := hV0.upd (Upd.of_below hb1) (by omega)
  have hb01 := hb0.trans (hb1.mono (by omega))
  clear hb1 hc0 hV0
  have hc1 := hV1.cell
  cases hvx : vertexB xss x with
  | false =>
    go_wp2_with fail
    go_ret
    exact ⟨ret_bool (by simp [hvx]), by rw [hB]; exact hb01⟩
  | true =>
    go_wp2_with fail
    refine (isVertex_any _ xss y w1 (hr.below hb01 hB)).mono ?_
    rintro e w2 ⟨rfl, hb2⟩
    have hb02 := hb01.trans (hb2.mono (by have := hV1.lt; omega))
    clear hb2
    go_wp2_with fail
    go_ret
    exact ⟨ret_bool (by simp [hvx]), by rw [hB]; exact hb02⟩

set_option maxHeartbeats 1000000 in
theorem implEdgeIn (v : Value) (xss : List (List Int)) (x y : Int) (w : World) (hr : RdSS v xss w) :
    Calls Tryd.prog 128 #[.agg #[v], .int .i64 x, .int .i64 y] w fun e w' => e = .returned (.bool (edgeB xss x y)) ∧ Below w.heap.size w w' := by
  obtain ⟨vs, hG⟩ := hr.ex
  have e1 : vs.length = xss.length := by simpa using hG.len
  obtain ⟨a, c, rfl, -, -, -⟩ := id hG.outer
  rw [e1] at hG hr ⊢
  clear e1
  obtain ⟨B, hB⟩ : ∃ B, w.heap.size = B := ⟨_, rfl⟩
  have hb0 : Below B w (w.alloc (.cells #[.slice a xss.length c] 56)) := by subst hB; exact below_alloc' _ _
  have hV0 : VC 56 B #[.slice a xss.length c] (w.alloc (.cells #[.slice a xss.length c] 56)) := VC.new hB
  have hsz : (w.alloc (.cells #[.slice a xss.length c] 56)).heap.size = B + 1 := by simp [hB]
  have hc0 := hV0.cell
  go_enter Tryd.func128, Tryd.ntmps128
  go_wp2_with fail
  generalize w.alloc (.cells #[.slice a xss.length c] 56) = W at *
  refine (isVertex_any _ xss x W (hr.below hb0 hB)).mono ?_
  rintro e w1 ⟨rfl, hb1⟩
  have hV1 := hV0.upd (Upd.of_below hb1) (by omega)
  have hb01 := hb0.trans (hb1.mono (by omega))
  clear hb1 hc0 hV0
  have hc1 := hV1.cell
  cases hvx : vertexB xss x with
  | false =>
    go_wp2_with fail
    go_ret
    exact ⟨ret_bool (by unfold vertexB at hvx; simp [edgeB, hvx]), by rw [hB]; exact hb01⟩
  | true =>
    have hv2 := hvx
    unfold vertexB at hv2
    rw [Bool.and_eq_true] at hv2
    obtain ⟨k, rfl, hk⟩ := inN_nat hv2.2
    have hn := ok_size hv2.1
    obtain ⟨rb, ro, r, xs, rfl, hc, hx, -, HX⟩ := (hG.below (hB.symm ▸ hb01)).intsAt hk
    have hC := Lib.hid (contI_is r xs y (edgeB xss (k : Int) y) (by unfold edgeB; rw [hv2.1, hv2.2]; simp [List.getD, HX.out]) w1 hx)
    clear hx hv2 hvx
    go_wp2_with fail
    refine hC.out.mono ?_
    rintro e w2 ⟨rfl, rfl⟩
    go_wp2_with fail
    go_ret
    exact ⟨rfl, by rw [hB]; exact hb01⟩

end Go.Proofs.YtbhobmngnjfgfaaDoor
