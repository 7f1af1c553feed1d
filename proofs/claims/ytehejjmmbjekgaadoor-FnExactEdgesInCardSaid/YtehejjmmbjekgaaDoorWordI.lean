/-
  'WordModel' of the program.
-/
import Derived.Test.YtehejjmmbjekgaaDoorWord
import Derived.Test.YtehejjmmbjekgaaDoorParts
import Derived.Test.YtehejjmmbjekgaaDoorNetsOf
namespace Go.Proofs.YtehejjmmbjekgaaDoor
open Go.RowKit

/-- Is it a word? -/
def wordB (ws : List Int) : Bool := decide (1 ≤ ws.length ∧ ws.length ≤ 16) && !ws.any badW
/-- The sets of a word: after k of its places. -/
def SW (ws : List Int) (M k : Nat) : List Nat := (List.range M).map fun (j : Nat) => maskB 16 fun v => decide (v < k) && decide (ws.getD v 0 = (j : Int) + 1)
@[simp] theorem SW_length (ws : List Int) (M k : Nat) : (SW ws M k).length = M := by simp [SW]
theorem SW_zero (ws : List Int) (M : Nat) : SW ws M 0 = List.replicate M 0 := by
  apply List.ext_getElem?
  intro i
  unfold SW
  rw [List.getElem?_map, List.getElem?_replicate]
  by_cases hi : i < M
  · rw [List.getElem?_range hi, if_pos hi, Option.map_some]
    congr 1
  · rw [List.getElem?_eq_none (by simp; omega), if_neg hi]; rfl
theorem SW_small (ws : List Int) (M k : Nat) : Small (SW ws M k) := fun m hm => by
  unfold SW at hm
  rw [List.mem_map] at hm
  obtain ⟨j, _, rfl⟩ := hm
  exact maskB_small (by omega) _
theorem SW_skip {ws : List Int} {M k : Nat} {y : Int} (h : ws[k]? = some y) (hy : y ≤ 0) : SW ws M (k + 1) = SW ws M k := by
  unfold SW
  refine List.map_congr_left fun j _ => maskB_ext fun v _ => ?_
  by_cases hv : v = k
  · subst hv
    have : ws.getD v 0 = y := by rw [List.getD_eq_getElem?_getD, h]; rfl
    have h2 : ¬ y = (j : Int) + 1 := by omega
    rw [this]; simp [h2]
  · have : decide (v < k + 1) = decide (v < k) := by
      by_cases hlt : v < k
      · simp [hlt]; omega
      · have : ¬ v < k + 1 := by omega
        simp [hlt, this]
    rw [this]
theorem SW_put {ws : List Int} {M k q : Nat} (hk : k < 16) (h : ws[k]? = some ((q : Int) + 1)) (hq : q < M) : SW ws M (k + 1) = (SW ws M k).set q ((SW ws M k).getD q 0 ||| 2 ^ k) := by
  have hg : (SW ws M k).getD q 0 = maskB 16 (fun v => decide (v < k) && decide (ws.getD v 0 = (q : Int) + 1)) := by
    rw [List.getD_eq_getElem?_getD]
    unfold SW
    rw [List.getElem?_map, List.getElem?_range hq]
    rfl
  rw [hg]
  have hw : ws.getD k 0 = (q : Int) + 1 := by rw [List.getD_eq_getElem?_getD, h]; rfl
  apply List.ext_getElem?
  intro i
  rw [List.getElem?_set]
  by_cases hi : q = i
  · subst hi
    rw [if_pos rfl, if_pos (by simpa using hq)]
    unfold SW
    rw [List.getElem?_map, List.getElem?_range hq, Option.map_some]
    congr 1
    apply Nat.eq_of_testBit_eq
    intro b
    rw [Nat.testBit_or, testBit_maskB, testBit_maskB, Nat.testBit_two_pow]
    by_cases hb : b = k
    · subst hb
      rw [hw]; simp [hk]
    · have h1 : ¬ k = b := fun h => hb h.symm
      have : decide (b < k + 1) = decide (b < k) := by
        by_cases hlt : b < k
        · simp [hlt]; omega
        · have : ¬ b < k + 1 := by omega
          simp [hlt, this]
      rw [this]; simp [h1]
  · rw [if_neg hi]
    unfold SW
    rw [List.getElem?_map, List.getElem?_map]
    by_cases hM : i < M
    · rw [List.getElem?_range hM, Option.map_some, Option.map_some]
      congr 1
      refine maskB_ext fun v _ => ?_
      by_cases hv : v = k
      · subst hv
        have h2 : ¬ (q : Int) = i := by omega
        rw [hw]; simp [h2]
      · have : decide (v < k + 1) = decide (v < k) := by
          by_cases hlt : v < k
          · simp [hlt]; omega
          · have : ¬ v < k + 1 := by omega
            simp [hlt, this]
        rw [this]
    · rw [List.getElem?_eq_none (by simp; omega)]; rfl

/-- What WordModel gives: the sets as rows. -/
def MRes (w : World) (rows : List (List Int)) (ok : Bool) (e : Ending) (w' : World) : Prop := ∃ u vs, e = .returned (.tuple #[.agg #[u], .bool ok]) ∧ OwnG w' w.heap.size 38 2 u vs (rows.map ints) ∧ Below w.heap.size w w'
def WordP (ws : List Int) (rows : List (List Int)) (ok : Bool) : Prop := (wordB ws = false ∧ rows = [] ∧ ok = false) ∨ (wordB ws = true ∧ ∃ M : Nat, maxL ws = M ∧ M ≤ 16 ∧ rows = rowsOf (SW ws M ws.length) ∧ ok = true)
theorem maxTo_le {b : Int} : ∀ {x : Int} {l : List Int}, x ≤ b → (∀ y ∈ l, y ≤ b) → maxTo x l ≤ b
  | _, [], h, _ => h
  | x, y :: l, h, h2 => maxTo_le (x := if x < y then y else x) (l := l) (by split; (· exact h2 y (by simp)); exact h) fun z hz => h2 z (by simp [hz])
theorem maxTo_ge : ∀ {x : Int} {l : List Int}, x ≤ maxTo x l ∧ ∀ y ∈ l, y ≤ maxTo x l
  | _, [] => ⟨Int.le_refl _, fun y h => by simp at h⟩
  | x, y :: l => by
    have ih := maxTo_ge (x := if x < y then y else x) (l := l)
    have e : maxTo x (y :: l) = maxTo (if x < y then y else x) l := rfl
    rw [e]
    refine ⟨?_, fun z hz => ?_⟩
    · have := ih.1; split at this <;> omega
    · rcases List.mem_cons.1 hz with rfl | hz
      · have := ih.1; split at this <;> omega
      · exact ih.2 z hz
theorem maxL_bound {ws : List Int} (h : wordB ws = true) : ∃ M : Nat, maxL ws = M ∧ M ≤ 16 ∧ ∀ y ∈ ws, 0 ≤ y ∧ y ≤ M := by
  unfold wordB at h
  rw [Bool.and_eq_true, decide_eq_true_eq, Bool.not_eq_true', List.any_eq_false] at h
  have hb : ∀ y ∈ ws, 0 ≤ y ∧ y ≤ 16 := fun y hy => by have := h.2 y hy; unfold badW at this; simpa using this
  cases ws with
  | nil => simp at h
  | cons x l =>
    have h1 := maxTo_le (b := 16) (x := x) (l := l) (hb x (by simp)).2 fun y hy => (hb y (List.mem_cons_of_mem _ hy)).2
    have h2 := maxTo_ge (x := x) (l := l)
    have h0 := (hb x (by simp)).1
    refine ⟨(maxL (x :: l)).toNat, ?_, ?_, fun y hy => ⟨(hb y hy).1, ?_⟩⟩
    · show maxTo x l = ((maxTo x l).toNat : Int); omega
    · show (maxTo x l).toNat ≤ 16; omega
    · show y ≤ ((maxTo x l).toNat : Int)
      rcases List.mem_cons.1 hy with rfl | hy
      · omega
      · have := h2.2 y hy; omega

set_option maxHeartbeats 4000000 in
theorem implWordModel (v : Value) (ws : List Int) (w : World) (ht : Tab w) (hr : RdS v ws w) (rows : List (List Int)) (ok : Bool) (h : WordP ws rows ok) :
    Calls Tryd.prog 25 #[v] w (MRes w rows ok) := by
  obtain ⟨a, c, rfl, -, -, -⟩ := id hr
  have hlen : ws.length ≤ maxLen := hr.len
  unfold maxLen at hlen
  obtain ⟨B, hB⟩ : ∃ B, w.heap.size = B := ⟨_, rfl⟩
  have hTB : 0 < B := by rw [← hB]; exact ht.lt
  have u1 : Below B w (w.alloc (.cells #[.slice none 0 0] 40)) := by subst hB; exact below_alloc' _ _
  have VR0 : VC 40 B #[.slice none 0 0] (w.alloc (.cells #[.slice none 0 0] 40)) := VC.new hB
  have hz0 : (w.alloc (.cells #[.slice none 0 0] 40)).heap.size = B + 1 := by simp [hB]
  have H := Lib.hid h
  have hcr := VR0.cell
  have hfr := VR0.free
  have hr1 : RdS (.slice a ws.length c) ws (w.alloc (.cells #[.slice none 0 0] 40)) := Row.below hr (hB.symm ▸ u1)
  have HCF := Lib.hid (contF_any_wm badW (.slice a ws.length c) ws _ hr1 (fun x _ W _ => wm1_any x W))
  clear h
  by_cases hl1 : ws.length < 1
  · have hd : (ws.length : Int) < 1 := by omega
    obtain ⟨rfl, rfl⟩ : rows = [] ∧ ok = false := by
      rcases H.out with ⟨_, h⟩ | ⟨h, _⟩
      · exact h
      · unfold wordB at h; simp at h; omega
    go_enter Tryd.func25, Tryd.ntmps25
    go_wp2_with fail
    refine bodyPost_ret (v := .tuple #[.agg #[.slice none 0 0], .bool false]) (by simp [results, Tryd.results25, go_sem, hcr]) rfl ?_
    exact ⟨_, [], rfl, OwnG.nil _ _ (by decide) (World.ownsRow_nil _ _ _ 1), by rw [hB]; exact u1⟩
  have hd1 : ¬ (ws.length : Int) < 1 := by omega
  by_cases hl2 : 16 < ws.length
  · have hd : (16 : Int) < ws.length := by omega
    obtain ⟨rfl, rfl⟩ : rows = [] ∧ ok = false := by
      rcases H.out with ⟨_, h⟩ | ⟨h, _⟩
      · exact h
      · unfold wordB at h; simp at h; omega
    go_enter Tryd.func25, Tryd.ntmps25
    go_wp2_with fail
    refine bodyPost_ret (v := .tuple #[.agg #[.slice none 0 0], .bool false]) (by simp [results, Tryd.results25, go_sem, hcr]) rfl ?_
    exact ⟨_, [], rfl, OwnG.nil _ _ (by decide) (World.ownsRow_nil _ _ _ 1), by rw [hB]; exact u1⟩
  have hd2 : ¬ (16 : Int) < ws.length := by omega
  have hl16 : ws.length ≤ 16 := by omega
  go_enter Tryd.func25, Tryd.ntmps25
  go_wp2_with fail
  generalize w.alloc (.cells #[.slice none 0 0] 40) = W at *
  refine HCF.out.mono ?_
  rintro e1 w1 ⟨rfl, hb1⟩
  have VR1 := VR0.upd (Upd.of_below hb1) (by omega)
  have hb := u1.trans (hb1.mono (by omega))
  have hz1 : B + 1 ≤ w1.heap.size := by have := hb1.size; omega
  have hrw := hr1.below hb1 rfl
  clear hcr hfr hb1 HCF u1 hr1
  have hcr := VR1.cell
  have hfr := VR1.free
  cases hany : ws.any badW with
  | true =>
    obtain ⟨rfl, rfl⟩ : rows = [] ∧ ok = false := by
      rcases H.out with ⟨_, h⟩ | ⟨h, _⟩
      · exact h
      · unfold wordB at h; rw [hany] at h; simp at h
    clear hany
    go_wp2_with fail
    refine bodyPost_ret (v := .tuple #[.agg #[.slice none 0 0], .bool false]) (by simp [results, Tryd.results25, go_sem, hcr]) rfl ?_
    exact ⟨_, [], rfl, OwnG.nil _ _ (by decide) (World.ownsRow_nil _ _ _ 1), by rw [hB]; exact hb.setCell (by simp) _⟩
  | false =>
    have hwb : wordB ws = true := by unfold wordB; rw [hany]; simp; omega
    obtain ⟨M, hM, hM16, hall⟩ := maxL_bound hwb
    obtain ⟨hrows, rfl⟩ : rows = rowsOf (SW ws M ws.length) ∧ ok = true := by
      rcases H.out with ⟨h, _⟩ | ⟨_, M', h1, h2, h3, h4⟩
      · rw [hwb] at h; cases h
      · obtain rfl : M = M' := by omega
        exact ⟨h3, h4⟩
    have HMX := Lib.hid (max_any (.slice a ws.length c) ws (by omega) w1 hrw)
    rw [hM] at HMX
    have HROWS := Lib.hid hrows
    have HALL := Lib.hid hall
    have HS0 := Lib.hid (SW_zero ws M)
    clear hany hwb hM hrows hall H
    go_wp2_with fail
    refine HMX.out.mono ?_
    rintro e1 w' ⟨rfl, rfl⟩
    clear HMX
    go_wp2_with (at_make; refine wpList_make _ rfl _ _ 93 rfl (B + 1) 116 (.int .u32 0) 4 Tryd.underlying93 infoV rfl .i64 .i64 _ _ M rfl rfl (by omega) (by omega) (by omega) (by unfold maxLen; omega) (by omega) ?_; intro w2 ho2 hb2)
    obtain ⟨D, hD⟩ : ∃ D, w1.heap.size = D := ⟨_, rfl⟩
    rw [hD] at ho2 hb2
    have ho2' : w2.ownsRow (B + 1) 116 1 (.slice (some ⟨D, 0, none⟩) M M) M (sets (SW ws M 0)) := by
      rw [HS0.out, ← sets_zeros]; exact ho2
    first | rw [hD] | skip
    clear ho2 HS0 hcr hfr
    have hBD : B + 1 ≤ D := by omega
    go_loopw [25] (fun i wr => ∃ k : Nat, k ≤ ws.length ∧ i = .int .i64 k ∧ wr.ownsRow (B + 1) 116 1 (.slice (some ⟨D, 0, none⟩) M M) M (sets (SW ws M k)) ∧ Below D w1 wr) (fun i _ => ws.length - (intOf i).toNat)
    case atStart => exact ⟨0, Nat.zero_le _, rfl, ho2', hb2⟩
    case round =>
      clear ho2' hb2
      obtain ⟨k, hk, rfl, ho, hbr⟩ := hrel
      have hszr := hbr.size
      by_cases hlt : k < ws.length
      · obtain ⟨yb, yo, y, rfl, hcy, HY⟩ := Row.intAt (Row.below hrw (hD.symm ▸ hbr)) hlt
        obtain ⟨hy0, hyM⟩ := HALL.out y (List.mem_of_getElem? HY.out)
        by_cases hy : 0 < y
        · obtain ⟨q, rfl⟩ : ∃ q : Nat, y = (q : Int) + 1 := ⟨(y - 1).toNat, by omega⟩
          have hqM : q < M := by omega
          have HP := Lib.hid (SW_put (by omega) HY.out hqM)
          have hsm := SW_small ws M k
          have hln := SW_length ws M k
          have hf : wr.frozen? ⟨D, q, none⟩ = false := ho.frozenAt q
          have hx : wr.cell? ⟨D, q, none⟩ = some (.int .u32 (((SW ws M k).getD q 0 : Nat) : Int)) := by rw [ho.cellAt q (by omega), sets_at (by omega)]
          obtain ⟨p2, HP2⟩ : ∃ z : Int, Hid (z = ((2 ^ k : Nat) : Int)) := ⟨_, Lib.hid rfl⟩
          have hb' : bits BinOp.or IntKind.u32 (((SW ws M k).getD q 0 : Nat) : Int) p2 = (((SW ws M k).getD q 0 ||| 2 ^ k : Nat) : Int) := by rw [HP2.out]; exact bits_or (hsm.getD q) (pow_small (by omega))
          have hst := ho.stored q (.int .u32 (((SW ws M k).getD q 0 ||| 2 ^ k : Nat) : Int))
          rw [← sets_set, ← HP.out] at hst
          generalize (SW ws M k).getD q 0 ||| 2 ^ k = z at *
          generalize (SW ws M k).getD q 0 = x at *
          have HST := Lib.hid hst
          clear hst hsm hln ho
          go_wp2_with fail
          refine wp_region_ord [0, 1, 2, 3, 5] [4] [6] [7, 8, 9] (by kernel_rfl) (by kernel_rfl) (fun _ _ d _ _ h => by cases d <;> exact h) ?_
          simp only [pickOps, List.filterMap_cons, List.filterMap_nil, List.getElem?_cons_succ, List.getElem?_cons_zero]
          repeat quiet_step (fail)
          rw [show IntKind.i64.wrap (q : Int) = (q : Int) by rw [IntKind.wrap_i64]; omega]
          repeat quiet_step (fail)
          try simp only [wpQuiet_nil_eq]
          refine wpSegs_cons ?_
          go_wp2_with fail
          refine (one_at _ k rfl (by omega) p2 HP2.out _).mono ?_
          rintro e1 w' ⟨rfl, rfl⟩
          go_wp2_with fail
          refine ⟨(Below.refl _ _).drew, wpSegs_nil ?_⟩
          go_wp2_with fail
          have hbn : Below D w1 (wr.setCell ⟨D, q, none⟩ (.int .u32 (z : Int))).drew := (hbr.setCell (by simp) _).drew
          have hon := HST.out.1.drew
          clear HST hbr hf hx
          go_roundw
          case rel => exact ⟨k + 1, by omega, by go_num, hon, hbn⟩
          case measure => simp [intOf]; omega
        · have HSK : Hid (SW ws M (k + 1) = SW ws M k) := Lib.hid (SW_skip HY.out (by omega))
          go_wp2_with fail
          go_roundw
          case rel => exact ⟨k + 1, by omega, by go_num, by rw [HSK.out]; exact ho, hbr⟩
          case measure => simp [intOf]; omega
      · obtain rfl : k = ws.length := by omega
        have hbw := hb.trans (hbr.mono (by omega))
        have hRow := Row.of_owns ho
        have HRE := Lib.hid (results_any (.slice (some ⟨D, 0, none⟩) M M) (SW ws M ws.length) (SW_small _ _ _) (by rw [SW_length]; omega) wr (ht.keep hbw hTB) (by rw [SW_length]; exact hRow))
        have VRr := VR1.belowAt hbr (by omega)
        go_wp2_with fail
        refine HRE.out.mono ?_
        rintro e1 w5 ⟨u, vs, rfl, hG, hb5⟩
        obtain ⟨ua, uc, rfl⟩ := owns_shape hG.outer
        have VR5 := VRr.belowAt hb5 (by omega)
        have hcr := VR5.cell
        have hfr := VR5.free
        have HG := Lib.hid hG
        have HB5 := Lib.hid (hbw.trans (hb5.mono (by omega)))
        clear hb5 hG HRE
        go_wp2_with fail
        have hce := (VR5.set (.slice ua vs.length uc)).cell
        refine bodyPost_ret (v := .tuple #[.agg #[.slice ua vs.length uc], .bool true]) (by simp [results, Tryd.results25, go_sem, hce]) rfl ?_
        refine ⟨_, vs, rfl, ?_, by rw [hB]; exact HB5.out.setCell (by simp) _⟩
        rw [hB, HROWS.out]
        exact (HG.out.other (by simp; omega) _).rebase (by omega)
end Go.Proofs.YtehejjmmbjekgaaDoor
