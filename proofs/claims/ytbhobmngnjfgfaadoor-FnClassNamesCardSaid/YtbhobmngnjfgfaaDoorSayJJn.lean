import Derived.Shelf.Strconv.Itoa4
import Derived.Lib.LaidTab
import Derived.Test.YtbhobmngnjfgfaaDoorNamesJn
import Derived.Test.YtbhobmngnjfgfaaDoorSayIJn
/-
  'SaysText' of both.
-/






namespace Go.Proofs
open Go.Shelf
def Tryd.lays173_ren : Go.Shelf.Ren := ⟨fun | 173 => 72 | 246 => 147 | 283 => 187 | 284 => 188 | 285 => 189 | 286 => 190 | 129 => 208 | 317 => 207 | 318 => 209 | 319 => 210 | 320 => 211 | 337 => 205 | 338 => 216 | n => n, fun | 2 => 2 | 3 => 3 | 9 => 9 | 4 => 4 | 171 => 198 | 0 => 0 | 53 => 66 | 37 => 62 | 5 => 5 | 173 => 201 | 212 => 214 | 51 => 97 | 20 => 20 | 213 => 215 | 46 => 140 | 232 => 219 | 233 => 221 | n => n, fun | 17 => 1 | 18 => 2 | 19 => 3 | n => n⟩
theorem Tryd.lays173 : Go.Proofs.LaysM.n173 Tryd.prog Tryd.lays173_ren := {
  mixed := by kernel_rfl
  f129 := Tryd.func208.trans (congrArg some (by kernel_rfl))
  f173 := Tryd.func72.trans (congrArg some (by kernel_rfl))
  f246 := Tryd.func147.trans (congrArg some (by kernel_rfl))
  f283 := Tryd.func187.trans (congrArg some (by kernel_rfl))
  f284 := Tryd.func188.trans (congrArg some (by kernel_rfl))
  f285 := Tryd.func189.trans (congrArg some (by kernel_rfl))
  f286 := Tryd.func190.trans (congrArg some (by kernel_rfl))
  f317 := Tryd.func207.trans (congrArg some (by kernel_rfl))
  f318 := Tryd.func209.trans (congrArg some (by kernel_rfl))
  f319 := Tryd.func210.trans (congrArg some (by kernel_rfl))
  f320 := Tryd.func211.trans (congrArg some (by kernel_rfl))
  f337 := Tryd.func205.trans (congrArg some (by kernel_rfl))
  f338 := Tryd.func216.trans (congrArg some (by kernel_rfl))
  t0 := Tryd.underlying0
  a0 := Tryd.isAgg0
  z0 := Tryd.sizeOf0
  v0 := Tryd.zeroValue0
  t2 := Tryd.underlying2
  a2 := Tryd.isAgg2
  z2 := Tryd.sizeOf2
  v2 := Tryd.zeroValue2
  t3 := Tryd.underlying3
  a3 := Tryd.isAgg3
  z3 := Tryd.sizeOf3
  v3 := Tryd.zeroValue3
  t4 := Tryd.underlying4
  a4 := Tryd.isAgg4
  z4 := Tryd.sizeOf4
  v4 := Tryd.zeroValue4
  t5 := Tryd.underlying5
  a5 := Tryd.isAgg5
  z5 := Tryd.sizeOf5
  v5 := Tryd.zeroValue5
  t9 := Tryd.underlying9
  a9 := Tryd.isAgg9
  z9 := Tryd.sizeOf9
  v9 := Tryd.zeroValue9
  t20 := Tryd.underlying20
  a20 := Tryd.isAgg20
  z20 := Tryd.sizeOf20
  v20 := Tryd.zeroValue20
  t37 := Tryd.underlying62
  a37 := Tryd.isAgg62
  z37 := Tryd.sizeOf62
  v37 := Tryd.zeroValue62
  t46 := Tryd.underlying140
  a46 := Tryd.isAgg140
  z46 := Tryd.sizeOf140
  v46 := Tryd.zeroValue140
  t51 := Tryd.underlying97
  a51 := Tryd.isAgg97
  z51 := Tryd.sizeOf97
  v51 := Tryd.zeroValue97
  t53 := Tryd.underlying66
  a53 := Tryd.isAgg66
  z53 := Tryd.sizeOf66
  v53 := Tryd.zeroValue66
  t171 := Tryd.underlying198
  a171 := Tryd.isAgg198
  z171 := Tryd.sizeOf198
  v171 := Tryd.zeroValue198
  t173 := Tryd.underlying201
  a173 := Tryd.isAgg201
  z173 := Tryd.sizeOf201
  v173 := Tryd.zeroValue201
  t212 := Tryd.underlying214
  a212 := Tryd.isAgg214
  z212 := Tryd.sizeOf214
  v212 := Tryd.zeroValue214
  t213 := Tryd.underlying215
  a213 := Tryd.isAgg215
  z213 := Tryd.sizeOf215
  t232 := Tryd.underlying219
  a232 := Tryd.isAgg219
  z232 := Tryd.sizeOf219
  v232 := Tryd.zeroValue219
  t233 := Tryd.underlying221
  a233 := Tryd.isAgg221
  z233 := Tryd.sizeOf221
  v233 := Tryd.zeroValue221
  g17 := by kernel_rfl
  g18 := by kernel_rfl
  g19 := by kernel_rfl
  i0 := by kernel_rfl
  i2 := by kernel_rfl
  i3 := by kernel_rfl
  i4 := by kernel_rfl
  i5 := by kernel_rfl
  i9 := by kernel_rfl
  i20 := by kernel_rfl
  i37 := by kernel_rfl
  i46 := by kernel_rfl
  i51 := by kernel_rfl
  i53 := by kernel_rfl
  i171 := by kernel_rfl
  i173 := by kernel_rfl
  i212 := by kernel_rfl
  i232 := by kernel_rfl
  i233 := by kernel_rfl
  m17 := by kernel_rfl
  m18 := by kernel_rfl
  m19 := by kernel_rfl }
end Go.Proofs
namespace Go.Proofs.YtbhobmngnjfgfaaDoor
open Go.RowKit Go.Lib

/-- The table of the library's reads as the text lays it. -/
def P10 (w : World) : Prop := TabIs Tryd.prog w "internal/strconv.uint64pow10" .u64 pow10Tab
theorem gPow : Tryd.prog.globalNamed "internal/strconv.uint64pow10" = some 1 := by kernel_rfl
theorem varIs_below {B g : Nat} {W W' : World} {n : String} {cs : Array Value} (h : Below B W W') (hg : Tryd.prog.globalNamed n = some g) (hgB : g < B) (hv : W.var? Tryd.prog n = some cs) : W'.var? Tryd.prog n = some cs := by
  unfold World.var? at hv ⊢
  simp only [hg, Option.bind_some] at hv ⊢
  rw [h.block g hgB]
  exact hv
theorem P10.keep {W W' : World} {B : Nat} (h : P10 W) (hb : Below B W W') (hB : 1 < B) : P10 W' := varIs_below hb gPow hB h
theorem CN.keep {W W' : World} {B : Nat} (h : CN W) (hb : Below B W W') (hB : W.heap.size = B) : CN W' := h.below (hB.symm ▸ hb)

theorem format_any (n : Int) (h0 : -9223372036854775808 ≤ n) (h1 : n ≤ 9223372036854775807) (w : World) (hp : P10 w) :
    Calls Tryd.prog 72 #[.int .i64 n, .int .i64 10] w fun e w' => e = .returned (.string ⟨(itoa n).toArray⟩) ∧ Below w.heap.size w w' := by
  refine (Any.strconv_FormatInt_10 Tryd.lays173 n h0 h1 w hp).mono ?_
  rintro e w' ⟨he, k, os, rfl⟩
  refine ⟨he, ?_⟩
  have hd : ∀ k, Below w.heap.size w (w.drewN k) := fun k => by
    induction k with
    | zero => simpa [World.drewN_zero] using Below.refl w.heap.size w
    | succ k ih => exact ⟨ih.os, ih.tape, ih.output, ih.size, ih.block⟩
  have h := hd k
  refine ⟨h.os, h.tape, h.output, by have := h.size; simp [Sort.grow], fun i hi => ?_⟩
  rw [← h.block i hi]
  have := h.size
  exact Array.getElem?_append_left (by omega)

/-- What a statement says. -/
def sayT (C Y N : Int) : ByteArray :=
  if ¬ (0 ≤ Y ∧ Y ≤ 1) then ⟨#[]⟩
  else if C = 11 then (if Y = 1 then (⟨#[119, 105, 100, 116, 104, 32, 97, 116, 32, 109, 111, 115, 116, 32]⟩ : ByteArray) else ⟨#[119, 105, 100, 116, 104, 32, 109, 111, 114, 101, 32, 116, 104, 97, 110, 32]⟩) ++ ⟨(itoa N).toArray⟩
  else if ¬ (1 ≤ C ∧ C ≤ 10) then ⟨#[]⟩
  else (if Y = 1 then (⟨#[105, 115, 32]⟩ : ByteArray) else ⟨#[105, 115, 32, 110, 111, 116, 32]⟩) ++ nameOf C
theorem sayT_bad {C Y N : Int} (h : decide (0 ≤ Y ∧ Y ≤ 1) = false) : sayT C Y N = ⟨#[]⟩ := by
  unfold sayT
  rw [decide_eq_false_iff_not] at h
  rw [if_pos h]
theorem sayT_1w (N : Int) : sayT 11 1 N = (⟨#[119, 105, 100, 116, 104, 32, 97, 116, 32, 109, 111, 115, 116, 32]⟩ : ByteArray) ++ ⟨(itoa N).toArray⟩ := rfl
theorem sayT_0w (N : Int) : sayT 11 0 N = (⟨#[119, 105, 100, 116, 104, 32, 109, 111, 114, 101, 32, 116, 104, 97, 110, 32]⟩ : ByteArray) ++ ⟨(itoa N).toArray⟩ := rfl
theorem sayT_none {C Y N : Int} (hC : ¬ (1 ≤ C ∧ C ≤ 10)) (h11 : C ≠ 11) : sayT C Y N = ⟨#[]⟩ := by
  unfold sayT
  by_cases hy : 0 ≤ Y ∧ Y ≤ 1
  · rw [if_neg (fun h => h hy), if_neg h11, if_pos hC]
  · rw [if_pos hy]
theorem sayT_1 {C N : Int} (hC : 1 ≤ C ∧ C ≤ 10) : sayT C 1 N = (⟨#[105, 115, 32]⟩ : ByteArray) ++ nameOf C := by
  unfold sayT
  rw [if_neg (by omega), if_neg (by omega), if_neg (by omega), if_pos rfl]
theorem sayT_0 {C N : Int} (hC : 1 ≤ C ∧ C ≤ 10) : sayT C 0 N = (⟨#[105, 115, 32, 110, 111, 116, 32]⟩ : ByteArray) ++ nameOf C := by
  unfold sayT
  rw [if_neg (by omega), if_neg (by omega), if_neg (by omega), if_neg (by omega)]
theorem nameOf_none {C : Int} (h : ¬ (1 ≤ C ∧ C ≤ 10)) : nameOf C = ⟨#[]⟩ := if_neg h
theorem nameOf_some {C : Int} (h : 1 ≤ C ∧ C ≤ 10) : ∃ L : List UInt8, nameOf C = ⟨L.toArray⟩ ∧ L ≠ [] ∧ L.length ≤ 20 := by
  have hn : nameOf C = cn.getD (C - 1).toNat ByteArray.empty := if_pos h
  rw [hn]
  have : (C - 1).toNat < 10 := by omega
  generalize (C - 1).toNat = k at *
  have key : ∀ k : Fin 10, ((cn.getD k.val ByteArray.empty).data.toList ≠ []) ∧ (cn.getD k.val ByteArray.empty).data.toList.length ≤ 20 := by decide +kernel
  obtain ⟨h1, h2⟩ := key ⟨k, this⟩
  exact ⟨(cn.getD k ByteArray.empty).data.toList, by simp, h1, h2⟩

set_option maxHeartbeats 4000000 in
set_option maxRecDepth 100000 in
theorem specSaysText (C Y N : Int) (h0 : -9223372036854775808 ≤ N) (h1 : N ≤ 9223372036854775807) (w : World) :
    Calls Tryd.prog 12 #[.agg #[.int .i64 C, .int .i64 Y, .int .i64 N]] w fun e w' => e = .returned (.string (sayT C Y N)) ∧ Below w.heap.size w w' := by
  obtain ⟨B, hB⟩ : ∃ B, w.heap.size = B := ⟨_, rfl⟩
  obtain ⟨W0, hW0⟩ : ∃ W0, W0 = w.alloc (.cells #[.int .i64 C, .int .i64 Y, .int .i64 N] 25) := ⟨_, rfl⟩
  have u0 : Below B w W0 := by rw [hW0, ← hB]; exact below_alloc' _ _
  have V : VC 25 B #[.int .i64 C, .int .i64 Y, .int .i64 N] W0 := by rw [hW0]; exact VC.new hB
  have hz0 : W0.heap.size = B + 1 := by rw [hW0]; simp [hB]
  have c0 : W0.cell? ⟨B, 0, none⟩ = some (.int .i64 C) := by unfold VC at V; simp [World.cell?, V]
  have c1 : W0.cell? ⟨B, 1, none⟩ = some (.int .i64 Y) := by unfold VC at V; simp [World.cell?, V]
  have c2 : W0.cell? ⟨B, 2, none⟩ = some (.int .i64 N) := by unfold VC at V; simp [World.cell?, V]
  obtain ⟨qy, hqy⟩ : ∃ q, decide (0 ≤ Y ∧ Y ≤ 1) = q := ⟨_, rfl⟩
  have HI := fun W => Lib.hid (l1In_any Y 0 1 W)
  have CT : Hid (∀ W, Below B w W → Calls Tryd.prog 69 #[.int .i64 N] W fun e w' => e = .returned (.string ⟨(itoa N).toArray⟩) ∧ Below W.heap.size W w') := Lib.hid fun W _ => int_any N h0 h1 W
  have CC : Hid (Calls Tryd.prog 70 #[.int .i64 C] W0 fun e w' => e = .returned (.string (nameOf C)) ∧ Below W0.heap.size W0 w') := Lib.hid (specClassName C W0)
  have hil : (itoa N).length ≤ 21 := itoa_length_le N h0 h1
  rw [hqy] at HI
  have HU0 := Lib.hid u0
  have HQY := Lib.hid hqy
  clear V hqy u0
  cases qy with
  | false =>
    have HS := Lib.hid (sayT_bad (C := C) (N := N) HQY.out)
    rw [HS.out]
    go_enter Tryd.func12, Tryd.ntmps12
    go_wp2_with fail
    rw [← hW0]
    clear hW0
    refine (HI _).out.mono ?_
    rintro e1 w' ⟨rfl, rfl⟩
    go_wp2_with fail
    go_ret
    exact ⟨rfl, by rw [hB]; exact HU0.out⟩
  | true =>
    have hy : 0 ≤ Y ∧ Y ≤ 1 := by have := HQY.out; rwa [decide_eq_true_eq] at this
    clear HQY
    by_cases hC : C = 11
    · subst hC
      obtain ⟨IT, hIT⟩ : ∃ L, itoa N = L := ⟨_, rfl⟩
      by_cases h1y : Y = 1
      · subst h1y
        rw [sayT_1w]
        rw [hIT] at CT hil ⊢
        clear hIT hy
        go_enter Tryd.func12, Tryd.ntmps12
        go_wp2_with fail
        rw [← hW0]
        clear hW0
        refine (HI _).out.mono ?_
        rintro e1 w' ⟨rfl, rfl⟩
        go_wp2_with fail
        refine (CT.out _ HU0.out).mono ?_
        rintro e1 w1 ⟨rfl, hb1⟩
        have HB1 := Lib.hid (HU0.out.trans (hb1.mono (by omega)))
        clear hb1 CT
        go_wp2_with fail
        go_ret
        exact ⟨rfl, by rw [hB]; exact HB1.out⟩
      · obtain rfl : Y = 0 := by omega
        rw [sayT_0w]
        rw [hIT] at CT hil ⊢
        clear hIT h1y hy
        go_enter Tryd.func12, Tryd.ntmps12
        go_wp2_with fail
        rw [← hW0]
        clear hW0
        refine (HI _).out.mono ?_
        rintro e1 w' ⟨rfl, rfl⟩
        go_wp2_with fail
        refine (CT.out _ HU0.out).mono ?_
        rintro e1 w1 ⟨rfl, hb1⟩
        have HB1 := Lib.hid (HU0.out.trans (hb1.mono (by omega)))
        clear hb1 CT
        go_wp2_with fail
        go_ret
        exact ⟨rfl, by rw [hB]; exact HB1.out⟩
    · have hC11 : (C == 11) = false := by rw [beq_eq_false_iff_ne]; exact hC
      by_cases hin : 1 ≤ C ∧ C ≤ 10
      · obtain ⟨L, hL, hne, hlen⟩ := nameOf_some hin
        have he : L.isEmpty = false := by simpa using hne
        by_cases h1y : Y = 1
        · subst h1y
          have HS := Lib.hid (sayT_1 (N := N) hin)
          rw [hL] at HS CC
          rw [HS.out]
          clear HS hL hin hC hne hy
          go_enter Tryd.func12, Tryd.ntmps12
          go_wp2_with fail
          rw [← hW0]
          clear hW0
          refine (HI _).out.mono ?_
          rintro e1 w' ⟨rfl, rfl⟩
          go_wp2_with fail
          refine CC.out.mono ?_
          rintro e1 w1 ⟨rfl, hb1⟩
          have HB1 := Lib.hid (HU0.out.trans (hb1.mono (by omega)))
          have d0 : w1.cell? ⟨B, 0, none⟩ = some (.int .i64 C) := (hb1.cell (p := ⟨B, 0, none⟩) (by simp; omega)).trans c0
          have d1 := (hb1.cell (p := ⟨B, 1, none⟩) (by simp; omega)).trans c1
          clear hb1 CC
          go_wp2_with fail
          go_ret
          exact ⟨rfl, by rw [hB]; exact HB1.out⟩
        · obtain rfl : Y = 0 := by omega
          have HS := Lib.hid (sayT_0 (N := N) hin)
          rw [hL] at HS CC
          rw [HS.out]
          clear HS hL hin hC hne hy h1y
          go_enter Tryd.func12, Tryd.ntmps12
          go_wp2_with fail
          rw [← hW0]
          clear hW0
          refine (HI _).out.mono ?_
          rintro e1 w' ⟨rfl, rfl⟩
          go_wp2_with fail
          refine CC.out.mono ?_
          rintro e1 w1 ⟨rfl, hb1⟩
          have HB1 := Lib.hid (HU0.out.trans (hb1.mono (by omega)))
          have d0 : w1.cell? ⟨B, 0, none⟩ = some (.int .i64 C) := (hb1.cell (p := ⟨B, 0, none⟩) (by simp; omega)).trans c0
          have d1 := (hb1.cell (p := ⟨B, 1, none⟩) (by simp; omega)).trans c1
          clear hb1 CC
          go_wp2_with fail
          go_ret
          exact ⟨rfl, by rw [hB]; exact HB1.out⟩
      · have HS := Lib.hid (sayT_none (Y := Y) (N := N) hin hC)
        have hnm := nameOf_none hin
        rw [hnm] at CC
        rw [HS.out]
        clear HS hnm hin hC
        go_enter Tryd.func12, Tryd.ntmps12
        go_wp2_with fail
        rw [← hW0]
        clear hW0
        refine (HI _).out.mono ?_
        rintro e1 w' ⟨rfl, rfl⟩
        go_wp2_with fail
        refine CC.out.mono ?_
        rintro e1 w1 ⟨rfl, hb1⟩
        have HB1 := Lib.hid (HU0.out.trans (hb1.mono (by omega)))
        have d0 : w1.cell? ⟨B, 0, none⟩ = some (.int .i64 C) := (hb1.cell (p := ⟨B, 0, none⟩) (by simp; omega)).trans c0
        have d1 := (hb1.cell (p := ⟨B, 1, none⟩) (by simp; omega)).trans c1
        clear hb1 CC
        go_wp2_with fail
        go_ret
        exact ⟨rfl, by rw [hB]; exact HB1.out⟩

set_option maxHeartbeats 4000000 in
set_option maxRecDepth 100000 in
theorem implSaysText (C Y N : Int) (h0 : -9223372036854775808 ≤ N) (h1 : N ≤ 9223372036854775807) (w : World) (hp : P10 w) (hcn : CN w) :
    Calls Tryd.prog 14 #[.agg #[.int .i64 C, .int .i64 Y, .int .i64 N]] w fun e w' => e = .returned (.string (sayT C Y N)) ∧ Below w.heap.size w w' := by
  obtain ⟨B, hB⟩ : ∃ B, w.heap.size = B := ⟨_, rfl⟩
  obtain ⟨W0, hW0⟩ : ∃ W0, W0 = w.alloc (.cells #[.int .i64 C, .int .i64 Y, .int .i64 N] 25) := ⟨_, rfl⟩
  have u0 : Below B w W0 := by rw [hW0, ← hB]; exact below_alloc' _ _
  have V : VC 25 B #[.int .i64 C, .int .i64 Y, .int .i64 N] W0 := by rw [hW0]; exact VC.new hB
  have hz0 : W0.heap.size = B + 1 := by rw [hW0]; simp [hB]
  have c0 : W0.cell? ⟨B, 0, none⟩ = some (.int .i64 C) := by unfold VC at V; simp [World.cell?, V]
  have c1 : W0.cell? ⟨B, 1, none⟩ = some (.int .i64 Y) := by unfold VC at V; simp [World.cell?, V]
  have c2 : W0.cell? ⟨B, 2, none⟩ = some (.int .i64 N) := by unfold VC at V; simp [World.cell?, V]
  obtain ⟨qy, hqy⟩ : ∃ q, decide (0 ≤ Y ∧ Y ≤ 1) = q := ⟨_, rfl⟩
  have HI := fun W => Lib.hid (inRange_any Y 0 1 W)
  have hPB : 1 < B := by
    rw [← hB]
    have h := TabIs.cell hp gPow 0 (by decide +kernel)
    exact World.block_lt_of_cell? w _ h
  have CT : Hid (∀ W, Below B w W → Calls Tryd.prog 72 #[.int .i64 N, .int .i64 10] W fun e w' => e = .returned (.string ⟨(itoa N).toArray⟩) ∧ Below W.heap.size W w') := Lib.hid fun W hW => format_any N h0 h1 W (hp.keep hW hPB)
  have CC : Hid (Calls Tryd.prog 64 #[.int .i64 C] W0 fun e w' => e = .returned (.string (nameOf C)) ∧ W0 = w') := Lib.hid (implClassName C W0 (hcn.keep u0 hB))
  have hil : (itoa N).length ≤ 21 := itoa_length_le N h0 h1
  rw [hqy] at HI
  have HU0 := Lib.hid u0
  have HQY := Lib.hid hqy
  clear V hqy u0 hp hcn
  cases qy with
  | false =>
    have HS := Lib.hid (sayT_bad (C := C) (N := N) HQY.out)
    rw [HS.out]
    generalize nameOf C = nm at *
    go_enter Tryd.func14, Tryd.ntmps14
    go_wp2_with fail
    rw [← hW0]
    clear hW0
    refine CC.out.mono ?_
    rintro e1 w' ⟨rfl, rfl⟩
    clear CC
    go_wp2_with fail
    refine (HI _).out.mono ?_
    rintro e1 w' ⟨rfl, rfl⟩
    go_wp2_with fail
    go_ret
    exact ⟨rfl, by rw [hB]; exact HU0.out⟩
  | true =>
    have hy : 0 ≤ Y ∧ Y ≤ 1 := by have := HQY.out; rwa [decide_eq_true_eq] at this
    clear HQY
    by_cases hC : C = 11
    · subst hC
      obtain ⟨IT, hIT⟩ : ∃ L, itoa N = L := ⟨_, rfl⟩
      have hnm : nameOf 11 = ⟨#[]⟩ := nameOf_none (by omega)
      rw [hnm] at CC
      clear hnm
      by_cases h1y : Y = 1
      · subst h1y
        rw [sayT_1w]
        rw [hIT] at CT hil ⊢
        clear hIT hy
        go_enter Tryd.func14, Tryd.ntmps14
        go_wp2_with fail
        rw [← hW0]
        clear hW0
        refine CC.out.mono ?_
        rintro e1 w' ⟨rfl, rfl⟩
        clear CC
        go_wp2_with fail
        refine (HI _).out.mono ?_
        rintro e1 w' ⟨rfl, rfl⟩
        go_wp2_with fail
        refine (CT.out _ HU0.out).mono ?_
        rintro e1 w1 ⟨rfl, hb1⟩
        have HB1 := Lib.hid (HU0.out.trans (hb1.mono (by omega)))
        clear hb1 CT
        go_wp2_with fail
        go_ret
        exact ⟨rfl, by rw [hB]; exact HB1.out⟩
      · obtain rfl : Y = 0 := by omega
        rw [sayT_0w]
        rw [hIT] at CT hil ⊢
        clear hIT h1y hy
        go_enter Tryd.func14, Tryd.ntmps14
        go_wp2_with fail
        rw [← hW0]
        clear hW0
        refine CC.out.mono ?_
        rintro e1 w' ⟨rfl, rfl⟩
        clear CC
        go_wp2_with fail
        refine (HI _).out.mono ?_
        rintro e1 w' ⟨rfl, rfl⟩
        go_wp2_with fail
        refine (CT.out _ HU0.out).mono ?_
        rintro e1 w1 ⟨rfl, hb1⟩
        have HB1 := Lib.hid (HU0.out.trans (hb1.mono (by omega)))
        clear hb1 CT
        go_wp2_with fail
        go_ret
        exact ⟨rfl, by rw [hB]; exact HB1.out⟩
    · have hC11 : (C == 11) = false := by rw [beq_eq_false_iff_ne]; exact hC
      by_cases hin : 1 ≤ C ∧ C ≤ 10
      · obtain ⟨L, hL, hne, hlen⟩ := nameOf_some hin
        have he : L.isEmpty = false := by simpa using hne
        by_cases h1y : Y = 1
        · subst h1y
          have HS := Lib.hid (sayT_1 (N := N) hin)
          rw [hL] at HS CC
          rw [HS.out]
          clear HS hL hin hC hne hy
          go_enter Tryd.func14, Tryd.ntmps14
          go_wp2_with fail
          rw [← hW0]
          clear hW0
          refine CC.out.mono ?_
          rintro e1 w' ⟨rfl, rfl⟩
          clear CC
          go_wp2_with fail
          refine (HI _).out.mono ?_
          rintro e1 w' ⟨rfl, rfl⟩
          go_wp2_with fail
          go_ret
          exact ⟨rfl, by rw [hB]; exact HU0.out⟩
        · obtain rfl : Y = 0 := by omega
          have HS := Lib.hid (sayT_0 (N := N) hin)
          rw [hL] at HS CC
          rw [HS.out]
          clear HS hL hin hC hne hy h1y
          go_enter Tryd.func14, Tryd.ntmps14
          go_wp2_with fail
          rw [← hW0]
          clear hW0
          refine CC.out.mono ?_
          rintro e1 w' ⟨rfl, rfl⟩
          clear CC
          go_wp2_with fail
          refine (HI _).out.mono ?_
          rintro e1 w' ⟨rfl, rfl⟩
          go_wp2_with fail
          go_ret
          exact ⟨rfl, by rw [hB]; exact HU0.out⟩
      · have HS := Lib.hid (sayT_none (Y := Y) (N := N) hin hC)
        have hnm := nameOf_none hin
        rw [hnm] at CC
        rw [HS.out]
        clear HS hnm hin hC
        go_enter Tryd.func14, Tryd.ntmps14
        go_wp2_with fail
        rw [← hW0]
        clear hW0
        refine CC.out.mono ?_
        rintro e1 w' ⟨rfl, rfl⟩
        clear CC
        go_wp2_with fail
        refine (HI _).out.mono ?_
        rintro e1 w' ⟨rfl, rfl⟩
        go_wp2_with fail
        go_ret
        exact ⟨rfl, by rw [hB]; exact HU0.out⟩
end Go.Proofs.YtbhobmngnjfgfaaDoor
