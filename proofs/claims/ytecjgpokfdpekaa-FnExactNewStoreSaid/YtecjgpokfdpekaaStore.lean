/-
  The kind Store (a graph, three empty lists): the helpers of the laws; 'NewStore' of both.
-/
import Derived.Test.YtecjgpokfdpekaaClone
import Derived.Test.YtecjgpokfdpekaaComplement
namespace Go.Proofs.Ytecjgpokfdpekaa
open Go.RowKit

def StRes (w : World) (rows : List (List Int)) (ok : Bool) (e : Ending) (w' : World) : Prop :=
  ∃ u vs, e = .returned (.tuple #[Value.agg #[u, .slice none 0 0, .slice none 0 0, .slice none 0 0], .bool ok]) ∧ OwnG w' w.heap.size 43 2 u vs (rows.map ints) ∧ Below w.heap.size w w'

theorem eqEdits_nil (w : World) : Calls Try.prog 35 #[.slice none 0 0, .slice none 0 0] w fun e w' => e = .returned (.bool true) ∧ w = w' := by
  go_enter Try.func35, Try.ntmps35
  go_wp2_with fail
  go_loopw [5] (fun i wr => i = .int .i64 0 ∧ w = wr) (fun i _ => 0)
  case atStart => exact ⟨rfl, rfl⟩
  case round =>
    obtain ⟨rfl, rfl⟩ := hrel
    go_wp2_with fail
    go_ret
    exact ⟨rfl, rfl⟩
theorem eqCerts_nil (w : World) : Calls Try.prog 36 #[.slice none 0 0, .slice none 0 0] w fun e w' => e = .returned (.bool true) ∧ w = w' := by
  go_enter Try.func36, Try.ntmps36
  go_wp2_with fail
  go_loopw [5] (fun i wr => i = .int .i64 0 ∧ w = wr) (fun i _ => 0)
  case atStart => exact ⟨rfl, rfl⟩
  case round =>
    obtain ⟨rfl, rfl⟩ := hrel
    go_wp2_with fail
    go_ret
    exact ⟨rfl, rfl⟩
theorem markEdits_nil (K : Int) (w : World) : Calls Try.prog 39 #[.slice none 0 0, .int .i64 K] w fun e w' => e = .returned (.int .i64 K) ∧ w = w' := by
  go_enter Try.func39, Try.ntmps39
  go_wp2_with fail
  go_loopw [1, 5] (fun q i wr => i = .int .i64 0 ∧ q = .int .i64 K ∧ w = wr) (fun _ i _ => 0)
  case atStart => exact ⟨rfl, rfl, rfl⟩
  case round =>
    obtain ⟨rfl, rfl, rfl⟩ := hrel
    go_wp2_with fail
    go_ret
    exact ⟨rfl, rfl⟩
theorem markCerts_nil (K : Int) (w : World) : Calls Try.prog 40 #[.slice none 0 0, .int .i64 K] w fun e w' => e = .returned (.int .i64 K) ∧ w = w' := by
  go_enter Try.func40, Try.ntmps40
  go_wp2_with fail
  go_loopw [1, 5] (fun q i wr => i = .int .i64 0 ∧ q = .int .i64 K ∧ w = wr) (fun _ i _ => 0)
  case atStart => exact ⟨rfl, rfl, rfl⟩
  case round =>
    obtain ⟨rfl, rfl, rfl⟩ := hrel
    go_wp2_with fail
    go_ret
    exact ⟨rfl, rfl⟩
theorem heldEdits_nil (K : Int) (w : World) : Calls Try.prog 42 #[.slice none 0 0, .int .i64 K] w fun e w' => e = .returned (.int .i64 K) ∧ w = w' := by
  go_enter Try.func42, Try.ntmps42
  go_wp2_with fail
  go_loopw [1, 5] (fun q i wr => i = .int .i64 0 ∧ q = .int .i64 K ∧ w = wr) (fun _ i _ => 0)
  case atStart => exact ⟨rfl, rfl, rfl⟩
  case round =>
    obtain ⟨rfl, rfl, rfl⟩ := hrel
    go_wp2_with fail
    go_ret
    exact ⟨rfl, rfl⟩
theorem heldCerts_nil (K : Int) (w : World) : Calls Try.prog 43 #[.slice none 0 0, .int .i64 K] w fun e w' => e = .returned (.int .i64 K) ∧ w = w' := by
  go_enter Try.func43, Try.ntmps43
  go_wp2_with fail
  go_loopw [1, 5] (fun q i wr => i = .int .i64 0 ∧ q = .int .i64 K ∧ w = wr) (fun _ i _ => 0)
  case atStart => exact ⟨rfl, rfl, rfl⟩
  case round =>
    obtain ⟨rfl, rfl, rfl⟩ := hrel
    go_wp2_with fail
    go_ret
    exact ⟨rfl, rfl⟩

theorem VC.setAt {t : TypeId} {b : Nat} {cs : Array Value} {w : World} (h : VC t b cs w) (i : Nat) (u : Value) : VC t b (cs.setIfInBounds i u) (w.setCell ⟨b, i, none⟩ u) := by
  have hl := h.lt
  unfold VC at h ⊢
  unfold World.setCell
  simp only [Array.getElem?_modify]
  simp [h]
theorem VC.freeAt {t : TypeId} {b : Nat} {cs : Array Value} {w : World} (h : VC t b cs w) (i : Nat) : w.frozen? ⟨b, i, none⟩ = false := by
  unfold VC at h
  simp [World.frozen?, h]
theorem VC.at4 {t : TypeId} {b : Nat} {c0 c1 c2 c3 : Value} {w : World} (h : VC t b #[c0, c1, c2, c3] w) :
    w.cell? ⟨b, 0, none⟩ = some c0 ∧ w.cell? ⟨b, 1, none⟩ = some c1 ∧ w.cell? ⟨b, 2, none⟩ = some c2 ∧ w.cell? ⟨b, 3, none⟩ = some c3 := by
  unfold VC at h
  refine ⟨?_, ?_, ?_, ?_⟩ <;> simp [World.cell?, h]

set_option maxHeartbeats 2000000 in
theorem eqT_k {v1 v2 : Value} {xss : List (List Int)} {w : World} (h1 : RdSS v1 xss w) (h2 : RdSS v2 xss w) :
    Calls Try.prog 9 #[Value.agg #[v1, .slice none 0 0, .slice none 0 0, .slice none 0 0], Value.agg #[v2, .slice none 0 0, .slice none 0 0, .slice none 0 0]] w fun e w' => e = .returned (.bool true) ∧ Upd 0 0 w w' := by
  obtain ⟨B, hB⟩ : ∃ B, w.heap.size = B := ⟨_, rfl⟩
  obtain ⟨W0, hW0⟩ : ∃ W0, W0 = (w.alloc (.cells #[v1, .slice none 0 0, .slice none 0 0, .slice none 0 0] 30)).alloc (.cells #[v2, .slice none 0 0, .slice none 0 0, .slice none 0 0] 30) := ⟨_, rfl⟩
  have u0 : Below B w W0 := by rw [hW0]; exact ((Below.refl _ _ : Below B w w).alloc (by omega) _).alloc (by simp; omega) _
  have V1 : VC 30 B #[v1, .slice none 0 0, .slice none 0 0, .slice none 0 0] W0 := by rw [hW0]; exact (VC.new hB).upd (Upd.alloc _ _) (by omega)
  have V2 : VC 30 (B + 1) #[v2, .slice none 0 0, .slice none 0 0, .slice none 0 0] W0 := by rw [hW0]; exact VC.new (by simp [hB])
  have hz0 : W0.heap.size = B + 2 := by rw [hW0]; simp [hB]
  have CE := Lib.hid (eqG_k (h1.below u0 hB) (h2.below u0 hB))
  obtain ⟨a1, c1, rfl⟩ := h1.shape
  obtain ⟨a2, c2, rfl⟩ := h2.shape
  obtain ⟨p0, p1, p2, p3⟩ := V1.at4
  obtain ⟨q0, q1, q2, q3⟩ := V2.at4
  go_enter Try.func9, Try.ntmps9
  go_wp2_with fail
  rw [← hW0]
  clear hW0
  refine CE.out.mono ?_
  rintro e w1 ⟨rfl, u⟩
  have V1' := V1.upd u (by omega)
  have V2' := V2.upd u (by omega)
  have hb := u.below u0 (by omega) (by omega)
  clear p0 p1 p2 p3 q0 q1 q2 q3 CE u
  obtain ⟨p0, p1, p2, p3⟩ := V1'.at4
  obtain ⟨q0, q1, q2, q3⟩ := V2'.at4
  go_wp2_with fail
  refine (eqEdits_nil w1).mono ?_
  rintro e w' ⟨rfl, rfl⟩
  go_wp2_with fail
  refine (eqEdits_nil w1).mono ?_
  rintro e w' ⟨rfl, rfl⟩
  go_wp2_with fail
  refine (eqCerts_nil w1).mono ?_
  rintro e w' ⟨rfl, rfl⟩
  go_wp2_with fail
  go_ret
  exact ⟨rfl, Upd.of_below (by rw [hB]; exact hb)⟩

set_option maxHeartbeats 2000000 in
theorem markT_k {lo hi : Nat} {v : Value} {xss : List (List Int)} {w : World} (h : OwSS lo hi v xss w) {k : Nat} {K K' : Int} (hK : K = k) (hK' : K' = ((k + total xss : Nat) : Int)) (hk : k + total xss ≤ 1000000000) (hn : xss.length ≤ 1000000000) :
    Calls Try.prog 12 #[Value.agg #[v, .slice none 0 0, .slice none 0 0, .slice none 0 0], .int .i64 K] w fun e w' => e = .returned (.int .i64 K') ∧ OwSS lo hi v (markedFrom k xss) w' ∧ Upd lo hi w w' := by
  obtain ⟨B, hB⟩ : ∃ B, w.heap.size = B := ⟨_, rfl⟩
  obtain ⟨W0, hW0⟩ : ∃ W0, W0 = w.alloc (.cells #[v, .slice none 0 0, .slice none 0 0, .slice none 0 0] 30) := ⟨_, rfl⟩
  have u0 : Upd 0 0 w W0 := by rw [hW0]; exact Upd.alloc _ _
  have V1 : VC 30 B #[v, .slice none 0 0, .slice none 0 0, .slice none 0 0] W0 := by rw [hW0]; exact VC.new hB
  have hhi : ∀ y, lo ≤ y ∧ y < hi → True := fun _ _ => trivial
  have hO := h.upd u0 (by omega)
  have hHB : hi ≤ B ∨ True := .inr trivial
  obtain ⟨a1, c1, rfl⟩ := h.shape
  obtain ⟨vs, hG, hh⟩ := h.ex
  have hG0 := hG.below (by rw [hB]; exact (by rw [hW0, ← hB]; exact below_alloc' _ _ : Below B w W0))
  have hSne : ∀ b, (∃ x ∈ vs, x.ownBlock = some b) → b < B ∧ lo ≤ b ∧ b < hi := fun b hb => ⟨hB ▸ (hG.lt (.inr hb)).2, (hG.lt (.inr hb)).1, hh b (.inr hb)⟩
  have CM := Lib.hid (markGraph_any (.slice a1 xss.length c1) vs (xss.map ints) lo k W0 (by rw [total_ints]; exact hk) (by simpa using hn) hG0)
  have HK := Lib.hid hK
  have HK' := Lib.hid hK'
  have HSN := Lib.hid hSne
  have HHH := Lib.hid hh
  obtain ⟨p0, p1, p2, p3⟩ := V1.at4
  have HU0 := Lib.hid u0
  have HV1 := Lib.hid V1
  rw [hK]
  rw [total_ints, ← hK'] at CM
  clear hK hK' u0 V1 hO h hhi hHB hG hG0 hSne hh
  go_enter Try.func12, Try.ntmps12
  go_wp2_with fail
  rw [← hW0]
  clear hW0
  refine CM.out.mono ?_
  rintro e w1 ⟨rfl, hG1, hwr⟩
  have HU1 : Hid (Upd lo hi W0 w1) := Lib.hid (Upd.of_wrote hwr fun b hb => (HSN.out b hb).2)
  have hO1 : OwSS lo hi (.slice a1 xss.length c1) (markedFrom k xss) w1 := ⟨vs, hG1, HHH.out⟩
  have V1' : VC 30 B #[.slice a1 xss.length c1, .slice none 0 0, .slice none 0 0, .slice none 0 0] w1 := by
    have h := HV1.out
    unfold VC at h ⊢
    rw [← h]
    exact hwr.block B (Array.getElem?_eq_some_iff.1 h).1 fun hb => by have := (HSN.out B hb).1; omega
  clear hG1 hwr
  clear p0 p1 p2 p3 CM
  obtain ⟨p0, p1, p2, p3⟩ := V1'.at4
  go_wp2_with fail
  refine (markEdits_nil K' w1).mono ?_
  rintro e w' ⟨rfl, rfl⟩
  go_wp2_with fail
  refine (markEdits_nil K' w1).mono ?_
  rintro e w' ⟨rfl, rfl⟩
  go_wp2_with fail
  refine (markCerts_nil K' w1).mono ?_
  rintro e w' ⟨rfl, rfl⟩
  go_wp2_with fail
  go_ret
  refine ⟨rfl, hO1, ?_⟩
  have a1 := HU0.out
  have a2 := HU1.out
  have s1 := a1.size
  exact ⟨a2.os.trans a1.os, a2.tape.trans a1.tape, a2.output.trans a1.output, by have := a2.size; omega, fun y hy hn => (a2.block y (by omega) (by omega)).trans (a1.block y hy (by omega))⟩

set_option maxHeartbeats 2000000 in
theorem heldT_k {v : Value} {xss : List (List Int)} {w : World} {k : Nat} (h : RdSS v (markedFrom k xss) w) {K K' : Int} (hK : K = k) (hK' : K' = ((k + total xss : Nat) : Int)) (hk : k + total xss ≤ 1000000000) (hn : xss.length ≤ 1000000000) :
    Calls Try.prog 13 #[Value.agg #[v, .slice none 0 0, .slice none 0 0, .slice none 0 0], .int .i64 K] w fun e w' => e = .returned (.int .i64 K') ∧ Upd 0 0 w w' := by
  obtain ⟨B, hB⟩ : ∃ B, w.heap.size = B := ⟨_, rfl⟩
  obtain ⟨W0, hW0⟩ : ∃ W0, W0 = w.alloc (.cells #[v, .slice none 0 0, .slice none 0 0, .slice none 0 0] 30) := ⟨_, rfl⟩
  have u0 : Below B w W0 := by rw [hW0, ← hB]; exact below_alloc' _ _
  have V1 : VC 30 B #[v, .slice none 0 0, .slice none 0 0, .slice none 0 0] W0 := by rw [hW0]; exact VC.new hB
  have hz0 : W0.heap.size = B + 1 := by rw [hW0]; simp [hB]
  obtain ⟨a1, c1, rfl⟩ := h.shape
  have CM := Lib.hid (heldG_k (h.below u0 hB) hK hK' hk hn)
  have hneg : ¬ K' < 0 := by omega
  obtain ⟨p0, p1, p2, p3⟩ := V1.at4
  clear hK hK' h
  go_enter Try.func13, Try.ntmps13
  go_wp2_with fail
  rw [← hW0]
  clear hW0
  refine CM.out.mono ?_
  rintro e w1 ⟨rfl, u⟩
  have V1' := V1.upd u (by omega)
  have hb := u.below u0 (by omega) (by omega)
  clear p0 p1 p2 p3 CM u
  obtain ⟨p0, p1, p2, p3⟩ := V1'.at4
  go_wp2_with fail
  refine (heldEdits_nil K' w1).mono ?_
  rintro e w' ⟨rfl, rfl⟩
  go_wp2_with fail
  refine (heldEdits_nil K' w1).mono ?_
  rintro e w' ⟨rfl, rfl⟩
  go_wp2_with fail
  refine (heldCerts_nil K' w1).mono ?_
  rintro e w' ⟨rfl, rfl⟩
  go_wp2_with fail
  go_ret
  exact ⟨rfl, Upd.of_below (by rw [hB]; exact hb)⟩

/-! ### NewStore -/
def StP (xss rows : List (List Int)) (ok : Bool) : Prop := (okB xss = false ∧ rows = [] ∧ ok = false) ∨ (okB xss = true ∧ rows = xss ∧ ok = true)
theorem okB_small {xss : List (List Int)} (h : okB xss = true) : xss.length ≤ 16 ∧ ∀ xs ∈ xss, xs.length ≤ 16 := by
  obtain ⟨e, hA, hx⟩ := (okB_iff xss).1 h
  refine ⟨hA.le, fun xs hxs => ?_⟩
  rw [hx] at hxs
  obtain ⟨u, hu⟩ := List.getElem?_of_mem hxs
  have hul : u < xss.length := by have := (List.getElem?_eq_some_iff.1 hu).1; simpa using this
  rw [rowsB_at e hul] at hu
  obtain rfl := Option.some.inj hu
  exact Nat.le_trans (rowB_length _ _) hA.le
theorem total_small {xss : List (List Int)} (h : ∀ xs ∈ xss, xs.length ≤ 16) : total xss ≤ 16 * xss.length := by
  induction xss with
  | nil => simp [total]
  | cons x l ih =>
    have h1 := ih fun xs hx => h xs (by simp [hx])
    have h2 := h x (by simp)
    simp only [total, List.map_cons, List.sum_cons, List.length_cons] at h1 ⊢
    omega

set_option maxHeartbeats 1000000 in
theorem specNewStore (v : Value) (xss : List (List Int)) (w : World) (hr : RdSS v xss w) (rows : List (List Int)) (ok : Bool) (h : StP xss rows ok) :
    Calls Try.prog 6 #[.agg #[v]] w (StRes w rows ok) := by
  obtain ⟨a, c, rfl⟩ := hr.shape
  obtain ⟨B, hB⟩ : ∃ B, w.heap.size = B := ⟨_, rfl⟩
  obtain ⟨W0, hW0⟩ : ∃ W0, W0 = (w.alloc (.cells #[.slice a xss.length c] 26)).alloc (.cells #[.slice none 0 0, .slice none 0 0, .slice none 0 0, .slice none 0 0] 30) := ⟨_, rfl⟩
  have u0 : Below B w W0 := by rw [hW0]; exact ((Below.refl _ _ : Below B w w).alloc (by omega) _).alloc (by simp; omega) _
  have VG : VC 26 B #[.slice a xss.length c] W0 := by rw [hW0]; exact (VC.new hB).upd (Upd.alloc _ _) (by omega)
  have VR : VC 30 (B + 1) #[.slice none 0 0, .slice none 0 0, .slice none 0 0, .slice none 0 0] W0 := by rw [hW0]; exact VC.new (by simp [hB])
  have hz0 : W0.heap.size = B + 2 := by rw [hW0]; simp [hB]
  have hcg := VG.cell
  have H := Lib.hid h
  clear h
  go_enter Try.func6, Try.ntmps6
  go_wp2_with fail
  rw [← hW0]
  clear hW0
  refine (specOk _ xss W0 (hr.below u0 hB)).mono ?_
  rintro e1 w1 ⟨rfl, hb1⟩
  have VG1 := VG.belowAt hb1 (by omega)
  have VR1 := VR.belowAt hb1 (by omega)
  have hb := u0.trans (hb1.mono (by omega))
  have hz1 : B + 2 ≤ w1.heap.size := by have := hb1.size; omega
  clear hb1 hcg VG VR u0
  have hcg := VG1.cell
  rcases H.out with ⟨hok, rfl, rfl⟩ | ⟨hok, hrw, rfl⟩
  · rw [hok]
    clear hok
    have V0 := VR1
    have V1 : VC 30 (B + 1) #[.slice none 0 0, .slice none 0 0, .slice none 0 0, .slice none 0 0] (w1.setCell ⟨B + 1, 0, none⟩ (.slice none 0 0)) := V0.setAt 0 _
    have V2 : VC 30 (B + 1) #[.slice none 0 0, .slice none 0 0, .slice none 0 0, .slice none 0 0] ((w1.setCell ⟨B + 1, 0, none⟩ (.slice none 0 0)).setCell ⟨B + 1, 1, none⟩ (.slice none 0 0)) := V1.setAt 1 _
    have V3 : VC 30 (B + 1) #[.slice none 0 0, .slice none 0 0, .slice none 0 0, .slice none 0 0] (((w1.setCell ⟨B + 1, 0, none⟩ (.slice none 0 0)).setCell ⟨B + 1, 1, none⟩ (.slice none 0 0)).setCell ⟨B + 1, 2, none⟩ (.slice none 0 0)) := V2.setAt 2 _
    have V4 : VC 30 (B + 1) #[.slice none 0 0, .slice none 0 0, .slice none 0 0, .slice none 0 0] ((((w1.setCell ⟨B + 1, 0, none⟩ (.slice none 0 0)).setCell ⟨B + 1, 1, none⟩ (.slice none 0 0)).setCell ⟨B + 1, 2, none⟩ (.slice none 0 0)).setCell ⟨B + 1, 3, none⟩ (.slice none 0 0)) := V3.setAt 3 _
    obtain ⟨p0, -, -, -⟩ := V0.at4
    obtain ⟨-, p1, -, -⟩ := V1.at4
    obtain ⟨-, -, p2, -⟩ := V2.at4
    obtain ⟨-, -, -, p3⟩ := V3.at4
    obtain ⟨r0, r1, r2, r3⟩ := V4.at4
    have f0 := V0.freeAt 0
    have f1 := V1.freeAt 1
    have f2 := V2.freeAt 2
    have f3 := V3.freeAt 3
    have HB := Lib.hid ((((hb.setCell (p := ⟨B + 1, 0, none⟩) (by simp) (.slice none 0 0)).setCell (p := ⟨B + 1, 1, none⟩) (by simp) (.slice none 0 0)).setCell (p := ⟨B + 1, 2, none⟩) (by simp) (.slice none 0 0)).setCell (p := ⟨B + 1, 3, none⟩) (by simp) (.slice none 0 0))
    clear V0 V1 V2 V3 V4 VR1
    go_wp2_with fail
    refine bodyPost_ret (v := .tuple #[.agg #[.slice none 0 0, .slice none 0 0, .slice none 0 0, .slice none 0 0], .bool false]) (by simp [results, Try.results6, go_sem, r0, r1, r2, r3]) rfl ?_
    exact ⟨_, [], rfl, OwnG.nil _ _ (by decide) (World.ownsRow_nil _ _ _ 1), by rw [hB]; exact HB.out⟩
  · obtain rfl : xss = rows := hrw.symm
    rw [hok]
    obtain ⟨hs1, hs2⟩ := okB_small hok
    have CC := Lib.hid (copyGraph_any _ xss (by omega) (fun xs hx => by have := hs2 xs hx; omega) w1 (hr.below hb hB))
    clear hok hs2
    go_wp2_with fail
    refine CC.out.mono ?_
    rintro e1 w2 ⟨u, vs, rfl, hG, hb2⟩
    obtain ⟨ua, uc, rfl⟩ := owns_shape hG.outer
    have VR2 := VR1.belowAt hb2 (by omega)
    have hb02 := hb.trans (hb2.mono (by omega))
    clear hcg CC hb2
    have V0 := VR2
    have V1 : VC 30 (B + 1) #[.slice ua vs.length uc, .slice none 0 0, .slice none 0 0, .slice none 0 0] (w2.setCell ⟨B + 1, 0, none⟩ (.slice ua vs.length uc)) := V0.setAt 0 _
    have V2 : VC 30 (B + 1) #[.slice ua vs.length uc, .slice none 0 0, .slice none 0 0, .slice none 0 0] ((w2.setCell ⟨B + 1, 0, none⟩ (.slice ua vs.length uc)).setCell ⟨B + 1, 1, none⟩ (.slice none 0 0)) := V1.setAt 1 _
    have V3 : VC 30 (B + 1) #[.slice ua vs.length uc, .slice none 0 0, .slice none 0 0, .slice none 0 0] (((w2.setCell ⟨B + 1, 0, none⟩ (.slice ua vs.length uc)).setCell ⟨B + 1, 1, none⟩ (.slice none 0 0)).setCell ⟨B + 1, 2, none⟩ (.slice none 0 0)) := V2.setAt 2 _
    have V4 : VC 30 (B + 1) #[.slice ua vs.length uc, .slice none 0 0, .slice none 0 0, .slice none 0 0] ((((w2.setCell ⟨B + 1, 0, none⟩ (.slice ua vs.length uc)).setCell ⟨B + 1, 1, none⟩ (.slice none 0 0)).setCell ⟨B + 1, 2, none⟩ (.slice none 0 0)).setCell ⟨B + 1, 3, none⟩ (.slice none 0 0)) := V3.setAt 3 _
    obtain ⟨p0, -, -, -⟩ := V0.at4
    obtain ⟨-, p1, -, -⟩ := V1.at4
    obtain ⟨-, -, p2, -⟩ := V2.at4
    obtain ⟨-, -, -, p3⟩ := V3.at4
    obtain ⟨r0, r1, r2, r3⟩ := V4.at4
    have f0 := V0.freeAt 0
    have f1 := V1.freeAt 1
    have f2 := V2.freeAt 2
    have f3 := V3.freeAt 3
    have HB := Lib.hid ((((hb02.setCell (p := ⟨B + 1, 0, none⟩) (by simp) (.slice ua vs.length uc)).setCell (p := ⟨B + 1, 1, none⟩) (by simp) (.slice none 0 0)).setCell (p := ⟨B + 1, 2, none⟩) (by simp) (.slice none 0 0)).setCell (p := ⟨B + 1, 3, none⟩) (by simp) (.slice none 0 0))
    have HG := Lib.hid ((((hG.other (p := ⟨B + 1, 0, none⟩) (by simp; omega) (.slice ua vs.length uc)).other (p := ⟨B + 1, 1, none⟩) (by simp; omega) (.slice none 0 0)).other (p := ⟨B + 1, 2, none⟩) (by simp; omega) (.slice none 0 0)).other (p := ⟨B + 1, 3, none⟩) (by simp; omega) (.slice none 0 0))
    clear V0 V1 V2 V3 V4 VR2 hG
    go_wp2_with fail
    refine bodyPost_ret (v := .tuple #[.agg #[.slice ua vs.length uc, .slice none 0 0, .slice none 0 0, .slice none 0 0], .bool true]) (by simp [results, Try.results6, go_sem, r0, r1, r2, r3]) rfl ?_
    exact ⟨_, vs, rfl, by rw [hB]; exact HG.out.rebase (by omega), by rw [hB]; exact HB.out⟩

set_option maxHeartbeats 1000000 in
theorem implNewStore (v : Value) (xss : List (List Int)) (w : World) (hr : RdSS v xss w) (rows : List (List Int)) (ok : Bool) (h : StP xss rows ok) :
    Calls Try.prog 8 #[.agg #[v]] w (StRes w rows ok) := by
  obtain ⟨a, c, rfl⟩ := hr.shape
  obtain ⟨B, hB⟩ : ∃ B, w.heap.size = B := ⟨_, rfl⟩
  obtain ⟨W0, hW0⟩ : ∃ W0, W0 = (w.alloc (.cells #[.slice a xss.length c] 26)).alloc (.cells #[.slice none 0 0, .slice none 0 0, .slice none 0 0, .slice none 0 0] 30) := ⟨_, rfl⟩
  have u0 : Below B w W0 := by rw [hW0]; exact ((Below.refl _ _ : Below B w w).alloc (by omega) _).alloc (by simp; omega) _
  have VG : VC 26 B #[.slice a xss.length c] W0 := by rw [hW0]; exact (VC.new hB).upd (Upd.alloc _ _) (by omega)
  have VR : VC 30 (B + 1) #[.slice none 0 0, .slice none 0 0, .slice none 0 0, .slice none 0 0] W0 := by rw [hW0]; exact VC.new (by simp [hB])
  have hz0 : W0.heap.size = B + 2 := by rw [hW0]; simp [hB]
  have hcg := VG.cell
  have H := Lib.hid h
  clear h
  go_enter Try.func8, Try.ntmps8
  go_wp2_with fail
  rw [← hW0]
  clear hW0
  refine (implOk _ xss W0 (hr.below u0 hB)).mono ?_
  rintro e1 w1 ⟨rfl, hb1⟩
  have VG1 := VG.belowAt hb1 (by omega)
  have VR1 := VR.belowAt hb1 (by omega)
  have hb := u0.trans (hb1.mono (by omega))
  have hz1 : B + 2 ≤ w1.heap.size := by have := hb1.size; omega
  clear hb1 hcg VG VR u0
  have hcg := VG1.cell
  rcases H.out with ⟨hok, rfl, rfl⟩ | ⟨hok, hrw, rfl⟩
  · rw [hok]
    clear hok
    have V0 := VR1
    have V1 : VC 30 (B + 1) #[.slice none 0 0, .slice none 0 0, .slice none 0 0, .slice none 0 0] (w1.setCell ⟨B + 1, 0, none⟩ (.slice none 0 0)) := V0.setAt 0 _
    have V2 : VC 30 (B + 1) #[.slice none 0 0, .slice none 0 0, .slice none 0 0, .slice none 0 0] ((w1.setCell ⟨B + 1, 0, none⟩ (.slice none 0 0)).setCell ⟨B + 1, 1, none⟩ (.slice none 0 0)) := V1.setAt 1 _
    have V3 : VC 30 (B + 1) #[.slice none 0 0, .slice none 0 0, .slice none 0 0, .slice none 0 0] (((w1.setCell ⟨B + 1, 0, none⟩ (.slice none 0 0)).setCell ⟨B + 1, 1, none⟩ (.slice none 0 0)).setCell ⟨B + 1, 2, none⟩ (.slice none 0 0)) := V2.setAt 2 _
    have V4 : VC 30 (B + 1) #[.slice none 0 0, .slice none 0 0, .slice none 0 0, .slice none 0 0] ((((w1.setCell ⟨B + 1, 0, none⟩ (.slice none 0 0)).setCell ⟨B + 1, 1, none⟩ (.slice none 0 0)).setCell ⟨B + 1, 2, none⟩ (.slice none 0 0)).setCell ⟨B + 1, 3, none⟩ (.slice none 0 0)) := V3.setAt 3 _
    obtain ⟨p0, -, -, -⟩ := V0.at4
    obtain ⟨-, p1, -, -⟩ := V1.at4
    obtain ⟨-, -, p2, -⟩ := V2.at4
    obtain ⟨-, -, -, p3⟩ := V3.at4
    obtain ⟨r0, r1, r2, r3⟩ := V4.at4
    have f0 := V0.freeAt 0
    have f1 := V1.freeAt 1
    have f2 := V2.freeAt 2
    have f3 := V3.freeAt 3
    have HB := Lib.hid ((((hb.setCell (p := ⟨B + 1, 0, none⟩) (by simp) (.slice none 0 0)).setCell (p := ⟨B + 1, 1, none⟩) (by simp) (.slice none 0 0)).setCell (p := ⟨B + 1, 2, none⟩) (by simp) (.slice none 0 0)).setCell (p := ⟨B + 1, 3, none⟩) (by simp) (.slice none 0 0))
    clear V0 V1 V2 V3 V4 VR1
    go_wp2_with fail
    refine bodyPost_ret (v := .tuple #[.agg #[.slice none 0 0, .slice none 0 0, .slice none 0 0, .slice none 0 0], .bool false]) (by simp [results, Try.results8, go_sem, r0, r1, r2, r3]) rfl ?_
    exact ⟨_, [], rfl, OwnG.nil _ _ (by decide) (World.ownsRow_nil _ _ _ 1), by rw [hB]; exact HB.out⟩
  · obtain rfl : xss = rows := hrw.symm
    rw [hok]
    obtain ⟨hs1, hs2⟩ := okB_small hok
    have CC := Lib.hid (cloneGraph_any _ xss (by omega) (fun xs hx => by have := hs2 xs hx; omega) w1 (hr.below hb hB))
    clear hok hs2
    go_wp2_with fail
    refine CC.out.mono ?_
    rintro e1 w2 ⟨u, vs, rfl, hG, hb2⟩
    obtain ⟨ua, uc, rfl⟩ := owns_shape hG.outer
    have VR2 := VR1.belowAt hb2 (by omega)
    have hb02 := hb.trans (hb2.mono (by omega))
    clear hcg CC hb2
    have V0 := VR2
    have V1 : VC 30 (B + 1) #[.slice ua vs.length uc, .slice none 0 0, .slice none 0 0, .slice none 0 0] (w2.setCell ⟨B + 1, 0, none⟩ (.slice ua vs.length uc)) := V0.setAt 0 _
    have V2 : VC 30 (B + 1) #[.slice ua vs.length uc, .slice none 0 0, .slice none 0 0, .slice none 0 0] ((w2.setCell ⟨B + 1, 0, none⟩ (.slice ua vs.length uc)).setCell ⟨B + 1, 1, none⟩ (.slice none 0 0)) := V1.setAt 1 _
    have V3 : VC 30 (B + 1) #[.slice ua vs.length uc, .slice none 0 0, .slice none 0 0, .slice none 0 0] (((w2.setCell ⟨B + 1, 0, none⟩ (.slice ua vs.length uc)).setCell ⟨B + 1, 1, none⟩ (.slice none 0 0)).setCell ⟨B + 1, 2, none⟩ (.slice none 0 0)) := V2.setAt 2 _
    have V4 : VC 30 (B + 1) #[.slice ua vs.length uc, .slice none 0 0, .slice none 0 0, .slice none 0 0] ((((w2.setCell ⟨B + 1, 0, none⟩ (.slice ua vs.length uc)).setCell ⟨B + 1, 1, none⟩ (.slice none 0 0)).setCell ⟨B + 1, 2, none⟩ (.slice none 0 0)).setCell ⟨B + 1, 3, none⟩ (.slice none 0 0)) := V3.setAt 3 _
    obtain ⟨p0, -, -, -⟩ := V0.at4
    obtain ⟨-, p1, -, -⟩ := V1.at4
    obtain ⟨-, -, p2, -⟩ := V2.at4
    obtain ⟨-, -, -, p3⟩ := V3.at4
    obtain ⟨r0, r1, r2, r3⟩ := V4.at4
    have f0 := V0.freeAt 0
    have f1 := V1.freeAt 1
    have f2 := V2.freeAt 2
    have f3 := V3.freeAt 3
    have HB := Lib.hid ((((hb02.setCell (p := ⟨B + 1, 0, none⟩) (by simp) (.slice ua vs.length uc)).setCell (p := ⟨B + 1, 1, none⟩) (by simp) (.slice none 0 0)).setCell (p := ⟨B + 1, 2, none⟩) (by simp) (.slice none 0 0)).setCell (p := ⟨B + 1, 3, none⟩) (by simp) (.slice none 0 0))
    have HG := Lib.hid ((((hG.other (p := ⟨B + 1, 0, none⟩) (by simp; omega) (.slice ua vs.length uc)).other (p := ⟨B + 1, 1, none⟩) (by simp; omega) (.slice none 0 0)).other (p := ⟨B + 1, 2, none⟩) (by simp; omega) (.slice none 0 0)).other (p := ⟨B + 1, 3, none⟩) (by simp; omega) (.slice none 0 0))
    clear V0 V1 V2 V3 V4 VR2 hG
    go_wp2_with fail
    refine bodyPost_ret (v := .tuple #[.agg #[.slice ua vs.length uc, .slice none 0 0, .slice none 0 0, .slice none 0 0], .bool true]) (by simp [results, Try.results8, go_sem, r0, r1, r2, r3]) rfl ?_
    exact ⟨_, vs, rfl, by rw [hB]; exact HG.out.rebase (by omega), by rw [hB]; exact HB.out⟩

theorem both_NewStore (xss : List (List Int)) : ∃ (rows : List (List Int)) (ok : Bool), 1 + total rows ≤ 1000000000 ∧ rows.length ≤ 1000000000 ∧
    (∀ (w : World) (g : Value), RdSS g xss w → Calls Try.prog 6 #[.agg #[g]] w (StRes w rows ok)) ∧
    (∀ (w : World) (g : Value), RdSS g xss w → Calls Try.prog 8 #[.agg #[g]] w (StRes w rows ok)) := by
  cases h : okB xss with
  | false =>
    have hp : StP xss [] false := .inl ⟨h, rfl, rfl⟩
    exact ⟨[], false, by simp [total], by simp, fun w g hr => specNewStore g xss w hr _ _ hp, fun w g hr => implNewStore g xss w hr _ _ hp⟩
  | true =>
    have hp : StP xss xss true := .inr ⟨h, rfl, rfl⟩
    obtain ⟨h1, h2⟩ := okB_small h
    have h3 := total_small h2
    exact ⟨xss, true, by omega, by omega, fun w g hr => specNewStore g xss w hr _ _ hp, fun w g hr => implNewStore g xss w hr _ _ hp⟩
end Go.Proofs.Ytecjgpokfdpekaa
