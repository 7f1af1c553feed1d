/-
  The kind Sub: a copy of an argument.
-/
import Derived.Test.YtehejjmmbjekgaaDoorSub
namespace Go.Proofs.YtehejjmmbjekgaaDoor
open Go.RowKit

theorem VC.setAt {t : TypeId} {b : Nat} {cs : Array Value} {w : World} (h : VC t b cs w) (i : Nat) (u : Value) : VC t b (cs.setIfInBounds i u) (w.setCell ⟨b, i, none⟩ u) := by
  have hl := h.lt
  unfold VC at h ⊢
  unfold World.setCell
  simp only [Array.getElem?_modify]
  simp [h]
theorem VC.cellAt {t : TypeId} {b : Nat} {cs : Array Value} {w : World} (h : VC t b cs w) {i : Nat} {u : Value} (hi : cs[i]? = some u) : w.cell? ⟨b, i, none⟩ = some u := by
  unfold VC at h
  simp [World.cell?, h, hi]
theorem VC.freeAt {t : TypeId} {b : Nat} {cs : Array Value} {w : World} (h : VC t b cs w) (i : Nat) : w.frozen? ⟨b, i, none⟩ = false := by
  unfold VC at h
  simp [World.frozen?, h]

theorem VC.at3 {t : TypeId} {b : Nat} {c0 c1 c2 : Value} {w : World} (h : VC t b #[c0, c1, c2] w) :
    w.cell? ⟨b, 0, none⟩ = some c0 ∧ w.cell? ⟨b, 1, none⟩ = some c1 ∧ w.cell? ⟨b, 2, none⟩ = some c2 := by
  unfold VC at h
  refine ⟨?_, ?_, ?_⟩ <;> simp [World.cell?, h]

set_option maxHeartbeats 2000000 in
theorem toSub_k {k0 : Int} {h p : Value} {xs : List Int} {xss : List (List Int)} {w : World} (hs : RdS h xs w) (hp : RdSS p xss w) (hn : xs.length ≤ 1048576) (hnn : xss.length ≤ 1048576) (hns : ∀ ys ∈ xss, ys.length ≤ 1048576) {lo : Nat} (hlo : w.heap.size = lo) :
    Calls Tryd.prog 39 #[.agg #[.int .i64 k0, h, p]] w fun e w' => ∃ u q mi, e = .returned (.agg #[.int .i64 k0, u, q]) ∧ OwS lo mi u xs w' ∧ OwSS mi w'.heap.size q xss w' ∧ lo ≤ mi ∧ mi ≤ w'.heap.size ∧ Upd 0 0 w w' := by
  obtain ⟨a1, c1, rfl, -, -, -⟩ := id hs
  obtain ⟨a3, c3, rfl⟩ := hp.shape
  have hb0 : Below w.heap.size w (((w.alloc (.cells #[.int .i64 k0, .slice a1 xs.length c1, .slice a3 xss.length c3] 58)).alloc (.cells #[.int .i64 0, .slice none 0 0, .slice none 0 0] 61)).alloc (.cells #[.int .i64 k0, .slice none 0 0, .slice none 0 0] 61)) := (((Below.refl _ _).alloc (Nat.le_refl _) _).alloc (by simp) _).alloc (by simp; omega) _
  have v1 : VC 58 lo #[.int .i64 k0, .slice a1 xs.length c1, .slice a3 xss.length c3] (((w.alloc (.cells #[.int .i64 k0, .slice a1 xs.length c1, .slice a3 xss.length c3] 58)).alloc (.cells #[.int .i64 0, .slice none 0 0, .slice none 0 0] 61)).alloc (.cells #[.int .i64 k0, .slice none 0 0, .slice none 0 0] 61)) := ((VC.new hlo).upd (Upd.alloc _ _) (by omega)).upd (Upd.alloc _ _) (by omega)
  have v2 : VC 61 (lo + 1) #[.int .i64 0, .slice none 0 0, .slice none 0 0] (((w.alloc (.cells #[.int .i64 k0, .slice a1 xs.length c1, .slice a3 xss.length c3] 58)).alloc (.cells #[.int .i64 0, .slice none 0 0, .slice none 0 0] 61)).alloc (.cells #[.int .i64 k0, .slice none 0 0, .slice none 0 0] 61)) := (VC.new (by simp [hlo])).upd (Upd.alloc _ _) (by omega)
  have v3 : VC 61 (lo + 2) #[.int .i64 k0, .slice none 0 0, .slice none 0 0] (((w.alloc (.cells #[.int .i64 k0, .slice a1 xs.length c1, .slice a3 xss.length c3] 58)).alloc (.cells #[.int .i64 0, .slice none 0 0, .slice none 0 0] 61)).alloc (.cells #[.int .i64 k0, .slice none 0 0, .slice none 0 0] 61)) := VC.new (by simp [hlo])
  have hz : (((w.alloc (.cells #[.int .i64 k0, .slice a1 xs.length c1, .slice a3 xss.length c3] 58)).alloc (.cells #[.int .i64 0, .slice none 0 0, .slice none 0 0] 61)).alloc (.cells #[.int .i64 k0, .slice none 0 0, .slice none 0 0] 61)).heap.size = lo + 3 := by simp [hlo]
  have HV := Lib.hid (And.intro v1 (And.intro v2 (And.intro v3 hb0)))
  clear v1 v2 v3 hb0
  go_enter Tryd.func39, Tryd.ntmps39
  go_wp2_with fail
  generalize (((w.alloc (.cells #[.int .i64 k0, .slice a1 xs.length c1, .slice a3 xss.length c3] 58)).alloc (.cells #[.int .i64 0, .slice none 0 0, .slice none 0 0] 61)).alloc (.cells #[.int .i64 k0, .slice none 0 0, .slice none 0 0] 61)) = W at *
  obtain ⟨v1, v2, v3, hb0⟩ := HV.out
  refine (toS_k (RdS.below hs hb0 rfl) hn hz).mono ?_
  rintro e w1 ⟨u, rfl, ho, hu⟩
  obtain ⟨ua, uc, rfl, -, -, -⟩ := id ho.rd
  have hz1 : lo + 3 ≤ w1.heap.size := by have := hu.size; omega
  replace v1 := v1.upd hu (by omega)
  replace v2 := v2.upd hu (by omega)
  replace v3 := v3.upd hu (by omega)
  have hb1 := hu.below hb0 (by omega) (by omega)
  have c31 := v3.cellAt (i := 1) rfl
  have f31 := v3.freeAt 1
  have v3' := v3.setAt 1 (.slice ua xs.length uc)
  have v1' := v1.other (p := ⟨lo + 2, 1, none⟩) (by simp) (.slice ua xs.length uc)
  have v2' := v2.other (p := ⟨lo + 2, 1, none⟩) (by simp) (.slice ua xs.length uc)
  have hb1' := hb1.setCell (p := ⟨lo + 2, 1, none⟩) (by simp; omega) (.slice ua xs.length uc)
  have c12 := v1'.cellAt (i := 2) rfl
  have uS : Upd (lo + 2) (lo + 3) w1 (w1.setCell ⟨lo + 2, 1, none⟩ (.slice ua xs.length uc)) := ⟨rfl, rfl, rfl, by simp [World.setCell], fun k _ hn => Below.heap_setCell _ _ _ _ (fun e => hn (by simp at e; omega))⟩
  have ho' := ho.upd uS (by omega)
  obtain ⟨mi, hmi⟩ : ∃ mi, w1.heap.size = mi := ⟨_, rfl⟩
  have hzs : (w1.setCell ⟨lo + 2, 1, none⟩ (.slice ua xs.length uc)).heap.size = mi := by simp [World.setCell, hmi]
  have HO := Lib.hid ho'
  have HV2 := Lib.hid (And.intro v1' (And.intro v2' (And.intro v3' hb1')))
  clear ho ho' uS v1 v2 v3 v1' v2' v3' hb1 hb1' hu HV hb0
  go_wp2_with fail
  generalize w1.setCell ⟨lo + 2, 1, none⟩ (.slice ua xs.length uc) = W1 at *
  obtain ⟨v1, v2, v3, hb0⟩ := HV2.out
  refine (toSS_k (hp.below hb0 rfl) hnn hns hzs).mono ?_
  rintro e w2 ⟨q, rfl, hq, hu⟩
  have hz2 := hu.size
  obtain ⟨qa, qc, rfl⟩ := hq.rd.shape
  replace v2 := v2.upd hu (by omega)
  replace v3 := v3.upd hu (by omega)
  have ho1 := HO.out.upd hu (by omega)
  have hb1 := hu.below hb0 (by omega) (by omega)
  have c32 := v3.cellAt (i := 2) rfl
  have f32 := v3.freeAt 2
  obtain ⟨W2, hW2⟩ : ∃ W2, W2 = w2.setCell ⟨lo + 2, 2, none⟩ (.slice qa xss.length qc) := ⟨_, rfl⟩
  have V3 : VC 61 (lo + 2) #[.int .i64 k0, .slice ua xs.length uc, .slice qa xss.length qc] W2 := by rw [hW2]; exact v3.setAt 2 _
  have V0 : VC 61 (lo + 1) #[.int .i64 0, .slice none 0 0, .slice none 0 0] W2 := by rw [hW2]; exact v2.other (p := ⟨lo + 2, 2, none⟩) (by simp) _
  have u2 : Upd (lo + 2) (lo + 3) w2 W2 := by rw [hW2]; exact ⟨rfl, rfl, rfl, by simp [World.setCell], fun k _ hn => Below.heap_setCell _ _ _ _ (fun e => hn (by simp at e; omega))⟩
  have V1 : VC 61 (lo + 1) #[.int .i64 k0, .slice none 0 0, .slice none 0 0] (W2.setCell ⟨lo + 1, 0, none⟩ (.int .i64 k0)) := V0.setAt 0 _
  have V2 : VC 61 (lo + 1) #[.int .i64 k0, .slice ua xs.length uc, .slice none 0 0] ((W2.setCell ⟨lo + 1, 0, none⟩ (.int .i64 k0)).setCell ⟨lo + 1, 1, none⟩ (.slice ua xs.length uc)) := V1.setAt 1 _
  obtain ⟨W5, hW5⟩ : ∃ W5, W5 = ((W2.setCell ⟨lo + 1, 0, none⟩ (.int .i64 k0)).setCell ⟨lo + 1, 1, none⟩ (.slice ua xs.length uc)).setCell ⟨lo + 1, 2, none⟩ (.slice qa xss.length qc) := ⟨_, rfl⟩
  have V5 : VC 61 (lo + 1) #[.int .i64 k0, .slice ua xs.length uc, .slice qa xss.length qc] W5 := by rw [hW5]; exact V2.setAt 2 _
  have u5 : Upd (lo + 1) (lo + 2) W2 W5 := by rw [hW5]; exact ⟨rfl, rfl, rfl, by simp [World.setCell], fun k _ hn => (Below.heap_setCell _ _ _ _ (fun e => hn (by simp at e; omega))).trans ((Below.heap_setCell _ _ _ _ (fun e => hn (by simp at e; omega))).trans (Below.heap_setCell _ _ _ _ (fun e => hn (by simp at e; omega))))⟩
  obtain ⟨d0, d1, d2⟩ := (show VC 61 (lo + 1 + 1) #[.int .i64 k0, .slice ua xs.length uc, .slice qa xss.length qc] W2 from V3).at3
  obtain ⟨p0, -, -⟩ := V0.at3
  obtain ⟨-, p1, -⟩ := V1.at3
  obtain ⟨-, -, p2⟩ := V2.at3
  obtain ⟨r0, r1, r2⟩ := V5.at3
  have f0 := V0.freeAt 0
  have f1 := V1.freeAt 1
  have f2 := V2.freeAt 2
  rw [hW5] at r0 r1 r2
  rw [hW2] at r0 r1 r2 d0 d1 d2 p0 p1 p2 f0 f1 f2
  have HR := Lib.hid (And.intro r0 (And.intro r1 r2))
  have s2 := u2.size
  have s5 := u5.size
  have HW5 := Lib.hid hW5
  have HW2 := Lib.hid hW2
  have z5 : W5.heap.size = w2.heap.size := by rw [hW5, hW2]; simp [World.setCell]
  have hq' := (hq.upd u2 (by omega)).upd u5 (by omega)
  have ho' := (ho1.upd u2 (by omega)).upd u5 (by omega)
  have hb5 := u5.below (u2.below hb1 (by omega) (by omega)) (by omega) (by omega)
  have HE := Lib.hid (And.intro hq' (And.intro ho' (And.intro hb5 z5)))
  have hmi : lo ≤ mi := by omega
  clear r0 r1 r2 hq' ho' hb5 z5 u5 u2 s2 s5 hu HO HV2 hb0 hb1 ho1 v1 v2 v3 V0 V1 V2 V3 V5 hW5 hW2
  go_wp2_with fail
  obtain ⟨hq', ho', hb5, z5⟩ := HE.out
  refine bodyPost_ret (v := .agg #[.int .i64 k0, .slice ua xs.length uc, .slice qa xss.length qc]) (by simp [results, Tryd.results39, go_sem, HR.out.1, HR.out.2.1, HR.out.2.2]) rfl ?_
  rw [← HW2.out, ← HW5.out]
  refine ⟨_, _, mi, rfl, ⟨owns_base ho'.own (by omega), fun k hk => by have := ho'.hi k hk; omega⟩, by rw [z5]; exact hq', hmi, by omega, ?_⟩
  exact Upd.of_below hb5
end Go.Proofs.YtehejjmmbjekgaaDoor
