import Derived.Maps.OwnSet
import Derived.Test.YtpfhflkpnjkgkaaDoorGq08
import Derived.Test.YtpfhflkpnjkgkaaDoorGq09
import Derived.Test.YtpfhflkpnjkgkaaDoorOnesExJn
/-
  'after' and 'with' of the program: the least widths, remembered in a map.
-/




namespace Go.Proofs.YtpfhflkpnjkgkaaDoor
open Go.RowKit Go.Maps

theorem lawV : Keyed Tryd.prog 54 := int_keyed Tryd.underlying54
theorem zeroN (w : World) : (zeroValue 3).run Tryd.prog w = .ok (.int .i64 0) w := by kernel_rfl
/-- A key. -/
abbrev kyV (S : Nat) : Lit := .int .u32 (S : Nat)
/-- What is remembered is right. -/
def MapOK (n : Nat) (e : Nat → Nat → Bool) (D : DataW Nat) : Prop := ∀ S, S < 2 ^ n → Maps.has D (kyV S) = true → ∀ z, D.atKey (kyV S) z = .lit (.int .i64 (wid n e S : Nat))
theorem MapOK.empty (n : Nat) (e : Nat → Nat → Bool) : MapOK n e (.map []) := fun S _ h => by cases h
theorem MapOK.put {n : Nat} {e : Nat → Nat → Bool} {D : DataW Nat} (h : MapOK n e D) (hD : IsMap D) (S : Nat) : MapOK n e (D.put (kyV S) (.lit (.int .i64 (wid n e S : Nat)))) := by
  intro T hT hh z
  by_cases hST : T = S
  · subst hST
    exact atKey_put_same hD (show WideAt.IsKeyLit (kyV T) from trivial) _ z
  · have hne : kyV T ≠ kyV S := fun h => hST (by have := (Lit.int.inj h).2; omega)
    rw [has_put_other hne] at hh
    rw [atKey_put_other hne]
    exact h T hT hh z
theorem VC.at2' {t : TypeId} {b : Nat} {c0 c1 : Value} {w : World} (h : VC t b #[c0, c1] w) : w.cell? ⟨b, 0, none⟩ = some c0 ∧ w.cell? ⟨b, 1, none⟩ = some c1 := by
  unfold VC at h
  refine ⟨?_, ?_⟩ <;> simp [World.cell?, h]
structure WSt (n : Nat) (e : Nat → Nat → Bool) (xb mb : Nat) (a : Option Addr) (c : Nat) (w : World) (cnt : Nat) (D : DataW Nat) : Prop where
  x : VC 69 xb #[.slice a n c, .map (some mb)] w
  nets : Row w 1 (.slice a n c) n (sets (NB n e))
  tab : Tab w
  map : w.ownsMap Tryd.prog 54 (plainElem Tryd.prog 3) mb cnt D
  ok : MapOK n e D
  hx : xb ≠ mb
  hn : ∀ b, (Value.slice a n c).ownBlock = some b → b ≠ mb
  ht : 0 ≠ mb
theorem VC.wrote {t : TypeId} {b : Nat} {cs : Array Value} {w w' : World} {S : Nat → Prop} (h : VC t b cs w) (hw : Wrote w w' S) (hS : ¬ S b) : VC t b cs w' := by
  have hl := h.lt
  unfold VC at h ⊢
  rw [hw.block b hl hS, h]
theorem Tab.wrote {w w' : World} {S : Nat → Prop} (h : Tab w) (hw : Wrote w w' S) (hS : ¬ S 0) : Tab w' := fun i hi =>
  (World.cell?_of_block (hw.block _ h.lt hS)).trans (h i hi)
section
variable {n : Nat} {e : Nat → Nat → Bool} {xb mb : Nat} {a : Option Addr} {c : Nat} {w w' : World} {cnt : Nat} {D : DataW Nat}
theorem WSt.lt (h : WSt n e xb mb a c w cnt D) : mb < w.heap.size := h.map.lt
theorem WSt.below (h : WSt n e xb mb a c w cnt D) (hb : Below w.heap.size w w') : WSt n e xb mb a c w' cnt D :=
  ⟨h.x.upd (Upd.of_below hb) (by omega), h.nets.below hb, h.tab.below hb, h.map.kept (row := none) ⟨hb.os, hb.tape, hb.output, hb.size, fun k hk _ => hb.block k hk⟩ (by simp), h.ok, h.hx, h.hn, h.ht⟩
theorem WSt.wrote (h : WSt n e xb mb a c w cnt D) (hw : Wrote w w' fun b => b = mb) {cnt' : Nat} {D' : DataW Nat} (hm' : w'.ownsMap Tryd.prog 54 (plainElem Tryd.prog 3) mb cnt' D') (ho : MapOK n e D') : WSt n e xb mb a c w' cnt' D' :=
  ⟨h.x.wrote hw h.hx, h.nets.wrote hw fun k hk => h.hn k hk, h.tab.wrote hw h.ht, hm', ho, h.hx, h.hn, h.ht⟩
end
theorem wrote_below {w w' : World} {mb : Nat} (hb : Below w.heap.size w w') : Wrote w w' fun b => b = mb :=
  ⟨hb.os, hb.tape, hb.output, hb.size, fun k hk _ => hb.block k hk⟩
theorem wrote_trans {w w1 w2 : World} {mb : Nat} (h : Wrote w w1 fun b => b = mb) (h' : Wrote w1 w2 fun b => b = mb) : Wrote w w2 fun b => b = mb := h.trans h' fun _ _ h => h
/-- How many calls there are at most. -/
def tn : Nat → Nat
  | 0 => 1
  | k + 1 => 1 + (k + 1) * tn k
/-- What is left behind a call. -/
structure AftR (n : Nat) (e : Nat → Nat → Bool) (xb mb : Nat) (a : Option Addr) (c : Nat) (w : World) (cnt : Nat) (r : Nat) (E : Ending) (w' : World) : Prop where
  ret : E = .returned (.int .i64 (r : Nat))
  st : ∃ cnt' D', cnt' ≤ cnt ∧ WSt n e xb mb a c w' cnt' D'
  wr : Wrote w w' fun b => b = mb
theorem mask_self {n S : Nat} (h : S < 2 ^ n) : maskB n S.testBit = S := by
  apply Nat.eq_of_testBit_eq
  intro i
  rw [testBit_maskB]
  by_cases hi : i < n
  · simp [hi]
  · rw [bits_above h i (by omega)]; simp [hi]
theorem size_maskB {n : Nat} (hn : n ≤ 16) (p : Nat → Bool) : size (maskB n p) = (rowB n p).length := by
  rw [← nums_maskB (by omega) p]
  unfold nums size
  simp
theorem put_lt {n S v : Nat} (h : S < 2 ^ n) (hv : v < n) : S ||| 2 ^ v < 2 ^ n := Nat.or_lt_two_pow h (Nat.pow_lt_pow_right (by decide) hv)

set_option maxHeartbeats 1000000 in
theorem with_any (n : Nat) (e : Nat → Nat → Bool) (hn : n ≤ 10) (xb mb : Nat) (a : Option Addr) (c : Nat) (S v : Nat) (hS : S < 2 ^ n) (hv : v < n) (M : Nat) (w : World) (cnt : Nat) (D : DataW Nat) (h : WSt n e xb mb a c w cnt D)
    (hc : ∀ (W : World), WSt n e xb mb a c W cnt D → Calls Tryd.prog 39 #[.pointer (some ⟨xb, 0, none⟩), .int .u32 ((S ||| 2 ^ v : Nat) : Int)] W (AftR n e xb mb a c W M (wid n e (S ||| 2 ^ v)))) :
    Calls Tryd.prog 38 #[.pointer (some ⟨xb, 0, none⟩), .int .u32 (S : Nat), .int .i64 (v : Nat)] w (AftR n e xb mb a c w M (wit n e S v)) := by
  have hSn : S < 65536 := Nat.lt_of_lt_of_le hS (Nat.pow_le_pow_right (n := 2) (by decide) (show n ≤ 16 by omega))
  obtain ⟨c0, c1⟩ := h.x.at2'
  have HBE := Lib.hid (behind_any (.slice a n c) n e (by omega) S.testBit v hv v rfl (S : Nat) (by rw [mask_self hS]) w h.tab h.nets)
  obtain ⟨y, hy⟩ : ∃ y, maskB n (behB n e S.testBit v) = y := ⟨_, rfl⟩
  have hsz : size y = bhN n e S v := by rw [← hy, size_maskB (by omega)]; rfl
  have hy16 : y < 65536 := by rw [← hy]; exact mask_lt16 (by omega) _
  rw [hy] at HBE
  obtain ⟨q, hq⟩ : ∃ q, bhN n e S v = q := ⟨_, rfl⟩
  rw [hq] at hsz
  obtain ⟨g, hg⟩ : ∃ g, wid n e (S ||| 2 ^ v) = g := ⟨_, rfl⟩
  have hql : q ≤ 10 := by rw [← hq]; have := bhN_le n e S v; omega
  have hgl : g ≤ 10 := by rw [← hg]; exact wid_le hn e _
  have HSZ := fun W => Lib.hid (size_exact y (by omega) W)
  rw [hsz] at HSZ
  have HWT : Hid (wit n e S v = max q g) := Lib.hid (by unfold wit; rw [hq, hg])
  obtain ⟨T, hT⟩ : ∃ T, S ||| 2 ^ v = T := ⟨_, rfl⟩
  obtain ⟨P, hP⟩ : ∃ P, P = 2 ^ v := ⟨_, rfl⟩
  have HON := fun W => Lib.hid (one_any (v : Int) v rfl (by omega) W)
  have hP16 : P < 65536 := by rw [hP]; exact Nat.lt_of_lt_of_le (Nat.pow_lt_pow_right (by decide) hv) (Nat.pow_le_pow_right (n := 2) (by decide) (show n ≤ 16 by omega))
  rw [hg, hT] at hc
  rw [← hP] at HON hT
  have hbo : bits BinOp.or IntKind.u32 (S : Int) (P : Int) = (T : Int) := by rw [← hT]; exact bits_or (by omega) (by omega)
  have HC := Lib.hid hc
  have HH := Lib.hid h
  clear hc hy hsz hq hg hT hP h
  go_enter Tryd.func38, Tryd.ntmps38
  go_wp2_with fail
  refine HBE.out.mono ?_
  rintro e1 w1 ⟨rfl, hb1⟩
  go_wp2_with fail
  refine (HSZ _).out.mono ?_
  rintro e1 w2 ⟨rfl, hb2⟩
  go_wp2_with fail
  refine (HON _).out.mono ?_
  rintro e1 w' ⟨rfl, rfl⟩
  have hb := hb1.trans (hb2.mono hb1.size)
  have HS2 := Lib.hid (HH.out.below hb)
  have HW2 := Lib.hid (wrote_below (mb := mb) hb)
  have HA := Lib.hid (HC.out w2 HS2.out)
  clear hb hb1 hb2
  go_wp2_with fail
  refine HA.out.mono ?_
  rintro e1 w3 ⟨rfl, hst, hwr⟩
  have HST := Lib.hid hst
  have HWR := Lib.hid (wrote_trans HW2.out hwr)
  clear hst hwr
  by_cases hqg : q < g
  · have hqi : (q : Int) < (g : Int) := by omega
    have hqi2 : ¬ (g : Int) < (q : Int) := by omega
    have HWG : Hid (wit n e S v = g) := Lib.hid (by rw [HWT.out]; omega)
    go_wp2_with fail
    all_goals
      go_ret
      exact ⟨ret_int (by rw [HWG.out]), HST.out, HWR.out⟩
  · have hqi : ¬ (q : Int) < (g : Int) := by omega
    have HWG : Hid (wit n e S v = q) := Lib.hid (by rw [HWT.out]; omega)
    go_wp2_with fail
    all_goals
      go_ret
      exact ⟨ret_int (by rw [HWG.out]; try omega), HST.out, HWR.out⟩
end Go.Proofs.YtpfhflkpnjkgkaaDoor
