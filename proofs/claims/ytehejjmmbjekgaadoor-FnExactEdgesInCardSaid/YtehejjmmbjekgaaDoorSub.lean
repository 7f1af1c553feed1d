/-
  The kind Sub (a number, numbers, rows): the helpers of the laws.
-/
import Derived.Test.YtehejjmmbjekgaaDoorKinds
namespace Go.Proofs.YtehejjmmbjekgaaDoor
open Go.RowKit

set_option maxHeartbeats 1000000 in
theorem eqSub_k {k : Int} {h1 h2 p1 p2 : Value} {xs : List Int} {xss : List (List Int)} {w : World} (hs1 : RdS h1 xs w) (hs2 : RdS h2 xs w) (hp1 : RdSS p1 xss w) (hp2 : RdSS p2 xss w) :
    Calls Tryd.prog 42 #[.agg #[.int .i64 k, h1, p1], .agg #[.int .i64 k, h2, p2]] w fun e w' => e = .returned (.bool true) ∧ Upd 0 0 w w' := by
  obtain ⟨a1, c1, rfl, -, -, -⟩ := id hs1
  obtain ⟨a2, c2, rfl, -, -, -⟩ := id hs2
  obtain ⟨a3, c3, rfl⟩ := hp1.shape
  obtain ⟨a4, c4, rfl⟩ := hp2.shape
  have hbel : ∀ o1 o2, Below w.heap.size w ((w.alloc o1).alloc o2) := fun o1 o2 => ((Below.refl _ _).alloc (Nat.le_refl _) _).alloc (by simp) _
  have hE1 := fun o1 o2 => eqS_k (RdS.below hs1 (hbel o1 o2) rfl) (RdS.below hs2 (hbel o1 o2) rfl)
  have HE1 := Lib.hid hE1
  clear hE1
  obtain ⟨o1, ho1⟩ : ∃ o : Obj, o = .cells #[.int .i64 k, .slice a1 xs.length c1, .slice a3 xss.length c3] 61 := ⟨_, rfl⟩
  obtain ⟨o2, ho2⟩ : ∃ o : Obj, o = .cells #[.int .i64 k, .slice a2 xs.length c2, .slice a4 xss.length c4] 61 := ⟨_, rfl⟩
  have v1 : VC 61 w.heap.size #[.int .i64 k, .slice a1 xs.length c1, .slice a3 xss.length c3] ((w.alloc o1).alloc o2) := by subst ho1; exact (VC.new rfl).upd (Upd.alloc _ _) (by omega)
  have v2 : VC 61 (w.heap.size + 1) #[.int .i64 k, .slice a2 xs.length c2, .slice a4 xss.length c4] ((w.alloc o1).alloc o2) := by subst ho2; exact VC.new (by simp)
  have HV := Lib.hid (And.intro v1 v2)
  clear v1 v2
  have HB := Lib.hid (hbel o1 o2)
  have HE := Lib.hid (HE1.out o1 o2)
  subst ho1; subst ho2
  clear hbel HE1
  go_enter Tryd.func42, Tryd.ntmps42
  go_wp2_with fail
  refine HE.out.mono ?_
  rintro e w1 ⟨rfl, hu⟩
  have hc3 : w1.cell? ⟨w.heap.size, 2, none⟩ = some (.slice a3 xss.length c3) := by
    have h := HV.out.1.upd hu (by omega)
    unfold VC at h
    simp [World.cell?, h]
  have hc4 : w1.cell? ⟨w.heap.size + 1, 2, none⟩ = some (.slice a4 xss.length c4) := by
    have h := HV.out.2.upd hu (by omega)
    unfold VC at h
    simp [World.cell?, h]
  have hb1 := hu.below HB.out HB.out.size (by omega)
  have HE2 := Lib.hid (eqSS_k (hp1.below hb1 rfl) (hp2.below hb1 rfl))
  have HB1 := Lib.hid hb1
  clear hu hb1
  go_wp2_with fail
  refine HE2.out.mono ?_
  rintro e w2 ⟨rfl, hu2⟩
  have HU := Lib.hid (Upd.of_below (hu2.below HB1.out HB1.out.size (by omega)))
  clear hu2 hc3 hc4
  go_wp2_with fail
  go_ret
  exact ⟨rfl, HU.out⟩

set_option maxHeartbeats 1000000 in
theorem markSub_k {lo mi hi : Nat} {k0 : Int} {h p : Value} {xs : List Int} {xss : List (List Int)} {w : World} (ho : OwS lo mi h xs w) (hp : OwSS mi hi p xss w) (hlm : lo ≤ mi) (hmh : mi ≤ hi) (hhi : hi ≤ w.heap.size) {k : Nat} {K K' : Int} (hK : K = k) (hK' : K' = ((k + xs.length + total xss : Nat) : Int))
    (hk : k + xs.length + total xss ≤ 1000000000) (hn : xss.length ≤ 1000000000) :
    Calls Tryd.prog 43 #[.agg #[.int .i64 k0, h, p], .int .i64 K] w fun e w' => e = .returned (.int .i64 K') ∧ OwS lo mi h (from_ k xs.length) w' ∧ OwSS mi hi p (markedFrom (k + xs.length) xss) w' ∧ Upd lo hi w w' := by
  obtain ⟨a1, c1, rfl, -, -, -⟩ := id ho.rd
  obtain ⟨a3, c3, rfl⟩ := hp.rd.shape
  have u0 := Upd.alloc w (.cells #[.int .i64 k0, .slice a1 xs.length c1, .slice a3 xss.length c3] 61)
  have v0 : VC 61 w.heap.size #[.int .i64 k0, .slice a1 xs.length c1, .slice a3 xss.length c3] (w.alloc (.cells #[.int .i64 k0, .slice a1 xs.length c1, .slice a3 xss.length c3] 61)) := VC.new rfl
  have ho0 := ho.upd u0 (by omega)
  have hp0 := hp.upd u0 (by omega)
  obtain ⟨K1, HK1⟩ : ∃ z : Int, Hid (z = ((k + xs.length : Nat) : Int)) := ⟨_, Lib.hid rfl⟩
  have HM1 := Lib.hid (markS_k ho0 hK HK1.out (by omega))
  have HKK := Lib.hid hK'
  have HV := Lib.hid v0
  have HU := Lib.hid u0
  clear hK hK' u0 v0 ho0
  go_enter Tryd.func43, Tryd.ntmps43
  go_wp2_with fail
  refine HM1.out.mono ?_
  rintro e w1 ⟨rfl, ho1, hu1⟩
  have hp1 := hp0.upd hu1 (by omega)
  have hc3 : w1.cell? ⟨w.heap.size, 2, none⟩ = some (.slice a3 xss.length c3) := by
    have h := HV.out.upd hu1 (by omega)
    unfold VC at h
    simp [World.cell?, h]
  have HM2 := Lib.hid (markSS_k hp1 HK1.out HKK.out (by omega) hn)
  have HU1 := Lib.hid hu1
  clear hu1 HM1 hp1 hp0
  go_wp2_with fail
  refine HM2.out.mono ?_
  rintro e w2 ⟨rfl, hp2, hu2⟩
  have ho2 := ho1.upd hu2 (by omega)
  have HU2 := Lib.hid hu2
  clear hu2 hc3 HM2
  go_wp2_with fail
  go_ret
  refine ⟨rfl, ho2, hp2, ?_⟩
  have a1 := HU.out
  have a2 := HU1.out
  have a3 := HU2.out
  have s1 := a1.size
  have s2 := a2.size
  exact ⟨a3.os.trans (a2.os.trans a1.os), a3.tape.trans (a2.tape.trans a1.tape), a3.output.trans (a2.output.trans a1.output), by have := a3.size; omega,
    fun y hy hn => (a3.block y (by omega) (by omega)).trans ((a2.block y (by omega) (by omega)).trans (a1.block y hy (by omega)))⟩

set_option maxHeartbeats 1000000 in
theorem szSub_k {k0 : Int} {h p : Value} {xs : List Int} {xss : List (List Int)} {w : World} (hs : RdS h xs w) (hp : RdSS p xss w) {L : Int} (hL : L ≤ 1048576) (hL0 : 0 ≤ L) :
    Calls Tryd.prog 37 #[.agg #[.int .i64 k0, h, p], .int .i64 L] w fun e w' => ∃ r, e = .returned (.int .i64 r) ∧ LeftS L (xs.length + xss.length + total xss) r ∧ Upd 0 0 w w' := by
  obtain ⟨a1, c1, rfl, -, -, -⟩ := id hs
  obtain ⟨a3, c3, rfl⟩ := hp.shape
  have hb0 := below_alloc' w (.cells #[.int .i64 k0, .slice a1 xs.length c1, .slice a3 xss.length c3] 58)
  have v0 : VC 58 w.heap.size #[.int .i64 k0, .slice a1 xs.length c1, .slice a3 xss.length c3] (w.alloc (.cells #[.int .i64 k0, .slice a1 xs.length c1, .slice a3 xss.length c3] 58)) := VC.new rfl
  have hs0 := RdS.below hs hb0 rfl
  have hp0 := hp.below hb0 rfl
  have HS := Lib.hid (szS_any _ xs L hL hL0 _ hs0)
  have HB := Lib.hid hb0
  clear hs0 hb0
  go_enter Tryd.func37, Tryd.ntmps37
  go_wp2_with fail
  refine HS.out.mono ?_
  rintro e w1 ⟨r, rfl, hr, rfl⟩
  rcases hr with ⟨rfl, -⟩ | ⟨hr, h0⟩
  · go_wp2_with fail
    go_ret
    exact ⟨-1, rfl, .inl rfl, Upd.of_below HB.out⟩
  · have hr2 : r ≤ 1048576 := by omega
    have HR := Lib.hid hr
    have HSS := Lib.hid (szSS_k hp0 hr2 h0)
    have hn : ¬ r < 0 := by omega
    clear hr hp0
    go_wp2_with fail
    refine HSS.out.mono ?_
    rintro e w2 ⟨r2, rfl, hr2, hu2⟩
    have HU := Lib.hid (Upd.of_below (hu2.below HB.out HB.out.size (by omega)))
    clear hu2 HSS
    rcases hr2 with rfl | ⟨h2, hr2⟩
    · go_wp2_with fail
      go_ret
      exact ⟨-1, rfl, .inl rfl, HU.out⟩
    · have HR2 := Lib.hid hr2
      have hn2 : ¬ r2 < 0 := by omega
      clear hr2
      go_wp2_with fail
      go_ret
      exact ⟨r2, rfl, .inr ⟨h2, by rw [HR2.out, HR.out]; omega⟩, HU.out⟩
end Go.Proofs.YtehejjmmbjekgaaDoor
