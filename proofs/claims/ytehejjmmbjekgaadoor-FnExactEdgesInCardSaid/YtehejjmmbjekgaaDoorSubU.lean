/-
  The kind Sub as one: a value that is read, one of the call's own; the helpers of the laws as contracts.
-/
import Derived.Test.YtehejjmmbjekgaaDoorSub2
namespace Go.Proofs.YtehejjmmbjekgaaDoor
open Go.RowKit

abbrev SubD := Int × List Int × List (List Int)
structure RdU (v : Value) (d : SubD) (w : World) : Prop where
  ex : ∃ h p, v = .agg #[.int .i64 d.1, h, p] ∧ RdS h d.2.1 w ∧ RdSS p d.2.2 w
structure OwU (lo hi : Nat) (v : Value) (d : SubD) (w : World) : Prop where
  ex : ∃ h p mi, v = .agg #[.int .i64 d.1, h, p] ∧ OwS lo mi h d.2.1 w ∧ OwSS mi hi p d.2.2 w ∧ lo ≤ mi ∧ mi ≤ hi
section
variable {lo hi : Nat} {v : Value} {d : SubD} {w w' : World}
theorem RdU.shape (h : RdU v d w) : ∃ a c a' c', v = .agg #[.int .i64 d.1, .slice a d.2.1.length c, .slice a' d.2.2.length c'] := by
  obtain ⟨h1, p1, rfl, hs, hp⟩ := h.ex
  obtain ⟨a1, c1, rfl, -, -, -⟩ := hs
  obtain ⟨a3, c3, rfl⟩ := hp.shape
  exact ⟨_, _, _, _, rfl⟩
theorem RdU.len1 (h : RdU v d w) : d.2.1.length ≤ maxLen := by
  obtain ⟨h1, p1, rfl, hs, hp⟩ := h.ex
  exact hs.len
theorem RdU.len2 (h : RdU v d w) : d.2.2.length ≤ maxLen := by
  obtain ⟨h1, p1, rfl, hs, hp⟩ := h.ex
  obtain ⟨_, h⟩ := hp.ex
  have h1 := h.outer.len
  have h2 := h.len
  simp at *
  omega
theorem RdU.below {B : Nat} (h : RdU v d w) (hb : Below B w w') (hB : w.heap.size = B) : RdU v d w' := by
  obtain ⟨h1, p1, rfl, hs, hp⟩ := h.ex
  exact ⟨_, _, rfl, RdS.below hs hb hB, hp.below hb hB⟩
theorem OwU.rd (h : OwU lo hi v d w) : RdU v d w := by
  obtain ⟨h1, p1, mi, rfl, hs, hp, _, _⟩ := h.ex
  exact ⟨_, _, rfl, hs.rd, hp.rd⟩
theorem OwU.shape (h : OwU lo hi v d w) : ∃ a c a' c', v = .agg #[.int .i64 d.1, .slice a d.2.1.length c, .slice a' d.2.2.length c'] := h.rd.shape
theorem OwU.upd {lo' hi' : Nat} (h : OwU lo hi v d w) (u : Upd lo' hi' w w') (hd : hi ≤ lo' ∨ hi' ≤ lo ∨ hi' ≤ lo') : OwU lo hi v d w' := by
  obtain ⟨h1, p1, mi, rfl, hs, hp, h1, h2⟩ := h.ex
  exact ⟨_, _, mi, rfl, hs.upd u (by omega), hp.upd u (by omega), h1, h2⟩
end
theorem eqU_k {v1 v2 : Value} {d : SubD} {w : World} (h1 : RdU v1 d w) (h2 : RdU v2 d w) :
    Calls Tryd.prog 42 #[v1, v2] w fun e w' => e = .returned (.bool true) ∧ Upd 0 0 w w' := by
  obtain ⟨a1, p1, rfl, hs1, hp1⟩ := h1.ex
  obtain ⟨a2, p2, rfl, hs2, hp2⟩ := h2.ex
  exact eqSub_k hs1 hs2 hp1 hp2
theorem markU_k {lo hi : Nat} {v : Value} {d : SubD} {w : World} (h : OwU lo hi v d w) (hhi : hi ≤ w.heap.size) {k : Nat} {K K' : Int} (hK : K = k) (hK' : K' = ((k + (d.2.1.length + total d.2.2) : Nat) : Int))
    (hk : k + (d.2.1.length + total d.2.2) ≤ 1000000000) (hn : d.2.2.length ≤ 1000000000) :
    Calls Tryd.prog 43 #[v, .int .i64 K] w fun e w' => e = .returned (.int .i64 K') ∧ True ∧ Upd lo hi w w' := by
  obtain ⟨a1, p1, mi, rfl, hs, hp, h1, h2⟩ := h.ex
  refine (markSub_k hs hp h1 h2 hhi hK (hK'.trans (by rw [Nat.add_assoc])) (by omega) hn).mono ?_
  rintro e w' ⟨rfl, -, -, u⟩
  exact ⟨rfl, trivial, u⟩
theorem szU_k {v : Value} {d : SubD} {w : World} (h : RdU v d w) {L : Int} (hL : L ≤ 1048576) (hL0 : 0 ≤ L) :
    Calls Tryd.prog 37 #[v, .int .i64 L] w fun e w' => ∃ r, e = .returned (.int .i64 r) ∧ LeftS L (d.2.1.length + d.2.2.length + total d.2.2) r ∧ Upd 0 0 w w' := by
  obtain ⟨a1, p1, rfl, hs1, hp1⟩ := h.ex
  exact szSub_k hs1 hp1 hL hL0
theorem toU_k {v : Value} {d : SubD} {w : World} (h : RdU v d w) (hn : d.2.1.length ≤ 1048576) (hnn : d.2.2.length ≤ 1048576) (hns : ∀ ys ∈ d.2.2, ys.length ≤ 1048576) {lo : Nat} (hlo : w.heap.size = lo) :
    Calls Tryd.prog 39 #[v] w fun e w' => ∃ u, e = .returned u ∧ OwU lo w'.heap.size u d w' ∧ Upd 0 0 w w' := by
  obtain ⟨a1, p1, rfl, hs1, hp1⟩ := h.ex
  refine (toSub_k hs1 hp1 hn hnn hns hlo).mono ?_
  rintro e w' ⟨u, q, mi, rfl, ho, hq, h1, h2, hu⟩
  exact ⟨_, rfl, ⟨_, _, mi, rfl, ho, hq, h1, h2⟩, hu⟩
end Go.Proofs.YtehejjmmbjekgaaDoor
