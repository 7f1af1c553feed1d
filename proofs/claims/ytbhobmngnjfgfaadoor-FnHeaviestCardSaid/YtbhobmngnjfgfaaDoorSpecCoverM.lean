import Derived.Test.YtbhobmngnjfgfaaDoorGq14
import Derived.Test.YtbhobmngnjfgfaaDoorSearchImplM
/-
  The reference's searches over all sets: 'LeastRule', 'LeastCover', 'BestStable', 'BestClique'; both.
-/


namespace Go.Proofs.YtbhobmngnjfgfaaDoor
open Go.RowKit

theorem ahead_size {k r : Nat} (hk : k < 4294967296) (hr : r < 4294967296) : Ahead size k r ↔ size k < size r ∨ (size k = size r ∧ lexB k r = true) := by
  unfold Ahead
  rw [lexB_iff hk hr]
theorem ahead_keyM {k r : Nat} (hk : k < 4294967296) (hr : r < 4294967296) : Ahead keyM k r ↔ size r < size k ∨ (size k = size r ∧ lexB k r = true) := by
  unfold Ahead keyM
  rw [lexB_iff hk hr]
  have := size_le k
  have := size_le r
  constructor
  · rintro (h | ⟨h, h2⟩)
    · exact .inl (by omega)
    · exact .inr ⟨by omega, h2⟩
  · rintro (h | ⟨h, h2⟩)
    · exact .inl (by omega)
    · exact .inr ⟨by omega, h2⟩
theorem exists_best (key : Nat → Nat) (fit : Nat → Bool) {n i0 : Nat} (h0 : i0 < 2 ^ n) (hf : fit i0 = true) : ∃ r, IsBest key (fun s => fit s = true) (2 ^ n) r := by
  obtain ⟨r, hr⟩ := exists_run key (fun s => fit s = true) i0 (2 ^ n)
  exact ⟨r, hr.best h0 hf⟩
theorem bits_all {n b : Nat} (hb : b < n) : (2 ^ n - 1).testBit b = true := by rw [Nat.testBit_two_pow_sub_one]; simpa using hb
theorem rule_all (n : Nat) (e : Nat → Nat → Bool) : ruleF n e (2 ^ n - 1) = true := by
  unfold ruleF ruleB
  rw [decide_eq_true_eq]
  refine maskB_ext fun b hb => ?_
  unfold domB allB
  rw [bits_all hb]
  simp [hb]
theorem cov_all (n : Nat) (e : Nat → Nat → Bool) : covF n e (2 ^ n - 1) = true := by
  unfold covF covB
  refine stB_iff.2 fun v hv h => ?_
  rw [bits_all hv] at h
  simp at h
theorem st_none (n : Nat) (e : Nat → Nat → Bool) : stF n e 0 = true := stB_iff.2 fun v _ h => by simp at h
theorem cl_none (n : Nat) (e : Nat → Nat → Bool) : clF n e 0 = true := stB_iff.2 fun v _ h => by simp at h
theorem searchP_has (key : Nat → Nat) (fit : Nat → (Nat → Nat → Bool) → Nat → Bool) (i0 : Nat → Nat) (h0 : ∀ n, i0 n < 2 ^ n) (hf : ∀ n e, fit n e (i0 n) = true) (xss : List (List Int)) : ∃ rs : List Int, 1 + rs.length ≤ 1000000000 ∧ SearchP key fit xss rs := by
  cases hok : okB xss with
  | false => exact ⟨[], by simp, .inl ⟨hok, rfl⟩⟩
  | true =>
    obtain ⟨e, hA, hx⟩ := (okB_iff xss).1 hok
    obtain ⟨r, hr⟩ := exists_best key (fit xss.length e) (h0 xss.length) (hf xss.length e)
    have hn := hA.le
    have hl := rowB_length xss.length r.testBit
    exact ⟨_, by omega, .inr ⟨e, r, hA, hx, hr, rfl⟩⟩

theorem less_over (a b : Nat) (ha : a < 4294967296) (hb : b < 4294967296) (A X : Int) (hA : A = a) (hX : X = b) (q : Bool) (hq : lexB a b = q) {w : World} (x : More) :
    Calls Tryd.prog 182 #[.int .i64 A, .int .i64 X] (over w x) fun e w' => e = .returned (.bool q) ∧ Below (over w x).heap.size (over w x) w' := by
  refine (less_any a b ha hb A X hA hX _).mono ?_
  rintro e w' ⟨rfl, rfl⟩
  exact ⟨ret_bool hq, Below.refl _ _⟩
theorem near_over (v2 : Value) (n : Nat) (e : Nat → Nat → Bool) (hn : n ≤ 16) (m : Nat) (hm : m < 2 ^ n) (M : Int) (hM : M = m) (d : Int) (hd : d = (maskB n (domB n e m.testBit) : Nat)) {w : World} (hr : RdS v2 (natL (NB n e)) w) (x : More) :
    Calls Tryd.prog 115 #[v2, .int .i64 M] (over w x) fun r w' => r = .returned (.int .i64 d) ∧ Below (over w x).heap.size (over w x) w' := by
  subst hd
  refine (near25_any v2 n e hn m hm M hM _ (Row.below hr (below_over w x))).mono ?_
  rintro e w' ⟨rfl, rfl⟩
  exact ⟨rfl, Below.refl _ _⟩
theorem all_over (a : Option Addr) (n c : Nat) (hn : n ≤ 16) (d : Int) (hd : d = ((2 ^ n - 1 : Nat) : Int)) {w : World} (x : More) :
    Calls Tryd.prog 118 #[.agg #[.slice a n c]] (over w x) fun e w' => e = .returned (.int .i64 d) ∧ Below (over w x).heap.size (over w x) w' := by
  subst hd
  exact all25_any a n c hn _

end Go.Proofs.YtbhobmngnjfgfaaDoor
