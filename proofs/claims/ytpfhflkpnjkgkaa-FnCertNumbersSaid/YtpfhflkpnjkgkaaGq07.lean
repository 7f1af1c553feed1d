import Derived.Test.YtpfhflkpnjkgkaaGq06
/-
  'Induced' of the reference and of the program.
-/

namespace Go.Proofs.Ytpfhflkpnjkgkaa
open Go.RowKit

/-- The graph on the vertices of a list. -/
def ofList (e : Nat → Nat → Bool) (xs : List Int) : Nat → Nat → Bool := sym fun a b => e (atL xs b) (atL xs a)
theorem InP.lt {n : Nat} {xs : List Int} (h : InP n xs) {i : Nat} (hi : i < xs.length) : atL xs i < n := by
  obtain ⟨k, hk, hkn⟩ := h.at (i := i) (List.getElem?_eq_getElem hi)
  have : atL xs i = k := atL_eq (by rw [List.getElem?_eq_getElem hi, hk])
  omega
theorem NB_ofList {n : Nat} {e : Nat → Nat → Bool} (hA : Adj n e) {xs : List Int} (hin : InP n xs) : NB xs.length (fun a b => e (atL xs a) (atL xs b)) = NB xs.length (ofList e xs) := by
  refine NB_ext fun a b ha hb => ?_
  have h1 := hin.lt ha
  have h2 := hin.lt hb
  unfold ofList sym
  rcases Nat.lt_trichotomy a b with h | h | h
  · have h3 : ¬ b < a := by omega
    simp [h, h3, hA.sym _ _ h1 h2]
  · subst h
    simp [hA.irr _ h1]
  · have h3 : ¬ a < b := by omega
    simp [h, h3]
theorem SetP.inP {n : Nat} {xs : List Int} (h : SetP n xs) : InP n xs := fun x hx => h.1 x hx

/-- What 'Induced' asks. -/
def OkN (xss : List (List Int)) (xs : List Int) : Prop := okB xss = true ∧ SetP xss.length xs ∧ xs.length ≠ 0
def IndP (xss : List (List Int)) (xs : List Int) (rows : List (List Int)) (ok : Bool) : Prop :=
  (¬ OkN xss xs ∧ rows = [] ∧ ok = false) ∨ ∃ e, Adj xss.length e ∧ xss = rowsB xss.length e ∧ OkN xss xs ∧ rows = rowsB xs.length (ofList e xs) ∧ ok = true

end Go.Proofs.Ytpfhflkpnjkgkaa
/-
  'ApexOf' of the reference and of the program.
-/

namespace Go.Proofs.Ytpfhflkpnjkgkaa
open Go.RowKit

/-- The numbers below n. -/
def allN (n : Nat) : List Int := (List.range n).map fun (i : Nat) => (i : Int)
@[simp] theorem allN_length (n : Nat) : (allN n).length = n := by simp [allN]
theorem setP_allN (n : Nat) : SetP n (allN n) := by
  have := setP_rowB n (fun _ => true)
  rwa [rowB_all] at this

theorem ok_size' {xss : List (List Int)} (h : okB xss = true) : 1 ≤ xss.length ∧ xss.length ≤ 16 := by
  have : OkP xss := by unfold okB at h; simpa using h
  exact this.1

/-- What 'ApexOf' gives. -/
def ApexP (xss : List (List Int)) (rows : List (List Int)) (ok : Bool) : Prop :=
  ((okB xss = false ∨ xss.length = 16) ∧ rows = [] ∧ ok = false) ∨ (okB xss = true ∧ xss.length ≠ 16 ∧ ∃ e, Adj xss.length e ∧ xss = rowsB xss.length e ∧ rows = rowsB (xss.length + 1) (hung xss.length e (allN xss.length)) ∧ ok = true)
theorem ApexP.vertex {xss rows : List (List Int)} {ok : Bool} (h : ApexP xss rows ok) :
    (¬ OkV xss (allN xss.length) ∧ rows = [] ∧ ok = false) ∨ ∃ e, Adj xss.length e ∧ xss = rowsB xss.length e ∧ OkV xss (allN xss.length) ∧ rows = rowsB (xss.length + 1) (hung xss.length e (allN xss.length)) ∧ ok = true := by
  rcases h with ⟨h1, h2, h3⟩ | ⟨h1, h2, e, hA, hx, hr, hk⟩
  · refine .inl ⟨fun h => ?_, h2, h3⟩
    rcases h1 with h1 | h1
    · rw [h.1] at h1; cases h1
    · exact h.2.2 h1
  · exact .inr ⟨e, hA, hx, ⟨h1, setP_allN _, h2⟩, hr, hk⟩

end Go.Proofs.Ytpfhflkpnjkgkaa
/-
  'CutVertex' of the reference and of the program.
-/


namespace Go.Proofs.Ytpfhflkpnjkgkaa
open Go.RowKit

/-- The numbers below n but one. -/
def cutL (n k : Nat) : List Int := rowB n fun b => !decide (b = k)
theorem cutL_length (n k : Nat) : (cutL n k).length ≤ n := rowB_length _ _
theorem cutL_in (n k : Nat) : InP n (cutL n k) := (setP_rowB n _).inP
theorem cutL_without (n k : Nat) : without (allN n) (k : Int) = cutL n k := by
  have h : allN n = rowB n (fun _ => true) := by rw [rowB_all]; rfl
  rw [h, without_rowB]
  rfl
/-- What 'CutVertex' asks. -/
def OkX (xss : List (List Int)) (v : Int) : Prop := vertexB xss v = true ∧ xss.length ≠ 1
instance (xss : List (List Int)) (v : Int) : Decidable (OkX xss v) := by unfold OkX; infer_instance
def CutP (xss : List (List Int)) (v : Int) (rows : List (List Int)) (ok : Bool) : Prop :=
  (¬ OkX xss v ∧ rows = [] ∧ ok = false) ∨ ∃ (e : Nat → Nat → Bool) (k : Nat), Adj xss.length e ∧ xss = rowsB xss.length e ∧ v = k ∧ k < xss.length ∧ OkX xss v ∧ rows = rowsB (cutL xss.length k).length (ofList e (cutL xss.length k)) ∧ ok = true

end Go.Proofs.Ytpfhflkpnjkgkaa
/-
  'SplitEdge' of the reference and of the program.
-/

namespace Go.Proofs.Ytpfhflkpnjkgkaa
open Go.RowKit

theorem edge_out {xss : List (List Int)} {u v : Int} (h : okB xss = true) (hu : inN xss.length u = true) (hv : inN xss.length v = false) : (xss.getD u.toNat []).contains v = false := by
  obtain ⟨e, hA, hx⟩ := (okB_iff xss).1 h
  obtain ⟨a, rfl, ha⟩ := inN_nat hu
  rw [Int.toNat_natCast, hx, rowsB_getD e ha]
  cases hc : (rowB xss.length (e a)).contains v with
  | false => rfl
  | true =>
    obtain ⟨i, hi, -, rfl⟩ := mem_rowB.1 (List.contains_iff_mem.1 hc)
    have : inN xss.length (i : Int) = true := by rw [inN_iff]; omega
    rw [this] at hv
    cases hv

/-- The lesser, and the greater, of two numbers. -/
def duo (u v : Int) : List Int := [if u < v then u else v, if v < u then u else v]
theorem min_any (u v : Int) (w : World) : Calls Try.prog 55 #[.int .i64 u, .int .i64 v] w fun e w' => e = .returned (.int .i64 (if u < v then u else v)) ∧ w = w' := by
  by_cases h : u < v
  · have hi : (if u < v then u else v) = u := if_pos h
    have HI := Lib.hid hi
    clear hi
    go_enter Try.func55, Try.ntmps55
    go_wp2_with fail
    go_ret
    exact ⟨rfl, rfl⟩
  · have hi : (if u < v then u else v) = v := if_neg h
    have HI := Lib.hid hi
    clear hi
    go_enter Try.func55, Try.ntmps55
    go_wp2_with fail
    go_ret
    exact ⟨rfl, rfl⟩
theorem adj_minus {n : Nat} {e : Nat → Nat → Bool} (h : Adj n e) (u v : Nat) : Adj n (minus e u v) := by
  refine ⟨h.pos, h.le, fun x hx => by unfold minus; rw [h.irr x hx]; rfl, fun x y hx hy => ?_⟩
  unfold minus
  rw [h.sym x y hx hy, Bool.and_assoc, Bool.and_assoc]
  congr 1
  rw [Bool.and_comm]
  congr 2
  · exact Bool.and_comm _ _
  · exact Bool.and_comm _ _
theorem duo_set {n k l : Nat} (hk : k < n) (hl : l < n) (h : k ≠ l) : SetP n (duo (k : Int) (l : Int)) := by
  unfold duo SetP
  rcases Nat.lt_or_gt_of_ne h with h1 | h1
  · have e1 : (k : Int) < l := by omega
    have e2 : ¬ (l : Int) < k := by omega
    rw [if_pos e1, if_neg e2]
    refine ⟨fun x hx => ?_, by simpa using h1⟩
    rcases List.mem_cons.1 hx with rfl | hx
    · omega
    · rw [List.mem_singleton.1 hx]; omega
  · have e1 : ¬ (k : Int) < l := by omega
    have e2 : (l : Int) < k := by omega
    rw [if_neg e1, if_pos e2]
    refine ⟨fun x hx => ?_, by simpa using h1⟩
    rcases List.mem_cons.1 hx with rfl | hx
    · omega
    · rw [List.mem_singleton.1 hx]; omega
/-- The order of the two is no matter. -/
theorem hung_duo (n : Nat) (f : Nat → Nat → Bool) {k l : Nat} (h : k ≠ l) : hung n f (duo (k : Int) (l : Int)) = plus (plus (grown n f) k n) l n := by
  unfold duo hung
  rcases Nat.lt_or_gt_of_ne h with h1 | h1
  · have e1 : (k : Int) < l := by omega
    have e2 : ¬ (l : Int) < k := by omega
    rw [if_pos e1, if_neg e2]
    simp
  · have e1 : ¬ (k : Int) < l := by omega
    have e2 : (l : Int) < k := by omega
    rw [if_neg e1, if_pos e2]
    simp only [List.foldl_cons, List.foldl_nil, Int.toNat_natCast]
    funext a b
    unfold plus
    ac_rfl
theorem minus_grown (n : Nat) (e : Nat → Nat → Bool) (u v : Nat) : minus (grown n e) u v = grown n (minus e u v) := by
  funext a b
  simp only [minus, grown]
  ac_rfl

/-- What 'SplitEdge' asks. -/
def OkD (xss : List (List Int)) (u v : Int) : Prop := edgeB xss u v = true ∧ xss.length ≠ 16
instance (xss : List (List Int)) (u v : Int) : Decidable (OkD xss u v) := by unfold OkD; infer_instance
theorem two_edge {xss : List (List Int)} {u v : Int} (h : edgeB xss u v = true) : ∃ e k l, Two xss u v xss.length e k l ∧ k ≠ l ∧ OkC xss u v := by
  have h0 := h
  unfold edgeB at h
  rw [Bool.and_eq_true, Bool.and_eq_true] at h
  obtain ⟨⟨h1, h2⟩, h3⟩ := h
  have h4 : inN xss.length v = true := by
    cases hv : inN xss.length v with
    | true => rfl
    | false => rw [edge_out h1 h2 hv] at h3; cases h3
  have hu : vertexB xss u = true := by unfold vertexB; rw [h1, h2]; rfl
  have hv : vertexB xss v = true := by unfold vertexB; rw [h1, h4]; rfl
  obtain ⟨e, k, l, hT⟩ := two_of hu hv
  have he := edgeB_two hT
  refine ⟨e, k, l, hT, fun hkl => ?_, hu, hv, h0⟩
  rw [h0, hkl, hT.adj.irr l hT.bn] at he
  cases he
def SplP (xss : List (List Int)) (u v : Int) (rows : List (List Int)) (ok : Bool) : Prop :=
  (¬ OkD xss u v ∧ rows = [] ∧ ok = false) ∨ ∃ e k l, Two xss u v xss.length e k l ∧ k ≠ l ∧ OkD xss u v ∧ rows = rowsB (xss.length + 1) (hung xss.length (minus e k l) (duo u v)) ∧ ok = true

end Go.Proofs.Ytpfhflkpnjkgkaa
/-
  'SplitEdge' of the program.
-/

namespace Go.Proofs.Ytpfhflkpnjkgkaa
open Go.RowKit

end Go.Proofs.Ytpfhflkpnjkgkaa
