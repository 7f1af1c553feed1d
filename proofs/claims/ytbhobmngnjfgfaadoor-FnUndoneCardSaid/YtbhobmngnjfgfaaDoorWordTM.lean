import Derived.Test.YtbhobmngnjfgfaaDoorWordSM
/-
  'l21Sets' and 'WordModel' of the reference; both.
-/

namespace Go.Proofs.YtbhobmngnjfgfaaDoor
open Go.RowKit

/-- A world in which three cells read as told. -/
structure Three (a1 a2 a3 : Addr) (v1 v2 v3 : Value) where
  W : World
  c1 : W.cell? a1 = some v1
  c2 : W.cell? a2 = some v2
  c3 : W.cell? a3 = some v3
theorem VC.unlike {t : TypeId} {b : Nat} {cs : Array Value} {w : World} {base : Nat} {e : TypeId} {u : Value} {n : Nat} {xs : List Value} (h : VC t b cs w) (ho : w.ownsRow base e 1 u n xs) (he : t ≠ e) : u.ownBlock ≠ some b := fun e' => by
  obtain ⟨c, hc⟩ := owns_block ho e'
  unfold VC at h
  rw [h] at hc
  simp at hc
  exact he hc.2

theorem l1Max_w (u v z : Int) (h : (if v < u then u else v) = z) (w : World) : Calls Tryd.prog 169 #[.int .i64 u, .int .i64 v] w fun e w' => e = .returned (.int .i64 z) ∧ w = w' := by
  by_cases hlt : v < u
  · rw [if_pos hlt] at h
    subst h
    go_enter Tryd.func169, Tryd.ntmps169
    go_wp2_with fail
    all_goals go_ret
    all_goals exact ⟨ret_int (by omega), rfl⟩
  · rw [if_neg hlt] at h
    subst h
    go_enter Tryd.func169, Tryd.ntmps169
    go_wp2_with fail
    all_goals go_ret
    all_goals exact ⟨ret_int (by omega), rfl⟩
theorem maxTo_zero {ws : List Int} (h0 : 1 ≤ ws.length) (h : ∀ y ∈ ws, 0 ≤ y) : maxTo 0 ws = maxL ws := by
  cases ws with
  | nil => simp at h0
  | cons x l =>
    have hx := h x (by simp)
    show maxTo (if 0 < x then x else 0) l = maxTo x l
    have : (if 0 < x then x else 0) = x := by split <;> omega
    rw [this]
theorem maxTo_next {ws : List Int} {k : Nat} {y mm : Int} (h : ws[k]? = some y) (hm : mm = maxTo 0 (ws.take k)) : (if y < mm then mm else y) = maxTo 0 (ws.take (k + 1)) := by
  rw [take_snoc h, maxTo_snoc, ← hm]
  split <;> split <;> omega

end Go.Proofs.YtbhobmngnjfgfaaDoor
