/-
  'joinedNums' of the program.
-/
import Derived.Test.YtehejjmmbjekgaaFlat
import Derived.Shelf.SlicesE.IndexFunc
import Derived.Lib.SliceRun
namespace Go.Proofs
open Go.Shelf
def Try.l8_ren : Go.Shelf.Ren := ⟨fun | 8 => 32 | 6 => 36 | n => n, fun | 22 => 22 | 23 => 24 | 25 => 50 | 4 => 4 | 3 => 3 | 0 => 0 | n => n, fun | n => n⟩
theorem Try.l8 : Go.Proofs.SlLaysH.n8 Try.prog Try.l8_ren := {
  mixed := by kernel_rfl
  f6 := ⟨Try.f36.name, by decide, Try.func36.trans (congrArg some (by kernel_rfl))⟩
  f8 := ⟨Try.f32.name, by decide, Try.func32.trans (congrArg some (by kernel_rfl))⟩
  t0 := Try.underlying0
  a0 := Try.isAgg0
  z0 := Try.sizeOf0
  v0 := Try.zeroValue0
  t3 := Try.underlying3
  a3 := Try.isAgg3
  z3 := Try.sizeOf3
  v3 := Try.zeroValue3
  t4 := Try.underlying4
  a4 := Try.isAgg4
  z4 := Try.sizeOf4
  v4 := Try.zeroValue4
  t22 := Try.underlying22
  a22 := Try.isAgg22
  z22 := Try.sizeOf22
  v22 := Try.zeroValue22
  a23 := Try.isAgg24
  z23 := Try.sizeOf24
  t25 := Try.underlying50
  a25 := Try.isAgg50
  z25 := Try.sizeOf50
  v25 := Try.zeroValue50 }
end Go.Proofs
namespace Go.Proofs.Ytehejjmmbjekgaa
open Go.RowKit Go.Shelf Go.Lib

/-- A slice of numbers, its parts. -/
def sl (t : Option Addr × Nat × Nat) : Value := .slice t.1 t.2.1 t.2.2

theorem joinedPred (k : Nat) (B : Nat) (w : World) (hB : B < w.heap.size) (hcell : w.cell? ⟨B, 0, none⟩ = some (.int .i64 k)) :
    PredAt Try.prog 33 #[.pointer (some ⟨B, 0, none⟩)] sl (fun t => (t.2.1 : Int) != (k : Int)) w := fun W x hb => by
  have hc : W.cell? ⟨B, 0, none⟩ = some (.int .i64 k) := (hb.cell (p := ⟨B, 0, none⟩) hB).trans hcell
  obtain ⟨a, n, c⟩ := x
  show Calls Try.prog 33 #[.slice a n c, .pointer (some ⟨B, 0, none⟩)] W _
  go_enter Try.func33, Try.ntmps33
  go_wp2_with fail
  go_ret
  exact ⟨rfl, 0, rfl⟩

/-- The rows' slices, their parts. -/
theorem parts_of {w : World} {v : Value} {vs : List Value} {xss : List (List Int)} (h : RdG w v vs (xss.map ints)) : ∃ T : List (Option Addr × Nat × Nat), vs = T.map sl ∧ T.map (fun t => t.2.1) = xss.map List.length := by
  have e1 : vs.length = xss.length := by simpa using h.len
  have each : ∀ i, i < xss.length → ∃ t, vs[i]? = some (sl t) ∧ (xss[i]?).map List.length = some t.2.1 := by
    intro i hi
    have hr := h.rows i (vs[i]'(by omega)) (ints xss[i]) (by simp) (by simp [hi])
    obtain ⟨a, c, he, -, -, -⟩ := hr
    exact ⟨(a, (ints xss[i]).length, c), by rw [List.getElem?_eq_getElem (by omega), he]; rfl, by simp [hi]⟩
  refine ⟨vs.map fun v => match v with | .slice a n c => (a, n, c) | _ => (none, 0, 0), ?_, ?_⟩
  · apply List.ext_getElem?
    intro i
    by_cases hi : i < xss.length
    · obtain ⟨t, ht, _⟩ := each i hi
      simp [ht, sl]
    · rw [List.getElem?_eq_none (by omega), List.getElem?_eq_none (by simp; omega)]
  · apply List.ext_getElem?
    intro i
    by_cases hi : i < xss.length
    · obtain ⟨t, ht, hl⟩ := each i hi
      simp only [List.getElem?_map, ht, Option.map_some, sl]
      exact hl.symm
    · rw [List.getElem?_eq_none (by simp; omega), List.getElem?_eq_none (by simp; omega)]

theorem any_parts (T : List (Option Addr × Nat × Nat)) (xss : List (List Int)) (k : Nat) (h : T.map (fun t => t.2.1) = xss.map List.length) : T.any (fun t => (t.2.1 : Int) != (k : Int)) = xss.any fun xs => xs.length != k := by
  have h1 : T.any (fun t => (t.2.1 : Int) != (k : Int)) = (T.map fun t => t.2.1).any fun n => n != k := by
    rw [List.any_map]
    congr 1
    funext t
    rw [Bool.eq_iff_iff]; simp; omega
  rw [h1, h, List.any_map]
  rfl

theorem containsBad (v : Value) (vs : List Value) (xss : List (List Int)) (k B : Nat) (w : World) (hr : RdG w v vs (xss.map ints)) (hB : B < w.heap.size) (hcell : w.cell? ⟨B, 0, none⟩ = some (.int .i64 k)) :
    Calls Try.prog 32 #[v, .func (.func 33) #[] #[.pointer (some ⟨B, 0, none⟩)]] w fun e w' =>
      e = .returned (.bool (xss.any fun xs => xs.length != k)) ∧ ∃ q, w' = w.drewN q := by
  have hl := hr.outer.len
  unfold maxLen at hl
  have e1 : vs.length = xss.length := by simpa using hr.len
  obtain ⟨T, hT, hTl⟩ := parts_of hr
  have hTlen : T.length = xss.length := by have := congrArg List.length hTl; simpa using this
  obtain ⟨a, c, rfl, hle, hcm, -, hn, hcells⟩ := id hr.outer
  by_cases h0 : xss.length = 0
  · have hx : xss = [] := List.length_eq_zero_iff.1 h0
    rw [e1, h0]
    refine (AnyE.slices_ContainsFunc_empty Try.l8 a c _ w).mono ?_
    rintro e w' ⟨rfl, rfl⟩
    exact ⟨by rw [hx]; rfl, 0, rfl⟩
  · obtain ⟨b, o, rfl, -⟩ := hcells 0 (vs[0]'(by omega)) (by simp)
    have eg : ∀ args w, (callFunc 33 args).run Try.prog w = .ok (.enter 33 args) w := enters_of Try.func33 (by kernel_rfl) rfl
    have hcon := AnyE.slices_ContainsFunc Try.l8 sl (fun t => (t.2.1 : Int) != (k : Int)) 33 #[.pointer (some ⟨B, 0, none⟩)] eg b o vs.length c T w (joinedPred k B w hB hcell) (by omega) (by omega)
      (fun j hj => by
        obtain ⟨b', o', e', hc⟩ := hcells j (sl T[j]!) (by rw [hT]; simp [hj])
        obtain ⟨rfl, rfl⟩ : b = b' ∧ o = o' := by simpa using e'
        exact hc)
    rw [show T.take vs.length = T by rw [e1, ← hTlen, List.take_length], any_parts T xss k hTl] at hcon
    exact hcon
end Go.Proofs.Ytehejjmmbjekgaa
