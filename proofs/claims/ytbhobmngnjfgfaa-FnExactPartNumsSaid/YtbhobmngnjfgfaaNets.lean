/-
  The program's 'nets': 'join', 'graph'.
-/
import Derived.Test.YtbhobmngnjfgfaaSets
import Derived.Test.YtbhobmngnjfgfaaNest
import Derived.Deep.QuietTactic
import Derived.BigQuiet
import Derived.Test.YtbhobmngnjfgfaaOrder
namespace Go.Proofs.Ytbhobmngnjfgfaa
open Go.RowKit

def sets (ms : List Nat) : List Value := ms.map fun (m : Nat) => Value.int .u32 m
@[simp] theorem sets_length (ms : List Nat) : (sets ms).length = ms.length := by simp [sets]
theorem bits_or {a b : Nat} (ha : a < 4294967296) (hb : b < 4294967296) : bits BinOp.or IntKind.u32 (a : Int) (b : Int) = ((a ||| b : Nat) : Int) := u32_or_nat a b ha hb


def joinS (ms : List Nat) (u v : Nat) : List Nat :=
  let ns := ms.set u (ms.getD u 0 ||| 2 ^ v)
  ns.set v (ns.getD v 0 ||| 2 ^ u)

/-- All are sets of 32 bits. -/
def Small (ms : List Nat) : Prop := ∀ m ∈ ms, m < 4294967296
theorem Small.set {ms : List Nat} (h : Small ms) (u : Nat) {x : Nat} (hx : x < 4294967296) : Small (ms.set u x) := by
  intro m hm
  rcases List.mem_or_eq_of_mem_set hm with hm | rfl
  · exact h m hm
  · exact hx
theorem Small.getD {ms : List Nat} (h : Small ms) (u : Nat) : ms.getD u 0 < 4294967296 := by
  by_cases hu : u < ms.length
  · have : ms.getD u 0 = ms[u] := by simp [List.getD, hu]
    rw [this]; exact h _ (List.getElem_mem hu)
  · simp [List.getD, List.getElem?_eq_none (Nat.le_of_not_lt hu)]
theorem or_small {a b : Nat} (ha : a < 4294967296) (hb : b < 4294967296) : a ||| b < 4294967296 := by
  have := @Nat.or_lt_two_pow a b 32 (by rw [two32]; exact ha) (by rw [two32]; exact hb)
  rwa [two32] at this
theorem pow_small {v : Nat} (h : v < 32) : 2 ^ v < 4294967296 := by
  have := Nat.pow_lt_pow_right (a := 2) (by decide) h
  rwa [two32] at this
theorem Small.join {ms : List Nat} (h : Small ms) {u v : Nat} (hu : u < 32) (hv : v < 32) : Small (joinS ms u v) := by
  have h1 := h.set u (or_small (h.getD u) (pow_small hv))
  exact h1.set v (or_small (h1.getD v) (pow_small hu))
@[simp] theorem joinS_length (ms : List Nat) (u v : Nat) : (joinS ms u v).length = ms.length := by simp [joinS]
theorem sets_set (ms : List Nat) (u x : Nat) : sets (ms.set u x) = (sets ms).set u (.int .u32 (x : Nat)) := by simp [sets, List.map_set]
theorem sets_at {ms : List Nat} {u : Nat} (h : u < ms.length) : (sets ms)[u]? = some (.int .u32 ((ms.getD u 0 : Nat) : Int)) := by simp [sets, List.getD, h]

theorem grown_trans {w w1 w2 : World} {r : Option Nat} (h : w.grownBy w1 r) (h' : w1.grownBy w2 r) : w.grownBy w2 r :=
  ⟨h'.os.trans h.os, h'.tape.trans h.tape, h'.output.trans h.output, Nat.le_trans h.size h'.size, fun k hk hne => (h'.block k (Nat.lt_of_lt_of_le hk h.size) hne).trans (h.block k hk hne)⟩
theorem grown_drew {w w1 : World} {r : Option Nat} (h : w.grownBy w1 r) : w.grownBy w1.drew r := ⟨h.os, h.tape, h.output, h.size, h.block⟩

theorem infoR : (Try.prog.info? 24).map (fun i => (i.zero, i.size, i.bytes)) = some (some (.slice none 0 0), 1, 24) := by kernel_rfl

theorem Row.setAt {w : World} {a : Option Addr} {len cap n : Nat} {ms : List Nat} (h : Row w 1 (.slice a len cap) n (sets ms)) {j : Nat} (hj : j < ms.length) :
    ∃ b o x, a = some ⟨b, o, none⟩ ∧ w.cell? ⟨b, o + j, none⟩ = some (.int .u32 ((x : Nat) : Int)) ∧ Hid (ms[j]? = some x) := by
  obtain ⟨a', cap', e, h1, h2, h3, h4, h5⟩ := h
  obtain ⟨rfl, rfl, rfl⟩ : a' = a ∧ n = len ∧ cap' = cap := by simpa [eq_comm] using e
  obtain ⟨b, o, rfl, hc⟩ := h5 j (.int .u32 ((ms[j] : Nat) : Int)) (by simp [sets, hj])
  exact ⟨b, o, ms[j], rfl, hc, Lib.hid (by simp [hj])⟩

theorem map_ints_inj {xss yss : List (List Int)} (h : xss.map ints = yss.map ints) : xss = yss := by
  refine (List.map_inj_right (f := ints) ?_).1 h
  intro a b hab
  exact (List.map_inj_right (f := Value.int .i64) (by intro x y e; simpa using e)).1 hab
theorem ints_inj {xs ys : List Int} (h : ints xs = ints ys) : xs = ys :=
  (List.map_inj_right (f := Value.int .i64) (by intro x y e; simpa using e)).1 h

theorem RdG.intsAt {w : World} {vs : List Value} {xss : List (List Int)} {a : Option Addr} {len cap : Nat} (h : RdG w (.slice a len cap) vs (xss.map ints)) {k : Nat} (hk : k < xss.length) :
    ∃ b o u xs, a = some ⟨b, o, none⟩ ∧ w.cell? ⟨b, o + k, none⟩ = some u ∧ Row w 1 u xs.length (ints xs) ∧ Hid (vs[k]? = some u) ∧ Hid (xss[k]? = some xs) := by
  obtain ⟨b, o, u, cs, h1, h2, h3, h4, h5⟩ := h.rowAt (k := k) (by simpa using hk)
  have e : cs = ints xss[k] := by have := h5.out; simpa [hk, eq_comm] using this
  subst e
  exact ⟨b, o, u, xss[k], h1, h2, by simpa using h3, h4, Lib.hid (by simp [hk])⟩

/-- The rows of a graph whose sets of neighbours are ms. -/
def rowsOf (ms : List Nat) : List (List Int) := ms.map nums

theorem sets_zeros (n : Nat) : List.replicate n (Value.int .u32 0) = sets (List.replicate n 0) := by simp [sets]
theorem small_zeros (n : Nat) : Small (List.replicate n 0) := by
  intro m hm
  rw [List.eq_of_mem_replicate hm]
  decide

end Go.Proofs.Ytbhobmngnjfgfaa
