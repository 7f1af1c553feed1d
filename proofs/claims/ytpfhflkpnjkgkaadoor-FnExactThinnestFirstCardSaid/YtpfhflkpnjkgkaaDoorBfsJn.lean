import Derived.Test.YtpfhflkpnjkgkaaDoorGq08
import Derived.Test.YtpfhflkpnjkgkaaDoorQueueJn
/-
  'l16Reach' of the reference: what is reached from a vertex within a set.
-/


namespace Go.Proofs.YtpfhflkpnjkgkaaDoor
open Go.RowKit

def natInts (T : List Nat) : List Value := ints (T.map fun (i : Nat) => (i : Int))
@[simp] theorem natInts_length (T : List Nat) : (natInts T).length = T.length := by simp [natInts]
theorem qtail_nat {w : World} {base : Nat} {e : TypeId} {g o n cap x : Nat} {T : List Nat} (h : Qu w base e (.slice (some ⟨g, o, none⟩) n cap) (natInts (x :: T))) :
    ∃ o' cap', sliced (some ⟨g, o, none⟩) 1 n cap 1 = .slice (some ⟨g, o', none⟩) T.length cap' ∧ Qu w base e (.slice (some ⟨g, o', none⟩) T.length cap') (natInts T) := by
  have := Qu.tail (cs := natInts T) h
  rwa [natInts_length] at this
def slLen : Value → Nat
  | .slice _ n _ => n
  | _ => 0
structure Bfs (n : Nat) (e : Nat → Nat → Bool) (p : Nat → Bool) (s : Nat) (o : Nat → Bool) (T : List Nat) : Prop where
  start : o s = true
  ways : ∀ b, o b = true → b < n ∧ Way n e p s b
  todo : ∀ a ∈ T, o a = true
  closed : ∀ a, o a = true → a ∈ T ∨ ∀ b, b < n → e a b = true → p b = true → o b = true
structure Bfs2 (n : Nat) (e : Nat → Nat → Bool) (p : Nat → Bool) (s a j : Nat) (o : Nat → Bool) (T : List Nat) : Prop where
  start : o s = true
  at_ : o a = true
  ways : ∀ b, o b = true → b < n ∧ Way n e p s b
  todo : ∀ a ∈ T, o a = true
  closed : ∀ x, o x = true → x = a ∨ x ∈ T ∨ ∀ b, b < n → e x b = true → p b = true → o b = true
  near : ∀ b : Nat, (b : Int) ∈ (rowB n p).take j → e a b = true → o b = true
section
variable {n : Nat} {e : Nat → Nat → Bool} {p o : Nat → Bool} {s a j q : Nat} {T : List Nat}
theorem Bfs.first (hs : s < n) : Bfs n e p s (fun b => decide (b = s)) [s] := by
  refine ⟨by simp, fun b hb => ?_, fun x hx => by simpa using hx, fun x hx => .inl (by simpa using hx)⟩
  simp at hb; subst hb; exact ⟨hs, .here⟩
theorem Bfs.enter (h : Bfs n e p s o (a :: T)) : Bfs2 n e p s a 0 o T := by
  refine ⟨h.start, h.todo a (by simp), h.ways, fun x hx => h.todo x (by simp [hx]), fun x hx => ?_, fun b hb => by simp at hb⟩
  rcases h.closed x hx with h1 | h1
  · rcases List.mem_cons.1 h1 with h1 | h1
    · exact .inl h1
    · exact .inr (.inl h1)
  · exact .inr (.inr h1)
theorem Bfs2.skip (h : Bfs2 n e p s a j o T) (hq : (rowB n p)[j]? = some (q : Int)) (hn : e a q = true → o q = true) : Bfs2 n e p s a (j + 1) o T := by
  refine ⟨h.start, h.at_, h.ways, h.todo, h.closed, fun b hb he => ?_⟩
  rw [take_snoc hq, List.mem_append] at hb
  rcases hb with hb | hb
  · exact h.near b hb he
  · simp at hb
    obtain rfl : b = q := by omega
    exact hn he
theorem Bfs2.put (h : Bfs2 n e p s a j o T) (hq : (rowB n p)[j]? = some (q : Int)) (he : e a q = true) : Bfs2 n e p s a (j + 1) (fun b => o b || decide (b = q)) (T ++ [q]) := by
  obtain ⟨q', hqn, hpq, e1⟩ := row_at hq
  obtain rfl : q = q' := by omega
  refine ⟨by simp [h.start], by simp [h.at_], fun b hb => ?_, fun x hx => ?_, fun x hx => ?_, fun b hb he' => ?_⟩
  · rw [Bool.or_eq_true] at hb
    rcases hb with hb | hb
    · exact h.ways b hb
    · simp at hb; subst hb
      exact ⟨hqn, .step (h.ways a h.at_).2 hqn he hpq⟩
  · rcases List.mem_append.1 hx with hx | hx
    · simp [h.todo x hx]
    · simp at hx; simp [hx]
  · rw [Bool.or_eq_true] at hx
    rcases hx with hx | hx
    · rcases h.closed x hx with h1 | h1 | h1
      · exact .inl h1
      · exact .inr (.inl (by simp [h1]))
      · exact .inr (.inr fun b h2 h3 h4 => by simp [h1 b h2 h3 h4])
    · simp at hx; exact .inr (.inl (by simp [hx]))
  · rw [take_snoc hq, List.mem_append] at hb
    rcases hb with hb | hb
    · simp [h.near b hb he']
    · simp at hb
      obtain rfl : b = q := by omega
      simp
theorem Bfs2.leave (h : Bfs2 n e p s a (rowB n p).length o T) : Bfs n e p s o T := by
  refine ⟨h.start, h.ways, h.todo, fun x hx => ?_⟩
  rcases h.closed x hx with h1 | h1 | h1
  · refine .inr fun b h2 h3 h4 => ?_
    rw [h1] at h3
    exact h.near b (by rw [List.take_length]; exact nat_mem_rowB.2 ⟨h2, h4⟩) h3
  · exact .inl h1
  · exact .inr h1
theorem Bfs.done (h : Bfs n e p s o []) : o = wayB n e p s := by
  refine way_pt h.start h.ways fun a b ha hb he hp => ?_
  rcases h.closed a ha with h1 | h1
  · cases h1
  · exact h1 b hb he hp
end

end Go.Proofs.YtpfhflkpnjkgkaaDoor
