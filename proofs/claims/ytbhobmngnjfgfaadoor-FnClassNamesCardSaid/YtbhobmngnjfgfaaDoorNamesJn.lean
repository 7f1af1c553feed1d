import Derived.Test.YtbhobmngnjfgfaaDoorGq04
/-
  The names of the classes: 'l32Names', 'ClassName', 'NameClass' of the reference; 'classNames', 'ClassName', 'NameClass' of the program; slices.Index over strings.
-/

namespace Go.Proofs.YtbhobmngnjfgfaaDoor
open Go.RowKit

def cn : List ByteArray := [⟨#[115, 105, 100, 101, 115]⟩, ⟨#[99, 104, 111, 114, 100, 97, 108]⟩, ⟨#[105, 110, 116, 101, 114, 118, 97, 108]⟩, ⟨#[99, 111, 109, 112, 97, 114, 97, 98, 105, 108, 105, 116, 121]⟩, ⟨#[112, 101, 114, 109, 117, 116, 97, 116, 105, 111, 110]⟩,
  ⟨#[99, 111, 103, 114, 97, 112, 104]⟩, ⟨#[100, 105, 115, 116, 97, 110, 99, 101]⟩, ⟨#[115, 101, 114, 105, 101, 115]⟩, ⟨#[111, 117, 116, 101, 114]⟩, ⟨#[112, 108, 97, 110, 97, 114]⟩]
theorem cn_length : cn.length = 10 := rfl
def strV (ss : List ByteArray) : List Value := ss.map Value.string
@[simp] theorem strV_length (ss : List ByteArray) : (strV ss).length = ss.length := by simp [strV]

theorem Row.strAt {w : World} {a : Option Addr} {len cap n : Nat} {ss : List ByteArray} (h : Row w 1 (.slice a len cap) n (strV ss)) {j : Nat} (hj : j < ss.length) :
    ∃ b o s, a = some ⟨b, o, none⟩ ∧ w.cell? ⟨b, o + j, none⟩ = some (.string s) ∧ Hid (ss[j]? = some s) := by
  obtain ⟨a', cap', e, h1, h2, h3, h4, h5⟩ := h
  obtain ⟨rfl, rfl, rfl⟩ : a' = a ∧ n = len ∧ cap' = cap := by simpa [eq_comm] using e
  obtain ⟨b, o, rfl, hc⟩ := h5 j (.string ss[j]) (by simp [strV, hj])
  exact ⟨b, o, ss[j], rfl, hc, Lib.hid (by simp [hj])⟩

theorem names_any (w : World) :
    Calls Tryd.prog 146 #[] w fun e w' => ∃ v, e = .returned v ∧ Row w' 1 v 10 (strV cn) ∧ Below w.heap.size w w' := by
  go_enter Tryd.func146, Tryd.ntmps146
  go_wp2_with fail
  go_ret
  exact ⟨_, rfl, Row.of_owns (World.ownsRow_lit w (strV cn).toArray 10 (Nat.le_refl _) (by simp [maxLen]) rfl), (Below.refl _ _).alloc (Nat.le_refl _) _⟩

/-- The name of a class; none: the empty text. -/
def nameOf (c : Int) : ByteArray := if 1 ≤ c ∧ c ≤ 10 then cn.getD (c - 1).toNat ByteArray.empty else ⟨#[]⟩

set_option maxHeartbeats 1000000 in
theorem specClassName (c : Int) (w : World) :
    Calls Tryd.prog 70 #[.int .i64 c] w fun e w' => e = .returned (.string (nameOf c)) ∧ Below w.heap.size w w' := by
  by_cases h : 1 ≤ c ∧ c ≤ 10
  · have hin : decide (1 ≤ c ∧ c ≤ 10) = true := by simpa using h
    obtain ⟨k, hk⟩ := Int.eq_ofNat_of_zero_le (show 0 ≤ c - 1 by omega)
    obtain rfl : c = (k : Int) + 1 := by omega
    have hk10 : k < 10 := by omega
    have hn : nameOf ((k : Int) + 1) = cn.getD k ByteArray.empty := by unfold nameOf; rw [if_pos h]; congr 1; omega
    clear h hk
    rw [hn]
    clear hn
    go_enter Tryd.func70, Tryd.ntmps70
    go_wp2_with fail
    refine (l1In_any _ _ _ _).mono ?_
    rintro e w' ⟨rfl, rfl⟩
    rw [hin]
    go_wp2_with fail
    refine (names_any _).mono ?_
    rintro e w1 ⟨v, rfl, hr, hb⟩
    obtain ⟨a, cap, rfl, -, -, -⟩ := id hr
    obtain ⟨b, o, s, rfl, hc, HS⟩ := hr.strAt (j := k) (by rw [cn_length]; omega)
    go_wp2_with fail
    go_ret
    have hs := HS.out
    exact ⟨by simp [List.getD, hs], hb⟩
  · have hin : decide (1 ≤ c ∧ c ≤ 10) = false := by simpa using h
    have hn : nameOf c = ⟨#[]⟩ := by unfold nameOf; rw [if_neg h]
    rw [hn]
    clear h hn
    go_enter Tryd.func70, Tryd.ntmps70
    go_wp2_with fail
    refine (l1In_any _ _ _ _).mono ?_
    rintro e w' ⟨rfl, rfl⟩
    rw [hin]
    go_wp2_with fail
    go_ret
    exact ⟨rfl, Below.refl _ _⟩

/-- The program's variable holds the names. -/
def CN (w : World) : Prop := ∃ v, w.cell? ⟨0, 0, none⟩ = some v ∧ Row w 1 v 10 (strV cn)
theorem CN.below {w w' : World} (h : CN w) (hb : Below w.heap.size w w') : CN w' :=
  let ⟨v, h1, h2⟩ := h
  ⟨v, (hb.cell (World.block_lt_of_cell? w _ h1)).trans h1, h2.below hb⟩

set_option maxHeartbeats 1000000 in
theorem implClassName (c : Int) (w : World) (hcn : CN w) :
    Calls Tryd.prog 64 #[.int .i64 c] w fun e w' => e = .returned (.string (nameOf c)) ∧ w = w' := by
  by_cases h : 1 ≤ c ∧ c ≤ 10
  · have hin : decide (1 ≤ c ∧ c ≤ 10) = true := by simpa using h
    obtain ⟨k, hk⟩ := Int.eq_ofNat_of_zero_le (show 0 ≤ c - 1 by omega)
    obtain rfl : c = (k : Int) + 1 := by omega
    have hk10 : k < 10 := by omega
    have hn : nameOf ((k : Int) + 1) = cn.getD k ByteArray.empty := by unfold nameOf; rw [if_pos h]; congr 1; omega
    clear h hk
    rw [hn]
    clear hn
    obtain ⟨v, hg, hr⟩ := hcn
    obtain ⟨a, cap, rfl, -, -, -⟩ := id hr
    obtain ⟨b, o, s, rfl, hc, HS⟩ := hr.strAt (j := k) (by rw [cn_length]; omega)
    go_enter Tryd.func64, Tryd.ntmps64
    go_wp2_with fail
    refine (inRange_any _ _ _ _).mono ?_
    rintro e w' ⟨rfl, rfl⟩
    rw [hin]
    go_wp2_with fail
    go_ret
    have hs := HS.out
    exact ⟨by simp [List.getD, hs], rfl⟩
  · have hin : decide (1 ≤ c ∧ c ≤ 10) = false := by simpa using h
    have hn : nameOf c = ⟨#[]⟩ := by unfold nameOf; rw [if_neg h]
    rw [hn]
    clear h hn
    go_enter Tryd.func64, Tryd.ntmps64
    go_wp2_with fail
    refine (inRange_any _ _ _ _).mono ?_
    rintro e w' ⟨rfl, rfl⟩
    rw [hin]
    go_wp2_with fail
    go_ret
    exact ⟨rfl, rfl⟩

theorem map_at {α β : Type} {f : α → β} {l : List α} {k : Nat} {x : α} (h : l[k]? = some x) : (l.map f)[k]? = some (f x) := by simp [h]

/-- The place of a text in a list: the first, or -1. -/
def IsIdx {α : Type} (ss : List α) (s : α) (r : Int) : Prop := (∃ k, k < ss.length ∧ ss[k]? = some s ∧ (∀ j, j < k → ss[j]? ≠ some s) ∧ r = (k : Int)) ∨ ((∀ j, j < ss.length → ss[j]? ≠ some s) ∧ r = -1)
theorem IsIdx.unique {α : Type} {ss : List α} {s : α} {r r' : Int} (h : IsIdx ss s r) (h' : IsIdx ss s r') : r = r' := by
  rcases h with ⟨k, hk, h1, h2, rfl⟩ | ⟨h1, rfl⟩ <;> rcases h' with ⟨k', hk', h1', h2', rfl⟩ | ⟨h1', rfl⟩
  · rcases Nat.lt_trichotomy k k' with h | h | h
    · exact absurd h1 (h2' k h)
    · rw [h]
    · exact absurd h1' (h2 k' h)
  · exact absurd h1 (h1' k hk)
  · exact absurd h1' (h1 k' hk')
  · rfl
theorem none_snoc {α : Type} {ss : List α} {s y : α} {k : Nat} (h : ∀ j, j < k → ss[j]? ≠ some s) (hy : ss[k]? = some y) (hne : y ≠ s) : ∀ j, j < k + 1 → ss[j]? ≠ some s := by
  intro j hj e
  by_cases hjk : j = k
  · subst hjk; rw [hy] at e; exact hne (Option.some.inj e)
  · exact h j (by omega) e

set_option maxHeartbeats 1000000 in
theorem index_any (v : Value) (ss : List ByteArray) (s : ByteArray) (w : World) (hr : Row w 1 v ss.length (strV ss)) :
    Calls Tryd.prog 140 #[v, .string s] w fun e w' => ∃ r, e = .returned (.int .i64 r) ∧ Hid (IsIdx (ss.map ByteArray.toList) s.toList r) ∧ w = w' := by
  have hl := hr.len
  unfold maxLen at hl
  obtain ⟨a, cap, rfl, -, -, -⟩ := id hr
  go_enter Tryd.func140, Tryd.ntmps140
  go_wp2_with fail
  go_loopw [8] (fun i wr => ∃ k : Nat, k ≤ ss.length ∧ i = .int .i64 k ∧ Hid (∀ j, j < k → (ss.map ByteArray.toList)[j]? ≠ some s.toList) ∧ w = wr) (fun i _ => ss.length - (intOf i).toNat)
  case atStart => exact ⟨0, Nat.zero_le _, rfl, Lib.hid (fun j hj => absurd hj (by omega)), rfl⟩
  case round =>
    obtain ⟨k, hk, rfl, HN, rfl⟩ := hrel
    by_cases hlt : k < ss.length
    · obtain ⟨b, o, y, rfl, hc, HY⟩ := hr.strAt hlt
      have HYL := Lib.hid (map_at (f := ByteArray.toList) HY.out)
      by_cases hys : s.toList = y.toList
      · have hd : (s.toList == y.toList) = true := by simpa using hys
        have HYS := Lib.hid hys
        clear hys
        go_wp2_with fail
        go_ret
        exact ⟨_, rfl, Lib.hid (.inl ⟨k, by simpa using hlt, by rw [HYL.out, HYS.out], HN.out, rfl⟩), rfl⟩
      · have hd : (s.toList == y.toList) = false := by simpa using hys
        have HYS := Lib.hid hys
        clear hys
        go_wp2_with fail
        go_roundw
        case rel => exact ⟨k + 1, by omega, by go_num, Lib.hid (none_snoc HN.out HYL.out (Ne.symm HYS.out)), by trivial⟩
        case measure => simp [intOf]; omega
    · obtain rfl : k = ss.length := by omega
      go_wp2_with fail
      go_ret
      exact ⟨_, rfl, Lib.hid (.inr ⟨by simpa using HN.out, rfl⟩), rfl⟩

theorem IsIdx.bound {α : Type} {ss : List α} {s : α} {r : Int} (h : IsIdx ss s r) : -1 ≤ r ∧ r < ss.length := by
  rcases h with ⟨k, hk, h1, h2, rfl⟩ | ⟨h1, rfl⟩ <;> omega

theorem implNameClass (s : ByteArray) (w : World) (hcn : CN w) :
    Calls Tryd.prog 63 #[.string s] w fun e w' => ∃ r, e = .returned (.int .i64 (r + 1)) ∧ Hid (IsIdx (cn.map ByteArray.toList) s.toList r) ∧ w = w' := by
  obtain ⟨v, hg, hr⟩ := hcn
  obtain ⟨a, cap, rfl, -, -, -⟩ := id hr
  go_enter Tryd.func63, Tryd.ntmps63
  go_wp2_with fail
  refine (index_any _ cn s w hr).mono ?_
  rintro e w' ⟨r, rfl, HR, rfl⟩
  have hb := HR.out.bound
  rw [List.length_map, cn_length] at hb
  go_wp2_with fail
  go_ret
  exact ⟨r, rfl, HR, rfl⟩

set_option maxHeartbeats 1000000 in
theorem specNameClass (s : ByteArray) (w : World) :
    Calls Tryd.prog 67 #[.string s] w fun e w' => ∃ r, e = .returned (.int .i64 (r + 1)) ∧ Hid (IsIdx (cn.map ByteArray.toList) s.toList r) ∧ Below w.heap.size w w' := by
  go_enter Tryd.func67, Tryd.ntmps67
  go_wp2_with fail
  go_loopw [3] (fun i wr => ∃ k : Nat, k ≤ 10 ∧ i = .int .i64 k ∧ Hid (∀ j, j < k → (cn.map ByteArray.toList)[j]? ≠ some s.toList) ∧ Below w.heap.size w wr) (fun i _ => 10 - (intOf i).toNat)
  case atStart => exact ⟨0, Nat.zero_le _, rfl, Lib.hid (fun j hj => absurd hj (by omega)), Below.refl _ _⟩
  case round =>
    obtain ⟨k, hk, rfl, HN, hbel⟩ := hrel
    by_cases hlt : k < 10
    · go_wp2_with fail
      refine (names_any _).mono ?_
      rintro e w1 ⟨v, rfl, hr, hb⟩
      have hbel1 := hbel.trans (hb.mono hbel.size)
      obtain ⟨a, cap, rfl, -, -, -⟩ := id hr
      obtain ⟨b, o, y, rfl, hc, HY⟩ := hr.strAt (j := k) (by rw [cn_length]; omega)
      clear hbel hb hr
      have HYL := Lib.hid (map_at (f := ByteArray.toList) HY.out)
      by_cases hys : y.toList = s.toList
      · have hd : (y.toList == s.toList) = true := by simpa using hys
        have HYS := Lib.hid hys
        clear hys
        go_wp2_with fail
        go_ret
        exact ⟨(k : Int), rfl, Lib.hid (.inl ⟨k, by rw [List.length_map, cn_length]; omega, by rw [HYL.out, HYS.out], HN.out, rfl⟩), hbel1⟩
      · have hd : (y.toList == s.toList) = false := by simpa using hys
        have HYS := Lib.hid hys
        clear hys
        go_wp2_with fail
        go_roundw
        case rel => exact ⟨k + 1, by omega, by go_num, Lib.hid (none_snoc HN.out HYL.out HYS.out), hbel1⟩
        case measure => simp [intOf]; omega
    · obtain rfl : k = 10 := by omega
      go_wp2_with fail
      go_ret
      exact ⟨-1, rfl, Lib.hid (.inr ⟨by simpa [cn_length] using HN.out, rfl⟩), hbel⟩

end Go.Proofs.YtbhobmngnjfgfaaDoor
