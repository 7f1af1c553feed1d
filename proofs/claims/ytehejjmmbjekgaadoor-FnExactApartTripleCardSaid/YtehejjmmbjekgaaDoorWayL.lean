/-
  'l14Inside' and 'l14Path' of the reference: is there a way that keeps off a vertex and its neighbours?
-/
import Derived.Test.YtehejjmmbjekgaaDoorApartD
import Derived.Test.YtehejjmmbjekgaaDoorSpecB
import Derived.Test.YtehejjmmbjekgaaDoorAppend
namespace Go.Proofs.YtehejjmmbjekgaaDoor
open Go.RowKit

def natI (M : List Nat) : List Int := M.map fun (i : Nat) => (i : Int)
@[simp] theorem natI_length (M : List Nat) : (natI M).length = M.length := by simp [natI]
theorem natI_snoc (M : List Nat) (q : Nat) : natI (M ++ [q]) = natI M ++ [(q : Int)] := by simp [natI]
theorem natI_contains (M : List Nat) (q : Nat) : (natI M).contains (q : Int) = decide (q ∈ M) := by
  rw [Bool.eq_iff_iff, List.contains_iff_mem, decide_eq_true_eq]
  unfold natI
  rw [List.mem_map]
  constructor
  · rintro ⟨a, ha, he⟩
    obtain rfl : a = q := by omega
    exact ha
  · exact fun h => ⟨q, h, rfl⟩

/-- The queue of the search for t from s: M has been met, the first i of it are done and are not t. -/
structure Bq (n : Nat) (e : Nat → Nat → Bool) (p : Nat → Bool) (s t i : Nat) (M : List Nat) : Prop where
  start : s ∈ M
  ways : ∀ a ∈ M, a < n ∧ Way n e p s a
  closed : ∀ j a, j < i → M[j]? = some a → ∀ b, b < n → e a b = true → p b = true → b ∈ M
  cnt : M.length = (rowB n fun u => decide (u ∈ M)).length
  miss : ∀ j, j < i → M[j]? ≠ some t
structure Nr (n : Nat) (e : Nat → Nat → Bool) (p : Nat → Bool) (a k : Nat) (M : List Nat) : Prop where
  near : ∀ b : Nat, (b : Int) ∈ (rowB n (e a)).take k → p b = true → b ∈ M
section
variable {n : Nat} {e : Nat → Nat → Bool} {p : Nat → Bool} {s t i a k q : Nat} {M : List Nat}
theorem Bq.le (h : Bq n e p s t i M) : M.length ≤ n := by rw [h.cnt]; exact rowB_length _ _
theorem Bq.first (hs : s < n) : Bq n e p s t 0 [s] := by
  refine ⟨by simp, fun a ha => ?_, fun j a hj => by omega, ?_, fun j hj => by omega⟩
  · simp at ha; subst ha; exact ⟨hs, .here⟩
  · have h1 : (rowB n fun u => decide (u ∈ [s])) = rowB n fun x => (fun _ => false) x || decide (x = s) := rowB_ext fun x _ => by simp
    rw [h1, rowB_put_length rfl hs]
    have h2 : rowB n (fun _ => false) = [] := by simp [rowB]
    rw [h2]
    rfl
theorem Bq.put (h : Bq n e p s t i M) (ha : a ∈ M) (hq : q < n) (he : e a q = true) (hp : p q = true) (hn : q ∉ M) (hi : i ≤ M.length) : Bq n e p s t i (M ++ [q]) := by
  refine ⟨by simp [h.start], fun x hx => ?_, fun j x hj hx b hb hxb hpb => ?_, ?_, fun j hj hx => ?_⟩
  · rcases List.mem_append.1 hx with hx | hx
    · exact h.ways x hx
    · simp at hx; subst hx
      exact ⟨hq, .step (h.ways a ha).2 hq he hp⟩
  · rw [List.mem_append]
    rw [List.getElem?_append_left (by omega)] at hx
    exact .inl (h.closed j x hj hx b hb hxb hpb)
  · have e1 : (rowB n fun u => decide (u ∈ M ++ [q])) = rowB n fun x => (fun u => decide (u ∈ M)) x || decide (x = q) := rowB_ext fun x _ => by simp [Bool.decide_or]
    rw [e1, rowB_put_length (by simpa using hn) hq, List.length_append, ← h.cnt]
    rfl
  · rw [List.getElem?_append_left (by omega)] at hx
    exact h.miss j hj hx
theorem Bq.next (h : Bq n e p s t i M) (hi : M[i]? = some a) (hat : a ≠ t) (hN : Nr n e p a (rowB n (e a)).length M) : Bq n e p s t (i + 1) M := by
  refine ⟨h.start, h.ways, fun j x hj hx b hb he hp => ?_, h.cnt, fun j hj hx => ?_⟩
  · by_cases hji : j = i
    · subst hji
      rw [hi] at hx
      obtain rfl := Option.some.inj hx
      exact hN.near b (by rw [List.take_length]; exact nat_mem_rowB.2 ⟨hb, he⟩) hp
    · exact h.closed j x (by omega) hx b hb he hp
  · by_cases hji : j = i
    · subst hji
      rw [hi] at hx
      exact hat (Option.some.inj hx)
    · exact h.miss j (by omega) hx
theorem Nr.skip (h : Nr n e p a k M) (hq : (rowB n (e a))[k]? = some (q : Int)) (hn : p q = true → q ∈ M) : Nr n e p a (k + 1) M := by
  refine ⟨fun b hb hp => ?_⟩
  rw [take_snoc hq, List.mem_append] at hb
  rcases hb with hb | hb
  · exact h.near b hb hp
  · simp at hb
    obtain rfl : b = q := by omega
    exact hn hp
theorem Nr.put (h : Nr n e p a k M) (hq : (rowB n (e a))[k]? = some (q : Int)) : Nr n e p a (k + 1) (M ++ [q]) := by
  refine ⟨fun b hb hp => ?_⟩
  rw [take_snoc hq, List.mem_append] at hb
  rcases hb with hb | hb
  · simp [h.near b hb hp]
  · simp at hb
    obtain rfl : b = q := by omega
    simp
theorem Bq.none (h : Bq n e p s t M.length M) : wayB n e p s t = false := by
  have e1 : (fun u => decide (u ∈ M)) = wayB n e p s := by
    refine way_pt (by simpa using h.start) (fun b hb => h.ways b (by simpa using hb)) fun a b ha hb he hp => ?_
    obtain ⟨j, hj⟩ := List.mem_iff_getElem?.1 (show a ∈ M by simpa using ha)
    have := h.closed j a (List.getElem?_eq_some_iff.1 hj).1 hj b hb he hp
    simpa using this
  rw [← e1, decide_eq_false_iff_not]
  intro ht
  obtain ⟨j, hj⟩ := List.mem_iff_getElem?.1 ht
  exact h.miss j (List.getElem?_eq_some_iff.1 hj).1 hj
end
/-- The ways that are kept: each ends in what has been met. -/
structure PL (PS : List (List Int)) (M : List Nat) : Prop where
  len : PS.length = M.length
  ends : ∀ (i : Nat) path a, PS[i]? = some path → M[i]? = some a → path.length ≤ i + 1 ∧ ∃ pre, path = pre ++ [((a : Nat) : Int)]
theorem PL.first (s : Nat) : PL [[(s : Int)]] [s] := ⟨rfl, fun i path a h1 h2 => by
  cases i with
  | zero => simp at h1 h2; subst h1; subst h2; exact ⟨by simp, [], rfl⟩
  | succ i => simp at h1⟩
theorem PL.put {PS : List (List Int)} {M : List Nat} {k q : Nat} {path : List Int} (h : PL PS M) (hk : PS[k]? = some path) : PL (PS ++ [path ++ [(q : Int)]]) (M ++ [q]) := by
  have hkl : k < PS.length := (List.getElem?_eq_some_iff.1 hk).1
  refine ⟨by simp [h.len], fun i path' a h1 h2 => ?_⟩
  by_cases hi : i < PS.length
  · rw [List.getElem?_append_left hi] at h1
    rw [List.getElem?_append_left (by rw [← h.len]; exact hi)] at h2
    exact h.ends i path' a h1 h2
  · have hi2 : i < (PS ++ [path ++ [(q : Int)]]).length := (List.getElem?_eq_some_iff.1 h1).1
    obtain rfl : i = PS.length := by simp at hi2; omega
    rw [List.getElem?_append_right (Nat.le_refl _)] at h1
    rw [h.len, List.getElem?_append_right (Nat.le_refl _)] at h2
    simp at h1 h2
    subst h1; subst h2
    have hM : k < M.length := by rw [← h.len]; exact hkl
    have := (h.ends k path M[k] hk (List.getElem?_eq_getElem hM)).1
    exact ⟨by simp; omega, path, rfl⟩

theorem has_row {n : Nat} {e : Nat → Nat → Bool} {x y : Nat} (hy : y < n) : (rowB n (e x)).contains (y : Int) = e x y := by
  rw [Bool.eq_iff_iff, List.contains_iff_mem, nat_mem_rowB]
  exact ⟨fun h => h.2, fun h => ⟨hy, h⟩⟩
theorem has_rowB {n : Nat} {p : Nat → Bool} {y : Nat} (hy : y < n) : (rowB n p).contains (y : Int) = p y := by
  rw [Bool.eq_iff_iff, List.contains_iff_mem, nat_mem_rowB]
  exact ⟨fun h => h.2, fun h => ⟨hy, h⟩⟩
theorem RdSS.at3 {n : Nat} {e : Nat → Nat → Bool} {w : World} {a : Option Addr} {c : Nat} (h : RdSS (.slice a n c) (rowsB n e) w) {j : Nat} (hj : j < n) :
    ∃ b o r, a = some ⟨b, o, none⟩ ∧ w.cell? ⟨b, o + j, none⟩ = some r ∧ Row w 1 r (rowB n (e j)).length (ints (rowB n (e j))) := by
  obtain ⟨vsr, hG⟩ := h.ex
  obtain ⟨rb, ro, r, xs, rfl, hc, hxr, -, HXX⟩ := hG.intsAt (k := j) (by simpa using hj)
  obtain rfl : rowB n (e j) = xs := by have h := HXX.out; rw [rowsB_at e hj] at h; exact Option.some.inj h
  exact ⟨rb, ro, r, rfl, hc, hxr⟩

theorem offRow_succ (e : Nat → Nat → Bool) (q v : Nat) : rowB (v + 1) (offB e q) = rowB v (offB e q) ++ if offB e q v = true then [(v : Int)] else [] := by
  unfold rowB
  rw [List.range_succ, List.filter_append, List.map_append]
  by_cases h : offB e q v = true <;> simp [h]

set_option maxHeartbeats 4000000 in
theorem inside_any (g : Value) (n : Nat) (e : Nat → Nat → Bool) (hn : n ≤ 16) (q : Nat) (hq : q < n) (w : World) (hr : RdSS g (rowsB n e) w) :
    Calls Tryd.prog 145 #[.agg #[g], .int .i64 q] w fun r w' => ∃ u, r = .returned u ∧ w'.ownsRow w.heap.size 2 1 u (rowB n (offB e q)).length (ints (rowB n (offB e q))) ∧ Below w.heap.size w w' := by
  obtain ⟨a, c, rfl⟩ := hr.shape
  rw [rowsB_length] at hr ⊢
  obtain ⟨B, hB⟩ : ∃ B, w.heap.size = B := ⟨_, rfl⟩
  obtain ⟨W0, hW0⟩ : ∃ W0, W0 = w.alloc (.cells #[.slice a n c] 24) := ⟨_, rfl⟩
  obtain ⟨W1, hW1⟩ : ∃ W1, W1 = W0.alloc (.cells #[] 2) := ⟨_, rfl⟩
  have hz0 : W0.heap.size = B + 1 := by simp [hW0, hB]
  have hz1 : W1.heap.size = B + 2 := by simp [hW1, hz0]
  have u0 : Below B w W0 := by rw [hW0, ← hB]; exact below_alloc' _ _
  have VG0 : VC 24 B #[.slice a n c] W0 := by rw [hW0]; exact VC.new hB
  have u1 : Below (B + 1) W0 W1 := by rw [hW1, ← hz0]; exact below_alloc' _ _
  have ho1 : W1.ownsRow (B + 1) 2 1 (.slice (some ⟨B + 1, 0, none⟩) 0 0) 0 [] := by
    rw [hW1, ← hz0]
    exact World.ownsRow_lit W0 #[] 0 (Nat.le_refl _) (by simp [maxLen]) rfl
  have VG1 := VG0.belowAt u1 (by omega)
  have hb1 := u0.trans (u1.mono (by omega))
  go_enter Tryd.func145, Tryd.ntmps145
  go_wp2_with fail
  rw [← hW0, ← hW1]
  clear hW0 hW1
  first | rw [hz0] | skip
  have hbW : Below (B + 1) W1 W1 := Below.refl _ _
  go_loopw [5, 6] (fun u i wr => ∃ k : Nat, k ≤ n ∧ i = .int .i64 k ∧ wr.ownsRow (B + 1) 2 1 u (rowB k (offB e q)).length (ints (rowB k (offB e q))) ∧ Below (B + 1) W1 wr) (fun _ i _ => n - (intOf i).toNat)
  case atStart => exact ⟨0, Nat.zero_le _, rfl, ho1, hbW⟩
  case round =>
    clear ho1 hbW
    obtain ⟨k, hk, rfl, ho, hb⟩ := hrel
    have hsz := hb.size
    have hcg := (VG1.belowAt hb (by omega)).cell
    have hkl := rowB_length k (offB e q)
    obtain ⟨ua, uc, rfl⟩ := owns_shape ho
    by_cases hlt : k < n
    · have hs := offRow_succ e q k
      have HS := Lib.hid hs
      clear hs
      by_cases hkq : k = q
      · have hd : ((k : Int) != (q : Int)) = false := by simp [hkq]
        have HS2 : Hid (rowB (k + 1) (offB e q) = rowB k (offB e q)) := Lib.hid (by rw [HS.out, hkq]; simp [offB])
        clear hkq
        go_wp2_with fail
        go_roundw
        case rel => exact ⟨k + 1, by omega, by go_num, by rw [HS2.out]; exact ho, hb⟩
        case measure => simp [intOf]; omega
      · have hd : ((k : Int) != (q : Int)) = true := by simp; omega
        obtain ⟨rb, ro, rv, rfl, hcv, hxr⟩ := RdSS.at3 (hr.below (hb1.trans (hb.mono (by omega))) hB) hq
        obtain ⟨va, vc, rfl, -, -, -⟩ := id hxr
        obtain ⟨bq, HBQ⟩ : ∃ bq, Hid (e q k = bq) := ⟨_, Lib.hid rfl⟩
        have HH := Lib.hid (has_any (.slice va (rowB n (e q)).length vc) (rowB n (e q)) (k : Int) wr hxr)
        rw [has_row hlt, HBQ.out] at HH
        cases bq with
        | true =>
          have HS2 : Hid (rowB (k + 1) (offB e q) = rowB k (offB e q)) := Lib.hid (by rw [HS.out]; simp [offB, HBQ.out])
          clear hkq
          go_wp2_with fail
          refine HH.out.mono ?_
          rintro e1 w' ⟨rfl, rfl⟩
          go_wp2_with fail
          go_roundw
          case rel => exact ⟨k + 1, by omega, by go_num, by rw [HS2.out]; exact ho, hb⟩
          case measure => simp [intOf]; omega
        | false =>
          have HS2 : Hid (rowB (k + 1) (offB e q) = rowB k (offB e q) ++ [(k : Int)]) := Lib.hid (by rw [HS.out]; simp [offB, HBQ.out, hkq])
          clear hkq
          go_wp2_with fail
          refine HH.out.mono ?_
          rintro e1 w' ⟨rfl, rfl⟩
          go_wp2_with (at_builtin; refine wpList_push _ rfl _ _ 38 rfl (B + 1) 2 _ _ 8 Tryd.underlying38 infoI rfl (.slice ua (rowB k (offB e q)).length uc) (rowB k (offB e q)).length (ints (rowB k (offB e q))) rfl ho _ rfl rfl (by unfold maxLen; omega) (by omega) (by omega) ?_; intro g' c' w2 ho2 hg)
          have hb2 := hb.grown hg (by omega) fun b hb' => (owns_lt ho hb').1
          go_roundw
          case rel => exact ⟨k + 1, by omega, by go_num, by rw [HS2.out, List.length_append, ints_snoc]; exact ho2, hb2⟩
          case measure => simp [intOf]; omega
    · obtain rfl : k = n := by omega
      have hbe := hb1.trans (hb.mono (by omega))
      go_wp2_with fail
      go_ret
      exact ⟨_, rfl, by rw [hB]; exact owns_base ho (by omega), by rw [hB]; exact hbe⟩
end Go.Proofs.YtehejjmmbjekgaaDoor
