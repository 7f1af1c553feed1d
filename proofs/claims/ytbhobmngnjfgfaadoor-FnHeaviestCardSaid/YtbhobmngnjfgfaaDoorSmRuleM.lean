import Derived.Test.YtbhobmngnjfgfaaDoorChSmM
/-
  'smallestSet' over the closure of 'LeastRule'.
-/

namespace Go.Proofs.YtbhobmngnjfgfaaDoor
open Go.RowKit

theorem small1_any_rule (a0 : Nat) (q : Bool) (F X : Nat) (x : Value) (s : Nat) (W : World) (hF : VC 98 F #[x] W) (hX : VC 134 X #[.func (.func 110) #[] #[.pointer (some ⟨a0, 0, none⟩)]] W) (hne : X ≠ F)
    (hcall : Calls Tryd.prog 110 #[.int .u32 (s : Nat), .pointer (some ⟨a0, 0, none⟩)] (W.setCell ⟨F, 0, none⟩ (.int .u32 (s : Nat))) fun e W' => e = .returned (.bool q) ∧ Below W.heap.size (W.setCell ⟨F, 0, none⟩ (.int .u32 (s : Nat))) W') :
    Calls Tryd.prog 174 #[.int .u32 (s : Nat), .pointer (some ⟨F, 0, none⟩), .pointer (some ⟨X, 0, none⟩)] W fun e W' => e = .returned (.bool q) ∧ Below W.heap.size (W.setCell ⟨F, 0, none⟩ (.int .u32 (s : Nat))) W' := by
  have hc := hF.cell
  have hf := hF.free
  have hx2 := (hX.other (p := ⟨F, 0, none⟩) hne (.int .u32 (s : Nat))).cell
  have HC := Lib.hid hcall
  clear hcall
  go_enter Tryd.func174, Tryd.ntmps174
  go_wp2_with fail
  refine HC.out.mono ?_
  rintro e1 w1 ⟨rfl, hb1⟩
  go_wp2_with fail
  go_ret
  exact ⟨rfl, hb1⟩

set_option maxHeartbeats 2000000 in
theorem smallest_any_rule (a0 : Nat) (n : Nat) (hn : n ≤ 16) (fit : Nat → Bool) (w : World)
    (hcall : ∀ s W, s < 2 ^ n → Below w.heap.size w W → Calls Tryd.prog 110 #[.int .u32 (s : Nat), .pointer (some ⟨a0, 0, none⟩)] W fun e W' => e = .returned (.bool (fit s)) ∧ Below W.heap.size W W') :
    Calls Tryd.prog 109 #[.int .i64 n, .func (.func 110) #[] #[.pointer (some ⟨a0, 0, none⟩)]] w (SmallRes n fit w) := by
  have hmf : ∀ (fn : Fn) (first cap : Array Value) (w : World), (Instr.makeFunc fn first cap).run Tryd.prog w = .ok (.func fn first cap) w := fun _ _ _ _ => rfl
  obtain ⟨B, hB⟩ : ∃ B, w.heap.size = B := ⟨_, rfl⟩
  rw [hB] at hcall
  obtain ⟨W0, hW0⟩ : ∃ W0, W0 = w.alloc (.cells #[.func (.func 110) #[] #[.pointer (some ⟨a0, 0, none⟩)]] 134) := ⟨_, rfl⟩
  obtain ⟨W1, hW1⟩ : ∃ W1, W1 = W0.alloc (.cells #[.int .u32 0] 98) := ⟨_, rfl⟩
  have hz0 : W0.heap.size = B + 1 := by simp [hW0, hB]
  have hz1 : W1.heap.size = B + 2 := by simp [hW1, hz0]
  have u0 : Below B w W0 := by rw [hW0, ← hB]; exact below_alloc' _ _
  have u1 : Below B w W1 := by rw [hW1]; exact u0.alloc (by omega) _
  have VX0 : VC 134 B #[.func (.func 110) #[] #[.pointer (some ⟨a0, 0, none⟩)]] W0 := by rw [hW0]; exact VC.new hB
  have VX1 : VC 134 B #[.func (.func 110) #[] #[.pointer (some ⟨a0, 0, none⟩)]] W1 := by rw [hW1]; exact VX0.upd (Upd.alloc _ _) (by omega)
  have VF1 : VC 98 (B + 1) #[.int .u32 0] W1 := by rw [hW1]; exact VC.new hz0
  have hCH : Hid (∀ s W, s < 2 ^ n → (Below B w W ∧ VC 134 B #[.func (.func 110) #[] #[.pointer (some ⟨a0, 0, none⟩)]] W ∧ ∃ x : Value, VC 98 (B + 1) #[x] W) →
      Calls Tryd.prog 174 #[.int .u32 (s : Nat), .pointer (some ⟨B + 1, 0, none⟩), .pointer (some ⟨B, 0, none⟩)] W fun e W' => e = .returned (.bool (fit s)) ∧
        (Below B w W' ∧ VC 134 B #[.func (.func 110) #[] #[.pointer (some ⟨a0, 0, none⟩)]] W' ∧ ∃ x : Value, VC 98 (B + 1) #[x] W') ∧ VC 98 (B + 1) #[.int .u32 (s : Nat)] W') := Lib.hid fun s W hs ⟨hb, hX, x, hF⟩ => by
    have hbS : Below B w (W.setCell ⟨B + 1, 0, none⟩ (.int .u32 (s : Nat))) := hb.setCell (by simp) _
    have hzS : (W.setCell ⟨B + 1, 0, none⟩ (.int .u32 (s : Nat))).heap.size = W.heap.size := by simp [World.setCell]
    have hFl := hF.lt
    have hc := hcall s (W.setCell ⟨B + 1, 0, none⟩ (.int .u32 (s : Nat))) hs hbS
    rw [hzS] at hc
    refine (small1_any_rule a0 (fit s) (B + 1) B x s W hF hX (by omega) hc).mono ?_
    rintro e W' ⟨rfl, hb'⟩
    have hXS := (hX.other (p := ⟨B + 1, 0, none⟩) (by simp) (.int .u32 (s : Nat))).belowAt hb' (by omega)
    have hFS := (hF.set (.int .u32 (s : Nat))).belowAt hb' (by omega)
    exact ⟨rfl, ⟨hbS.trans (hb'.mono (by omega)), hXS, _, hFS⟩, hFS⟩
  clear hcall u0 VX0
  go_enter Tryd.func109, Tryd.ntmps109
  go_wp2_with fail
  rw [← hW0, ← hW1]
  clear hW0 hW1
  go_loopw [7] (fun v wr => ∃ k : Nat, v = .int .i64 k ∧ k ≤ n + 1 ∧ Hid (∀ t, t < 2 ^ n → size t < k → fit t = false) ∧ Below B w wr ∧ VC 134 B #[.func (.func 110) #[] #[.pointer (some ⟨a0, 0, none⟩)]] wr ∧ ∃ x : Value, VC 98 (B + 1) #[x] wr) (fun v _ => n + 1 - (intOf v).toNat)
  case atStart => exact ⟨0, rfl, Nat.zero_le _, Lib.hid fun t _ h => by omega, u1, VX1, _, VF1⟩
  case round =>
    clear u1 VX1 VF1
    obtain ⟨k, rfl, hk, HK, hb, hX, x, hF⟩ := hrel
    by_cases hlt : k ≤ n
    · have hle : (k : Int) ≤ (n : Int) := by omega
      have HCA := Lib.hid (choose_any_sm (B + 1) B n hn fit
        (fun W => Below B w W ∧ VC 134 B #[.func (.func 110) #[] #[.pointer (some ⟨a0, 0, none⟩)]] W ∧ ∃ x : Value, VC 98 (B + 1) #[x] W) (fun s W => VC 98 (B + 1) #[.int .u32 (s : Nat)] W) hCH.out k (by omega) 0 0 0 (k : Int) 0 wr rfl rfl rfl (Nat.zero_le _) (fun j _ => by simp) ⟨hb, hX, x, hF⟩)
      clear hb hX hF
      go_wp2_with fail
      refine HCA.out.mono ?_
      rintro e1 w1 ⟨rfl, ⟨hb1, hX1, x1, hF1⟩, hA1⟩
      clear HCA
      cases hany : (combos n k 0 0).any fit with
      | true =>
        obtain ⟨s, hs⟩ : ∃ s, (combos n k 0 0).find? fit = some s := by
          cases hf : (combos n k 0 0).find? fit with
          | some s => exact ⟨s, rfl⟩
          | none =>
            rw [List.find?_eq_none] at hf
            rw [List.any_eq_true] at hany
            obtain ⟨y, hy, hfy⟩ := hany
            exact (hf y hy hfy).elim
        have hFs := hA1 s hs
        obtain ⟨h1, h2, h3⟩ := find_first (combos_order (fun j _ => by simp) (Nat.zero_le _)) hs
        obtain ⟨h4, h5⟩ := (mem_all (by omega)).1 h1
        have HBE : Hid (IsBest size (fun s => fit s = true) (2 ^ n) s) := Lib.hid ⟨h4, h2, fun t ht hft ha => by
          rcases ha with ha | ⟨ha, hl⟩
          · have := HK.out t ht (by omega)
            rw [hft] at this
            cases this
          · rcases h3 t ((mem_all (by omega)).2 ⟨ht, by omega⟩) hft with h6 | h6
            · subst h6; exact hl.irrefl
            · exact h6.asymm hl⟩
        have hc := hFs.cell
        clear hany hs h1 h2 h3 h4 h5 hA1
        go_wp2_with fail
        refine bodyPost_ret (v := .tuple #[.int .u32 (s : Nat), .bool true]) (by simp [results, Tryd.results109, go_sem]) rfl ?_
        exact ⟨s, true, rfl, Lib.hid (.inl ⟨rfl, HBE.out⟩), by rw [hB]; exact hb1⟩
      | false =>
        have HK2 : Hid (∀ t, t < 2 ^ n → size t < k + 1 → fit t = false) := Lib.hid fun t ht hst => by
          by_cases hsk : size t = k
          · rw [List.any_eq_false] at hany
            have := hany t ((mem_all (by omega)).2 ⟨ht, hsk⟩)
            simpa using this
          · exact HK.out t ht (by omega)
        clear hany hA1
        go_wp2_with fail
        go_roundw
        case rel => exact ⟨k + 1, by go_num, by omega, HK2, hb1, hX1, x1, hF1⟩
        case measure => simp [intOf]; omega
    · have hle : ¬ (k : Int) ≤ (n : Int) := by omega
      have HF : Hid (∀ t, t < 2 ^ n → fit t = false) := Lib.hid fun t ht => HK.out t ht (by
        have h1 : size t = cnt t 0 n := size_cnt (by omega) (bits_above ht)
        have := cnt_le t 0 n
        omega)
      go_wp2_with fail
      refine bodyPost_ret (v := .tuple #[.int .u32 ((0 : Nat) : Int), .bool false]) (by simp [results, Tryd.results109, go_sem]) rfl ?_
      exact ⟨0, false, rfl, Lib.hid (.inr ⟨rfl, rfl, HF.out⟩), by rw [hB]; exact hb⟩
end Go.Proofs.YtbhobmngnjfgfaaDoor
