/-
  The size of a set: 0 exactly if the set is empty (OnesCount32's table is a constant text).
-/
import Derived.Test.YtikcooagdaghnaaDoorSplit
import Derived.BigQuiet
namespace Go.Proofs.YtikcooagdaghnaaDoor
open Go.RowKit

def popOk (s : ByteArray) : Bool := (List.range 256).all fun n => match s[n]? with
  | some b => decide (b.toNat ≤ 8) && (decide (b.toNat = 0) == decide (n = 0))
  | none => false
theorem popOk_at {s : ByteArray} (h : popOk s = true) {n : Nat} (hn : n < 256) : ∃ b, s[n]? = some b ∧ b.toNat ≤ 8 ∧ (b.toNat = 0 ↔ n = 0) := by
  have h1 := List.all_eq_true.1 h n (List.mem_range.2 hn)
  cases hb : s[n]? with
  | none => rw [hb] at h1; cases h1
  | some b =>
    rw [hb] at h1
    refine ⟨b, rfl, ?_⟩
    simpa using h1
theorem run_index_str {P : Program} (t : TypeId) (s : ByteArray) (k : IntKind) (i : Int) (b : UInt8) (h : P.underlying t = some .string) (h0 : 0 ≤ i) (hb : s[i.toNat]? = some b) (w : World) :
    (Instr.index t (.string s) (.int k i)).run P w = .ok (.int .u8 b.toNat) w := by
  simp [Instr.index, run_underlying h, asIntOf, h0, hb, go_sem]
theorem quiet_pop {P : Program} {C : World → Prop} {a : Act} {o : Oper} {K : Act → Prop} (t : TypeId) (x i : Operand) (s : ByteArray) (k : IntKind) (z : Int) (n : Nat) (h : o.op = .index t x i) (hx : a.eval x = .string s) (hi : a.eval i = .int k z)
    (hu : P.underlying t = some .string) (hs : popOk s = true) (hz : z = n) (hn : n < 256) (hk : ∀ c : Nat, c ≤ 8 → (c = 0 ↔ n = 0) → K (a.put o.dst (.int .u8 (c : Int)))) : o.quiet P a C K := by
  subst hz
  obtain ⟨b, hb, h8, h0⟩ := popOk_at hs hn
  refine ⟨.int .u8 b.toNat, fun w _ => ?_, hk _ h8 h0⟩
  have e : (execOp a.eval o).run P w = .ok (.value (.int .u8 b.toNat)) w := by
    unfold execOp
    rw [h]
    simp only [hx, hi]
    have := run_index_str t s k (n : Int) b hu (by omega) (by simpa using hb) w
    simp [this, go_sem]
  unfold Oper.quietAt
  rw [e]
  exact ⟨rfl, rfl⟩

set_option maxHeartbeats 4000000 in
set_option maxRecDepth 100000 in
theorem ones_any (m : Nat) (hm : m < 4294967296) (w : World) :
    Calls Tryd.prog 120 #[.int .u32 m] w fun e w' => ∃ c : Nat, c ≤ 32 ∧ (c = 0 ↔ m = 0) ∧ e = .returned (.int .i64 c) ∧ Below w.heap.size w w' := by
  have hand : ∀ z : Nat, z < 4294967296 → bits BinOp.and IntKind.u32 (z : Int) 255 = ((z % 256 : Nat) : Int) := fun z hz => by
    rw [show (255 : Int) = ((255 : Nat) : Int) from rfl, u32_and_nat z 255 hz (by decide), show (255 : Nat) = 2 ^ 8 - 1 from rfl, Nat.and_two_pow_sub_one_eq_mod]
  obtain ⟨n1, h1⟩ : ∃ n : Nat, (m : Int) / 16777216 = n := ⟨m / 16777216, by omega⟩
  obtain ⟨n2, h2⟩ : ∃ n : Nat, bits BinOp.and IntKind.u32 ((m : Int) / 65536) 255 = n := ⟨m / 65536 % 256, by rw [show (m : Int) / 65536 = ((m / 65536 : Nat) : Int) by omega]; exact hand _ (by omega)⟩
  obtain ⟨n3, h3⟩ : ∃ n : Nat, bits BinOp.and IntKind.u32 ((m : Int) / 256) 255 = n := ⟨m / 256 % 256, by rw [show (m : Int) / 256 = ((m / 256 : Nat) : Int) by omega]; exact hand _ (by omega)⟩
  obtain ⟨n4, h4⟩ : ∃ n : Nat, bits BinOp.and IntKind.u32 (m : Int) 255 = n := ⟨m % 256, hand _ hm⟩
  have e2 : n2 = m / 65536 % 256 := by rw [show (m : Int) / 65536 = ((m / 65536 : Nat) : Int) by omega, hand _ (by omega)] at h2; omega
  have e3 : n3 = m / 256 % 256 := by rw [show (m : Int) / 256 = ((m / 256 : Nat) : Int) by omega, hand _ (by omega)] at h3; omega
  have e4 : n4 = m % 256 := by rw [hand _ hm] at h4; omega
  have hb1 : n1 < 256 := by omega
  have hb2 : n2 < 256 := by omega
  have hb3 : n3 < 256 := by omega
  have hb4 : n4 < 256 := by omega
  have HZ : Hid ((n1 = 0 ∧ n2 = 0 ∧ n3 = 0 ∧ n4 = 0) ↔ m = 0) := Lib.hid (by omega)
  clear e2 e3 e4 hand
  go_enter Tryd.func120, Tryd.ntmps120
  go_wp2_with fail
  refine wp_region_calm (by kernel_rfl) (by kernel_rfl) ?_
  repeat quiet_step (fail)
  refine BigFrame.wpQuiet_want (by kernel_rfl) (fun K hK => quiet_pop _ _ _ _ _ _ n1 rfl rfl rfl (by kernel_rfl) (by kernel_rfl) rfl hb1 fun c1 hc1 hz1 => hK _ ?_)
  clear K hK
  simp only [Act.put, go_sem]
  repeat quiet_step (fail)
  refine BigFrame.wpQuiet_want (by kernel_rfl) (fun K hK => quiet_pop _ _ _ _ _ _ n2 rfl rfl rfl (by kernel_rfl) (by kernel_rfl) rfl hb2 fun c2 hc2 hz2 => hK _ ?_)
  clear K hK
  simp only [Act.put, go_sem]
  repeat quiet_step (fail)
  refine BigFrame.wpQuiet_want (by kernel_rfl) (fun K hK => quiet_pop _ _ _ _ _ _ n3 rfl rfl rfl (by kernel_rfl) (by kernel_rfl) rfl hb3 fun c3 hc3 hz3 => hK _ ?_)
  clear K hK
  simp only [Act.put, go_sem]
  repeat quiet_step (fail)
  refine BigFrame.wpQuiet_want (by kernel_rfl) (fun K hK => quiet_pop _ _ _ _ _ _ n4 rfl rfl rfl (by kernel_rfl) (by kernel_rfl) rfl hb4 fun c4 hc4 hz4 => hK _ ?_)
  clear K hK
  simp only [Act.put, go_sem]
  repeat quiet_step (fail)
  have hw : IntKind.i64.wrap (IntKind.u8.wrap (IntKind.u8.wrap (IntKind.u8.wrap ((c1 : Int) + c2) + c3) + c4)) = ((c1 + c2 + c3 + c4 : Nat) : Int) := by
    have a1 : IntKind.u8.wrap ((c1 : Int) + c2) = ((c1 + c2 : Nat) : Int) := by simp [IntKind.wrap, go_sem]; omega
    have a2 : IntKind.u8.wrap (((c1 + c2 : Nat) : Int) + c3) = ((c1 + c2 + c3 : Nat) : Int) := by simp [IntKind.wrap, go_sem]; omega
    have a3 : IntKind.u8.wrap (((c1 + c2 + c3 : Nat) : Int) + c4) = ((c1 + c2 + c3 + c4 : Nat) : Int) := by simp [IntKind.wrap, go_sem]; omega
    rw [a1, a2, a3]
    simp [IntKind.wrap, go_sem]
    omega
  rw [hw]
  simp only [wpQuiet_nil_eq]
  intro W hbW
  go_wp2_with fail
  go_ret
  exact ⟨c1 + c2 + c3 + c4, by omega, by have := HZ.out; omega, rfl, hbW⟩

set_option maxHeartbeats 1000000 in
theorem size_set (m : Nat) (hm : m < 4294967296) (w : World) :
    Calls Tryd.prog 116 #[.int .u32 m] w fun e w' => ∃ c : Nat, c ≤ 32 ∧ (c = 0 ↔ m = 0) ∧ e = .returned (.int .i64 c) ∧ Below w.heap.size w w' := by
  go_enter Tryd.func116, Tryd.ntmps116
  go_wp2_with fail
  refine (ones_any m hm w).mono ?_
  rintro e w' ⟨c, hc, h0, rfl, hb⟩
  go_wp2_with fail
  go_ret
  exact ⟨c, hc, h0, rfl, hb⟩
end Go.Proofs.YtikcooagdaghnaaDoor
