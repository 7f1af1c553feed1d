import Derived.BigQuiet
import Derived.Test.YtpfhflkpnjkgkaaDoorGq08
import Derived.Test.YtpfhflkpnjkgkaaDoorSearchJn
/-
  The size of a set (OnesCount32's table is a constant text).
-/



namespace Go.Proofs.YtpfhflkpnjkgkaaDoor
open Go.RowKit

theorem cnt_split (m f a b : Nat) : cnt m f (a + b) = cnt m f a + cnt m (f + a) b := by
  unfold cnt
  have h := List.range'_append (s := f) (m := a) (n := b) (step := 1)
  rw [Nat.one_mul] at h
  rw [← h, List.filter_append, List.length_append]
theorem cnt_shift (m k len : Nat) (q : Nat) (hq : ∀ j, j < len → q.testBit j = m.testBit (k + j)) : cnt m k len = cnt q 0 len := by
  unfold cnt
  rw [show List.range' k len = (List.range' 0 len).map (fun i => k + i) by rw [← List.range_eq_range', List.range'_eq_map_range], List.filter_map, List.length_map]
  congr 1
  apply List.filter_congr
  intro j hj
  rw [List.mem_range'_1] at hj
  exact (hq j (by omega)).symm
theorem size_byte {n : Nat} (h : n < 256) : size n ≤ 8 := by
  rw [size_cnt (n := 8) (by decide) (bits_above (by simpa using h))]
  exact cnt_le _ _ _
theorem byte_bits (m k j : Nat) (hj : j < 8) : (m / 2 ^ k % 256).testBit j = m.testBit (k + j) := by
  rw [show (256 : Nat) = 2 ^ 8 from rfl, Nat.testBit_mod_two_pow, Nat.testBit_div_two_pow]
  simp [hj, Nat.add_comm]
theorem size_bytes {m : Nat} (hm : m < 4294967296) : size m = size (m / 16777216 % 256) + size (m / 65536 % 256) + size (m / 256 % 256) + size (m % 256) := by
  have h8 : ∀ q, q < 256 → size q = cnt q 0 8 := fun q hq => size_cnt (n := 8) (by decide) (bits_above (by simpa using hq))
  rw [size_cnt (n := 32) (by decide) (bits_above (by rw [two32]; exact hm)), h8 _ (by omega), h8 _ (by omega), h8 _ (by omega), h8 _ (by omega)]
  rw [show (32 : Nat) = 8 + (8 + (8 + 8)) from rfl, cnt_split, cnt_split, cnt_split]
  simp only [Nat.zero_add]
  have a0 : cnt m 0 8 = cnt (m % 256) 0 8 := cnt_shift m 0 8 _ fun j hj => by have := byte_bits m 0 j hj; simpa using this
  have a1 : cnt m 8 8 = cnt (m / 256 % 256) 0 8 := cnt_shift m 8 8 _ fun j hj => byte_bits m 8 j hj
  have a2 : cnt m (8 + 8) 8 = cnt (m / 65536 % 256) 0 8 := cnt_shift m 16 8 _ fun j hj => byte_bits m 16 j hj
  have a3 : cnt m (8 + 8 + 8) 8 = cnt (m / 16777216 % 256) 0 8 := cnt_shift m 24 8 _ fun j hj => byte_bits m 24 j hj
  rw [a0, a1, a2, a3]
  omega

def popEx (s : ByteArray) : Bool := (List.range 256).all fun n => match s[n]? with
  | some b => decide (b.toNat = size n)
  | none => false
theorem popEx_at {s : ByteArray} (h : popEx s = true) {n : Nat} (hn : n < 256) : ∃ b, s[n]? = some b ∧ b.toNat = size n := by
  have h1 := List.all_eq_true.1 h n (List.mem_range.2 hn)
  cases hb : s[n]? with
  | none => rw [hb] at h1; cases h1
  | some b =>
    rw [hb] at h1
    refine ⟨b, rfl, ?_⟩
    simpa using h1
theorem run_index_strEx {P : Program} (t : TypeId) (s : ByteArray) (k : IntKind) (i : Int) (b : UInt8) (h : P.underlying t = some .string) (h0 : 0 ≤ i) (hb : s[i.toNat]? = some b) (w : World) :
    (Instr.index t (.string s) (.int k i)).run P w = .ok (.int .u8 b.toNat) w := by
  simp [Instr.index, run_underlying h, asIntOf, h0, hb, go_sem]
theorem quiet_popEx {P : Program} {C : World → Prop} {a : Act} {o : Oper} {K : Act → Prop} (t : TypeId) (x i : Operand) (s : ByteArray) (k : IntKind) (z : Int) (n : Nat) (h : o.op = .index t x i) (hx : a.eval x = .string s) (hi : a.eval i = .int k z)
    (hu : P.underlying t = some .string) (hs : popEx s = true) (hz : z = n) (hn : n < 256) (hk : ∀ c : Nat, Hid (c = size n) → K (a.put o.dst (.int .u8 (c : Int)))) : o.quiet P a C K := by
  subst hz
  obtain ⟨b, hb, h8⟩ := popEx_at hs hn
  refine ⟨.int .u8 b.toNat, fun w _ => ?_, hk _ (Lib.hid h8)⟩
  have e : (execOp a.eval o).run P w = .ok (.value (.int .u8 b.toNat)) w := by
    unfold execOp
    rw [h]
    simp only [hx, hi]
    have := run_index_strEx t s k (n : Int) b hu (by omega) (by simpa using hb) w
    simp [this, go_sem]
  unfold Oper.quietAt
  rw [e]
  exact ⟨rfl, rfl⟩

set_option maxHeartbeats 4000000 in
set_option maxRecDepth 100000 in
theorem ones_exact (m : Nat) (hm : m < 4294967296) (w : World) :
    Calls Tryd.prog 62 #[.int .u32 m] w fun e w' => e = .returned (.int .i64 (size m : Nat)) ∧ Below w.heap.size w w' := by
  have hand : ∀ z : Nat, z < 4294967296 → bits BinOp.and IntKind.u32 (z : Int) 255 = ((z % 256 : Nat) : Int) := fun z hz => by
    rw [show (255 : Int) = ((255 : Nat) : Int) from rfl, u32_and_nat z 255 hz (by decide), show (255 : Nat) = 2 ^ 8 - 1 from rfl, Nat.and_two_pow_sub_one_eq_mod]
  obtain ⟨n1, h1⟩ : ∃ n : Nat, (m : Int) / 16777216 = n := ⟨m / 16777216, by omega⟩
  obtain ⟨n2, h2⟩ : ∃ n : Nat, bits BinOp.and IntKind.u32 ((m : Int) / 65536) 255 = n := ⟨m / 65536 % 256, by rw [show (m : Int) / 65536 = ((m / 65536 : Nat) : Int) by omega]; exact hand _ (by omega)⟩
  obtain ⟨n3, h3⟩ : ∃ n : Nat, bits BinOp.and IntKind.u32 ((m : Int) / 256) 255 = n := ⟨m / 256 % 256, by rw [show (m : Int) / 256 = ((m / 256 : Nat) : Int) by omega]; exact hand _ (by omega)⟩
  obtain ⟨n4, h4⟩ : ∃ n : Nat, bits BinOp.and IntKind.u32 (m : Int) 255 = n := ⟨m % 256, hand _ hm⟩
  have e2 : n2 = m / 65536 % 256 := by rw [show (m : Int) / 65536 = ((m / 65536 : Nat) : Int) by omega, hand _ (by omega)] at h2; omega
  have e3 : n3 = m / 256 % 256 := by rw [show (m : Int) / 256 = ((m / 256 : Nat) : Int) by omega, hand _ (by omega)] at h3; omega
  have e4 : n4 = m % 256 := by rw [hand _ hm] at h4; omega
  have hb1 : n1 < 256 := by omega
  have hb2 : n2 < 256 := by omega
  have hb3 : n3 < 256 := by omega
  have hb4 : n4 < 256 := by omega
  have e1 : n1 = m / 16777216 % 256 := by omega
  have HZ : Hid (size m = size n1 + size n2 + size n3 + size n4) := Lib.hid (by rw [e1, e2, e3, e4, size_bytes hm])
  have HB : Hid (size n1 ≤ 8 ∧ size n2 ≤ 8 ∧ size n3 ≤ 8 ∧ size n4 ≤ 8) := Lib.hid ⟨size_byte hb1, size_byte hb2, size_byte hb3, size_byte hb4⟩
  clear e1 e2 e3 e4 hand
  go_enter Tryd.func62, Tryd.ntmps62
  go_wp2_with fail
  refine wp_region_calm (by kernel_rfl) (by kernel_rfl) ?_
  repeat quiet_step (fail)
  refine BigFrame.wpQuiet_want (by kernel_rfl) (fun K hK => quiet_popEx _ _ _ _ _ _ n1 rfl rfl rfl (by kernel_rfl) (by kernel_rfl) rfl hb1 fun c1 hz1 => hK _ ?_)
  clear K hK
  have hc1 : c1 ≤ 8 := by rw [hz1.out]; exact HB.out.1
  simp only [Act.put, go_sem]
  repeat quiet_step (fail)
  refine BigFrame.wpQuiet_want (by kernel_rfl) (fun K hK => quiet_popEx _ _ _ _ _ _ n2 rfl rfl rfl (by kernel_rfl) (by kernel_rfl) rfl hb2 fun c2 hz2 => hK _ ?_)
  clear K hK
  have hc2 : c2 ≤ 8 := by rw [hz2.out]; exact HB.out.2.1
  simp only [Act.put, go_sem]
  repeat quiet_step (fail)
  refine BigFrame.wpQuiet_want (by kernel_rfl) (fun K hK => quiet_popEx _ _ _ _ _ _ n3 rfl rfl rfl (by kernel_rfl) (by kernel_rfl) rfl hb3 fun c3 hz3 => hK _ ?_)
  clear K hK
  have hc3 : c3 ≤ 8 := by rw [hz3.out]; exact HB.out.2.2.1
  simp only [Act.put, go_sem]
  repeat quiet_step (fail)
  refine BigFrame.wpQuiet_want (by kernel_rfl) (fun K hK => quiet_popEx _ _ _ _ _ _ n4 rfl rfl rfl (by kernel_rfl) (by kernel_rfl) rfl hb4 fun c4 hz4 => hK _ ?_)
  clear K hK
  have hc4 : c4 ≤ 8 := by rw [hz4.out]; exact HB.out.2.2.2
  simp only [Act.put, go_sem]
  repeat quiet_step (fail)
  have hw : IntKind.i64.wrap (IntKind.u8.wrap (IntKind.u8.wrap (IntKind.u8.wrap ((c1 : Int) + c2) + c3) + c4)) = ((c1 + c2 + c3 + c4 : Nat) : Int) := by
    have a1 : IntKind.u8.wrap ((c1 : Int) + c2) = ((c1 + c2 : Nat) : Int) := by simp [IntKind.wrap, go_sem]; omega
    have a2 : IntKind.u8.wrap (((c1 + c2 : Nat) : Int) + c3) = ((c1 + c2 + c3 : Nat) : Int) := by simp [IntKind.wrap, go_sem]; omega
    have a3 : IntKind.u8.wrap (((c1 + c2 + c3 : Nat) : Int) + c4) = ((c1 + c2 + c3 + c4 : Nat) : Int) := by simp [IntKind.wrap, go_sem]; omega
    rw [a1, a2, a3]
    simp [IntKind.wrap, go_sem]
    omega
  rw [hw]
  simp only [wpQuiet_nil_eq]
  intro W hbW
  go_wp2_with fail
  go_ret
  exact ⟨ret_int (by rw [HZ.out, hz1.out, hz2.out, hz3.out, hz4.out]), hbW⟩

set_option maxHeartbeats 1000000 in
theorem size_exact (m : Nat) (hm : m < 4294967296) (w : World) :
    Calls Tryd.prog 49 #[.int .u32 m] w fun e w' => e = .returned (.int .i64 (size m : Nat)) ∧ Below w.heap.size w w' := by
  go_enter Tryd.func49, Tryd.ntmps49
  go_wp2_with fail
  refine (ones_exact m hm w).mono ?_
  rintro e w' ⟨rfl, hb⟩
  go_wp2_with fail
  go_ret
  exact ⟨rfl, hb⟩
end Go.Proofs.YtpfhflkpnjkgkaaDoor
