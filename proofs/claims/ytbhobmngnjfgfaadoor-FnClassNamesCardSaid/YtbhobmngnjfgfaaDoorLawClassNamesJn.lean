import Derived.Test.YtbhobmngnjfgfaaDoorBendJn
import Derived.Test.YtbhobmngnjfgfaaDoorSayJJn
/-
  The law 'FnClassNames' returns true.
-/


namespace Go.Proofs.YtbhobmngnjfgfaaDoor
open Go.RowKit

theorem name_places : ∀ k : Fin 10, (cn.map ByteArray.toList)[k.val]? = some (nameOf ((k.val : Int) + 1)).toList ∧ ∀ j, j < k.val → (cn.map ByteArray.toList)[j]? ≠ some (nameOf ((k.val : Int) + 1)).toList := by decide +kernel
theorem name_idx {k : Nat} (h1 : 1 ≤ k) (h2 : k ≤ 10) {r : Int} (h : IsIdx (cn.map ByteArray.toList) (nameOf k).toList r) : r + 1 = (k : Int) := by
  have hp := name_places ⟨k - 1, by omega⟩
  have e : (((k - 1 : Nat) : Int) + 1) = (k : Int) := by omega
  dsimp only at hp
  rw [e] at hp
  have hi : IsIdx (cn.map ByteArray.toList) (nameOf k).toList ((k - 1 : Nat) : Int) := .inl ⟨k - 1, by simp [cn_length]; omega, hp.1, hp.2, rfl⟩
  have := h.unique hi
  omega
theorem idx_has {α : Type} (ss : List α) (s : α) : ∃ r, IsIdx ss s r := by
  have key : ∀ n, n ≤ ss.length → (∃ k, k < n ∧ ss[k]? = some s ∧ ∀ j, j < k → ss[j]? ≠ some s) ∨ (∀ j, j < n → ss[j]? ≠ some s) := by
    intro n
    induction n with
    | zero => exact fun _ => .inr fun j hj => by omega
    | succ n ih =>
      intro hn
      rcases ih (by omega) with ⟨k, hk, h1, h2⟩ | h
      · exact .inl ⟨k, by omega, h1, h2⟩
      · by_cases hs : ss[n]? = some s
        · exact .inl ⟨n, by omega, hs, h⟩
        · refine .inr fun j hj => ?_
          by_cases hjn : j = n
          · rw [hjn]; exact hs
          · exact h j (by omega)
  rcases key ss.length (Nat.le_refl _) with ⟨k, hk, h1, h2⟩ | h
  · exact ⟨k, .inl ⟨k, hk, h1, h2, rfl⟩⟩
  · exact ⟨-1, .inr ⟨h, rfl⟩⟩
theorem nameOf_size (c : Int) : (nameOf c).size ≤ 20 := by
  by_cases h : 1 ≤ c ∧ c ≤ 10
  · obtain ⟨L, h1, -, h3⟩ := nameOf_some h
    rw [h1]
    show L.toArray.size ≤ 20
    simpa using h3
  · rw [nameOf_none h]
    decide

set_option maxHeartbeats 4000000 in
theorem drawName_any (v : Value) (bs : List UInt8) (hl : bs.length ≤ 4096) (w : World) (hr : RdB v bs w) :
    Calls Tryd.prog 66 #[v] w fun e w' => ∃ t : ByteArray, e = .returned (.string t) ∧ t.size ≤ 50 ∧ Below w.heap.size w w' := by
  obtain ⟨A, hA⟩ : ∃ A, w.heap.size = A := ⟨_, rfl⟩
  have HNEW := Lib.hid (l1New_any v bs hl w hr)
  have hfar := hA ▸ hr.far
  go_enter Tryd.func66, Tryd.ntmps66
  go_wp2_with fail
  refine HNEW.out.mono ?_
  rintro e w1 ⟨rfl, hc1, hb1⟩
  rw [hA] at hc1 hb1 ⊢
  have hr1 : RdB v bs w1 := Row.below hr (by rw [hA]; exact hb1)
  have hz1 : A + 1 ≤ w1.heap.size := by have := hc1.lt; omega
  clear HNEW
  go_wp2_with fail
  refine (l1Below_any A v bs 10 10 rfl (by decide) (by decide) w1 hc1 hr1 hl hfar).mono ?_
  rintro e w2 ⟨x, rfl, hx, hc2, u2⟩
  have hr2 := hr1.upd u2 hfar
  have bb2 := u2.below hb1 (by omega) (by omega)
  have hz2 : w1.heap.size ≤ w2.heap.size := u2.size
  clear hc1 hb1 u2 hr1
  go_wp2_with fail
  refine (specClassName _ w2).mono ?_
  rintro e w3 ⟨rfl, hb3⟩
  have hc3 := hc2.upd (Upd.of_below hb3) (by omega)
  have hr3 : RdB v bs w3 := Row.below hr2 hb3
  have bb3 := bb2.trans (hb3.mono (by omega))
  have hz3 : w2.heap.size ≤ w3.heap.size := hb3.size
  have hsz := nameOf_size (1 + (x : Int))
  generalize nameOf (1 + (x : Int)) = s at *
  clear hc2 hr2 bb2 hb3
  have HB := Lib.hid (l1Bend_any A v bs s (by omega))
  have hO := Lib.hid (l1Once_any A v bs 2 2 rfl (by decide) (by decide) w3 hc3 hr3 hl hfar)
  have hs50 : s.size ≤ 50 := by omega
  go_wp2_with fail
  refine hO.out.mono ?_
  rintro e w4 ⟨b, rfl, hc4, u4⟩
  have hr4 := hr3.upd u4 hfar
  have bb4 := u4.below bb3 (by omega) (by omega)
  have hz4 : w3.heap.size ≤ w4.heap.size := u4.size
  have HBD := Lib.hid (HB.out w4 hc4 hr4 hl hfar)
  have HBB := Lib.hid bb4
  clear hc3 hr3 bb3 u4 hr4 hc4 hO HB bb4
  cases b with
  | true =>
    go_wp2_with fail
    go_ret
    exact ⟨s, rfl, hs50, by rw [hA]; exact HBB.out⟩
  | false =>
    have hsg : signs7 = ⟨#[115, 101, 114, 105, 111, 117, 116]⟩ := rfl
    rw [hsg] at HBD
    clear hsg
    go_wp2_with fail
    refine HBD.out.mono ?_
    rintro e w5 ⟨t, rfl, ht, hc5, u5⟩
    have HB5 := Lib.hid (u5.below HBB.out (by omega) (by omega))
    clear u5 hc5 HBD HBB
    go_wp2_with fail
    go_ret
    exact ⟨t, rfl, ht, by rw [hA]; exact HB5.out⟩

set_option maxHeartbeats 8000000 in
set_option maxRecDepth 100000 in
theorem lawClassNames (v : Value) (bs : List UInt8) (w : World) (hcn : CN w) (hp : P10 w) (hr : RdB v bs w) :
    Calls Tryd.prog 11 #[v] w fun e w' => e = .returned (.bool true) ∧ Below w.heap.size w w' := by
  have hbig := Lib.hid (big_any v bs w hr)
  obtain ⟨a, c, rfl, -, -, -⟩ := id hr
  obtain ⟨D, hD⟩ : ∃ D, w.heap.size = D := ⟨_, rfl⟩
  have hPB : 1 < D := by
    rw [← hD]
    have h := Lib.TabIs.cell hp gPow 0 (by decide +kernel)
    exact World.block_lt_of_cell? w _ h
  have hfar := hD ▸ hr.far
  have hb0 : Below D w w := Below.refl _ _
  have HNC : Hid (∀ (c : Int) (W : World), Below D w W → Calls Tryd.prog 64 #[.int .i64 c] W fun e w' => e = .returned (.string (nameOf c)) ∧ W = w') := Lib.hid fun c W h => implClassName c W (hcn.keep h hD)
  have HCN : Hid (∀ (s : ByteArray) (W : World), Below D w W → Calls Tryd.prog 63 #[.string s] W fun e w' => ∃ r, e = .returned (.int .i64 (r + 1)) ∧ Hid (IsIdx (cn.map ByteArray.toList) s.toList r) ∧ W = w') := Lib.hid fun s W h => implNameClass s W (hcn.keep h hD)
  have HIS : Hid (∀ (C Y N : Int) (W : World), -1000 ≤ N → N ≤ 1000 → Below D w W → Calls Tryd.prog 14 #[.agg #[.int .i64 C, .int .i64 Y, .int .i64 N]] W fun e w' => e = .returned (.string (sayT C Y N)) ∧ Below W.heap.size W w') := Lib.hid fun C Y N W h0 h1 hW => implSaysText C Y N (by omega) (by omega) W (hp.keep hW hPB) (hcn.keep hW hD)
  have HSS : Hid (∀ (C Y N : Int) (W : World), -1000 ≤ N → N ≤ 1000 → Calls Tryd.prog 12 #[.agg #[.int .i64 C, .int .i64 Y, .int .i64 N]] W fun e w' => e = .returned (.string (sayT C Y N)) ∧ Below W.heap.size W w') := Lib.hid fun C Y N W h0 h1 => specSaysText C Y N (by omega) (by omega) W
  have HR0 : Hid (∀ W, Below D w W → RdB (.slice a bs.length c) bs W) := Lib.hid fun W h => Row.below hr (by rw [hD]; exact h)
  have hdz : ∀ z : ByteArray, (z.toList != z.toList) = false := fun z => by simp
  have hdz2 : ∀ z : ByteArray, (z.toList == z.toList) = true := fun z => by simp
  go_enter Tryd.func11, Tryd.ntmps11
  go_wp2_with fail
  refine hbig.out.mono ?_
  rintro e1 w' ⟨rfl, rfl⟩
  by_cases hl : 4096 < bs.length
  · have hd : decide (4096 < bs.length) = true := by simpa using hl
    rw [hd]
    clear hd hbig
    go_wp2_with fail
    go_ret
    exact ⟨rfl, by rw [hD]; exact hb0⟩
  have hd : decide (4096 < bs.length) = false := by simpa using hl
  rw [hd]
  clear hd hbig
  have hl' : bs.length ≤ 4096 := by omega
  go_wp2_with fail
  refine (roll_any _ bs 813 hl' w hr).mono ?_
  rintro e1 w1 ⟨rfl, hd1, hb1⟩
  rw [hD] at hd1 hb1 ⊢
  have hz1 : D + 1 ≤ w1.heap.size := by have := hd1.lt; omega
  clear hb0
  go_wp2_with fail
  go_loopw [4] (fun i wr => ∃ (k : Nat), 1 ≤ k ∧ k ≤ 11 ∧ i = .int .i64 k ∧ Dice D (.slice a bs.length c) bs.length wr ∧ Below D w wr ∧ D + 1 ≤ wr.heap.size) (fun i _ => 12 - (intOf i).toNat)
  case atStart => exact ⟨1, Nat.le_refl _, by decide, rfl, hd1, hb1, hz1⟩
  case round =>
    clear hd1 hb1 hz1
    obtain ⟨k, hk1, hk2, rfl, hdk, hb, hz⟩ := hrel
    by_cases hlt : k ≤ 10
    · have hli : (k : Int) ≤ 10 := by omega
      have hb9 := Lib.hid (below_any D _ bs 2 2 rfl (by decide) (by decide) wr hdk (HR0.out wr hb) hl' hfar)
      go_wp2_with fail
      refine hb9.out.mono ?_
      rintro e1 w2 ⟨y, rfl, hy, hd2, u2⟩
      have hb2 := u2.below hb (by omega) (by omega)
      have hz2 : wr.heap.size ≤ w2.heap.size := u2.size
      have hA1 := Lib.hid (HNC.out (k : Int) w2 hb2)
      clear hb9 hdk hb u2
      go_wp2_with fail
      refine hA1.out.mono ?_
      rintro e1 w' ⟨rfl, rfl⟩
      obtain ⟨s, hs⟩ : ∃ s, nameOf (k : Int) = s := ⟨_, rfl⟩
      have hA2 := Lib.hid (HCN.out s w2 hb2)
      have HNI : Hid (∀ r, IsIdx (cn.map ByteArray.toList) s.toList r → r + 1 = (k : Int)) := Lib.hid fun r h => name_idx hk1 hlt (by rw [hs]; exact h)
      rw [hs]
      clear hs hA1
      go_wp2_with fail
      refine hA2.out.mono ?_
      rintro e1 w' ⟨r, rfl, HIX, rfl⟩
      rw [HNI.out r HIX.out]
      have hkk : ((k : Int) != (k : Int)) = false := by simp
      have hA3 := Lib.hid (HIS.out (k : Int) (y : Int) 0 w2 (by decide) (by decide) hb2)
      obtain ⟨T, hT⟩ : ∃ T, sayT (k : Int) (y : Int) 0 = T := ⟨_, rfl⟩
      rw [hT] at hA3
      clear hA2 HIX HNI
      go_wp2_with fail
      refine hA3.out.mono ?_
      rintro e1 w3 ⟨rfl, hb3⟩
      have hb3' := hb2.trans (hb3.mono (by omega))
      have hd3 := hd2.belowAt hb3 (by omega)
      have hz3 : w2.heap.size ≤ w3.heap.size := hb3.size
      have hA4 := Lib.hid (HSS.out (k : Int) (y : Int) 0 w3 (by decide) (by decide))
      rw [hT] at hA4
      clear hA3 hd2 hb2 hb3 hT
      go_wp2_with fail
      refine hA4.out.mono ?_
      rintro e1 w4 ⟨rfl, hb4⟩
      have hb4' := hb3'.trans (hb4.mono (by omega))
      have hd4 := hd3.belowAt hb4 (by omega)
      have hz4 : w3.heap.size ≤ w4.heap.size := hb4.size
      clear hA4 hd3 hb3' hb4
      go_wp2_with fail
      go_roundw
      case rel => exact ⟨k + 1, by omega, by omega, by go_num, hd4, hb4', by omega⟩
      case measure => simp [intOf]; omega
    · have hli : ¬ (k : Int) ≤ 10 := by omega
      have hds := Lib.hid (drawSays_any _ bs hl' wr (HR0.out wr hb))
      clear hdk
      go_wp2_with fail
      refine hds.out.mono ?_
      rintro e1 w2 ⟨x, y, z, rfl, hx, hy, hz', hb2⟩
      have hb2' := hb.trans (hb2.mono (by omega))
      have hz2 : wr.heap.size ≤ w2.heap.size := hb2.size
      obtain ⟨S, hS⟩ : ∃ S, w2.heap.size = S := ⟨_, rfl⟩
      obtain ⟨W3, hW3⟩ : ∃ W, W = w2.alloc (.cells #[.int .i64 x, .int .i64 y, .int .i64 z] 25) := ⟨_, rfl⟩
      have V3 : VC 25 S #[.int .i64 x, .int .i64 y, .int .i64 z] W3 := by rw [hW3]; exact VC.new hS
      have b3 : Below S w2 W3 := by rw [hW3, ← hS]; exact below_alloc' _ _
      have hb3 := hb2'.trans (b3.mono (by omega))
      have hz3 : W3.heap.size = S + 1 := by rw [hW3]; simp [hS]
      have hdn := Lib.hid (drawName_any _ bs hl' W3 (HR0.out W3 hb3))
      have hDS : D + 1 ≤ S := by omega
      clear hds hb2 b3 hb2' hb
      go_wp2_with fail
      try rw [← hW3]
      try rw [hS]
      clear hW3 hS
      refine hdn.out.mono ?_
      rintro e1 w4 ⟨t, rfl, ht, hb4⟩
      have V4 := V3.belowAt hb4 (by omega)
      have hb4' := hb3.trans (hb4.mono (by omega))
      have c0 := V4.getAt (i := 0) (u := .int .i64 x) rfl
      have c1 := V4.getAt (i := 1) (u := .int .i64 y) rfl
      have c2 := V4.getAt (i := 2) (u := .int .i64 z) rfl
      have hz4 : S + 1 ≤ w4.heap.size := by have := hb4.size; omega
      clear V3 V4 hb3 hb4 hdn
      have HOV : Hid (∀ x, Below D w (over w4 x)) := Lib.hid fun x => hb4'.trans ((below_over w4 x).mono (by omega))
      obtain ⟨r0, hr0⟩ := idx_has (cn.map ByteArray.toList) t.toList
      obtain ⟨T, hT⟩ : ∃ T, sayT x y z = T := ⟨_, rfl⟩
      have HO1 : Hid (∀ m, Calls Tryd.prog 14 #[.agg #[.int .i64 x, .int .i64 y, .int .i64 z]] (over w4 m) fun e w' => e = .returned (.string T) ∧ Below (over w4 m).heap.size (over w4 m) w') := Lib.hid fun m => by rw [← hT]; exact HIS.out x y z _ (by omega) (by omega) (HOV.out m)
      have HO2 : Hid (∀ m, Calls Tryd.prog 12 #[.agg #[.int .i64 x, .int .i64 y, .int .i64 z]] (over w4 m) fun e w' => e = .returned (.string T) ∧ Below (over w4 m).heap.size (over w4 m) w') := Lib.hid fun m => by rw [← hT]; exact HSS.out x y z _ (by omega) (by omega)
      have HO3 : Hid (∀ m, Calls Tryd.prog 63 #[.string t] (over w4 m) fun e w' => e = .returned (.int .i64 (r0 + 1)) ∧ over w4 m = w') := Lib.hid fun m => (HCN.out t _ (HOV.out m)).mono fun e w' ⟨r, he, HR, hw⟩ => by rw [← HR.out.unique hr0]; exact ⟨he, hw⟩
      have HO4 : Hid (∀ m, Calls Tryd.prog 67 #[.string t] (over w4 m) fun e w' => e = .returned (.int .i64 (r0 + 1)) ∧ Below (over w4 m).heap.size (over w4 m) w') := Lib.hid fun m => (specNameClass t _).mono fun e w' ⟨r, he, HR, hw⟩ => by rw [← HR.out.unique hr0]; exact ⟨he, hw⟩
      have HO5 : Hid (∀ m, Calls Tryd.prog 64 #[.int .i64 11] (over w4 m) fun e w' => e = .returned (.string ⟨#[]⟩) ∧ over w4 m = w') := Lib.hid fun m => HNC.out 11 _ (HOV.out m)
      have HO6 : Hid (∀ m, Calls Tryd.prog 64 #[.int .i64 0] (over w4 m) fun e w' => e = .returned (.string ⟨#[]⟩) ∧ over w4 m = w') := Lib.hid fun m => HNC.out 0 _ (HOV.out m)
      obtain ⟨r1, hr1⟩ : ∃ r1, r0 + 1 = r1 := ⟨_, rfl⟩
      rw [hr1] at HO3 HO4
      have HEND : Hid (∀ W, Below w4.heap.size w4 W → Below D w W) := Lib.hid fun W h => hb4'.trans (h.mono (by omega))
      clear hr0 hr1 hT hb4'
      go_wp2_with fail
      refine wp_region_calm (by kernel_rfl) (by kernel_rfl) ?_
      repeat quiet_step (first | (go_at_call 14; with_reducible exact calls_over (HO1.out _)) | (go_at_call 12; with_reducible exact calls_over (HO2.out _)) | (go_at_call 63; with_reducible exact calls_over_same (HO3.out _)) | (go_at_call 67; with_reducible exact calls_over (HO4.out _)) | (go_at_call 64; with_reducible exact calls_over_same (HO5.out _)) | (go_at_call 64; with_reducible exact calls_over_same (HO6.out _)))
      refine wpQuiet_nil ?_
      intro W' hbW'
      have HBB := Lib.hid (HEND.out W' hbW')
      clear hbW' c0 c1 c2
      go_wp2_with fail
      go_ret
      exact ⟨rfl, by rw [hD]; exact HBB.out⟩
end Go.Proofs.YtbhobmngnjfgfaaDoor
