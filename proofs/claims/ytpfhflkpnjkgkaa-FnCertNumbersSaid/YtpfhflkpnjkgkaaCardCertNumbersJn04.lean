import Derived.Test.YtpfhflkpnjkgkaaCardCertNumbersJn03
/-
  'l31DrawLists' of the reference: some lists.
-/

namespace Go.Proofs.Ytpfhflkpnjkgkaa
open Go.RowKit

def lenL : Value → Nat
  | .slice _ n _ => n
  | _ => 0
/-- Some lists; the cursor alone has turned. -/
structure LsR (D : Nat) (v : Value) (n : Nat) (w : World) (E : Ending) (w' : World) : Prop where
  ex : ∃ u rows, E = .returned u ∧ RdSS u rows w'
  cur : Cur D v n w'
  upd : Upd D (D + 1) w w'
/-- Lists of the call's own, of numbers. -/
structure OwL (w : World) (base : Nat) (u : Value) (rows : List (List Int)) : Prop where
  ex : ∃ vs, OwR w base u vs (rows.map ints)
section
variable {w w' : World} {base : Nat} {u : Value} {rows : List (List Int)}
theorem OwL.keep (h : OwL w base u rows) (hk : ∀ b, base ≤ b → b < w.heap.size → w'.heap[b]? = w.heap[b]?) : OwL w' base u rows := by
  obtain ⟨vs, h⟩ := h.ex
  exact ⟨vs, h.keep hk⟩
theorem OwL.upd {D : Nat} (h : OwL w base u rows) (hu : Upd D (D + 1) w w') (hd : D < base) : OwL w' base u rows := h.keep fun b hb hlt => hu.block b hlt (by omega)
theorem OwL.rd (h : OwL w base u rows) : RdSS u rows w := by
  obtain ⟨vs, h⟩ := h.ex
  exact ⟨vs, h.rd⟩
theorem OwL.shape (h : OwL w base u rows) : ∃ a c, u = .slice a rows.length c := by
  obtain ⟨vs, h⟩ := h.ex
  have hl := h.len
  rw [List.length_map] at hl
  rw [← hl]
  exact owns_shape h.outer
theorem OwL.nil (h : w.ownsRow base 26 1 u 0 []) : OwL w base u [] := ⟨[], ⟨rfl, h, fun i u cs h1 _ => by simp at h1⟩⟩
theorem OwL.out (h : OwL w base u rows) : ∃ vs : List Value, vs.length = rows.length ∧ w.ownsRow base 26 1 u rows.length vs ∧ OwR w base u vs (rows.map ints) := by
  obtain ⟨vs, h⟩ := h.ex
  have hl := h.len
  rw [List.length_map] at hl
  exact ⟨vs, hl, hl ▸ h.outer, h⟩
theorem OwR.push {vs : List Value} {v' x : Value} {xs : List Int} (h : OwR w base u vs (rows.map ints)) (hl : vs.length = rows.length) (hx : w.ownsRow base 2 1 x xs.length (ints xs)) (hg : w.grownBy w' u.ownBlock)
    (ho : w'.ownsRow base 26 1 v' (rows.length + 1) (vs ++ [x])) : OwL w' base v' (rows ++ [xs]) := by
  have keep : ∀ {y : Value} {m : Nat} {cs : List Value}, w.ownsRow base 2 1 y m cs → w'.ownsRow base 2 1 y m cs := fun hy => hy.kept hg (by
    cases hv : Value.ownBlock _ with
    | none => exact .inl rfl
    | some b => exact .inr fun he => owns_unlike h.outer hy (by decide) he.symm hv)
  refine ⟨vs ++ [x], by simp [hl], by rw [List.length_append, hl]; exact ho, fun i y cs h1 h2 => ?_⟩
  by_cases hi : i < vs.length
  · rw [List.getElem?_append_left hi] at h1
    rw [List.map_append, List.getElem?_append_left (by rw [List.length_map, ← hl]; exact hi)] at h2
    exact keep (h.rows i y cs h1 h2)
  · have hil : i < (vs ++ [x]).length := (List.getElem?_eq_some_iff.1 h1).1
    simp at hil
    obtain rfl : i = vs.length := by omega
    rw [List.getElem?_append_right (Nat.le_refl _), Nat.sub_self] at h1
    rw [List.map_append, List.getElem?_append_right (by rw [List.length_map, ← hl]; exact Nat.le_refl _), List.length_map, ← hl, Nat.sub_self] at h2
    simp at h1 h2
    subst h1 h2
    rw [ints_length]
    exact keep hx
end

set_option maxHeartbeats 4000000 in
theorem l31DrawLists_any (D : Nat) (v : Value) (bs : List UInt8) (K : Int) (k : Nat) (hK : K = k) (hk : k ≤ 3) (w : World) (hd : Cur D v bs.length w) (hr : RdB v bs w) (hl : bs.length ≤ 4096) (hvD : Far D v bs) :
    Calls Try.prog 32 #[.pointer (some ⟨D, 0, none⟩), .int .i64 K] w (LsR D v bs.length w) := by
  subst hK
  obtain ⟨B, hB⟩ : ∃ B, w.heap.size = B := ⟨_, rfl⟩
  have hDB : D < B := by have := hd.lt; omega
  have HBE : Hid (∀ (N : Int) (n : Nat) (W : World), N = n → 0 < n → n ≤ 256 → Cur D v bs.length W → Upd D (D + 1) w W →
    Calls Try.prog 29 #[.pointer (some ⟨D, 0, none⟩), .int .i64 N] W fun e w' => ∃ x : Nat, e = .returned (.int .i64 x) ∧ x < n ∧ Cur D v bs.length w' ∧ Upd D (D + 1) W w') :=
    Lib.hid fun N n W hN h0 h1 hdW hu => l1Below_any D v bs n N hN h0 h1 W hdW (hr.upd hu hvD) hl hvD
  have HON : Hid (∀ (N : Int) (n : Nat) (W : World), N = n → 0 < n → n ≤ 256 → Cur D v bs.length W → Upd D (D + 1) w W →
    Calls Try.prog 22 #[.pointer (some ⟨D, 0, none⟩), .int .i64 N] W fun e w' => ∃ b : Bool, e = .returned (.bool b) ∧ Cur D v bs.length w' ∧ Upd D (D + 1) W w') :=
    Lib.hid fun N n W hN h0 h1 hdW hu => l1Once_any D v bs n N hN h0 h1 W hdW (hr.upd hu hvD) hl hvD
  obtain ⟨W0, hW0⟩ : ∃ W0, W0 = w.alloc (.cells #[] 26) := ⟨_, rfl⟩
  have b0 : Below B w W0 := by rw [hW0, ← hB]; exact below_alloc' _ _
  have u0 : Upd D (D + 1) w W0 := (Upd.rfl' w).then b0 (by omega) |>.wide (by omega)
  have hd0 : Cur D v bs.length W0 := hd.belowAt b0 hDB
  have hz0 : B ≤ W0.heap.size := by have := b0.size; omega
  have ho0 : OwL W0 B (.slice (some ⟨B, 0, none⟩) 0 0) [] := OwL.nil (by
    rw [hW0, ← hB]
    exact World.ownsRow_lit w #[] 0 (Nat.le_refl _) (by simp [maxLen]) rfl)
  have hbc := HBE.out 5 5 W0 rfl (by decide) (by decide) hd0 u0
  clear hr hl b0 hd
  go_enter Try.func32, Try.ntmps32
  go_wp2_with fail
  try rw [← hW0]
  try rw [hB]
  clear hW0
  refine hbc.mono ?_
  rintro e1 w1 ⟨x, rfl, hx, hd1, u1⟩
  have hz1 : B ≤ w1.heap.size := by have := u1.size; omega
  have ho1 := ho0.upd u1 hDB
  replace u0 := u0.trans u1
  clear ho0 hd0 u1 hbc hz0
  have hfin : x + ([] : List (List Int)).length ≤ 4 := by simp; omega
  go_wp2_with fail
  go_loopw [5, 6] (fun uv xv wr => ∃ (j : Nat) (rows : List (List Int)), xv = .int .i64 j ∧ j + rows.length ≤ 4 ∧ Hid (OwL wr B uv rows) ∧ Hid (Cur D v bs.length wr) ∧ Hid (Upd D (D + 1) w wr) ∧ B ≤ wr.heap.size) (fun _ xv _ => (intOf xv).toNat)
  case atStart => exact ⟨x, [], rfl, hfin, Lib.hid ho1, Lib.hid hd1, Lib.hid u0, hz1⟩
  case round =>
    clear ho1 hd1 u0 hz1 hfin
    obtain ⟨j, rows, rfl, hj, HO, HD, HU, hzr⟩ := hrel
    obtain ⟨oa, oc, rfl⟩ := HO.out.shape
    by_cases hj0 : 0 < j
    · have hgt : (0 : Int) < j := by omega
      obtain ⟨wo, hwo⟩ : ∃ x, x = wr := ⟨_, rfl⟩
      subst hwo
      obtain ⟨S, hS⟩ : ∃ S, wo.heap.size = S := ⟨_, rfl⟩
      obtain ⟨W5, hW5⟩ : ∃ W, W = wo.alloc (.cells #[] 2) := ⟨_, rfl⟩
      have b5 : Below S wo W5 := by rw [hW5, ← hS]; exact below_alloc' _ _
      have hk5 : Hid (W5.ownsRow S 2 1 (.slice (some ⟨S, 0, none⟩) 0 0) 0 (ints [])) := Lib.hid (by
        rw [hW5, ← hS]
        exact World.ownsRow_lit wo #[] 0 (Nat.le_refl _) (by simp [maxLen]) rfl)
      have hu5 : Hid (Upd D (D + 1) wo W5) := Lib.hid ((Upd.rfl' wo).then b5 (by omega) |>.wide (by omega))
      have hd5 : Hid (Cur D v bs.length W5) := Lib.hid (HD.out.belowAt b5 (by omega))
      clear b5
      go_wp2_with fail
      try rw [← hW5]
      try rw [hS]
      clear hW5
      go_loopw [7, 8] (fun kv iv wr => ∃ (i : Nat) (ks : List Int), iv = .int .i64 i ∧ i ≤ k ∧ ks.length = i ∧ Hid (wr.ownsRow S 2 1 kv i (ints ks)) ∧ Hid (Upd D (D + 1) wo wr) ∧ Hid (Cur D v bs.length wr)) (fun _ iv _ => k - (intOf iv).toNat)
      case atStart => exact ⟨0, [], rfl, Nat.zero_le _, rfl, hk5, hu5, hd5⟩
      case round =>
        clear hk5 hu5 hd5
        obtain ⟨i, ks, rfl, hik, hks, HK, HUQ, HDQ⟩ := hrel
        obtain ⟨ka, kc, rfl⟩ := owns_shape HK.out
        have hzq : S ≤ wr.heap.size := by have := HUQ.out.size; omega
        by_cases hlt : i < k
        · have hltI : (i : Int) < k := by omega
          have hbc := HBE.out 9 9 wr rfl (by decide) (by decide) HDQ.out (HU.out.trans HUQ.out)
          go_wp2_with fail
          refine hbc.mono ?_
          rintro e1 w6 ⟨y, rfl, hy, hd6, u6⟩
          have HK6 := Lib.hid (owns_keep HK.out fun b hb hlt => u6.block b hlt (by have := (owns_lt HK.out hb).1; omega))
          have hz6 : S ≤ w6.heap.size := by have := u6.size; omega
          have HU6 := Lib.hid (HUQ.out.trans u6)
          have HD6 := Lib.hid hd6
          clear hd6 u6 hbc
          go_wp2_with (at_builtin; refine wpList_push w6 rfl _ _ 26 rfl S 2 _ _ 8 Try.underlying26 infoI rfl (.slice ka i kc) i (ints ks) rfl HK6.out (.int .i64 (y : Int)) rfl rfl (by unfold maxLen; omega) (by omega) (by omega) ?_; intro g7 c7 w7 ho7 hg7)
          have b7 : Below S w6 w7 := (Below.refl _ _).grown hg7 hz6 fun b hb => (owns_lt HK6.out hb).1
          have HU7 : Hid (Upd D (D + 1) wo w7) := Lib.hid (HU6.out.then b7 (by omega))
          have HD7 : Hid (Cur D v bs.length w7) := Lib.hid (HD6.out.belowAt b7 (by omega))
          have HK7 : Hid (w7.ownsRow S 2 1 (.slice (some ⟨g7, 0, none⟩) (i + 1) c7) (i + 1) (ints (ks ++ [(y : Int)]))) := Lib.hid (by simpa [ints] using ho7)
          clear b7 ho7 hg7
          go_roundw
          case rel => exact ⟨i + 1, ks ++ [(y : Int)], by go_num, by omega, by simp [hks], HK7, HU7, HD7⟩
          case measure => simp [intOf]; omega
        · obtain rfl : i = k := by omega
          obtain ⟨vs, hvl, hov, hOR⟩ := (HO.out.upd HUQ.out hDB).out
          have HOV := Lib.hid hov
          have HOR := Lib.hid hOR
          clear hov hOR
          go_wp2_with (at_builtin; refine wpList_push wr rfl _ _ 32 rfl B 26 _ _ 24 Try.underlying32 infoR rfl (.slice oa rows.length oc) rows.length vs rfl HOV.out (.slice ka i kc) rfl rfl (by unfold maxLen; omega) (by omega) (by omega) ?_; intro g8 c8 w8 ho8 hg8)
          have b8 : Below B wr w8 := (Below.refl _ _).grown hg8 (by omega) fun b hb => (owns_lt HOV.out hb).1
          have HO8 : Hid (OwL w8 B (.slice (some ⟨g8, 0, none⟩) (rows.length + 1) c8) (rows ++ [ks])) := Lib.hid (HOR.out.push hvl (by rw [hks]; exact owns_base HK.out (by omega)) hg8 ho8)
          have HU8 : Hid (Upd D (D + 1) w w8) := Lib.hid ((HU.out.trans HUQ.out).then b8 (by omega))
          have HD8 : Hid (Cur D v bs.length w8) := Lib.hid (HDQ.out.belowAt b8 (by omega))
          have hz8 : B ≤ w8.heap.size := by have := b8.size; omega
          clear b8 ho8 hg8
          go_roundw
          case rel => exact ⟨j - 1, rows ++ [ks], by first | go_num | (congr 1; omega), by simp; omega, HO8, HD8, HU8, hz8⟩
          case measure => simp [intOf]; omega
    · obtain rfl : j = 0 := by omega
      have hbc := HON.out 6 6 wr rfl (by decide) (by decide) HD.out HU.out
      go_wp2_with fail
      refine hbc.mono ?_
      rintro e1 wx ⟨bx, rfl, hdx, ux⟩
      have HOX := Lib.hid (HO.out.upd ux hDB)
      have HUX := Lib.hid (HU.out.trans ux)
      have HDX := Lib.hid hdx
      have hzx : B ≤ wx.heap.size := by have := ux.size; omega
      clear hbc hdx ux
      cases bx with
      | false =>
        have hbc2 := HON.out 12 12 wx rfl (by decide) (by decide) HDX.out HUX.out
        go_wp2_with fail
        refine hbc2.mono ?_
        rintro e1 w9 ⟨b9, rfl, hd9, u9⟩
        have HO9 := Lib.hid (HOX.out.upd u9 hDB)
        have HU9 := Lib.hid (HUX.out.trans u9)
        have HD9 := Lib.hid hd9
        have hz9 : B ≤ w9.heap.size := by have := u9.size; omega
        clear hbc2 hd9 u9
        cases b9 with
        | false =>
          go_wp2_with fail
          go_ret
          exact ⟨⟨_, _, rfl, HO9.out.rd⟩, HD9.out, HU9.out⟩
        | true =>
          go_wp2_with fail
          go_loopw [5] (fun uv wr => ∃ rows2 : List (List Int), rows2.length ≤ 17 ∧ Hid (OwL wr B uv rows2) ∧ Hid (Cur D v bs.length wr) ∧ Hid (Upd D (D + 1) w wr) ∧ B ≤ wr.heap.size) (fun uv _ => 17 - lenL uv)
          case atStart => exact ⟨rows, by (try simp); omega, by first | exact HO9 | simpa using HO9, HD9, HU9, hz9⟩
          case round =>
            clear HO9 HD9 HU9 hz9
            obtain ⟨rows2, hr2, HO2, HD2, HU2, hz2⟩ := hrel
            obtain ⟨pa, pc, rfl⟩ := HO2.out.shape
            have hbc3 := HBE.out 2 2 wr rfl (by decide) (by decide) HD2.out HU2.out
            go_wp2_with fail
            refine hbc3.mono ?_
            rintro e1 wz ⟨z, rfl, hz, hdz, uz⟩
            have HOZ := Lib.hid (HO2.out.upd uz hDB)
            have HUZ := Lib.hid (HU2.out.trans uz)
            have HDZ := Lib.hid hdz
            have hzz : B ≤ wz.heap.size := by have := uz.size; omega
            clear hbc3 hdz uz
            by_cases hlt : rows2.length < 16 + z
            · have hltI : (rows2.length : Int) < 16 + z := by omega
              go_wp2_with (first | (at_make; refine wpList_make _ rfl _ _ 26 rfl B 2 (.int .i64 0) 8 Try.underlying26 infoI rfl .i64 .i64 _ _ k rfl rfl rfl rfl (by omega) (by unfold maxLen; omega) (by omega) ?_; intro wm hom hbm; obtain ⟨vs, hvl, hov, hOR⟩ := (HOZ.out.keep (fun b _ hlt => hbm.block b hlt)).out; have HOV := Lib.hid hov; have HOR := Lib.hid hOR; have HOM := Lib.hid hom; have HBM := Lib.hid hbm; have hzm : B ≤ wm.heap.size := by { have := hbm.size; omega }; clear hov hOR hom hbm) | (at_builtin; refine wpList_push wm rfl _ _ 32 rfl B 26 _ _ 24 Try.underlying32 infoR rfl (.slice pa rows2.length pc) rows2.length vs rfl HOV.out (.slice (some ⟨wz.heap.size, 0, none⟩) k k) rfl rfl (by unfold maxLen; omega) (by omega) (by omega) ?_; intro g8 c8 w8 ho8 hg8))
              have b8 : Below B wm w8 := (Below.refl _ _).grown hg8 (by omega) fun b hb => (owns_lt HOV.out hb).1
              have HO8 : Hid (OwL w8 B (.slice (some ⟨g8, 0, none⟩) (rows2.length + 1) c8) (rows2 ++ [List.replicate k (0 : Int)])) := Lib.hid (HOR.out.push hvl (xs := List.replicate k (0 : Int)) (by simpa [ints] using HOM.out) hg8 ho8)
              have HU8 : Hid (Upd D (D + 1) w w8) := Lib.hid ((HUZ.out.then HBM.out (by omega)).then b8 (by omega))
              have HD8 : Hid (Cur D v bs.length w8) := Lib.hid ((HDZ.out.belowAt HBM.out (by omega)).belowAt b8 (by omega))
              have hz8 : B ≤ w8.heap.size := by have := b8.size; omega
              clear b8 ho8 hg8
              go_roundw
              case rel => exact ⟨rows2 ++ [List.replicate k (0 : Int)], by simp; omega, HO8, HD8, HU8, hz8⟩
              case measure => simp [lenL]; omega
            · have hltI : ¬ (rows2.length : Int) < 16 + z := by omega
              go_wp2_with fail
              go_ret
              exact ⟨⟨_, _, rfl, HOZ.out.rd⟩, HDZ.out, HUZ.out⟩
      | true =>
        have hbc := HBE.out 4 4 wx rfl (by decide) (by decide) HDX.out HUX.out
        go_wp2_with fail
        refine hbc.mono ?_
        rintro e1 wy ⟨y, rfl, hy, hdy, uy⟩
        have HOY := Lib.hid (HOX.out.upd uy hDB)
        have HUY := Lib.hid (HUX.out.trans uy)
        have HDY := Lib.hid hdy
        have hzy : B ≤ wy.heap.size := by have := uy.size; omega
        clear hbc hdy uy
        go_wp2_with (first | (at_make; refine wpList_make _ rfl _ _ 26 rfl B 2 (.int .i64 0) 8 Try.underlying26 infoI rfl .i64 .i64 _ _ y rfl rfl rfl rfl (by omega) (by unfold maxLen; omega) (by omega) ?_; intro wm hom hbm; obtain ⟨vs, hvl, hov, hOR⟩ := (HOY.out.keep (fun b _ hlt => hbm.block b hlt)).out; have HOV := Lib.hid hov; have HOR := Lib.hid hOR; have HOM := Lib.hid hom; have HBM := Lib.hid hbm; have hzm : B ≤ wm.heap.size := by { have := hbm.size; omega }; clear hov hOR hom hbm) | (at_builtin; refine wpList_push wm rfl _ _ 32 rfl B 26 _ _ 24 Try.underlying32 infoR rfl (.slice oa rows.length oc) rows.length vs rfl HOV.out (.slice (some ⟨wy.heap.size, 0, none⟩) y y) rfl rfl (by unfold maxLen; omega) (by omega) (by omega) ?_; intro g8 c8 w8 ho8 hg8))
        have b8 : Below B wm w8 := (Below.refl _ _).grown hg8 (by omega) fun b hb => (owns_lt HOV.out hb).1
        have HO8 : Hid (OwL w8 B (.slice (some ⟨g8, 0, none⟩) (rows.length + 1) c8) (rows ++ [List.replicate y (0 : Int)])) := Lib.hid (HOR.out.push hvl (xs := List.replicate y (0 : Int)) (by simpa [ints] using HOM.out) hg8 ho8)
        have HU8 : Hid (Upd D (D + 1) w w8) := Lib.hid ((HUY.out.then HBM.out (by omega)).then b8 (by omega))
        have HD8 : Hid (Cur D v bs.length w8) := Lib.hid ((HDY.out.belowAt HBM.out (by omega)).belowAt b8 (by omega))
        have hz8 : B ≤ w8.heap.size := by have := b8.size; omega
        clear b8 ho8 hg8
        have hlen1 : (rows ++ [List.replicate y (0 : Int)]).length = rows.length + 1 := by simp
        have hbc2 := HON.out 12 12 w8 rfl (by decide) (by decide) HD8.out HU8.out
        go_wp2_with fail
        refine hbc2.mono ?_
        rintro e1 w9 ⟨b9, rfl, hd9, u9⟩
        have HO9 := Lib.hid (HO8.out.upd u9 hDB)
        have HU9 := Lib.hid (HU8.out.trans u9)
        have HD9 := Lib.hid hd9
        have hz9 : B ≤ w9.heap.size := by have := u9.size; omega
        clear hbc2 hd9 u9
        cases b9 with
        | false =>
          go_wp2_with fail
          go_ret
          exact ⟨⟨_, _, rfl, HO9.out.rd⟩, HD9.out, HU9.out⟩
        | true =>
          go_wp2_with fail
          go_loopw [5] (fun uv wr => ∃ rows2 : List (List Int), rows2.length ≤ 17 ∧ Hid (OwL wr B uv rows2) ∧ Hid (Cur D v bs.length wr) ∧ Hid (Upd D (D + 1) w wr) ∧ B ≤ wr.heap.size) (fun uv _ => 17 - lenL uv)
          case atStart => exact ⟨(rows ++ [List.replicate y (0 : Int)]), by (try simp); omega, by first | exact HO9 | simpa using HO9, HD9, HU9, hz9⟩
          case round =>
            clear HO9 HD9 HU9 hz9
            obtain ⟨rows2, hr2, HO2, HD2, HU2, hz2⟩ := hrel
            obtain ⟨pa, pc, rfl⟩ := HO2.out.shape
            have hbc3 := HBE.out 2 2 wr rfl (by decide) (by decide) HD2.out HU2.out
            go_wp2_with fail
            refine hbc3.mono ?_
            rintro e1 wz ⟨z, rfl, hz, hdz, uz⟩
            have HOZ := Lib.hid (HO2.out.upd uz hDB)
            have HUZ := Lib.hid (HU2.out.trans uz)
            have HDZ := Lib.hid hdz
            have hzz : B ≤ wz.heap.size := by have := uz.size; omega
            clear hbc3 hdz uz
            by_cases hlt : rows2.length < 16 + z
            · have hltI : (rows2.length : Int) < 16 + z := by omega
              go_wp2_with (first | (at_make; refine wpList_make _ rfl _ _ 26 rfl B 2 (.int .i64 0) 8 Try.underlying26 infoI rfl .i64 .i64 _ _ k rfl rfl rfl rfl (by omega) (by unfold maxLen; omega) (by omega) ?_; intro wm hom hbm; obtain ⟨vs, hvl, hov, hOR⟩ := (HOZ.out.keep (fun b _ hlt => hbm.block b hlt)).out; have HOV := Lib.hid hov; have HOR := Lib.hid hOR; have HOM := Lib.hid hom; have HBM := Lib.hid hbm; have hzm : B ≤ wm.heap.size := by { have := hbm.size; omega }; clear hov hOR hom hbm) | (at_builtin; refine wpList_push wm rfl _ _ 32 rfl B 26 _ _ 24 Try.underlying32 infoR rfl (.slice pa rows2.length pc) rows2.length vs rfl HOV.out (.slice (some ⟨wz.heap.size, 0, none⟩) k k) rfl rfl (by unfold maxLen; omega) (by omega) (by omega) ?_; intro g8 c8 w8 ho8 hg8))
              have b8 : Below B wm w8 := (Below.refl _ _).grown hg8 (by omega) fun b hb => (owns_lt HOV.out hb).1
              have HO8 : Hid (OwL w8 B (.slice (some ⟨g8, 0, none⟩) (rows2.length + 1) c8) (rows2 ++ [List.replicate k (0 : Int)])) := Lib.hid (HOR.out.push hvl (xs := List.replicate k (0 : Int)) (by simpa [ints] using HOM.out) hg8 ho8)
              have HU8 : Hid (Upd D (D + 1) w w8) := Lib.hid ((HUZ.out.then HBM.out (by omega)).then b8 (by omega))
              have HD8 : Hid (Cur D v bs.length w8) := Lib.hid ((HDZ.out.belowAt HBM.out (by omega)).belowAt b8 (by omega))
              have hz8 : B ≤ w8.heap.size := by have := b8.size; omega
              clear b8 ho8 hg8
              go_roundw
              case rel => exact ⟨rows2 ++ [List.replicate k (0 : Int)], by simp; omega, HO8, HD8, HU8, hz8⟩
              case measure => simp [lenL]; omega
            · have hltI : ¬ (rows2.length : Int) < 16 + z := by omega
              go_wp2_with fail
              go_ret
              exact ⟨⟨_, _, rfl, HOZ.out.rd⟩, HDZ.out, HUZ.out⟩
end Go.Proofs.Ytpfhflkpnjkgkaa
/-
  'DrawTripleNums', 'DrawLinkNums' of the reference: some lists.
-/

namespace Go.Proofs.Ytpfhflkpnjkgkaa
open Go.RowKit

/-- Some lists; what stood has kept. -/
def LsB (w : World) (E : Ending) (w' : World) : Prop := (∃ u rows, E = .returned u ∧ RdSS u rows w') ∧ Below w.heap.size w w'

set_option maxHeartbeats 4000000 in
theorem drawTriple_any (v : Value) (bs : List UInt8) (hl : bs.length ≤ 4096) (w : World) (hr : RdB v bs w) :
    Calls Try.prog 12 #[v] w (LsB w) := by
  obtain ⟨D, hD⟩ : ∃ D, w.heap.size = D := ⟨_, rfl⟩
  have HNEW := Lib.hid (l1New_any v bs hl w hr)
  have hfar : Far D v bs := hD ▸ hr.far
  have HR := Lib.hid hr
  clear hr
  go_enter Try.func12, Try.ntmps12
  go_wp2_with fail
  refine HNEW.out.mono ?_
  rintro e w1 ⟨rfl, hc1, hb1⟩
  rw [hD] at hc1 hb1 ⊢
  have hr1 : RdB v bs w1 := Row.below HR.out (by rw [hD]; exact hb1)
  have hz1 : D ≤ w1.heap.size := by have := hb1.size; omega
  have hls := l31DrawLists_any D v bs 3 3 rfl (by decide) w1 hc1 hr1 hl hfar
  clear hc1 HNEW hr1
  go_wp2_with fail
  refine hls.mono ?_
  rintro e w2 ⟨⟨u, rows, rfl, hrs⟩, hc2, u2⟩
  have HE : Hid (LsB w (.returned u) w2) := Lib.hid ⟨⟨_, _, rfl, hrs⟩, by rw [hD]; exact u2.below hb1 hz1 (by omega)⟩
  clear hrs hc2 u2 hls hb1
  go_wp2_with fail
  refine bodyPost_ret (v := u) (by simp [results, Try.results12, go_sem]) rfl ?_
  exact HE.out

set_option maxHeartbeats 4000000 in
theorem drawLink_any (v : Value) (bs : List UInt8) (hl : bs.length ≤ 4096) (w : World) (hr : RdB v bs w) :
    Calls Try.prog 13 #[v] w (LsB w) := by
  obtain ⟨D, hD⟩ : ∃ D, w.heap.size = D := ⟨_, rfl⟩
  have HNEW := Lib.hid (l1New_any v bs hl w hr)
  have hfar : Far D v bs := hD ▸ hr.far
  have HR := Lib.hid hr
  clear hr
  go_enter Try.func13, Try.ntmps13
  go_wp2_with fail
  refine HNEW.out.mono ?_
  rintro e w1 ⟨rfl, hc1, hb1⟩
  rw [hD] at hc1 hb1 ⊢
  have hr1 : RdB v bs w1 := Row.below HR.out (by rw [hD]; exact hb1)
  have hz1 : D ≤ w1.heap.size := by have := hb1.size; omega
  have hls := l31DrawLists_any D v bs 2 2 rfl (by decide) w1 hc1 hr1 hl hfar
  clear hc1 HNEW hr1
  go_wp2_with fail
  refine hls.mono ?_
  rintro e w2 ⟨⟨u, rows, rfl, hrs⟩, hc2, u2⟩
  have HE : Hid (LsB w (.returned u) w2) := Lib.hid ⟨⟨_, _, rfl, hrs⟩, by rw [hD]; exact u2.below hb1 hz1 (by omega)⟩
  clear hrs hc2 u2 hls hb1
  go_wp2_with fail
  refine bodyPost_ret (v := u) (by simp [results, Try.results13, go_sem]) rfl ?_
  exact HE.out
end Go.Proofs.Ytpfhflkpnjkgkaa
