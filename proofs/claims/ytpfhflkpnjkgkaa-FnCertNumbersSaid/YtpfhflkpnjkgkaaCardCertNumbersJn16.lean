import Derived.Deep.Matrix
import Derived.ProofKit
import Derived.Test.YtpfhflkpnjkgkaaCardCertNumbersJn10
import Derived.Test.YtpfhflkpnjkgkaaCardCertNumbersJn11
import Derived.Test.YtpfhflkpnjkgkaaCardCertNumbersJn14
import Derived.Test.YtpfhflkpnjkgkaaCardCertNumbersJn15
import Derived.Test.YtpfhflkpnjkgkaaGq01
import Derived.Test.YtpfhflkpnjkgkaaGq12
/-
  The law 'FnCertNumbers' returns true.
-/





namespace Go.Proofs.Ytpfhflkpnjkgkaa
open Go.RowKit

theorem ok_part (ps : List PartD) : okW (partN ps) 0 = true := by
  by_cases h : ps.length ≤ 31 ∧ ps.any bigK = false
  · rw [partN_yes h.1 h.2]
    exact ok_nums ps 0 (any_small.1 h.2) (by omega)
  · rw [partN_no h]
    rfl
theorem part_back {ps qs : List PartD} (h : numsOf qs = partN ps) (h0 : partN ps ≠ []) : qs = ps := by
  by_cases hp : ps.length ≤ 31 ∧ ps.any bigK = false
  · rw [partN_yes hp.1 hp.2] at h
    exact nums_inj _ _ h
  · exact absurd (partN_no hp) h0

set_option maxHeartbeats 4000000 in
set_option maxRecDepth 100000 in
theorem lawCert (v : Value) (bs : List UInt8) (w : World) (hr : RdB v bs w) :
    Calls Try.prog 3 #[v] w fun e w' => e = .returned (.bool true) ∧ Below w.heap.size w w' := by
  have hbig := Lib.hid (big_any v bs w hr)
  obtain ⟨a, c, rfl, -, -, -⟩ := id hr
  obtain ⟨D, hD⟩ : ∃ D, w.heap.size = D := ⟨_, rfl⟩
  have hb0 : Below D w w := Below.refl _ _
  have HR0 : Hid (∀ W, Below D w W → RdB (.slice a bs.length c) bs W) := Lib.hid fun W h => Row.below hr (by rw [hD]; exact h)
  go_enter Try.func3, Try.ntmps3
  go_wp2_with fail
  refine hbig.out.mono ?_
  rintro e1 w' ⟨rfl, rfl⟩
  by_cases hl : 4096 < bs.length
  · have hd : decide (4096 < bs.length) = true := by simpa using hl
    rw [hd]
    clear hd hbig
    go_wp2_with fail
    go_ret
    exact ⟨rfl, Below.refl _ _⟩
  · have hd : decide (4096 < bs.length) = false := by simpa using hl
    rw [hd]
    have hl2 : bs.length ≤ 4096 := by omega
    have H3 := Lib.hid (drawPartNums_any _ bs hl2 w hr)
    clear hd hbig hr
    go_wp2_with fail
    refine H3.out.mono ?_
    rintro e1 w1 ⟨⟨u0, ps, rfl, hp0, hp32⟩, b1⟩
    obtain ⟨pa, pc, rfl, -⟩ := hp0.outer
    have HP0 : Hid (∀ W, Below w1.heap.size w1 W → RdP (.slice pa ps.length pc) ps W) := Lib.hid fun W h => hp0.below h rfl
    have HB1 := Lib.hid b1
    have H4 := Lib.hid (implPartNums _ ps w1 hp0)
    obtain ⟨N, hN⟩ : ∃ N, partN ps = N := ⟨_, rfl⟩
    have HN := Lib.hid hN
    rw [hN] at H4
    clear hp0 b1 hN
    go_wp2_with fail
    refine H4.out.mono ?_
    rintro e1 w2 ⟨u4, rfl, ho4, b2⟩
    obtain ⟨na, nc, rfl⟩ := owns_shape ho4
    have HB2 := Lib.hid (HB1.out.trans (b2.mono HB1.out.size))
    have HP2 := Lib.hid b2
    have HR4 : Hid (∀ W, Below w2.heap.size w2 W → RdS (.slice na N.length nc) N W) := Lib.hid fun W h => RdS.below (Row.of_owns ho4) h rfl
    have H5 := Lib.hid (specPartNums _ ps w2 (HP0.out _ b2))
    rw [HN.out] at H5
    clear ho4 b2 H4
    go_wp2_with fail
    refine H5.out.mono ?_
    rintro e1 w3 ⟨u5, rfl, ho5, b3⟩
    have HB3 := Lib.hid (HB2.out.trans (b3.mono HB2.out.size))
    have HP3 := Lib.hid b3
    have H6 := Lib.hid (likeInts_any _ u5 N N w3 (HR4.out _ b3) (Row.of_owns ho5))
    clear ho5 b3 H5
    go_wp2_with fail
    refine H6.out.mono ?_
    rintro e1 w4 ⟨rfl, b4⟩
    have HB4 := Lib.hid (HB3.out.trans (b4.mono HB3.out.size))
    have HP4 := Lib.hid (HP3.out.trans (b4.mono HP3.out.size))
    have hNN : decide (N = N) = true := by simp
    have H7 := Lib.hid (implNums _ N w4 (HR4.out _ HP4.out))
    have hok : okW N 0 = true := by rw [← HN.out]; exact ok_part ps
    rw [hok] at H7
    clear b4 H6
    go_wp2_with fail
    refine H7.out.mono ?_
    rintro e1 w5 ⟨u7, ps7, rfl, hres, b5⟩
    obtain ⟨hT7, hN7, hs7, hl7⟩ := hres trivial
    obtain ⟨ta, tc, rfl⟩ := hT7.shape
    have HB5 := Lib.hid (HB4.out.trans (b5.mono HB4.out.size))
    have HP5 := Lib.hid (HP4.out.trans (b5.mono HP4.out.size))
    have HT7 := Lib.hid hT7.rd
    clear hT7 hres b5 H7 hok hs7 hl7
    by_cases hN0 : 0 < N.length
    · have hI0 : (0 : Int) < N.length := by omega
      obtain rfl : ps7 = ps := part_back (by rw [hN7, HN.out]) (by rw [HN.out]; intro h; rw [h] at hN0; simp at hN0)
      have H8 := Lib.hid (implPartNums _ ps7 w5 HT7.out)
      rw [HN.out] at H8
      clear hN7
      go_wp2_with fail
      refine H8.out.mono ?_
      rintro e1 w6 ⟨u8, rfl, ho8, b6⟩
      have HB6 := Lib.hid (HB5.out.trans (b6.mono HB5.out.size))
      have HP6 := Lib.hid (HP5.out.trans (b6.mono HP5.out.size))
      have H9 := Lib.hid (likeInts_any u8 _ N N w6 (Row.of_owns ho8) (HR4.out _ HP6.out))
      clear ho8 b6 H8
      go_wp2_with fail
      refine H9.out.mono ?_
      rintro e1 w7 ⟨rfl, b7⟩
      have HB7 := Lib.hid (HB6.out.trans (b7.mono HB6.out.size))
      have HP7 := Lib.hid (HP6.out.trans (b7.mono HP6.out.size))
      clear b7 H9
      have H10 := Lib.hid (drawNumsParts_any _ bs hl2 w7 (HR0.out _ (by rw [← hD]; exact HB7.out)))
      go_wp2_with fail
      refine H10.out.mono ?_
      rintro e1 x1 ⟨⟨u10, xs, rfl, hr10, hx10⟩, c1⟩
      obtain ⟨xa, xc, rfl, -⟩ := id hr10
      have HC1 := Lib.hid (HB7.out.trans (c1.mono HB7.out.size))
      have HQ1 := Lib.hid (HP7.out.trans (c1.mono HP7.out.size))
      have HR10 : Hid (∀ W, Below x1.heap.size x1 W → RdS (.slice xa xs.length xc) xs W) := Lib.hid fun W h => RdS.below hr10 h rfl
      have H11 := Lib.hid (implNums _ xs x1 hr10)
      obtain ⟨ok, hok⟩ : ∃ b, okW xs 0 = b := ⟨_, rfl⟩
      rw [hok] at H11
      have HOK := Lib.hid hok
      clear c1 H10 hr10 hok
      go_wp2_with fail
      refine H11.out.mono ?_
      rintro e1 x2 ⟨u11, ps11, rfl, hres, c2⟩
      have HRES := Lib.hid hres
      have HC2 := Lib.hid (HC1.out.trans (c2.mono HC1.out.size))
      have HQ2 := Lib.hid (HQ1.out.trans (c2.mono HQ1.out.size))
      have HX2 := Lib.hid c2
      have H12 := Lib.hid (specNums _ xs hx10 x2 (HR10.out _ c2))
      rw [HOK.out] at H12
      clear c2 H11 hres
      go_wp2_with fail
      refine H12.out.mono ?_
      rintro e1 x3 ⟨u12, rfl, c3⟩
      have HC3 := Lib.hid (HC2.out.trans (c3.mono HC2.out.size))
      have HQ3 := Lib.hid (HQ2.out.trans (c3.mono HQ2.out.size))
      have HX3 := Lib.hid (HX2.out.trans (c3.mono HX2.out.size))
      have HY3 := Lib.hid c3
      have H13 := Lib.hid (drawTriple_any _ bs hl2 x3 (HR0.out _ (by rw [← hD]; exact HC3.out)))
      clear c3 H12
      go_wp2_with fail
      refine H13.out.mono ?_
      rintro e1 x4 ⟨⟨u13, rows, rfl, hr13⟩, c4⟩
      obtain ⟨ra, rc, rfl⟩ := hr13.shape
      have HR13 : Hid (∀ W, Below x4.heap.size x4 W → RdSS (.slice ra rows.length rc) rows W) := Lib.hid fun W h => RdSS.below hr13 h rfl
      have HC4 := Lib.hid (HC3.out.trans (c4.mono HC3.out.size))
      have HQ4 := Lib.hid (HQ3.out.trans (c4.mono HQ3.out.size))
      have HX4 := Lib.hid (HX3.out.trans (c4.mono HX3.out.size))
      have HY4 := Lib.hid (HY3.out.trans (c4.mono HY3.out.size))
      have H14 := Lib.hid (drawLink_any _ bs hl2 x4 (HR0.out _ (by rw [← hD]; exact HC4.out)))
      clear c4 H13 hr13
      go_wp2_with fail
      refine H14.out.mono ?_
      rintro e1 x5 ⟨⟨u14, links, rfl, hr14⟩, c5⟩
      obtain ⟨la, lc, rfl⟩ := hr14.shape
      have HR14 : Hid (∀ W, Below x5.heap.size x5 W → RdSS (.slice la links.length lc) links W) := Lib.hid fun W h => RdSS.below hr14 h rfl
      have HC5 := Lib.hid (HC4.out.trans (c5.mono HC4.out.size))
      have HQ5 := Lib.hid (HQ4.out.trans (c5.mono HQ4.out.size))
      have HX5 := Lib.hid (HX4.out.trans (c5.mono HX4.out.size))
      have HY5 := Lib.hid (HY4.out.trans (c5.mono HY4.out.size))
      have HT5 := Lib.hid c5
      clear c5 H14 hr14
      obtain ⟨ts, -, hts, hti⟩ := both_TripleNums rows
      obtain ⟨ns, -, hns, hni⟩ := both_LinkNums links
      have HTS := Lib.hid hts
      have HTI := Lib.hid hti
      have HNS := Lib.hid hns
      have HNI := Lib.hid hni
      clear hts hti hns hni
      cases ok with
      | true =>
        obtain ⟨hT, hN11, hsm, h31⟩ := HRES.out rfl
        obtain ⟨pa2, pc2, rfl⟩ := hT.shape
        have hp11 : partN ps11 = xs := by rw [partN_yes h31 (any_small.2 hsm), hN11]
        have H15 := Lib.hid (implPartNums _ ps11 x5 (RdP.below hT.rd HY5.out rfl))
        rw [hp11] at H15
        clear hT hN11 hsm h31 hp11 HRES
        go_wp2_with fail
        refine H15.out.mono ?_
        rintro e1 x6 ⟨u15, rfl, ho15, c6⟩
        have HC6 := Lib.hid (HC5.out.trans (c6.mono HC5.out.size))
        have HQ6 := Lib.hid (HQ5.out.trans (c6.mono HQ5.out.size))
        have HX6 := Lib.hid (HX5.out.trans (c6.mono HX5.out.size))
        have HY6 := Lib.hid (HT5.out.trans (c6.mono HT5.out.size))
        have HT6 := Lib.hid c6
        have H16 := Lib.hid (likeInts_any u15 _ xs xs x6 (Row.of_owns ho15) (HR10.out _ HX6.out))
        have hxx : decide (xs = xs) = true := by simp
        clear c6 H15 ho15
        go_wp2_with fail
        refine H16.out.mono ?_
        rintro e1 x7 ⟨rfl, c7⟩
        have HC7 := Lib.hid (HC6.out.trans (c7.mono HC6.out.size))
        have HQ7 := Lib.hid (HQ6.out.trans (c7.mono HQ6.out.size))
        have HY7 := Lib.hid (HY6.out.trans (c7.mono HY6.out.size))
        have HT7B := Lib.hid (HT6.out.trans (c7.mono HT6.out.size))
        clear c7 H16
        have H17 := Lib.hid (HTI.out x7 _ (HR13.out _ HY7.out))
        go_wp2_with fail
        refine H17.out.mono ?_
        rintro e1 y1 ⟨u17, rfl, ho17, d1⟩
        obtain ⟨ya, yc, rfl⟩ := owns_shape ho17
        have HC8 := Lib.hid (HC7.out.trans (d1.mono HC7.out.size))
        have HQ8 := Lib.hid (HQ7.out.trans (d1.mono HQ7.out.size))
        have HY8 := Lib.hid (HY7.out.trans (d1.mono HY7.out.size))
        have HT8 := Lib.hid (HT7B.out.trans (d1.mono HT7B.out.size))
        have HR17 : Hid (∀ W, Below y1.heap.size y1 W → RdS (.slice ya ts.length yc) ts W) := Lib.hid fun W h => RdS.below (Row.of_owns ho17) h rfl
        have H18 := Lib.hid (HTS.out y1 _ (HR13.out _ HY8.out))
        clear d1 H17 ho17
        go_wp2_with fail
        refine H18.out.mono ?_
        rintro e1 y2 ⟨u18, rfl, ho18, d2⟩
        have HC9 := Lib.hid (HC8.out.trans (d2.mono HC8.out.size))
        have HQ9 := Lib.hid (HQ8.out.trans (d2.mono HQ8.out.size))
        have HT9 := Lib.hid (HT8.out.trans (d2.mono HT8.out.size))
        have H19 := Lib.hid (likeInts_any (.slice ya ts.length yc) u18 ts ts y2 (HR17.out _ d2) (Row.of_owns ho18))
        have htt : decide (ts = ts) = true := by simp
        clear d2 H18 ho18
        go_wp2_with fail
        refine H19.out.mono ?_
        rintro e1 y3 ⟨rfl, d3⟩
        have HC10 := Lib.hid (HC9.out.trans (d3.mono HC9.out.size))
        have HQ10 := Lib.hid (HQ9.out.trans (d3.mono HQ9.out.size))
        have HT10 := Lib.hid (HT9.out.trans (d3.mono HT9.out.size))
        have H20 := Lib.hid (HNI.out y3 _ (HR14.out _ HT10.out))
        clear d3 H19
        go_wp2_with fail
        refine H20.out.mono ?_
        rintro e1 y4 ⟨u20, rfl, ho20, d4⟩
        obtain ⟨za, zc, rfl⟩ := owns_shape ho20
        have HC11 := Lib.hid (HC10.out.trans (d4.mono HC10.out.size))
        have HQ11 := Lib.hid (HQ10.out.trans (d4.mono HQ10.out.size))
        have HT11 := Lib.hid (HT10.out.trans (d4.mono HT10.out.size))
        have HR20 : Hid (∀ W, Below y4.heap.size y4 W → RdS (.slice za ns.length zc) ns W) := Lib.hid fun W h => RdS.below (Row.of_owns ho20) h rfl
        have H21 := Lib.hid (HNS.out y4 _ (HR14.out _ HT11.out))
        clear d4 H20 ho20
        go_wp2_with fail
        refine H21.out.mono ?_
        rintro e1 y5 ⟨u21, rfl, ho21, d5⟩
        have HC12 := Lib.hid (HC11.out.trans (d5.mono HC11.out.size))
        have HQ12 := Lib.hid (HQ11.out.trans (d5.mono HQ11.out.size))
        have H22 := Lib.hid (likeInts_any (.slice za ns.length zc) u21 ns ns y5 (HR20.out _ d5) (Row.of_owns ho21))
        have hnn : decide (ns = ns) = true := by simp
        clear d5 H21 ho21
        go_wp2_with fail
        refine H22.out.mono ?_
        rintro e1 y6 ⟨rfl, d6⟩
        have HC13 := Lib.hid (HC12.out.trans (d6.mono HC12.out.size))
        have HQ13 := Lib.hid (HQ12.out.trans (d6.mono HQ12.out.size))
        have H23 := Lib.hid (sameCert_any (.slice na N.length nc) N y6 (HR4.out _ HQ13.out))
        clear d6 H22
        go_wp2_with fail
        refine H23.out.mono ?_
        rintro e1 y7 ⟨rfl, d7⟩
        have HC14 := Lib.hid (HC13.out.trans (d7.mono HC13.out.size))
        clear d7 H23
        go_wp2_with fail
        go_ret
        exact ⟨rfl, HC14.out⟩
      | false =>
        have H17 := Lib.hid (HTI.out x5 _ (HR13.out _ HT5.out))
        go_wp2_with fail
        refine H17.out.mono ?_
        rintro e1 y1 ⟨u17, rfl, ho17, d1⟩
        obtain ⟨ya, yc, rfl⟩ := owns_shape ho17
        have HC8 := Lib.hid (HC5.out.trans (d1.mono HC5.out.size))
        have HQ8 := Lib.hid (HQ5.out.trans (d1.mono HQ5.out.size))
        have HY8 := Lib.hid (HT5.out.trans (d1.mono HT5.out.size))
        have HT8 := Lib.hid ((Below.refl x5.heap.size x5).trans (d1.mono (Below.refl x5.heap.size x5).size))
        have HR17 : Hid (∀ W, Below y1.heap.size y1 W → RdS (.slice ya ts.length yc) ts W) := Lib.hid fun W h => RdS.below (Row.of_owns ho17) h rfl
        have H18 := Lib.hid (HTS.out y1 _ (HR13.out _ HY8.out))
        clear d1 H17 ho17
        go_wp2_with fail
        refine H18.out.mono ?_
        rintro e1 y2 ⟨u18, rfl, ho18, d2⟩
        have HC9 := Lib.hid (HC8.out.trans (d2.mono HC8.out.size))
        have HQ9 := Lib.hid (HQ8.out.trans (d2.mono HQ8.out.size))
        have HT9 := Lib.hid (HT8.out.trans (d2.mono HT8.out.size))
        have H19 := Lib.hid (likeInts_any (.slice ya ts.length yc) u18 ts ts y2 (HR17.out _ d2) (Row.of_owns ho18))
        have htt : decide (ts = ts) = true := by simp
        clear d2 H18 ho18
        go_wp2_with fail
        refine H19.out.mono ?_
        rintro e1 y3 ⟨rfl, d3⟩
        have HC10 := Lib.hid (HC9.out.trans (d3.mono HC9.out.size))
        have HQ10 := Lib.hid (HQ9.out.trans (d3.mono HQ9.out.size))
        have HT10 := Lib.hid (HT9.out.trans (d3.mono HT9.out.size))
        have H20 := Lib.hid (HNI.out y3 _ (HR14.out _ HT10.out))
        clear d3 H19
        go_wp2_with fail
        refine H20.out.mono ?_
        rintro e1 y4 ⟨u20, rfl, ho20, d4⟩
        obtain ⟨za, zc, rfl⟩ := owns_shape ho20
        have HC11 := Lib.hid (HC10.out.trans (d4.mono HC10.out.size))
        have HQ11 := Lib.hid (HQ10.out.trans (d4.mono HQ10.out.size))
        have HT11 := Lib.hid (HT10.out.trans (d4.mono HT10.out.size))
        have HR20 : Hid (∀ W, Below y4.heap.size y4 W → RdS (.slice za ns.length zc) ns W) := Lib.hid fun W h => RdS.below (Row.of_owns ho20) h rfl
        have H21 := Lib.hid (HNS.out y4 _ (HR14.out _ HT11.out))
        clear d4 H20 ho20
        go_wp2_with fail
        refine H21.out.mono ?_
        rintro e1 y5 ⟨u21, rfl, ho21, d5⟩
        have HC12 := Lib.hid (HC11.out.trans (d5.mono HC11.out.size))
        have HQ12 := Lib.hid (HQ11.out.trans (d5.mono HQ11.out.size))
        have H22 := Lib.hid (likeInts_any (.slice za ns.length zc) u21 ns ns y5 (HR20.out _ d5) (Row.of_owns ho21))
        have hnn : decide (ns = ns) = true := by simp
        clear d5 H21 ho21
        go_wp2_with fail
        refine H22.out.mono ?_
        rintro e1 y6 ⟨rfl, d6⟩
        have HC13 := Lib.hid (HC12.out.trans (d6.mono HC12.out.size))
        have HQ13 := Lib.hid (HQ12.out.trans (d6.mono HQ12.out.size))
        have H23 := Lib.hid (sameCert_any (.slice na N.length nc) N y6 (HR4.out _ HQ13.out))
        clear d6 H22
        go_wp2_with fail
        refine H23.out.mono ?_
        rintro e1 y7 ⟨rfl, d7⟩
        have HC14 := Lib.hid (HC13.out.trans (d7.mono HC13.out.size))
        clear d7 H23
        go_wp2_with fail
        go_ret
        exact ⟨rfl, HC14.out⟩
    · have hI0 : ¬ (0 : Int) < N.length := by omega
      clear hN7
      have H10 := Lib.hid (drawNumsParts_any _ bs hl2 w5 (HR0.out _ (by rw [← hD]; exact HB5.out)))
      go_wp2_with fail
      refine H10.out.mono ?_
      rintro e1 x1 ⟨⟨u10, xs, rfl, hr10, hx10⟩, c1⟩
      obtain ⟨xa, xc, rfl, -⟩ := id hr10
      have HC1 := Lib.hid (HB5.out.trans (c1.mono HB5.out.size))
      have HQ1 := Lib.hid (HP5.out.trans (c1.mono HP5.out.size))
      have HR10 : Hid (∀ W, Below x1.heap.size x1 W → RdS (.slice xa xs.length xc) xs W) := Lib.hid fun W h => RdS.below hr10 h rfl
      have H11 := Lib.hid (implNums _ xs x1 hr10)
      obtain ⟨ok, hok⟩ : ∃ b, okW xs 0 = b := ⟨_, rfl⟩
      rw [hok] at H11
      have HOK := Lib.hid hok
      clear c1 H10 hr10 hok
      go_wp2_with fail
      refine H11.out.mono ?_
      rintro e1 x2 ⟨u11, ps11, rfl, hres, c2⟩
      have HRES := Lib.hid hres
      have HC2 := Lib.hid (HC1.out.trans (c2.mono HC1.out.size))
      have HQ2 := Lib.hid (HQ1.out.trans (c2.mono HQ1.out.size))
      have HX2 := Lib.hid c2
      have H12 := Lib.hid (specNums _ xs hx10 x2 (HR10.out _ c2))
      rw [HOK.out] at H12
      clear c2 H11 hres
      go_wp2_with fail
      refine H12.out.mono ?_
      rintro e1 x3 ⟨u12, rfl, c3⟩
      have HC3 := Lib.hid (HC2.out.trans (c3.mono HC2.out.size))
      have HQ3 := Lib.hid (HQ2.out.trans (c3.mono HQ2.out.size))
      have HX3 := Lib.hid (HX2.out.trans (c3.mono HX2.out.size))
      have HY3 := Lib.hid c3
      have H13 := Lib.hid (drawTriple_any _ bs hl2 x3 (HR0.out _ (by rw [← hD]; exact HC3.out)))
      clear c3 H12
      go_wp2_with fail
      refine H13.out.mono ?_
      rintro e1 x4 ⟨⟨u13, rows, rfl, hr13⟩, c4⟩
      obtain ⟨ra, rc, rfl⟩ := hr13.shape
      have HR13 : Hid (∀ W, Below x4.heap.size x4 W → RdSS (.slice ra rows.length rc) rows W) := Lib.hid fun W h => RdSS.below hr13 h rfl
      have HC4 := Lib.hid (HC3.out.trans (c4.mono HC3.out.size))
      have HQ4 := Lib.hid (HQ3.out.trans (c4.mono HQ3.out.size))
      have HX4 := Lib.hid (HX3.out.trans (c4.mono HX3.out.size))
      have HY4 := Lib.hid (HY3.out.trans (c4.mono HY3.out.size))
      have H14 := Lib.hid (drawLink_any _ bs hl2 x4 (HR0.out _ (by rw [← hD]; exact HC4.out)))
      clear c4 H13 hr13
      go_wp2_with fail
      refine H14.out.mono ?_
      rintro e1 x5 ⟨⟨u14, links, rfl, hr14⟩, c5⟩
      obtain ⟨la, lc, rfl⟩ := hr14.shape
      have HR14 : Hid (∀ W, Below x5.heap.size x5 W → RdSS (.slice la links.length lc) links W) := Lib.hid fun W h => RdSS.below hr14 h rfl
      have HC5 := Lib.hid (HC4.out.trans (c5.mono HC4.out.size))
      have HQ5 := Lib.hid (HQ4.out.trans (c5.mono HQ4.out.size))
      have HX5 := Lib.hid (HX4.out.trans (c5.mono HX4.out.size))
      have HY5 := Lib.hid (HY4.out.trans (c5.mono HY4.out.size))
      have HT5 := Lib.hid c5
      clear c5 H14 hr14
      obtain ⟨ts, -, hts, hti⟩ := both_TripleNums rows
      obtain ⟨ns, -, hns, hni⟩ := both_LinkNums links
      have HTS := Lib.hid hts
      have HTI := Lib.hid hti
      have HNS := Lib.hid hns
      have HNI := Lib.hid hni
      clear hts hti hns hni
      cases ok with
      | true =>
        obtain ⟨hT, hN11, hsm, h31⟩ := HRES.out rfl
        obtain ⟨pa2, pc2, rfl⟩ := hT.shape
        have hp11 : partN ps11 = xs := by rw [partN_yes h31 (any_small.2 hsm), hN11]
        have H15 := Lib.hid (implPartNums _ ps11 x5 (RdP.below hT.rd HY5.out rfl))
        rw [hp11] at H15
        clear hT hN11 hsm h31 hp11 HRES
        go_wp2_with fail
        refine H15.out.mono ?_
        rintro e1 x6 ⟨u15, rfl, ho15, c6⟩
        have HC6 := Lib.hid (HC5.out.trans (c6.mono HC5.out.size))
        have HQ6 := Lib.hid (HQ5.out.trans (c6.mono HQ5.out.size))
        have HX6 := Lib.hid (HX5.out.trans (c6.mono HX5.out.size))
        have HY6 := Lib.hid (HT5.out.trans (c6.mono HT5.out.size))
        have HT6 := Lib.hid c6
        have H16 := Lib.hid (likeInts_any u15 _ xs xs x6 (Row.of_owns ho15) (HR10.out _ HX6.out))
        have hxx : decide (xs = xs) = true := by simp
        clear c6 H15 ho15
        go_wp2_with fail
        refine H16.out.mono ?_
        rintro e1 x7 ⟨rfl, c7⟩
        have HC7 := Lib.hid (HC6.out.trans (c7.mono HC6.out.size))
        have HQ7 := Lib.hid (HQ6.out.trans (c7.mono HQ6.out.size))
        have HY7 := Lib.hid (HY6.out.trans (c7.mono HY6.out.size))
        have HT7B := Lib.hid (HT6.out.trans (c7.mono HT6.out.size))
        clear c7 H16
        have H17 := Lib.hid (HTI.out x7 _ (HR13.out _ HY7.out))
        go_wp2_with fail
        refine H17.out.mono ?_
        rintro e1 y1 ⟨u17, rfl, ho17, d1⟩
        obtain ⟨ya, yc, rfl⟩ := owns_shape ho17
        have HC8 := Lib.hid (HC7.out.trans (d1.mono HC7.out.size))
        have HQ8 := Lib.hid (HQ7.out.trans (d1.mono HQ7.out.size))
        have HY8 := Lib.hid (HY7.out.trans (d1.mono HY7.out.size))
        have HT8 := Lib.hid (HT7B.out.trans (d1.mono HT7B.out.size))
        have HR17 : Hid (∀ W, Below y1.heap.size y1 W → RdS (.slice ya ts.length yc) ts W) := Lib.hid fun W h => RdS.below (Row.of_owns ho17) h rfl
        have H18 := Lib.hid (HTS.out y1 _ (HR13.out _ HY8.out))
        clear d1 H17 ho17
        go_wp2_with fail
        refine H18.out.mono ?_
        rintro e1 y2 ⟨u18, rfl, ho18, d2⟩
        have HC9 := Lib.hid (HC8.out.trans (d2.mono HC8.out.size))
        have HQ9 := Lib.hid (HQ8.out.trans (d2.mono HQ8.out.size))
        have HT9 := Lib.hid (HT8.out.trans (d2.mono HT8.out.size))
        have H19 := Lib.hid (likeInts_any (.slice ya ts.length yc) u18 ts ts y2 (HR17.out _ d2) (Row.of_owns ho18))
        have htt : decide (ts = ts) = true := by simp
        clear d2 H18 ho18
        go_wp2_with fail
        refine H19.out.mono ?_
        rintro e1 y3 ⟨rfl, d3⟩
        have HC10 := Lib.hid (HC9.out.trans (d3.mono HC9.out.size))
        have HQ10 := Lib.hid (HQ9.out.trans (d3.mono HQ9.out.size))
        have HT10 := Lib.hid (HT9.out.trans (d3.mono HT9.out.size))
        have H20 := Lib.hid (HNI.out y3 _ (HR14.out _ HT10.out))
        clear d3 H19
        go_wp2_with fail
        refine H20.out.mono ?_
        rintro e1 y4 ⟨u20, rfl, ho20, d4⟩
        obtain ⟨za, zc, rfl⟩ := owns_shape ho20
        have HC11 := Lib.hid (HC10.out.trans (d4.mono HC10.out.size))
        have HQ11 := Lib.hid (HQ10.out.trans (d4.mono HQ10.out.size))
        have HT11 := Lib.hid (HT10.out.trans (d4.mono HT10.out.size))
        have HR20 : Hid (∀ W, Below y4.heap.size y4 W → RdS (.slice za ns.length zc) ns W) := Lib.hid fun W h => RdS.below (Row.of_owns ho20) h rfl
        have H21 := Lib.hid (HNS.out y4 _ (HR14.out _ HT11.out))
        clear d4 H20 ho20
        go_wp2_with fail
        refine H21.out.mono ?_
        rintro e1 y5 ⟨u21, rfl, ho21, d5⟩
        have HC12 := Lib.hid (HC11.out.trans (d5.mono HC11.out.size))
        have HQ12 := Lib.hid (HQ11.out.trans (d5.mono HQ11.out.size))
        have H22 := Lib.hid (likeInts_any (.slice za ns.length zc) u21 ns ns y5 (HR20.out _ d5) (Row.of_owns ho21))
        have hnn : decide (ns = ns) = true := by simp
        clear d5 H21 ho21
        go_wp2_with fail
        refine H22.out.mono ?_
        rintro e1 y6 ⟨rfl, d6⟩
        have HC13 := Lib.hid (HC12.out.trans (d6.mono HC12.out.size))
        have HQ13 := Lib.hid (HQ12.out.trans (d6.mono HQ12.out.size))
        have H23 := Lib.hid (sameCert_any (.slice na N.length nc) N y6 (HR4.out _ HQ13.out))
        clear d6 H22
        go_wp2_with fail
        refine H23.out.mono ?_
        rintro e1 y7 ⟨rfl, d7⟩
        have HC14 := Lib.hid (HC13.out.trans (d7.mono HC13.out.size))
        clear d7 H23
        go_wp2_with fail
        go_ret
        exact ⟨rfl, HC14.out⟩
      | false =>
        have H17 := Lib.hid (HTI.out x5 _ (HR13.out _ HT5.out))
        go_wp2_with fail
        refine H17.out.mono ?_
        rintro e1 y1 ⟨u17, rfl, ho17, d1⟩
        obtain ⟨ya, yc, rfl⟩ := owns_shape ho17
        have HC8 := Lib.hid (HC5.out.trans (d1.mono HC5.out.size))
        have HQ8 := Lib.hid (HQ5.out.trans (d1.mono HQ5.out.size))
        have HY8 := Lib.hid (HT5.out.trans (d1.mono HT5.out.size))
        have HT8 := Lib.hid ((Below.refl x5.heap.size x5).trans (d1.mono (Below.refl x5.heap.size x5).size))
        have HR17 : Hid (∀ W, Below y1.heap.size y1 W → RdS (.slice ya ts.length yc) ts W) := Lib.hid fun W h => RdS.below (Row.of_owns ho17) h rfl
        have H18 := Lib.hid (HTS.out y1 _ (HR13.out _ HY8.out))
        clear d1 H17 ho17
        go_wp2_with fail
        refine H18.out.mono ?_
        rintro e1 y2 ⟨u18, rfl, ho18, d2⟩
        have HC9 := Lib.hid (HC8.out.trans (d2.mono HC8.out.size))
        have HQ9 := Lib.hid (HQ8.out.trans (d2.mono HQ8.out.size))
        have HT9 := Lib.hid (HT8.out.trans (d2.mono HT8.out.size))
        have H19 := Lib.hid (likeInts_any (.slice ya ts.length yc) u18 ts ts y2 (HR17.out _ d2) (Row.of_owns ho18))
        have htt : decide (ts = ts) = true := by simp
        clear d2 H18 ho18
        go_wp2_with fail
        refine H19.out.mono ?_
        rintro e1 y3 ⟨rfl, d3⟩
        have HC10 := Lib.hid (HC9.out.trans (d3.mono HC9.out.size))
        have HQ10 := Lib.hid (HQ9.out.trans (d3.mono HQ9.out.size))
        have HT10 := Lib.hid (HT9.out.trans (d3.mono HT9.out.size))
        have H20 := Lib.hid (HNI.out y3 _ (HR14.out _ HT10.out))
        clear d3 H19
        go_wp2_with fail
        refine H20.out.mono ?_
        rintro e1 y4 ⟨u20, rfl, ho20, d4⟩
        obtain ⟨za, zc, rfl⟩ := owns_shape ho20
        have HC11 := Lib.hid (HC10.out.trans (d4.mono HC10.out.size))
        have HQ11 := Lib.hid (HQ10.out.trans (d4.mono HQ10.out.size))
        have HT11 := Lib.hid (HT10.out.trans (d4.mono HT10.out.size))
        have HR20 : Hid (∀ W, Below y4.heap.size y4 W → RdS (.slice za ns.length zc) ns W) := Lib.hid fun W h => RdS.below (Row.of_owns ho20) h rfl
        have H21 := Lib.hid (HNS.out y4 _ (HR14.out _ HT11.out))
        clear d4 H20 ho20
        go_wp2_with fail
        refine H21.out.mono ?_
        rintro e1 y5 ⟨u21, rfl, ho21, d5⟩
        have HC12 := Lib.hid (HC11.out.trans (d5.mono HC11.out.size))
        have HQ12 := Lib.hid (HQ11.out.trans (d5.mono HQ11.out.size))
        have H22 := Lib.hid (likeInts_any (.slice za ns.length zc) u21 ns ns y5 (HR20.out _ d5) (Row.of_owns ho21))
        have hnn : decide (ns = ns) = true := by simp
        clear d5 H21 ho21
        go_wp2_with fail
        refine H22.out.mono ?_
        rintro e1 y6 ⟨rfl, d6⟩
        have HC13 := Lib.hid (HC12.out.trans (d6.mono HC12.out.size))
        have HQ13 := Lib.hid (HQ12.out.trans (d6.mono HQ12.out.size))
        have H23 := Lib.hid (sameCert_any (.slice na N.length nc) N y6 (HR4.out _ HQ13.out))
        clear d6 H22
        go_wp2_with fail
        refine H23.out.mono ?_
        rintro e1 y7 ⟨rfl, d7⟩
        have HC14 := Lib.hid (HC13.out.trans (d7.mono HC13.out.size))
        clear d7 H23
        go_wp2_with fail
        go_ret
        exact ⟨rfl, HC14.out⟩
end Go.Proofs.Ytpfhflkpnjkgkaa
/-
  What a law is told of an argument of type [][]int64: rows of numbers that can be read.
-/



namespace Go.Proofs.Ytpfhflkpnjkgkaa
open Go.ChangeShapes Go.WideShapes Go.ChangeAt Go.RowKit Go.Deep

theorem addr_of {w : World} {a : Addr} {j : Nat} {v : Value} (h : w.cell? (a.add j) = some v) : (∃ b o, a = ⟨b, o, none⟩) ∨ (0 < j) := by
  by_cases hj : j = 0
  · subst hj
    left
    obtain ⟨b, o, sp⟩ := a
    have : sp = none := by simpa [Addr.add] using World.cell?_spot h
    exact ⟨b, o, by rw [this]⟩
  · exact .inr (by omega)

theorem cell_add {w : World} {b o j : Nat} {v : Value} (h : w.cell? (Addr.add ⟨b, o, none⟩ j) = some v) : w.cell? ⟨b, o + j, none⟩ = some v := by
  by_cases hj : j = 0
  · subst hj; simpa [Addr.add] using h
  · simpa [Addr.add, hj] using h

/-- A row read cell by cell. -/
theorem row_of_cells {w : World} {a : Option Addr} {n c : Nat} {cs : List Value} (hn : n ≤ c) (hc : c ≤ maxLen) (hl : cs.length = n) (h0 : a = none → c = 0)
    (h : ∀ x, a = some x → ∀ j u, cs[j]? = some u → w.cell? (x.add j) = some u) : Row w 1 (.slice a n c) n cs := by
  refine ⟨a, c, rfl, hn, hc, by omega, h0, fun j u hj => ?_⟩
  have hjl : j < cs.length := (List.getElem?_eq_some_iff.1 hj).1
  cases a with
  | none => have := h0 rfl; omega
  | some x =>
    have hz := h x rfl 0 (cs[0]'(by omega)) (by simp)
    rcases addr_of hz with ⟨b, o, rfl⟩ | h'
    · exact ⟨b, o, rfl, cell_add (h _ rfl j u hj)⟩
    · omega

theorem rows_arg {H : Type} {enc : TypeId × Value → H} {w : World} {base : Nat} {held : Bool} {fuel : Nat} {v : Value} {x : DataW H × List MemPlace}
    (h : DataW.trod enc Try.prog w base (fun _ => true) held fuel 32 [v] = some x) : ∃ (vs : List Value) (xss : List (List Int)), RdG w v vs (xss.map ints) := by
  rcases open_int_rows Try.underlying32 Try.underlying26 Try.underlying2 (by kernel_rfl) (by kernel_rfl) h with ⟨hcs, _⟩ | ⟨a, len, cap, A, L, C, Z, hcs, _, hlc, hcm, _, hrow⟩
  · obtain rfl : v = .slice none 0 0 := by simpa using hcs
    exact ⟨[], [], ⟨rfl, row_of_cells (Nat.le_refl _) (Nat.zero_le _) rfl (fun _ => rfl) (fun x hx => by cases hx), by simp⟩⟩
  · obtain rfl : v = .slice (some a) len cap := by simpa using hcs
    refine ⟨(List.range len).map fun r => .slice (A r) (L r) (C r), (List.range len).map fun r => (Z r).take (L r), ⟨by simp, ?_, ?_⟩⟩
    · simp only [List.length_map, List.length_range]
      refine row_of_cells hlc hcm (by simp) (fun e => by cases e) fun x hx j u hj => ?_
      cases hx
      simp only [List.getElem?_map, Option.map_eq_some_iff] at hj
      obtain ⟨r, hr, rfl⟩ := hj
      obtain ⟨hj, rfl⟩ := List.getElem?_eq_some_iff.1 hr
      simp only [List.length_range] at hj
      simpa using (hrow j (by omega)).1
    · intro i u cs hu hcs
      simp only [List.getElem?_map, Option.map_eq_some_iff] at hu hcs
      obtain ⟨r, hr, rfl⟩ := hu
      obtain ⟨zs, hzs, rfl⟩ := hcs
      obtain ⟨r', hr', rfl⟩ := hzs
      obtain rfl : r = r' := by rw [hr] at hr'; exact Option.some.inj hr'
      have hrl : r < len := by
        have := List.mem_of_getElem? hr
        simpa using this
      obtain ⟨_, h1, h2, h3, _, h5, h6⟩ := hrow r (by omega)
      have hlen : ((Z r).take (L r)).length = L r := by simp; omega
      rw [ints_length, hlen]
      refine row_of_cells h1 h2 (by simp; omega) h5 fun x hx j u hj => ?_
      have hjl : j < L r := by
        have := (List.getElem?_eq_some_iff.1 hj).1
        simp at this
        omega
      have := (h6 x hx).2 j (by omega)
      rw [this, ← hj]
      simp [ints, List.getD, hjl]
      rw [List.getElem?_eq_getElem (show j < (Z r).length by omega)]
      rfl
end Go.Proofs.Ytpfhflkpnjkgkaa
