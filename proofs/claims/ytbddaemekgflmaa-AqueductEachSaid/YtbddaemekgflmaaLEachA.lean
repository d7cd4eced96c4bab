/- AqueductEach: the law walked, where the list is no truth. -/
import Derived.Test.YtbddaemekgflmaaRow
import Derived.Test.YtbddaemekgflmaaW45
import Derived.Test.YtbddaemekgflmaaW35
import Derived.Test.YtbddaemekgflmaaW46
namespace Go.Proofs.Ytbddaemekgflmaa
open Go.RowKit Go.Sort

set_option maxRecDepth 100000 in
set_option maxHeartbeats 8000000 in
theorem each_no (d : DLine) (Ap : Option Addr) (cp : Nat) (Ao : Option Addr) (co : Nat) (Al : Option Addr) (cl : Nat) (l : List Int) (w : World) (HV : Hid (LineAt w (.agg #[.slice Ap d.pts.length cp, .slice Ao d.odds.length co]) d)) (HLI : Hid (Ints w (.slice Al l.length cl) l)) (HP : Hid (Pts w (.slice Ap d.pts.length cp) d.pts)) (HVD : Hid (valid d = true)) (h40 : ¬ 40 < l.length) (hcm : calm d.pts) (hT : truthB d l = false) :
    Calls Try.prog 14 #[.agg #[.slice Ap d.pts.length cp, .slice Ao d.odds.length co], .slice Al l.length cl] w fun e w' => e = .returned (.bool true) ∧ Below w.heap.size w w' := by
  have H1 := HVD
  have X := Box2.new w (.slice Ap d.pts.length cp) (.slice Ao d.odds.length co) 25
  have HB0 := Lib.hid (show Below w.heap.size w (w.alloc (.cells #[.slice Ap d.pts.length cp, .slice Ao d.odds.length co] 25)) from (Below.refl _ _).alloc (Nat.le_refl _) _)
  obtain ⟨hn7, hnp, -⟩ := valid_spec HVD.out
  have HL1 := Lib.hid (show d.odds.length ≤ 1000 by omega)
  have HL2 := Lib.hid (show d.pts.length ≤ 1000 by omega)
  have HPOS := Lib.hid (show 0 < d.pts.length by omega)
  have HNP := Lib.hid hnp
  have HL3 := Lib.hid (show l.length ≤ 1000 by omega)
  clear hnp hn7
  obtain ⟨pb, po, rfl, -⟩ := HP.out.some_ HPOS.out
  have HCM := Lib.hid hcm
  have HRC := Lib.hid (clashR_calm HVD.out hcm)
  obtain ⟨⟨t0, t1⟩, ht⟩ : ∃ r, lossP d 0 d.odds.length = r := ⟨_, rfl⟩
  have HRW := Lib.hid (show wholeR d = ((t0, t1), 0) by rw [← ht]; exact wholeR_ok HVD.out hcm)
  have HTW := Lib.hid ht
  clear hcm ht
  have HT := Lib.hid hT
  clear hT
  go_enter Try.func14, Try.ntmps14
  go_wp2_with fail
  go_at_call 15
  refine (ready_any _ d _ (HV.out.below HB0.out)).mono ?_
  rintro e w1 ⟨rfl, hb⟩
  rw [H1.out]
  have HB1 := Lib.hid (bto HB0.out hb)
  replace X := X.keep hb
  try clear aX bX cX dX lX
  obtain ⟨aX, bX, cX, dX⟩ := id X
  have lX := X.lt
  clear hb HB0
  go_wp2_with fail
  go_at_call 34
  refine (clashE_any _ d _ (HV.out.below HB1.out) HL1.out HL2.out).mono ?_
  rintro e w2 ⟨rfl, hb⟩
  rw [HRC.out]
  have HB2 := Lib.hid (bto HB1.out hb)
  replace X := X.keep hb
  try clear aX bX cX dX lX
  obtain ⟨aX, bX, cX, dX⟩ := id X
  have lX := X.lt
  clear hb HB1
  go_wp2_with fail
  go_at_call 38
  refine (whole_any _ d _ (HV.out.below (HB2.out.alloc HB2.out.size _)) HL1.out HL2.out).mono ?_
  rintro e w3 ⟨rfl, hb⟩
  rw [HRW.out]
  have HB3 := Lib.hid (bto (HB2.out.alloc HB2.out.size _) hb)
  replace X := (X.old _).keep hb
  try clear aX bX cX dX lX
  obtain ⟨aX, bX, cX, dX⟩ := id X
  have lX := X.lt
  have HXA := Lib.hid lX
  have Pb := (Box2.new w2 (I 0) (I 0) 56).keep hb
  obtain ⟨aPb, bPb, cPb, dPb⟩ := id Pb
  have lPb := Pb.lt
  clear hb HB2
  go_wp2_with fail
  go_at_call 55
  refine (isTruth_any _ _ d l _ (HV.out.below (HB3.out.alloc HB3.out.size _)) (HLI.out.below (HB3.out.alloc HB3.out.size _)) HL2.out HL3.out).mono ?_
  rintro e w4 ⟨rfl, hb⟩
  rw [HT.out]
  have HB4 := Lib.hid (bto (HB3.out.alloc HB3.out.size _) hb)
  replace X := (X.old _).keep hb
  try clear aX bX cX dX lX
  obtain ⟨aX, bX, cX, dX⟩ := id X
  have lX := X.lt
  have A := (Box2.new w3 (I t0) (I t1) 34).keep hb
  obtain ⟨aA, bA, cA, dA⟩ := id A
  have lA := A.lt
  clear hb HB3
  go_wp2_with fail
  obtain ⟨gA, hbA⟩ : ∃ b, w3.heap.size = b := ⟨_, rfl⟩
  obtain ⟨gB, hbB⟩ : ∃ b, w4.heap.size = b := ⟨_, rfl⟩
  have HX := Lib.hid (X.old (.cells #[I 0, I 0] 34))
  have HA := Lib.hid (A.old (.cells #[I 0, I 0] 34))
  have HBf := Lib.hid (Box2.new w4 (I 0) (I 0) 34)
  have HBW := Lib.hid (HB4.out.alloc HB4.out.size (.cells #[I 0, I 0] 34))
  have HG := Lib.hid (show w.heap.size < gA ∧ gA < gB from ⟨by rw [← hbA]; exact HXA.out, by omega⟩)
  rw [hbA] at HA
  rw [hbB] at HBf
  rw [hbA, hbB]
  clear X A HB4 lX lA aX bX cX dX aA bA cA dA hbA hbB lPb aPb bPb cPb dPb Pb
  clear h40
  go_loopw [11] (fun i wr => ∃ (k : Nat) (z0 z1 : Int), k ≤ d.pts.length ∧ i = I k ∧ Hid (0 < k → flowAt d (k - 1) = (z0, z1)) ∧ Hid (Box2 wr w.heap.size (.slice (some ⟨pb, po, none⟩) d.pts.length cp) (.slice Ao d.odds.length co)) ∧ Hid (Box2 wr gA (I t0) (I t1)) ∧ Hid (Box2 wr gB (I z0) (I z1)) ∧ Hid (Below w.heap.size w wr)) (fun i _ => d.pts.length - (intOf i).toNat)
  case atStart => exact ⟨0, 0, 0, Nat.zero_le _, rfl, Lib.hid (fun h => absurd h (by omega)), HX, HA, HBf, HBW⟩
  case round =>
    clear HX HA HBf HBW
    obtain ⟨k, z0, z1, hk, rfl, hst, HX, HA, HBf, HW⟩ := hrel
    have X := HX.out
    have A := HA.out
    have Bf := HBf.out
    obtain ⟨aX, bX, cX, dX⟩ := id X
    have lX := X.lt
    by_cases hlt : k < d.pts.length
    · by_cases hk0 : 0 < k
      · clear HX HA HBf
        have hk7 : k < 1000 := by have := HL2.out; omega
        have y0 := keep_cell HW.out (HP.out.at_ k hlt).1
        have y1 := keep_cell HW.out (HP.out.at_ k hlt).2.1
        obtain ⟨pt, hpt⟩ : ∃ pt, d.pts[k] = pt := ⟨_, rfl⟩
        rw [hpt] at y0 y1
        obtain ⟨⟨s0, s1⟩, hs⟩ : ∃ r, flowAt d k = r := ⟨_, rfl⟩
        have HRF := Lib.hid (show flowR d k = ((s0, s1), 0) by rw [← hs]; exact flowR_ok HVD.out HCM.out k hlt)
        have HIN := Lib.hid (show insideB (s0, s1) (pt.lo, pt.hi) = true by rw [← hs, ← hpt]; exact flow_own HVD.out HCM.out k hlt)
        have HSK := Lib.hid hs
        have hz := hst.out (by omega)
        have hdn := flow_down (d := d) (k - 1) (by omega)
        rw [show k - 1 + 1 = k by omega, hs, hz] at hdn
        obtain ⟨hz1, hz2⟩ := hdn
        simp only at hz1 hz2
        clear hz
        clear hs hpt
        go_wp2_with fail
        go_at_call 36
        refine (flow_any _ d _ _ (HV.out.below HW.out) HL1.out HL2.out).mono ?_
        rintro e w5 ⟨rfl, hb⟩
        rw [HRF.out]
        have HW5 := Lib.hid (bto HW.out hb)
        replace X := X.keep hb
        replace A := A.keep hb
        replace Bf := Bf.keep hb
        replace y0 := keep_cell hb y0
        replace y1 := keep_cell hb y1
        clear aX bX cX dX lX
        obtain ⟨aX, bX, cX, dX⟩ := id X
        try clear aBf gBf cBf dBf lBf
        obtain ⟨aBf, gBf, cBf, dBf⟩ := id Bf
        have lX := X.lt
        have lBf := Bf.lt
        clear hb
        have Sb := Box2.new w5 (I s0) (I s1) 34
        replace X := X.old (.cells #[I s0, I s1] 34)
        replace A := A.old (.cells #[I s0, I s1] 34)
        replace Bf := Bf.old (.cells #[I s0, I s1] 34)
        have HW5 := Lib.hid (HW5.out.alloc HW5.out.size (.cells #[I s0, I s1] 34))
        have k0 := cell_regrown X.c0
        have k1 := cell_regrown Sb.c0
        have k2 := cell_regrown Sb.c1
        have k3 := cell_regrown (box_old w5 (.cells #[I s0, I s1] 34) y0)
        have k4 := cell_regrown (box_old w5 (.cells #[I s0, I s1] 34) y1)
        have k5 := cell_regrown Bf.c0
        have k6 := cell_regrown Bf.c1
        have c1 := ext_call (w := w5.alloc (.cells #[I s0, I s1] 34)) fun W _ => inside_any s0 s1 pt.lo pt.hi W
        rw [HIN.out] at c1
        have hki : (k : Int) < (d.pts.length : Int) := by omega
        have hk0i : (0 : Int) < (k : Int) := by omega
        go_wp2_with fail
        refine wp_region_ext (by kernel_rfl) (by kernel_rfl) ?_
        try simp only [List.append]
        repeat (first | go_big_quiet_step (first | (with_reducible exact c1 _ _)) | quiet_step (first | (with_reducible exact c1 _ _)))
        refine wpQuiet_nil ?_
        clear k0 k1 k2 k3 k4 k5 k6 c1 y0 y1
        intro w6 hb
        have HW6 := Lib.hid (bto HW5.out hb)
        replace X := X.keep hb
        replace A := A.keep hb
        replace Bf := Bf.keep hb
        replace Sb := Sb.keep hb
        obtain ⟨aSb, bSb, cSb, dSb⟩ := id Sb
        try clear aBf gBf cBf dBf lBf
        obtain ⟨aBf, gBf, cBf, dBf⟩ := id Bf
        have lBf := Bf.lt
        clear hb
        go_wp2_with fail
        go_roundw
        case rel =>
          obtain ⟨hwA, hAB⟩ := HG.out
          exact ⟨k + 1, s0, s1, by omega, by go_num, Lib.hid (fun _ => by rw [Nat.add_sub_cancel]; exact HSK.out), Lib.hid ((X.other _ _ (by show gB ≠ _; omega)).other _ _ (by show gB ≠ _; omega)), Lib.hid ((A.other _ _ (by show gB ≠ gA; omega)).other _ _ (by show gB ≠ gA; omega)), Lib.hid ((Bf.set0 _).set1 _), Lib.hid ((HW6.out.setCell (p := ⟨gB, 0, none⟩) (by show w.heap.size ≤ gB; omega) _).setCell (p := ⟨gB, 1, none⟩) (by show w.heap.size ≤ gB; omega) _)⟩
        case measure => first | (simp [intOf]; done) | (simp [intOf]; omega)
      · clear HX HA HBf hst
        have hk7 : k < 1000 := by have := HL2.out; omega
        have y0 := keep_cell HW.out (HP.out.at_ k hlt).1
        have y1 := keep_cell HW.out (HP.out.at_ k hlt).2.1
        obtain ⟨pt, hpt⟩ : ∃ pt, d.pts[k] = pt := ⟨_, rfl⟩
        rw [hpt] at y0 y1
        obtain ⟨⟨s0, s1⟩, hs⟩ : ∃ r, flowAt d k = r := ⟨_, rfl⟩
        have HRF := Lib.hid (show flowR d k = ((s0, s1), 0) by rw [← hs]; exact flowR_ok HVD.out HCM.out k hlt)
        have HIN := Lib.hid (show insideB (s0, s1) (pt.lo, pt.hi) = true by rw [← hs, ← hpt]; exact flow_own HVD.out HCM.out k hlt)
        have HSK := Lib.hid hs
        clear hs hpt
        go_wp2_with fail
        go_at_call 36
        refine (flow_any _ d _ _ (HV.out.below HW.out) HL1.out HL2.out).mono ?_
        rintro e w5 ⟨rfl, hb⟩
        rw [HRF.out]
        have HW5 := Lib.hid (bto HW.out hb)
        replace X := X.keep hb
        replace A := A.keep hb
        replace Bf := Bf.keep hb
        replace y0 := keep_cell hb y0
        replace y1 := keep_cell hb y1
        clear aX bX cX dX lX
        obtain ⟨aX, bX, cX, dX⟩ := id X
        try clear aBf gBf cBf dBf lBf
        obtain ⟨aBf, gBf, cBf, dBf⟩ := id Bf
        have lX := X.lt
        have lBf := Bf.lt
        clear hb
        have Sb := Box2.new w5 (I s0) (I s1) 34
        replace X := X.old (.cells #[I s0, I s1] 34)
        replace A := A.old (.cells #[I s0, I s1] 34)
        replace Bf := Bf.old (.cells #[I s0, I s1] 34)
        have HW5 := Lib.hid (HW5.out.alloc HW5.out.size (.cells #[I s0, I s1] 34))
        have k0 := cell_regrown X.c0
        have k1 := cell_regrown Sb.c0
        have k2 := cell_regrown Sb.c1
        have k3 := cell_regrown (box_old w5 (.cells #[I s0, I s1] 34) y0)
        have k4 := cell_regrown (box_old w5 (.cells #[I s0, I s1] 34) y1)
        have k5 := cell_regrown Bf.c0
        have k6 := cell_regrown Bf.c1
        have c1 := ext_call (w := w5.alloc (.cells #[I s0, I s1] 34)) fun W _ => inside_any s0 s1 pt.lo pt.hi W
        rw [HIN.out] at c1
        have hki : (k : Int) < (d.pts.length : Int) := by omega
        have hk0i : ¬ (0 : Int) < (k : Int) := by omega
        go_wp2_with fail
        refine wp_region_ext (by kernel_rfl) (by kernel_rfl) ?_
        try simp only [List.append]
        repeat (first | go_big_quiet_step (first | (with_reducible exact c1 _ _)) | quiet_step (first | (with_reducible exact c1 _ _)))
        refine wpQuiet_nil ?_
        clear k0 k1 k2 k3 k4 k5 k6 c1 y0 y1
        intro w6 hb
        have HW6 := Lib.hid (bto HW5.out hb)
        replace X := X.keep hb
        replace A := A.keep hb
        replace Bf := Bf.keep hb
        replace Sb := Sb.keep hb
        obtain ⟨aSb, bSb, cSb, dSb⟩ := id Sb
        try clear aBf gBf cBf dBf lBf
        obtain ⟨aBf, gBf, cBf, dBf⟩ := id Bf
        have lBf := Bf.lt
        clear hb
        go_wp2_with fail
        go_roundw
        case rel =>
          obtain ⟨hwA, hAB⟩ := HG.out
          exact ⟨k + 1, s0, s1, by omega, by go_num, Lib.hid (fun _ => by rw [Nat.add_sub_cancel]; exact HSK.out), Lib.hid ((X.other _ _ (by show gB ≠ _; omega)).other _ _ (by show gB ≠ _; omega)), Lib.hid ((A.other _ _ (by show gB ≠ gA; omega)).other _ _ (by show gB ≠ gA; omega)), Lib.hid ((Bf.set0 _).set1 _), Lib.hid ((HW6.out.setCell (p := ⟨gB, 0, none⟩) (by show w.heap.size ≤ gB; omega) _).setCell (p := ⟨gB, 1, none⟩) (by show w.heap.size ≤ gB; omega) _)⟩
        case measure => first | (simp [intOf]; done) | (simp [intOf]; omega)
    · go_wp2_with fail
      clear X A Bf aX bX cX dX lX hst HBf
      go_loopw [14] (fun i wr => ∃ (k : Nat), k ≤ d.odds.length ∧ i = I k ∧ Hid (Box2 wr w.heap.size (.slice (some ⟨pb, po, none⟩) d.pts.length cp) (.slice Ao d.odds.length co)) ∧ Hid (Box2 wr gA (I t0) (I t1)) ∧ Hid (Below w.heap.size w wr)) (fun i _ => d.odds.length - (intOf i).toNat)
      case atStart => exact ⟨0, Nat.zero_le _, rfl, HX, HA, HW⟩
      case round =>
        clear HX HA HW hlt
        obtain ⟨k, hk, rfl, HX, HA, HW⟩ := hrel
        have X := HX.out
        have A := HA.out
        obtain ⟨aX, bX, cX, dX⟩ := id X
        obtain ⟨aA, bA, cA, dA⟩ := id A
        have lX := X.lt
        by_cases hlt : k < d.odds.length
        · clear HX HA
          have hk6 : k < 1000 := by have := HL1.out; omega
          have htp : k + 1 < d.pts.length := by have := HNP.out; omega
          obtain ⟨⟨s0, s1⟩, hs⟩ : ∃ r, lossP d k (k + 1) = r := ⟨_, rfl⟩
          have HRF := Lib.hid (show lossR d k = ((s0, s1), 0) by rw [← hs]; exact lossR_ok HVD.out HCM.out k hlt)
          have hfa := loss_facts HVD.out HCM.out k (k + 1) (by omega) htp
          have hly := lossyR_ok HVD.out HCM.out k hlt
          rw [hs] at hfa hly
          obtain ⟨hfa1, hfa2⟩ := hfa
          simp only at hfa1 hfa2
          clear hs
          obtain ⟨c, hc⟩ : ∃ c, (lossyR d k).1 = c := ⟨_, rfl⟩
          have HLY := Lib.hid (show lossyR d k = (c, 0) by rw [← hc, hly])
          have hk1 : (c == 1) = decide (0 < s0) := by
            rw [← hc, hly]
            by_cases h1 : 0 < s0
            · simp [h1]
            · by_cases h2 : s1 = 0 <;> simp [h1, h2]
          have hk2 : (c == 2) = (s1 == 0) := by
            rw [← hc, hly]
            by_cases h1 : 0 < s0
            · have : ¬ s1 = 0 := by omega
              simp [h1, this]
            · by_cases h2 : s1 = 0 <;> simp [h1, h2]
          clear hc hly
          go_wp2_with fail
          go_at_call 49
          refine (loss_any _ d _ _ (HV.out.below HW.out) HL1.out HL2.out).mono ?_
          rintro e w5 ⟨rfl, hb⟩
          rw [HRF.out]
          have HW5 := Lib.hid (bto HW.out hb)
          replace X := X.keep hb
          replace A := A.keep hb
          try clear aX bX cX dX lX
          obtain ⟨aX, bX, cX, dX⟩ := id X
          have lX := X.lt
          clear hb
          go_wp2_with fail
          go_at_call 50
          refine (lossy_any _ d _ _ (HV.out.below (HW5.out.alloc HW5.out.size _)) HL1.out HL2.out).mono ?_
          rintro e w6 ⟨rfl, hb⟩
          rw [HLY.out]
          have HW6 := Lib.hid (bto (HW5.out.alloc HW5.out.size _) hb)
          have Sb := (Box2.new w5 (I s0) (I s1) 34).keep hb
          replace X := (X.old _).keep hb
          replace A := (A.old _).keep hb
          clear aX bX cX dX lX
          obtain ⟨aX, bX, cX, dX⟩ := id X
          obtain ⟨aSb, bSb, cSb, dSb⟩ := id Sb
          have lX := X.lt
          clear hb
          have k1 := cell_regrown Sb.c0
          have k2 := cell_regrown Sb.c1
          go_wp2_with fail
          refine wp_region_ext (by kernel_rfl) (by kernel_rfl) ?_
          try simp only [List.append]
          repeat (first | go_big_quiet_step (fail) | quiet_step (fail))
          refine wpQuiet_nil ?_
          clear k1 k2
          intro w7 hb
          have HW7 := Lib.hid (bto HW6.out hb)
          replace X := X.keep hb
          replace A := A.keep hb
          clear hb aSb bSb cSb dSb Sb hk1 hk2
          go_wp2_with fail
          go_roundw
          case rel => exact ⟨k + 1, by omega, by go_num, Lib.hid X, Lib.hid A, HW7⟩
          case measure => first | (simp [intOf]; done) | (simp [intOf]; omega)
        · clear HX HA
          go_wp2_with fail
          refine wp_region_ext (by kernel_rfl) (by kernel_rfl) ?_
          try simp only [List.append]
          repeat (first | go_big_quiet_step (fail) | quiet_step (fail))
          refine wpQuiet_nil ?_
          skip
          intro w8 hb
          have HW8 := Lib.hid (bto HW.out hb)
          clear hb
          go_wp2_with fail
          go_at_call 18
          refine (works_any _).mono ?_
          rintro e w9 ⟨rfl, hb⟩
          have HBE := Lib.hid (bto HW8.out hb)
          clear hb
          go_wp2_with fail
          go_ret
          exact ⟨rfl, HBE.out⟩
end Go.Proofs.Ytbddaemekgflmaa
