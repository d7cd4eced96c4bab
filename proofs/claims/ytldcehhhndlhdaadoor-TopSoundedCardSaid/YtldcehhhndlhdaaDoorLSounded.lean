/- The law TopSounded walked. -/
import Derived.Test.YtldcehhhndlhdaaDoorC20
import Derived.Test.YtldcehhhndlhdaaDoorC17
namespace Go.Proofs.YtldcehhhndlhdaaDoor
open Go.RowKit Go.Sort Go.Shelf

set_option maxRecDepth 20000 in
set_option maxHeartbeats 8000000 in
theorem topSounded_any (va vb vq : Value) (A B : Twn) (t : QTown) (fr many to wd : Int) (s : Snd) (w : World) (ha : TwnAt w va A) (hb : TwnAt w vb B) (hq : QAt w vq t) (hT : TzAt w) :
    Calls Tryd.prog 3 #[va, vb, vq, .agg #[I fr, I many, I to, I wd, I s.well, I s.low, I s.high]] w fun e w' => e = .returned (.bool true) ∧ Below w.heap.size w w' := by
  obtain ⟨sa, pa, rfl, ha1, ha2⟩ := ha
  obtain ⟨sb, pb, rfl, hb1, hb2⟩ := hb
  obtain ⟨wv, fv, rfl, hq1, hq2⟩ := hq
  obtain ⟨A1, c1, rfl, -, -, -⟩ := id ha1.open_
  obtain ⟨A2, c2, rfl, -, -, -⟩ := id ha2.open_
  obtain ⟨A3, c3, rfl, -, -, -⟩ := id hb1.open_
  obtain ⟨A4, c4, rfl, -, -, -⟩ := id hb2.open_
  obtain ⟨A5, c5, rfl, -, -, -⟩ := id hq1.open_
  obtain ⟨A6, c6, rfl, -, -, -⟩ := id hq2.open_
  have HA1 := Lib.hid ha1
  have HA2 := Lib.hid ha2
  have HB1 := Lib.hid hb1
  have HB2 := Lib.hid hb2
  have HQ1 := Lib.hid hq1
  have HQ2 := Lib.hid hq2
  have HT := Lib.hid hT
  clear ha1 ha2 hb1 hb2 hq1 hq2 hT
  have S := Lib.hid (((((St.init w).alloc [I A.wells, .slice A1 A.snd.length c1, .slice A2 A.slp.length c2] 25).alloc [I B.wells, .slice A3 B.snd.length c3, .slice A4 B.slp.length c4] 25).alloc [I t.wells, .slice A5 t.wds.length c5, .slice A6 t.fcs.length c6] 29).alloc [I fr, I many, I to, I wd, I s.well, I s.low, I s.high] 33)
  go_enter Tryd.func3, Tryd.ntmps3
  have q_a0 := S.out.get 3 0 rfl rfl
  have q_a1 := S.out.get 3 1 rfl rfl
  have q_a2 := S.out.get 3 2 rfl rfl
  go_wp2_with fail
  refine (far_any _ A _ ⟨_, _, rfl, HA1.out.below S.out.bel, HA2.out.below S.out.bel⟩).mono ?_
  rintro e w1 ⟨rfl, hb⟩
  replace S := Lib.hid (S.out.call hb)
  clear hb
  clear q_a0 q_a1 q_a2
  cases hfa : farB A
  · have q_b0 := S.out.get 2 0 rfl rfl
    have q_b1 := S.out.get 2 1 rfl rfl
    have q_b2 := S.out.get 2 2 rfl rfl
    go_wp2_with fail
    have HFA := Lib.hid hfa
    clear hfa
    refine (far_any _ B _ ⟨_, _, rfl, HB1.out.below S.out.bel, HB2.out.below S.out.bel⟩).mono ?_
    rintro e w2 ⟨rfl, hb⟩
    replace S := Lib.hid (S.out.call hb)
    clear hb
    clear q_b0 q_b1 q_b2
    cases hfb : farB B
    · have q_a0 := S.out.get 3 0 rfl rfl
      have q_a1 := S.out.get 3 1 rfl rfl
      have q_a2 := S.out.get 3 2 rfl rfl
      go_wp2_with fail
      have HFB := Lib.hid hfb
      clear hfb
      refine (rCheck_any _ A _ ⟨_, _, rfl, HA1.out.below S.out.bel, HA2.out.below S.out.bel⟩).mono ?_
      rintro e w3 ⟨rfl, hb⟩
      replace S := Lib.hid (S.out.call hb)
      clear hb
      clear q_a0 q_a1 q_a2
      cases hva : valid A
      · rw [show chk A = 10 from by simp [chk, hva]]
        go_wp2_with fail
        refine (sunk_any _ (HT.out.below S.out.bel)).mono ?_
        rintro e w4 ⟨rfl, hb⟩
        replace S := Lib.hid (S.out.call hb)
        clear hb
        go_wp2_with fail
        go_ret
        exact ⟨rfl, S.out.bel⟩
      · rw [show chk A = 0 from by simp [chk, hva]]
        have q_b0 := S.out.get 2 0 rfl rfl
        have q_b1 := S.out.get 2 1 rfl rfl
        have q_b2 := S.out.get 2 2 rfl rfl
        go_wp2_with fail
        have HVA := Lib.hid hva
        clear hva
        refine (rCheck_any _ B _ ⟨_, _, rfl, HB1.out.below S.out.bel, HB2.out.below S.out.bel⟩).mono ?_
        rintro e w4 ⟨rfl, hb⟩
        replace S := Lib.hid (S.out.call hb)
        clear hb
        clear q_b0 q_b1 q_b2
        cases hvb : valid B
        · rw [show chk B = 10 from by simp [chk, hvb]]
          go_wp2_with fail
          refine (sunk_any _ (HT.out.below S.out.bel)).mono ?_
          rintro e w5 ⟨rfl, hb⟩
          replace S := Lib.hid (S.out.call hb)
          clear hb
          go_wp2_with fail
          go_ret
          exact ⟨rfl, S.out.bel⟩
        · rw [show chk B = 0 from by simp [chk, hvb]]
          have q_q0 := S.out.get 1 0 rfl rfl
          have q_q1 := S.out.get 1 1 rfl rfl
          have q_q2 := S.out.get 1 2 rfl rfl
          go_wp2_with fail
          have HVB := Lib.hid hvb
          clear hvb
          refine (huge5_any _ t _ ⟨_, _, rfl, HQ1.out.below S.out.bel, HQ2.out.below S.out.bel⟩).mono ?_
          rintro e w5 ⟨rfl, hb⟩
          replace S := Lib.hid (S.out.call hb)
          clear hb
          clear q_q0 q_q1 q_q2
          cases hhq : hugeQ t
          · have q_q0 := S.out.get 1 0 rfl rfl
            have q_q1 := S.out.get 1 1 rfl rfl
            have q_q2 := S.out.get 1 2 rfl rfl
            go_wp2_with fail
            have HHQ := Lib.hid hhq
            clear hhq
            refine (rCheck5_any _ t _ ⟨_, _, rfl, HQ1.out.below S.out.bel, HQ2.out.below S.out.bel⟩).mono ?_
            rintro e w6 ⟨rfl, hb⟩
            replace S := Lib.hid (S.out.call hb)
            clear hb
            clear q_q0 q_q1 q_q2
            cases hvq : qValid t
            · rw [show qChk t = 50 from by simp [qChk, hvq]]
              go_wp2_with fail
              refine (sunk_any _ (HT.out.below S.out.bel)).mono ?_
              rintro e w7 ⟨rfl, hb⟩
              replace S := Lib.hid (S.out.call hb)
              clear hb
              go_wp2_with fail
              go_ret
              exact ⟨rfl, S.out.bel⟩
            · rw [show qChk t = 0 from by simp [qChk, hvq]]
              have HVQ := Lib.hid hvq
              clear hvq
              by_cases hwa : A.wells = t.wells
              · by_cases hwb : B.wells = t.wells
                · have q_a0 := S.out.get 3 0 rfl rfl
                  have q_b0 := S.out.get 2 0 rfl rfl
                  have q_q0 := S.out.get 1 0 rfl rfl
                  have q_q1 := S.out.get 1 1 rfl rfl
                  have q_q2 := S.out.get 1 2 rfl rfl
                  have q_x0 := S.out.get 0 0 rfl rfl
                  go_wp2_with fail
                  have HWA := Lib.hid hwa
                  clear hwa
                  have HWB := Lib.hid hwb
                  clear hwb
                  refine (rIsWell5_any t.wells fr _ _ _ ⟨_, _, _, rfl⟩ ⟨_, _, _, rfl⟩ (by have := (qValid_spec HVQ.out).1; omega) (by have := (qValid_spec HVQ.out).2.1; omega)).mono ?_
                  rintro e w7 ⟨rfl, hb⟩
                  replace S := Lib.hid (S.out.call hb)
                  clear hb
                  clear q_a0 q_b0 q_q0 q_q1 q_q2 q_x0
                  cases hfr : inR fr 0 (t.wells - 1)
                  · go_wp2_with fail
                    refine (sunk_any _ (HT.out.below S.out.bel)).mono ?_
                    rintro e w8 ⟨rfl, hb⟩
                    replace S := Lib.hid (S.out.call hb)
                    clear hb
                    go_wp2_with fail
                    go_ret
                    exact ⟨rfl, S.out.bel⟩
                  · have q_q0 := S.out.get 1 0 rfl rfl
                    have q_q1 := S.out.get 1 1 rfl rfl
                    have q_q2 := S.out.get 1 2 rfl rfl
                    have q_x2 := S.out.get 0 2 rfl rfl
                    go_wp2_with fail
                    have HFR := Lib.hid hfr
                    clear hfr
                    refine (rIsWell5_any t.wells to _ _ _ ⟨_, _, _, rfl⟩ ⟨_, _, _, rfl⟩ (by have := (qValid_spec HVQ.out).1; omega) (by have := (qValid_spec HVQ.out).2.1; omega)).mono ?_
                    rintro e w8 ⟨rfl, hb⟩
                    replace S := Lib.hid (S.out.call hb)
                    clear hb
                    clear q_q0 q_q1 q_q2 q_x2
                    cases hto : inR to 0 (t.wells - 1)
                    · go_wp2_with fail
                      refine (sunk_any _ (HT.out.below S.out.bel)).mono ?_
                      rintro e w9 ⟨rfl, hb⟩
                      replace S := Lib.hid (S.out.call hb)
                      clear hb
                      go_wp2_with fail
                      go_ret
                      exact ⟨rfl, S.out.bel⟩
                    · have q_q0 := S.out.get 1 0 rfl rfl
                      have q_q1 := S.out.get 1 1 rfl rfl
                      have q_q2 := S.out.get 1 2 rfl rfl
                      have q_x3 := S.out.get 0 3 rfl rfl
                      go_wp2_with fail
                      have HTO := Lib.hid hto
                      clear hto
                      refine (rIsWorld5_any t.wells wd _ _ _ _ _ _ _ (by have := (qValid_spec HVQ.out).2.2.1; omega)).mono ?_
                      rintro e w9 ⟨rfl, hb⟩
                      replace S := Lib.hid (S.out.call hb)
                      clear hb
                      clear q_q0 q_q1 q_q2 q_x3
                      cases hwd : inR wd 0 ((t.wds.length : Int) - 1)
                      · go_wp2_with fail
                        refine (sunk_any _ (HT.out.below S.out.bel)).mono ?_
                        rintro e w10 ⟨rfl, hb⟩
                        replace S := Lib.hid (S.out.call hb)
                        clear hb
                        go_wp2_with fail
                        go_ret
                        exact ⟨rfl, S.out.bel⟩
                      · have q_x1 := S.out.get 0 1 rfl rfl
                        go_wp2_with fail
                        have HWD := Lib.hid hwd
                        clear hwd
                        refine (rWithin_any many 1 9 _).mono ?_
                        rintro e w10 ⟨rfl, rfl⟩
                        replace S := Lib.hid (S.out)
                        clear q_x1
                        cases hmn : inR many 1 9
                        · go_wp2_with fail
                          refine (sunk_any _ (HT.out.below S.out.bel)).mono ?_
                          rintro e w11 ⟨rfl, hb⟩
                          replace S := Lib.hid (S.out.call hb)
                          clear hb
                          go_wp2_with fail
                          go_ret
                          exact ⟨rfl, S.out.bel⟩
                        · have q_a0 := S.out.get 3 0 rfl rfl
                          have q_a1 := S.out.get 3 1 rfl rfl
                          have q_a2 := S.out.get 3 2 rfl rfl
                          go_wp2_with fail
                          have HMN := Lib.hid hmn
                          clear hmn
                          refine (spans_any _ A _ ⟨_, _, rfl, HA1.out.below S.out.bel, HA2.out.below S.out.bel⟩ (valid_vl HVA.out) (by have := (farB_false HFA.out).1; omega) (by have := (farB_false HFA.out).2.1; omega)).mono ?_
                          rintro e w11 (⟨la, v, hsla, rfl, ho, hb⟩ | ⟨hsla, rfl, hb⟩)
                          · obtain ⟨Ala, cla, rfl⟩ := own_shape ho
                            have HSla := Lib.hid hsla
                            replace S := Lib.hid (S.out.take hb ho)
                            clear hb ho hsla
                            clear q_a0 q_a1 q_a2
                            have q_b0 := S.out.get 3 0 rfl rfl
                            have q_b1 := S.out.get 3 1 rfl rfl
                            have q_b2 := S.out.get 3 2 rfl rfl
                            go_wp2_with fail
                            refine (spans_any _ B _ ⟨_, _, rfl, HB1.out.below S.out.bel, HB2.out.below S.out.bel⟩ (valid_vl HVB.out) (by have := (farB_false HFB.out).1; omega) (by have := (farB_false HFB.out).2.1; omega)).mono ?_
                            rintro e w12 (⟨lb, v, hslb, rfl, ho, hb⟩ | ⟨hslb, rfl, hb⟩)
                            · obtain ⟨Alb, clb, rfl⟩ := own_shape ho
                              have HSlb := Lib.hid hslb
                              replace S := Lib.hid (S.out.take hb ho)
                              clear hb ho hslb
                              obtain ⟨rn, rfl⟩ := Int.eq_ofNat_of_zero_le (inR_iff.1 HFR.out).1
                              obtain ⟨tn, rfl⟩ := Int.eq_ofNat_of_zero_le (inR_iff.1 HTO.out).1
                              obtain ⟨dn, rfl⟩ := Int.eq_ofNat_of_zero_le (inR_iff.1 HWD.out).1
                              have hr1 := (inR_iff.1 HFR.out).2
                              have ht1 := (inR_iff.1 HTO.out).2
                              have hd1 := (inR_iff.1 HWD.out).2
                              have hd2 : dn < t.wds.length := by omega
                              obtain ⟨hf1, hf2, hf3, hf4⟩ := fall_bd HVQ.out hd2 (fr := rn) (to := tn) (by omega) (by omega)
                              have hm := inR_iff.1 HMN.out
                              obtain ⟨F, hF⟩ : ∃ F, fallQ t.wds[dn] rn tn = F := ⟨_, rfl⟩
                              rw [hF] at hf3 hf4
                              have m1 := Int.mul_le_mul hm.2 hf4 (by omega) (by omega)
                              have m2 := Int.mul_nonneg (show 0 ≤ many by omega) hf3
                              obtain ⟨P, hP⟩ : ∃ P, many * F = P := ⟨_, rfl⟩
                              rw [hP] at m1 m2
                              have w1 : IntKind.i64.wrap (many * F) = P := by rw [hP]; exact IntWalk.i64_in _ (by omega)
                              obtain ⟨lA1, hA0, hA2, hA3, hA4, hA5, hA6⟩ := lev_of HVA.out HSla.out (n := tn) (by rw [HWA.out]; omega)
                              obtain ⟨lB1, hB0, -, hB3, hB4, hB5, hB6⟩ := lev_of HVB.out HSlb.out (n := tn) (by rw [HWB.out]; omega)
                              have cA := spCells_get hA3
                              have cB := spCells_get hB3
                              obtain ⟨⟨sl, sh⟩, hsA⟩ : ∃ s, spAt la tn = s := ⟨_, rfl⟩
                              obtain ⟨⟨rl, rh⟩, hsB⟩ : ∃ s, spAt lb tn = s := ⟨_, rfl⟩
                              rw [hsA] at lA1 hA2 hA4 hA5 hA6 cA
                              rw [hsB] at lB1 hB4 hB5 hB6 cB
                              dsimp only at hA4 hA5 hA6 cA hB4 hB5 hB6 cB
                              have HD2 := Lib.hid hd2
                              have HF1 := Lib.hid hf1
                              have HF2 := Lib.hid hf2
                              have HF := Lib.hid hF
                              have HP := Lib.hid hP
                              have W1 := Lib.hid w1
                              have HLA := Lib.hid lA1
                              have HLB := Lib.hid lB1
                              have HOA := Lib.hid hA0
                              have HLV := Lib.hid hA2
                              have HNA := Lib.hid hA3
                              have HNB := Lib.hid hB3
                              have HCA := Lib.hid cA
                              have HCB := Lib.hid cB
                              have HBD := Lib.hid (show (0 ≤ P ∧ P ≤ 81) ∧ (0 ≤ sl ∧ sl ≤ sh ∧ sh ≤ 99) ∧ 0 ≤ rl ∧ rl ≤ rh ∧ rh ≤ 99 by omega)
                              clear hr1 ht1 hd1 hf2 hf3 hf4 hm hF m1 m2 hP w1 lA1 hA0 hA2 hA3 hA4 hA5 hA6 lB1 hB0 hB3 hB4 hB5 hB6 cA cB hsA hsB
                              clear q_b0 q_b1 q_b2
                              have q_x0 := S.out.get 2 0 rfl rfl
                              have q_x1 := S.out.get 2 1 rfl rfl
                              have q_x2 := S.out.get 2 2 rfl rfl
                              have q_x3 := S.out.get 2 3 rfl rfl
                              have q_q0 := S.out.get 3 0 rfl rfl
                              have q_q1 := S.out.get 3 1 rfl rfl
                              have q_q2 := S.out.get 3 2 rfl rfl
                              go_wp2_with fail
                              clear q_x0 q_x1 q_x2 q_x3 q_q0 q_q1 q_q2
                              refine wp_region_seg [([0, 1, 2, 3, 4, 5, 6, 7, 8], 9)] [10, 11] [] 12 (by kernel_rfl) (by kernel_rfl) ?_
                              intro KQ hKQ w8 hb
                              replace S := Lib.hid (S.out.call hb)
                              clear hb
                              have q_x0 := cell_regrown (S.out.get 2 0 rfl rfl)
                              have q_x1 := cell_regrown (S.out.get 2 1 rfl rfl)
                              have q_x2 := cell_regrown (S.out.get 2 2 rfl rfl)
                              have q_x3 := cell_regrown (S.out.get 2 3 rfl rfl)
                              have q_q0 := cell_regrown (S.out.get 3 0 rfl rfl)
                              have q_q1 := cell_regrown (S.out.get 3 1 rfl rfl)
                              have q_q2 := cell_regrown (S.out.get 3 2 rfl rfl)
                              refine seg_next ?_
                              simp only [opsAt, List.filterMap_cons, List.filterMap_nil, List.getElem?_toArray, List.getElem?_cons_succ, List.getElem?_cons_zero]
                              repeat (first | go_big_quiet_step (fail) | quiet_step (fail))
                              refine wpQuiet_nil ?_
                              intro K hK
                              refine loud_op rfl rfl ?_
                              go_simp
                              refine (fall_any _ t dn rn tn _ ⟨_, _, rfl, HQ1.out.below S.out.bel, HQ2.out.below S.out.bel⟩ HD2.out HF1.out HF2.out).mono ?_
                              rintro e w9 ⟨rfl, hb⟩
                              rw [HF.out]
                              replace S := Lib.hid (S.out.call hb)
                              refine hK _ _ hb ?_
                              clear hK K hb q_x0 q_x1 q_x2 q_x3 q_q0 q_q1 q_q2
                              have w1 := W1.out
                              refine seg_last ?_
                              simp only [opsAt, List.filterMap_cons, List.filterMap_nil, List.getElem?_toArray, List.getElem?_cons_succ, List.getElem?_cons_zero]
                              repeat (first | go_big_quiet_step (fail) | quiet_step (fail))
                              refine wpQuiet_nil ?_
                              obtain ⟨ga, ca', ea, -, -⟩ := own_shape_pos (S.out.own 1 rfl) (show 0 < la.length by have := HNA.out; omega)
                              injection ea with ea _ eac
                              subst ea
                              obtain ⟨gb, cb', eb, -, -⟩ := own_shape_pos (S.out.own 0 rfl) (show 0 < lb.length by have := HNB.out; omega)
                              injection eb with eb _ ebc
                              subst eb
                              clear eac ebc
                              have x2 := S.out.get 2 2 rfl rfl
                              have ya0 := own_at2 (S.out.own 1 rfl) HCA.out.1
                              have ya1 := own_at2 (S.out.own 1 rfl) HCA.out.2
                              have yb0 := own_at2 (S.out.own 0 rfl) HCB.out.1
                              have yb1 := own_at2 (S.out.own 0 rfl) HCB.out.2
                              have hka : (tn : Int) < (la.length : Int) := by have := HNA.out; omega
                              have hkb : (tn : Int) < (lb.length : Int) := by have := HNB.out; omega
                              have hbd := HBD.out
                              have w2 : IntKind.i64.wrap (rl + P) = rl + P := IntWalk.i64_in _ (by omega)
                              have w3 : IntKind.i64.wrap (rh + P) = rh + P := IntWalk.i64_in _ (by omega)
                              clear hbd w1
                              go_wp2_with fail
                              have x2 := cell_regrown x2
                              have ya0 := cell_regrown ya0
                              have ya1 := cell_regrown ya1
                              have yb0 := cell_regrown yb0
                              have yb1 := cell_regrown yb1
                              refine wp_region_ext (by kernel_rfl) (by kernel_rfl) ?_
                              repeat (first | go_big_quiet_step (fail) | quiet_step (fail))
                              refine wpQuiet_nil ?_
                              clear x2 ya0 ya1 yb0 yb1
                              intro wq hbq
                              replace S := Lib.hid (S.out.call hbq)
                              clear hbq
                              clear hka hkb w2 w3
                              obtain ⟨mx, hmx⟩ : ∃ m, (if sl < rl + P then rl + P else sl) = m := ⟨_, rfl⟩
                              obtain ⟨mn, hmn⟩ : ∃ m, (if rh + P < sh then rh + P else sh) = m := ⟨_, rfl⟩
                              rw [hmx, hmn]
                              have HMX := Lib.hid hmx
                              have HMN2 := Lib.hid hmn
                              clear hmx hmn
                              by_cases hcc : mn < mx
                              · go_wp2_with fail
                                refine (sunk_any _ (HT.out.below S.out.bel)).mono ?_
                                rintro e w10 ⟨rfl, hb⟩
                                replace S := Lib.hid (S.out.call hb)
                                clear hb
                                go_wp2_with fail
                                go_ret
                                exact ⟨rfl, S.out.bel⟩
                              · have hnum : sl ≤ rh + P ∧ rl + P ≤ sh := by
                                  have h1 := HMX.out
                                  have h2 := HMN2.out
                                  have h3 := HBD.out
                                  split at h1 <;> split at h2 <;> omega
                                obtain ⟨M, hM⟩ : ∃ M, max 0 (sl - rh) = M := ⟨_, rfl⟩
                                obtain ⟨H, hH⟩ : ∃ H, sh - rl = H := ⟨_, rfl⟩
                                have hfl : M ≤ P ∧ P ≤ H ∧ 0 ≤ M := by have := HBD.out; omega
                                have HM := Lib.hid hM
                                have HH := Lib.hid hH
                                have HFL := Lib.hid hfl
                                have HAG := Lib.hid (agr_of (many := many) (lo := M) (hi := H) (fr := rn) (to := tn) HD2.out (by rw [HF.out, HP.out]; omega))
                                clear hnum hM hH hfl
                                have q_a0 := S.out.get 5 0 rfl rfl
                                have q_a1 := S.out.get 5 1 rfl rfl
                                have q_a2 := S.out.get 5 2 rfl rfl
                                have q_b0 := S.out.get 4 0 rfl rfl
                                have q_b1 := S.out.get 4 1 rfl rfl
                                have q_b2 := S.out.get 4 2 rfl rfl
                                have q_x0 := S.out.get 2 0 rfl rfl
                                have q_x1 := S.out.get 2 1 rfl rfl
                                have q_x2 := S.out.get 2 2 rfl rfl
                                have q_x3 := S.out.get 2 3 rfl rfl
                                have q_x4 := S.out.get 2 4 rfl rfl
                                have q_x5 := S.out.get 2 5 rfl rfl
                                have q_x6 := S.out.get 2 6 rfl rfl
                                go_wp2_with fail
                                clear hcc
                                refine (sinks_any _ _ A B rn many tn dn s.well s.low s.high sl sh rl rh _ ⟨_, _, rfl, HA1.out.below S.out.bel, HA2.out.below S.out.bel⟩ ⟨_, _, rfl, HB1.out.below S.out.bel, HB2.out.below S.out.bel⟩ HLA.out HLB.out (by have := HBD.out; omega) (by have := HBD.out; omega) (by have := HBD.out; omega) (by have := HBD.out; omega) (by have := HBD.out; omega) (by have := HBD.out; omega)).mono ?_
                                rintro e w10 ⟨rfl, hb⟩
                                rw [HM.out, HH.out]
                                replace S := Lib.hid (S.out.call hb)
                                clear hb
                                clear q_a0 q_a1 q_a2 q_b0 q_b1 q_b2 q_x0 q_x1 q_x2 q_x3 q_x4 q_x5 q_x6
                                replace S := Lib.hid (S.out.alloc [I rn, I many, I tn, I M, I H] 49)
                                have hn1 : ¬ P < M := by have := HFL.out; omega
                                have hn2 : ¬ H < P := by have := HFL.out; omega
                                have q_q0 := S.out.get 4 0 rfl rfl
                                have q_q1 := S.out.get 4 1 rfl rfl
                                have q_q2 := S.out.get 4 2 rfl rfl
                                have q_f0 := S.out.get (v := I rn) 0 0 rfl rfl
                                have q_f1 := S.out.get (v := I many) 0 1 rfl rfl
                                have q_f2 := S.out.get (v := I tn) 0 2 rfl rfl
                                have q_f3 := S.out.get (v := I M) 0 3 rfl rfl
                                have q_f4 := S.out.get (v := I H) 0 4 rfl rfl
                                go_wp2_with fail
                                clear hn1 hn2
                                refine (told_any _ t ⟨rn, many, tn, M, H⟩ _ ⟨_, _, rfl, HQ1.out.below S.out.bel, HQ2.out.below S.out.bel⟩ (hugeQ_small HHQ.out)).mono ?_
                                rintro e w11 ⟨wvo, fvo, rfl, Its, T, hW⟩
                                obtain ⟨ho1, ho2⟩ := told_open T hW
                                obtain ⟨Ao1, co1, rfl, -, -, -⟩ := id ho1.open_
                                obtain ⟨Ao2, co2, rfl, -, -, -⟩ := id ho2.open_
                                have HO1 := Lib.hid ho1
                                have HO2 := Lib.hid ho2
                                have HBO := Lib.hid (Below.refl w11.heap.size w11)
                                replace S := Lib.hid (S.out.call T.bel)
                                clear T hW ho1 ho2
                                clear q_q0 q_q1 q_q2 q_f0 q_f1 q_f2 q_f3 q_f4
                                replace HBO := Lib.hid (bto HBO.out ((Below.refl _ _).alloc (Nat.le_refl _) (.cells #[I t.wells, .slice Ao1 (t.addF ⟨rn, many, tn, M, H⟩).wds.length co1, .slice Ao2 (t.addF ⟨rn, many, tn, M, H⟩).fcs.length co2] 29)))
                                replace S := Lib.hid (S.out.alloc [I t.wells, .slice Ao1 (t.addF ⟨rn, many, tn, M, H⟩).wds.length co1, .slice Ao2 (t.addF ⟨rn, many, tn, M, H⟩).fcs.length co2] 29)
                                have q_o0 := S.out.get 0 0 rfl rfl
                                have q_o1 := S.out.get 0 1 rfl rfl
                                have q_o2 := S.out.get 0 2 rfl rfl
                                go_wp2_with fail
                                refine (rCheck5_any _ (t.addF ⟨rn, many, tn, M, H⟩) _ ⟨_, _, rfl, HO1.out.below HBO.out, HO2.out.below HBO.out⟩).mono ?_
                                rintro e w12 ⟨rfl, hb⟩
                                replace HBO := Lib.hid (bto HBO.out hb)
                                replace S := Lib.hid (S.out.call hb)
                                clear hb
                                clear q_o0 q_o1 q_o2
                                cases hvo : qValid (t.addF ⟨rn, many, tn, M, H⟩)
                                · rw [show qChk (t.addF ⟨rn, many, tn, M, H⟩) = 50 from by simp [qChk, hvo]]
                                  go_wp2_with fail
                                  refine (sunk_any _ (HT.out.below S.out.bel)).mono ?_
                                  rintro e w13 ⟨rfl, hb⟩
                                  replace HBO := Lib.hid (bto HBO.out hb)
                                  replace S := Lib.hid (S.out.call hb)
                                  clear hb
                                  go_wp2_with fail
                                  go_ret
                                  exact ⟨rfl, S.out.bel⟩
                                · rw [show qChk (t.addF ⟨rn, many, tn, M, H⟩) = 0 from by simp [qChk, hvo]]
                                  have q_o0 := S.out.get 0 0 rfl rfl
                                  have q_o1 := S.out.get 0 1 rfl rfl
                                  have q_o2 := S.out.get 0 2 rfl rfl
                                  have q_x3 := S.out.get 4 3 rfl rfl
                                  go_wp2_with fail
                                  have HVO := Lib.hid hvo
                                  clear hvo
                                  refine (out_any _ (t.addF ⟨rn, many, tn, M, H⟩) dn _ ⟨_, _, rfl, HO1.out.below HBO.out, HO2.out.below HBO.out⟩ HVO.out (HT.out.below S.out.bel) HD2.out).mono ?_
                                  rintro e w13 ⟨vou, rfl, hl, hb⟩
                                  obtain ⟨Aou, cou, rfl, -, -, -⟩ := id hl.open_
                                  have HOU := Lib.hid hl
                                  clear hl
                                  replace HBO := Lib.hid (bto HBO.out hb)
                                  replace S := Lib.hid (S.out.call hb)
                                  clear hb
                                  clear q_o0 q_o1 q_o2 q_x3
                                  have he := outR_err (t.addF ⟨rn, many, tn, M, H⟩) dn
                                  obtain ⟨er, her⟩ : ∃ x, (outR (t.addF ⟨rn, many, tn, M, H⟩) dn).2 = x := ⟨_, rfl⟩
                                  rw [her] at he ⊢
                                  clear her
                                  rcases he with rfl | rfl
                                  · have q_q2 := S.out.get 5 2 rfl rfl
                                    go_wp2_with fail
                                    refine (in_any _ (outR (t.addF ⟨rn, many, tn, M, H⟩) dn).1 (t.fcs.length : Int) _ HOU.out).mono ?_
                                    rintro e w14 ⟨rfl, hb⟩
                                    rw [decide_eq_false (told_out HAG.out)]
                                    replace HBO := Lib.hid (bto HBO.out hb)
                                    replace S := Lib.hid (S.out.call hb)
                                    clear hb
                                    clear q_q2
                                    have q_a0 := S.out.get 7 0 rfl rfl
                                    have q_a1 := S.out.get 7 1 rfl rfl
                                    have q_a2 := S.out.get 7 2 rfl rfl
                                    have q_x4 := S.out.get 4 4 rfl rfl
                                    have q_x5 := S.out.get 4 5 rfl rfl
                                    have q_x6 := S.out.get 4 6 rfl rfl
                                    go_wp2_with fail
                                    refine (sounded_any _ A s _ ⟨_, _, rfl, HA1.out.below S.out.bel, HA2.out.below S.out.bel⟩ (by have := (farB_false HFA.out).1; omega) (by have := (farB_false HFA.out).2.1; omega)).mono ?_
                                    rintro e w15 ⟨vm, rfl, ⟨rvm, svm, rfl, hm1, hm2⟩, hb⟩
                                    obtain ⟨Am1, cm1, rfl⟩ := own_shape hm1
                                    obtain ⟨Am2, cm2, rfl⟩ := own_shape hm2
                                    replace HBO := Lib.hid (bto HBO.out hb)
                                    replace S := Lib.hid (S.out.take2 hb hm1 hm2 (by decide))
                                    clear hb hm1 hm2
                                    clear q_a0 q_a1 q_a2 q_x4 q_x5 q_x6
                                    replace HBO := Lib.hid (bto HBO.out ((Below.refl _ _).alloc (Nat.le_refl _) (.cells #[I (addS A s).wells, .slice Am1 (addS A s).snd.length cm1, .slice Am2 (addS A s).slp.length cm2] 25)))
                                    replace S := Lib.hid (S.out.alloc [I (addS A s).wells, .slice Am1 (addS A s).snd.length cm1, .slice Am2 (addS A s).slp.length cm2] 25)
                                    have q_m0 := S.out.get 0 0 rfl rfl
                                    have q_m1 := S.out.get 0 1 rfl rfl
                                    have q_m2 := S.out.get 0 2 rfl rfl
                                    go_wp2_with fail
                                    refine (far_any _ (addS A s) _ ⟨_, _, rfl, S.out.row 1 rfl, S.out.row 2 rfl⟩).mono ?_
                                    rintro e w16 ⟨rfl, hb⟩
                                    replace HBO := Lib.hid (bto HBO.out hb)
                                    replace S := Lib.hid (S.out.call hb)
                                    clear hb
                                    clear q_m0 q_m1 q_m2
                                    cases hfm : farB (addS A s)
                                    · have q_m0 := S.out.get 0 0 rfl rfl
                                      have q_m1 := S.out.get 0 1 rfl rfl
                                      have q_m2 := S.out.get 0 2 rfl rfl
                                      go_wp2_with fail
                                      have HFM := Lib.hid hfm
                                      clear hfm
                                      refine (rCheck_any _ (addS A s) _ ⟨_, _, rfl, S.out.row 1 rfl, S.out.row 2 rfl⟩).mono ?_
                                      rintro e w17 ⟨rfl, hb⟩
                                      replace HBO := Lib.hid (bto HBO.out hb)
                                      replace S := Lib.hid (S.out.call hb)
                                      clear hb
                                      clear q_m0 q_m1 q_m2
                                      cases hvm : valid (addS A s)
                                      · rw [show chk (addS A s) = 10 from by simp [chk, hvm]]
                                        go_wp2_with fail
                                        refine (sunk_any _ (HT.out.below S.out.bel)).mono ?_
                                        rintro e w18 ⟨rfl, hb⟩
                                        replace HBO := Lib.hid (bto HBO.out hb)
                                        replace S := Lib.hid (S.out.call hb)
                                        clear hb
                                        go_wp2_with fail
                                        go_ret
                                        exact ⟨rfl, S.out.bel⟩
                                      · rw [show chk (addS A s) = 0 from by simp [chk, hvm]]
                                        have q_m0 := S.out.get 0 0 rfl rfl
                                        have q_m1 := S.out.get 0 1 rfl rfl
                                        have q_m2 := S.out.get 0 2 rfl rfl
                                        go_wp2_with fail
                                        have HVM := Lib.hid hvm
                                        clear hvm
                                        refine (isOne_any _ (addS A s) _ ⟨_, _, rfl, S.out.row 1 rfl, S.out.row 2 rfl⟩ (valid_vl HVM.out) (by have := (farB_false HFM.out).1; omega) (by have := (farB_false HFM.out).2.1; omega)).mono ?_
                                        rintro e w18 ⟨rfl, hb⟩
                                        replace HBO := Lib.hid (bto HBO.out hb)
                                        replace S := Lib.hid (S.out.call hb)
                                        clear hb
                                        clear q_m0 q_m1 q_m2
                                        cases hdm : diagOk (closeM (baseM (addS A s)))
                                        · go_wp2_with fail
                                          refine (sunk_any _ (HT.out.below S.out.bel)).mono ?_
                                          rintro e w19 ⟨rfl, hb⟩
                                          replace HBO := Lib.hid (bto HBO.out hb)
                                          replace S := Lib.hid (S.out.call hb)
                                          clear hb
                                          go_wp2_with fail
                                          go_ret
                                          exact ⟨rfl, S.out.bel⟩
                                        · have hom := more_open HVM.out hdm
                                          have hwt : (tn : Int) < A.wells := by have := (inR_iff.1 HTO.out).2; have := HWA.out; omega
                                          obtain ⟨lm1, lm2⟩ := lev_open hom (n := tn) hwt
                                          obtain ⟨lm3, lm4⟩ := lev_more (s := s) hwt HOA.out hom
                                          rw [HLV.out] at lm3 lm4
                                          obtain ⟨⟨ml, mh⟩, hml⟩ : ∃ p, lvl (closeM (baseM (addS A s))) tn = p := ⟨_, rfl⟩
                                          rw [hml] at lm1 lm2 lm3 lm4
                                          dsimp only at lm2 lm3 lm4
                                          obtain ⟨M2, hM2⟩ : ∃ M, max 0 (ml - rh) = M := ⟨_, rfl⟩
                                          obtain ⟨H2, hH2⟩ : ∃ H, mh - rl = H := ⟨_, rfl⟩
                                          have hnw : M ≤ M2 ∧ H2 ≤ H ∧ 0 ≤ M2 := by have := HM.out; have := HH.out; omega
                                          have HLM := Lib.hid lm1
                                          have HBM := Lib.hid (show 0 ≤ ml ∧ ml ≤ mh ∧ mh ≤ 99 by have := HBD.out; omega)
                                          have HM2 := Lib.hid hM2
                                          have HH2 := Lib.hid hH2
                                          have HNW := Lib.hid hnw
                                          clear hom hwt lm1 lm2 lm3 lm4 hml hM2 hH2 hnw
                                          have q_m0 := S.out.get 0 0 rfl rfl
                                          have q_m1 := S.out.get 0 1 rfl rfl
                                          have q_m2 := S.out.get 0 2 rfl rfl
                                          have q_b0 := S.out.get 9 0 rfl rfl
                                          have q_b1 := S.out.get 9 1 rfl rfl
                                          have q_b2 := S.out.get 9 2 rfl rfl
                                          have q_x0 := S.out.get 7 0 rfl rfl
                                          have q_x1 := S.out.get 7 1 rfl rfl
                                          have q_x2 := S.out.get 7 2 rfl rfl
                                          have q_x3 := S.out.get 7 3 rfl rfl
                                          have q_x4 := S.out.get 7 4 rfl rfl
                                          have q_x5 := S.out.get 7 5 rfl rfl
                                          have q_x6 := S.out.get 7 6 rfl rfl
                                          go_wp2_with fail
                                          have HDM := Lib.hid hdm
                                          clear hdm
                                          refine (sinks_any _ _ (addS A s) B rn many tn dn s.well s.low s.high ml mh rl rh _ ⟨_, _, rfl, S.out.row 1 rfl, S.out.row 2 rfl⟩ ⟨_, _, rfl, HB1.out.below S.out.bel, HB2.out.below S.out.bel⟩ HLM.out HLB.out (by have := HBM.out; omega) (by have := HBM.out; omega) (by have := HBM.out; omega) (by have := HBD.out; omega) (by have := HBD.out; omega) (by have := HBD.out; omega)).mono ?_
                                          rintro e w19 ⟨rfl, hb⟩
                                          rw [HM2.out, HH2.out]
                                          replace HBO := Lib.hid (bto HBO.out hb)
                                          replace S := Lib.hid (S.out.call hb)
                                          clear hb
                                          clear q_m0 q_m1 q_m2 q_b0 q_b1 q_b2 q_x0 q_x1 q_x2 q_x3 q_x4 q_x5 q_x6
                                          have hz := S.out.lt 4 rfl
                                          replace HBO := Lib.hid (bto HBO.out ((Below.refl _ _).alloc (Nat.le_refl _) (.cells #[I rn, I many, I tn, I M2, I H2] 49)))
                                          replace S := Lib.hid (S.out.alloc [I rn, I many, I tn, I M2, I H2] 49)
                                          have hn1 : ¬ H < H2 := by have := HNW.out; omega
                                          by_cases hmh : H2 < M2
                                          · have q_f4 := S.out.get (v := I H) 5 4 rfl rfl
                                            have q_g3 := S.out.get (v := I M2) 0 3 rfl rfl
                                            have q_g4 := S.out.get (v := I H2) 0 4 rfl rfl
                                            go_simp
                                            repeat (first | go_values | go_skip | go_guarded | go_step | go_upon | go_back)
                                            clear hn1 hz
                                            refine (sunk_any _ (HT.out.below S.out.bel)).mono ?_
                                            rintro e w20 ⟨rfl, hb⟩
                                            replace HBO := Lib.hid (bto HBO.out hb)
                                            replace S := Lib.hid (S.out.call hb)
                                            clear hb
                                            clear q_f4 q_g3 q_g4
                                            go_wp2_with fail
                                            go_ret
                                            exact ⟨rfl, S.out.bel⟩
                                          · have q_f4 := S.out.get (v := I H) 5 4 rfl rfl
                                            have q_q0 := S.out.get 9 0 rfl rfl
                                            have q_q1 := S.out.get 9 1 rfl rfl
                                            have q_q2 := S.out.get 9 2 rfl rfl
                                            have q_g0 := S.out.get (v := I rn) 0 0 rfl rfl
                                            have q_g1 := S.out.get (v := I many) 0 1 rfl rfl
                                            have q_g2 := S.out.get (v := I tn) 0 2 rfl rfl
                                            have q_g3 := S.out.get (v := I M2) 0 3 rfl rfl
                                            have q_g4 := S.out.get (v := I H2) 0 4 rfl rfl
                                            go_simp
                                            repeat (first | go_values | go_skip | go_guarded | go_step | go_upon | go_back)
                                            clear hn1 hz
                                            have HMH := Lib.hid hmh
                                            clear hmh
                                            refine (told_any _ t ⟨rn, many, tn, M2, H2⟩ _ ⟨_, _, rfl, HQ1.out.below S.out.bel, HQ2.out.below S.out.bel⟩ (hugeQ_small HHQ.out)).mono ?_
                                            rintro e w20 ⟨wvo, fvo, rfl, Its, T, hW⟩
                                            obtain ⟨ho1, ho2⟩ := told_open T hW
                                            obtain ⟨Ap1, cp1, rfl, -, -, -⟩ := id ho1.open_
                                            obtain ⟨Ap2, cp2, rfl, -, -, -⟩ := id ho2.open_
                                            have HP1 := Lib.hid ho1
                                            have HP2 := Lib.hid ho2
                                            replace HBO := Lib.hid (bto HBO.out T.bel)
                                            have HBP := Lib.hid (Below.refl w20.heap.size w20)
                                            replace S := Lib.hid (S.out.call T.bel)
                                            clear T hW ho1 ho2
                                            clear q_f4 q_q0 q_q1 q_q2 q_g0 q_g1 q_g2 q_g3 q_g4
                                            replace HBO := Lib.hid (bto HBO.out ((Below.refl _ _).alloc (Nat.le_refl _) (.cells #[I t.wells, .slice Ap1 (t.addF ⟨rn, many, tn, M2, H2⟩).wds.length cp1, .slice Ap2 (t.addF ⟨rn, many, tn, M2, H2⟩).fcs.length cp2] 29)))
                                            replace HBP := Lib.hid (bto HBP.out ((Below.refl _ _).alloc (Nat.le_refl _) (.cells #[I t.wells, .slice Ap1 (t.addF ⟨rn, many, tn, M2, H2⟩).wds.length cp1, .slice Ap2 (t.addF ⟨rn, many, tn, M2, H2⟩).fcs.length cp2] 29)))
                                            replace S := Lib.hid (S.out.alloc [I t.wells, .slice Ap1 (t.addF ⟨rn, many, tn, M2, H2⟩).wds.length cp1, .slice Ap2 (t.addF ⟨rn, many, tn, M2, H2⟩).fcs.length cp2] 29)
                                            have hnw : Nrw ⟨rn, many, tn, M, H⟩ ⟨rn, many, tn, M2, H2⟩ := ⟨rfl, rfl, rfl, HNW.out.1, HNW.out.2.1⟩
                                            have hvp : qValid (t.addF ⟨rn, many, tn, M2, H2⟩) = true := hnw.valid HVO.out HNW.out.2.2 (by have := HMH.out; dsimp only; omega)
                                            have HVP := Lib.hid hvp
                                            have HNR := Lib.hid hnw
                                            clear hnw hvp
                                            have q_p0 := S.out.get 0 0 rfl rfl
                                            have q_p1 := S.out.get 0 1 rfl rfl
                                            have q_p2 := S.out.get 0 2 rfl rfl
                                            go_wp2_with fail
                                            refine (rCheck5_any _ (t.addF ⟨rn, many, tn, M2, H2⟩) _ ⟨_, _, rfl, HP1.out.below HBP.out, HP2.out.below HBP.out⟩).mono ?_
                                            rintro e w21 ⟨rfl, hb⟩
                                            rw [show qChk (t.addF ⟨rn, many, tn, M2, H2⟩) = 0 from by simp [qChk, HVP.out]]
                                            replace HBO := Lib.hid (bto HBO.out hb)
                                            replace HBP := Lib.hid (bto HBP.out hb)
                                            replace S := Lib.hid (S.out.call hb)
                                            clear hb
                                            clear q_p0 q_p1 q_p2
                                            have q_o0 := S.out.get 5 0 rfl rfl
                                            have q_o1 := S.out.get 5 1 rfl rfl
                                            have q_o2 := S.out.get 5 2 rfl rfl
                                            go_wp2_with fail
                                            refine (left_any _ (t.addF ⟨rn, many, tn, M, H⟩) _ ⟨_, _, rfl, HO1.out.below HBO.out, HO2.out.below HBO.out⟩ HVO.out (HT.out.below S.out.bel)).mono ?_
                                            rintro e w22 ⟨vk, rfl, hl, hb⟩
                                            obtain ⟨Ak, ck, rfl, -, -, -⟩ := id hl.open_
                                            have Hk := Lib.hid hl
                                            clear hl
                                            replace HBO := Lib.hid (bto HBO.out hb)
                                            replace HBP := Lib.hid (bto HBP.out hb)
                                            replace S := Lib.hid (S.out.call hb)
                                            clear hb
                                            clear q_o0 q_o1 q_o2
                                            have q_p0 := S.out.get 0 0 rfl rfl
                                            have q_p1 := S.out.get 0 1 rfl rfl
                                            have q_p2 := S.out.get 0 2 rfl rfl
                                            go_wp2_with fail
                                            refine (left_any _ (t.addF ⟨rn, many, tn, M2, H2⟩) _ ⟨_, _, rfl, HP1.out.below HBP.out, HP2.out.below HBP.out⟩ HVP.out (HT.out.below S.out.bel)).mono ?_
                                            rintro e w23 ⟨vl, rfl, hl, hb⟩
                                            obtain ⟨Al, cl, rfl, -, -, -⟩ := id hl.open_
                                            have Hl := Lib.hid hl
                                            clear hl
                                            replace Hk := Lib.hid (Ints.below Hk.out hb)
                                            replace HBO := Lib.hid (bto HBO.out hb)
                                            replace HBP := Lib.hid (bto HBP.out hb)
                                            replace S := Lib.hid (S.out.call hb)
                                            clear hb
                                            clear q_p0 q_p1 q_p2
                                            obtain ⟨lf, hlf⟩ : ∃ l, leftL (t.addF ⟨rn, many, tn, M, H⟩) = l := ⟨_, rfl⟩
                                            obtain ⟨lg, hlg⟩ : ∃ l, leftL (t.addF ⟨rn, many, tn, M2, H2⟩) = l := ⟨_, rfl⟩
                                            have hle := HNR.out.left (t := t)
                                            have hk := Hk.out
                                            have hl := Hl.out
                                            rw [hlf, hlg] at hle
                                            rw [hlf] at hk ⊢
                                            rw [hlg] at hl ⊢
                                            obtain ⟨hle, hmem⟩ := hle
                                            have HK := Lib.hid hk
                                            have HL := Lib.hid hl
                                            have HMEM := Lib.hid hmem
                                            have hln : ¬ (lf.length : Int) < (lg.length : Int) := by omega
                                            clear hmem hlf hlg hle Hk Hl hk hl
                                            go_simp
                                            repeat (first | go_values | go_skip | go_guarded | go_step | go_upon | go_back)
                                            clear hln
                                            obtain ⟨Al', cl', e, _, _, hlc⟩ := HL.out.open_
                                            injection e with eA eN eC
                                            subst eA
                                            subst eC
                                            have HLC := Lib.hid hlc
                                            clear eN hlc
                                            go_loopw [27] (fun i wr => ∃ k : Nat, k ≤ lg.length ∧ i = I k ∧ Hid (Below w23.heap.size w23 wr)) (fun i _ => lg.length - (intOf i).toNat)
                                            case atStart => exact ⟨0, by omega, rfl, Lib.hid (Below.refl _ _)⟩
                                            case round =>
                                              obtain ⟨k, hk, rfl, HB⟩ := hrel
                                              by_cases hlt : k < lg.length
                                              · obtain ⟨b, o, hA, hbl, hcell⟩ := HLC.out (by omega)
                                                subst hA
                                                have x0 := keep_cell HB.out (hcell k hlt)
                                                clear hcell hbl
                                                have hki : (k : Int) < (lg.length : Int) := by omega
                                                have hme := HMEM.out _ (List.getElem_mem hlt)
                                                obtain ⟨x, hx⟩ : ∃ x, lg[k] = x := ⟨_, rfl⟩
                                                rw [hx] at x0 hme
                                                have HME := Lib.hid hme
                                                clear hx hme
                                                go_wp2_with fail
                                                clear x0
                                                refine (in_any _ lf x _ (HK.out.below HB.out)).mono ?_
                                                rintro e wb ⟨rfl, hb⟩
                                                rw [decide_eq_true HME.out]
                                                replace HB := Lib.hid (bto HB.out hb)
                                                clear hb
                                                go_wp2_with fail
                                                go_roundw
                                                case rel => exact ⟨k + 1, by omega, by go_num, HB⟩
                                                case measure => first | (simp [intOf]; done) | (simp [intOf]; omega)
                                              · have hki : ¬ (k : Int) < (lg.length : Int) := by omega
                                                go_wp2_with fail
                                                refine (sunk_any _ ((HT.out.below S.out.bel).below HB.out)).mono ?_
                                                rintro e wb ⟨rfl, hb⟩
                                                go_wp2_with fail
                                                go_ret
                                                exact ⟨rfl, bto (bto S.out.bel HB.out) hb⟩
                                    · go_wp2_with fail
                                      refine (sunk_any _ (HT.out.below S.out.bel)).mono ?_
                                      rintro e w17 ⟨rfl, hb⟩
                                      replace HBO := Lib.hid (bto HBO.out hb)
                                      replace S := Lib.hid (S.out.call hb)
                                      clear hb
                                      go_wp2_with fail
                                      go_ret
                                      exact ⟨rfl, S.out.bel⟩
                                  · have q_a0 := S.out.get 7 0 rfl rfl
                                    have q_a1 := S.out.get 7 1 rfl rfl
                                    have q_a2 := S.out.get 7 2 rfl rfl
                                    have q_x4 := S.out.get 4 4 rfl rfl
                                    have q_x5 := S.out.get 4 5 rfl rfl
                                    have q_x6 := S.out.get 4 6 rfl rfl
                                    go_wp2_with fail
                                    refine (sounded_any _ A s _ ⟨_, _, rfl, HA1.out.below S.out.bel, HA2.out.below S.out.bel⟩ (by have := (farB_false HFA.out).1; omega) (by have := (farB_false HFA.out).2.1; omega)).mono ?_
                                    rintro e w14 ⟨vm, rfl, ⟨rvm, svm, rfl, hm1, hm2⟩, hb⟩
                                    obtain ⟨Am1, cm1, rfl⟩ := own_shape hm1
                                    obtain ⟨Am2, cm2, rfl⟩ := own_shape hm2
                                    replace HBO := Lib.hid (bto HBO.out hb)
                                    replace S := Lib.hid (S.out.take2 hb hm1 hm2 (by decide))
                                    clear hb hm1 hm2
                                    clear q_a0 q_a1 q_a2 q_x4 q_x5 q_x6
                                    replace HBO := Lib.hid (bto HBO.out ((Below.refl _ _).alloc (Nat.le_refl _) (.cells #[I (addS A s).wells, .slice Am1 (addS A s).snd.length cm1, .slice Am2 (addS A s).slp.length cm2] 25)))
                                    replace S := Lib.hid (S.out.alloc [I (addS A s).wells, .slice Am1 (addS A s).snd.length cm1, .slice Am2 (addS A s).slp.length cm2] 25)
                                    have q_m0 := S.out.get 0 0 rfl rfl
                                    have q_m1 := S.out.get 0 1 rfl rfl
                                    have q_m2 := S.out.get 0 2 rfl rfl
                                    go_wp2_with fail
                                    refine (far_any _ (addS A s) _ ⟨_, _, rfl, S.out.row 1 rfl, S.out.row 2 rfl⟩).mono ?_
                                    rintro e w15 ⟨rfl, hb⟩
                                    replace HBO := Lib.hid (bto HBO.out hb)
                                    replace S := Lib.hid (S.out.call hb)
                                    clear hb
                                    clear q_m0 q_m1 q_m2
                                    cases hfm : farB (addS A s)
                                    · have q_m0 := S.out.get 0 0 rfl rfl
                                      have q_m1 := S.out.get 0 1 rfl rfl
                                      have q_m2 := S.out.get 0 2 rfl rfl
                                      go_wp2_with fail
                                      have HFM := Lib.hid hfm
                                      clear hfm
                                      refine (rCheck_any _ (addS A s) _ ⟨_, _, rfl, S.out.row 1 rfl, S.out.row 2 rfl⟩).mono ?_
                                      rintro e w16 ⟨rfl, hb⟩
                                      replace HBO := Lib.hid (bto HBO.out hb)
                                      replace S := Lib.hid (S.out.call hb)
                                      clear hb
                                      clear q_m0 q_m1 q_m2
                                      cases hvm : valid (addS A s)
                                      · rw [show chk (addS A s) = 10 from by simp [chk, hvm]]
                                        go_wp2_with fail
                                        refine (sunk_any _ (HT.out.below S.out.bel)).mono ?_
                                        rintro e w17 ⟨rfl, hb⟩
                                        replace HBO := Lib.hid (bto HBO.out hb)
                                        replace S := Lib.hid (S.out.call hb)
                                        clear hb
                                        go_wp2_with fail
                                        go_ret
                                        exact ⟨rfl, S.out.bel⟩
                                      · rw [show chk (addS A s) = 0 from by simp [chk, hvm]]
                                        have q_m0 := S.out.get 0 0 rfl rfl
                                        have q_m1 := S.out.get 0 1 rfl rfl
                                        have q_m2 := S.out.get 0 2 rfl rfl
                                        go_wp2_with fail
                                        have HVM := Lib.hid hvm
                                        clear hvm
                                        refine (isOne_any _ (addS A s) _ ⟨_, _, rfl, S.out.row 1 rfl, S.out.row 2 rfl⟩ (valid_vl HVM.out) (by have := (farB_false HFM.out).1; omega) (by have := (farB_false HFM.out).2.1; omega)).mono ?_
                                        rintro e w17 ⟨rfl, hb⟩
                                        replace HBO := Lib.hid (bto HBO.out hb)
                                        replace S := Lib.hid (S.out.call hb)
                                        clear hb
                                        clear q_m0 q_m1 q_m2
                                        cases hdm : diagOk (closeM (baseM (addS A s)))
                                        · go_wp2_with fail
                                          refine (sunk_any _ (HT.out.below S.out.bel)).mono ?_
                                          rintro e w18 ⟨rfl, hb⟩
                                          replace HBO := Lib.hid (bto HBO.out hb)
                                          replace S := Lib.hid (S.out.call hb)
                                          clear hb
                                          go_wp2_with fail
                                          go_ret
                                          exact ⟨rfl, S.out.bel⟩
                                        · have hom := more_open HVM.out hdm
                                          have hwt : (tn : Int) < A.wells := by have := (inR_iff.1 HTO.out).2; have := HWA.out; omega
                                          obtain ⟨lm1, lm2⟩ := lev_open hom (n := tn) hwt
                                          obtain ⟨lm3, lm4⟩ := lev_more (s := s) hwt HOA.out hom
                                          rw [HLV.out] at lm3 lm4
                                          obtain ⟨⟨ml, mh⟩, hml⟩ : ∃ p, lvl (closeM (baseM (addS A s))) tn = p := ⟨_, rfl⟩
                                          rw [hml] at lm1 lm2 lm3 lm4
                                          dsimp only at lm2 lm3 lm4
                                          obtain ⟨M2, hM2⟩ : ∃ M, max 0 (ml - rh) = M := ⟨_, rfl⟩
                                          obtain ⟨H2, hH2⟩ : ∃ H, mh - rl = H := ⟨_, rfl⟩
                                          have hnw : M ≤ M2 ∧ H2 ≤ H ∧ 0 ≤ M2 := by have := HM.out; have := HH.out; omega
                                          have HLM := Lib.hid lm1
                                          have HBM := Lib.hid (show 0 ≤ ml ∧ ml ≤ mh ∧ mh ≤ 99 by have := HBD.out; omega)
                                          have HM2 := Lib.hid hM2
                                          have HH2 := Lib.hid hH2
                                          have HNW := Lib.hid hnw
                                          clear hom hwt lm1 lm2 lm3 lm4 hml hM2 hH2 hnw
                                          have q_m0 := S.out.get 0 0 rfl rfl
                                          have q_m1 := S.out.get 0 1 rfl rfl
                                          have q_m2 := S.out.get 0 2 rfl rfl
                                          have q_b0 := S.out.get 9 0 rfl rfl
                                          have q_b1 := S.out.get 9 1 rfl rfl
                                          have q_b2 := S.out.get 9 2 rfl rfl
                                          have q_x0 := S.out.get 7 0 rfl rfl
                                          have q_x1 := S.out.get 7 1 rfl rfl
                                          have q_x2 := S.out.get 7 2 rfl rfl
                                          have q_x3 := S.out.get 7 3 rfl rfl
                                          have q_x4 := S.out.get 7 4 rfl rfl
                                          have q_x5 := S.out.get 7 5 rfl rfl
                                          have q_x6 := S.out.get 7 6 rfl rfl
                                          go_wp2_with fail
                                          have HDM := Lib.hid hdm
                                          clear hdm
                                          refine (sinks_any _ _ (addS A s) B rn many tn dn s.well s.low s.high ml mh rl rh _ ⟨_, _, rfl, S.out.row 1 rfl, S.out.row 2 rfl⟩ ⟨_, _, rfl, HB1.out.below S.out.bel, HB2.out.below S.out.bel⟩ HLM.out HLB.out (by have := HBM.out; omega) (by have := HBM.out; omega) (by have := HBM.out; omega) (by have := HBD.out; omega) (by have := HBD.out; omega) (by have := HBD.out; omega)).mono ?_
                                          rintro e w18 ⟨rfl, hb⟩
                                          rw [HM2.out, HH2.out]
                                          replace HBO := Lib.hid (bto HBO.out hb)
                                          replace S := Lib.hid (S.out.call hb)
                                          clear hb
                                          clear q_m0 q_m1 q_m2 q_b0 q_b1 q_b2 q_x0 q_x1 q_x2 q_x3 q_x4 q_x5 q_x6
                                          have hz := S.out.lt 4 rfl
                                          replace HBO := Lib.hid (bto HBO.out ((Below.refl _ _).alloc (Nat.le_refl _) (.cells #[I rn, I many, I tn, I M2, I H2] 49)))
                                          replace S := Lib.hid (S.out.alloc [I rn, I many, I tn, I M2, I H2] 49)
                                          have hn1 : ¬ H < H2 := by have := HNW.out; omega
                                          by_cases hmh : H2 < M2
                                          · have q_f4 := S.out.get (v := I H) 5 4 rfl rfl
                                            have q_g3 := S.out.get (v := I M2) 0 3 rfl rfl
                                            have q_g4 := S.out.get (v := I H2) 0 4 rfl rfl
                                            go_simp
                                            repeat (first | go_values | go_skip | go_guarded | go_step | go_upon | go_back)
                                            clear hn1 hz
                                            refine (sunk_any _ (HT.out.below S.out.bel)).mono ?_
                                            rintro e w19 ⟨rfl, hb⟩
                                            replace HBO := Lib.hid (bto HBO.out hb)
                                            replace S := Lib.hid (S.out.call hb)
                                            clear hb
                                            clear q_f4 q_g3 q_g4
                                            go_wp2_with fail
                                            go_ret
                                            exact ⟨rfl, S.out.bel⟩
                                          · have q_f4 := S.out.get (v := I H) 5 4 rfl rfl
                                            have q_q0 := S.out.get 9 0 rfl rfl
                                            have q_q1 := S.out.get 9 1 rfl rfl
                                            have q_q2 := S.out.get 9 2 rfl rfl
                                            have q_g0 := S.out.get (v := I rn) 0 0 rfl rfl
                                            have q_g1 := S.out.get (v := I many) 0 1 rfl rfl
                                            have q_g2 := S.out.get (v := I tn) 0 2 rfl rfl
                                            have q_g3 := S.out.get (v := I M2) 0 3 rfl rfl
                                            have q_g4 := S.out.get (v := I H2) 0 4 rfl rfl
                                            go_simp
                                            repeat (first | go_values | go_skip | go_guarded | go_step | go_upon | go_back)
                                            clear hn1 hz
                                            have HMH := Lib.hid hmh
                                            clear hmh
                                            refine (told_any _ t ⟨rn, many, tn, M2, H2⟩ _ ⟨_, _, rfl, HQ1.out.below S.out.bel, HQ2.out.below S.out.bel⟩ (hugeQ_small HHQ.out)).mono ?_
                                            rintro e w19 ⟨wvo, fvo, rfl, Its, T, hW⟩
                                            obtain ⟨ho1, ho2⟩ := told_open T hW
                                            obtain ⟨Ap1, cp1, rfl, -, -, -⟩ := id ho1.open_
                                            obtain ⟨Ap2, cp2, rfl, -, -, -⟩ := id ho2.open_
                                            have HP1 := Lib.hid ho1
                                            have HP2 := Lib.hid ho2
                                            replace HBO := Lib.hid (bto HBO.out T.bel)
                                            have HBP := Lib.hid (Below.refl w19.heap.size w19)
                                            replace S := Lib.hid (S.out.call T.bel)
                                            clear T hW ho1 ho2
                                            clear q_f4 q_q0 q_q1 q_q2 q_g0 q_g1 q_g2 q_g3 q_g4
                                            replace HBO := Lib.hid (bto HBO.out ((Below.refl _ _).alloc (Nat.le_refl _) (.cells #[I t.wells, .slice Ap1 (t.addF ⟨rn, many, tn, M2, H2⟩).wds.length cp1, .slice Ap2 (t.addF ⟨rn, many, tn, M2, H2⟩).fcs.length cp2] 29)))
                                            replace HBP := Lib.hid (bto HBP.out ((Below.refl _ _).alloc (Nat.le_refl _) (.cells #[I t.wells, .slice Ap1 (t.addF ⟨rn, many, tn, M2, H2⟩).wds.length cp1, .slice Ap2 (t.addF ⟨rn, many, tn, M2, H2⟩).fcs.length cp2] 29)))
                                            replace S := Lib.hid (S.out.alloc [I t.wells, .slice Ap1 (t.addF ⟨rn, many, tn, M2, H2⟩).wds.length cp1, .slice Ap2 (t.addF ⟨rn, many, tn, M2, H2⟩).fcs.length cp2] 29)
                                            have hnw : Nrw ⟨rn, many, tn, M, H⟩ ⟨rn, many, tn, M2, H2⟩ := ⟨rfl, rfl, rfl, HNW.out.1, HNW.out.2.1⟩
                                            have hvp : qValid (t.addF ⟨rn, many, tn, M2, H2⟩) = true := hnw.valid HVO.out HNW.out.2.2 (by have := HMH.out; dsimp only; omega)
                                            have HVP := Lib.hid hvp
                                            have HNR := Lib.hid hnw
                                            clear hnw hvp
                                            have q_p0 := S.out.get 0 0 rfl rfl
                                            have q_p1 := S.out.get 0 1 rfl rfl
                                            have q_p2 := S.out.get 0 2 rfl rfl
                                            go_wp2_with fail
                                            refine (rCheck5_any _ (t.addF ⟨rn, many, tn, M2, H2⟩) _ ⟨_, _, rfl, HP1.out.below HBP.out, HP2.out.below HBP.out⟩).mono ?_
                                            rintro e w20 ⟨rfl, hb⟩
                                            rw [show qChk (t.addF ⟨rn, many, tn, M2, H2⟩) = 0 from by simp [qChk, HVP.out]]
                                            replace HBO := Lib.hid (bto HBO.out hb)
                                            replace HBP := Lib.hid (bto HBP.out hb)
                                            replace S := Lib.hid (S.out.call hb)
                                            clear hb
                                            clear q_p0 q_p1 q_p2
                                            have q_o0 := S.out.get 5 0 rfl rfl
                                            have q_o1 := S.out.get 5 1 rfl rfl
                                            have q_o2 := S.out.get 5 2 rfl rfl
                                            go_wp2_with fail
                                            refine (left_any _ (t.addF ⟨rn, many, tn, M, H⟩) _ ⟨_, _, rfl, HO1.out.below HBO.out, HO2.out.below HBO.out⟩ HVO.out (HT.out.below S.out.bel)).mono ?_
                                            rintro e w21 ⟨vk, rfl, hl, hb⟩
                                            obtain ⟨Ak, ck, rfl, -, -, -⟩ := id hl.open_
                                            have Hk := Lib.hid hl
                                            clear hl
                                            replace HBO := Lib.hid (bto HBO.out hb)
                                            replace HBP := Lib.hid (bto HBP.out hb)
                                            replace S := Lib.hid (S.out.call hb)
                                            clear hb
                                            clear q_o0 q_o1 q_o2
                                            have q_p0 := S.out.get 0 0 rfl rfl
                                            have q_p1 := S.out.get 0 1 rfl rfl
                                            have q_p2 := S.out.get 0 2 rfl rfl
                                            go_wp2_with fail
                                            refine (left_any _ (t.addF ⟨rn, many, tn, M2, H2⟩) _ ⟨_, _, rfl, HP1.out.below HBP.out, HP2.out.below HBP.out⟩ HVP.out (HT.out.below S.out.bel)).mono ?_
                                            rintro e w22 ⟨vl, rfl, hl, hb⟩
                                            obtain ⟨Al, cl, rfl, -, -, -⟩ := id hl.open_
                                            have Hl := Lib.hid hl
                                            clear hl
                                            replace Hk := Lib.hid (Ints.below Hk.out hb)
                                            replace HBO := Lib.hid (bto HBO.out hb)
                                            replace HBP := Lib.hid (bto HBP.out hb)
                                            replace S := Lib.hid (S.out.call hb)
                                            clear hb
                                            clear q_p0 q_p1 q_p2
                                            obtain ⟨lf, hlf⟩ : ∃ l, leftL (t.addF ⟨rn, many, tn, M, H⟩) = l := ⟨_, rfl⟩
                                            obtain ⟨lg, hlg⟩ : ∃ l, leftL (t.addF ⟨rn, many, tn, M2, H2⟩) = l := ⟨_, rfl⟩
                                            have hle := HNR.out.left (t := t)
                                            have hk := Hk.out
                                            have hl := Hl.out
                                            rw [hlf, hlg] at hle
                                            rw [hlf] at hk ⊢
                                            rw [hlg] at hl ⊢
                                            obtain ⟨hle, hmem⟩ := hle
                                            have HK := Lib.hid hk
                                            have HL := Lib.hid hl
                                            have HMEM := Lib.hid hmem
                                            have hln : ¬ (lf.length : Int) < (lg.length : Int) := by omega
                                            clear hmem hlf hlg hle Hk Hl hk hl
                                            go_simp
                                            repeat (first | go_values | go_skip | go_guarded | go_step | go_upon | go_back)
                                            clear hln
                                            obtain ⟨Al', cl', e, _, _, hlc⟩ := HL.out.open_
                                            injection e with eA eN eC
                                            subst eA
                                            subst eC
                                            have HLC := Lib.hid hlc
                                            clear eN hlc
                                            go_loopw [27] (fun i wr => ∃ k : Nat, k ≤ lg.length ∧ i = I k ∧ Hid (Below w22.heap.size w22 wr)) (fun i _ => lg.length - (intOf i).toNat)
                                            case atStart => exact ⟨0, by omega, rfl, Lib.hid (Below.refl _ _)⟩
                                            case round =>
                                              obtain ⟨k, hk, rfl, HB⟩ := hrel
                                              by_cases hlt : k < lg.length
                                              · obtain ⟨b, o, hA, hbl, hcell⟩ := HLC.out (by omega)
                                                subst hA
                                                have x0 := keep_cell HB.out (hcell k hlt)
                                                clear hcell hbl
                                                have hki : (k : Int) < (lg.length : Int) := by omega
                                                have hme := HMEM.out _ (List.getElem_mem hlt)
                                                obtain ⟨x, hx⟩ : ∃ x, lg[k] = x := ⟨_, rfl⟩
                                                rw [hx] at x0 hme
                                                have HME := Lib.hid hme
                                                clear hx hme
                                                go_wp2_with fail
                                                clear x0
                                                refine (in_any _ lf x _ (HK.out.below HB.out)).mono ?_
                                                rintro e wb ⟨rfl, hb⟩
                                                rw [decide_eq_true HME.out]
                                                replace HB := Lib.hid (bto HB.out hb)
                                                clear hb
                                                go_wp2_with fail
                                                go_roundw
                                                case rel => exact ⟨k + 1, by omega, by go_num, HB⟩
                                                case measure => first | (simp [intOf]; done) | (simp [intOf]; omega)
                                              · have hki : ¬ (k : Int) < (lg.length : Int) := by omega
                                                go_wp2_with fail
                                                refine (sunk_any _ ((HT.out.below S.out.bel).below HB.out)).mono ?_
                                                rintro e wb ⟨rfl, hb⟩
                                                go_wp2_with fail
                                                go_ret
                                                exact ⟨rfl, bto (bto S.out.bel HB.out) hb⟩
                                    · go_wp2_with fail
                                      refine (sunk_any _ (HT.out.below S.out.bel)).mono ?_
                                      rintro e w16 ⟨rfl, hb⟩
                                      replace HBO := Lib.hid (bto HBO.out hb)
                                      replace S := Lib.hid (S.out.call hb)
                                      clear hb
                                      go_wp2_with fail
                                      go_ret
                                      exact ⟨rfl, S.out.bel⟩
                            · replace S := Lib.hid (S.out.call hb)
                              clear hb hslb
                              clear q_b0 q_b1 q_b2
                              go_wp2_with fail
                              refine (sunk_any _ (HT.out.below S.out.bel)).mono ?_
                              rintro e w13 ⟨rfl, hb⟩
                              replace S := Lib.hid (S.out.call hb)
                              clear hb
                              go_wp2_with fail
                              go_ret
                              exact ⟨rfl, S.out.bel⟩
                          · replace S := Lib.hid (S.out.call hb)
                            clear hb hsla
                            clear q_a0 q_a1 q_a2
                            have q_b0 := S.out.get 2 0 rfl rfl
                            have q_b1 := S.out.get 2 1 rfl rfl
                            have q_b2 := S.out.get 2 2 rfl rfl
                            go_wp2_with fail
                            refine (spans_any _ B _ ⟨_, _, rfl, HB1.out.below S.out.bel, HB2.out.below S.out.bel⟩ (valid_vl HVB.out) (by have := (farB_false HFB.out).1; omega) (by have := (farB_false HFB.out).2.1; omega)).mono ?_
                            rintro e w12 (⟨lb, v, hslb, rfl, ho, hb⟩ | ⟨hslb, rfl, hb⟩)
                            · obtain ⟨Alb, clb, rfl⟩ := own_shape ho
                              have HSlb := Lib.hid hslb
                              replace S := Lib.hid (S.out.take hb ho)
                              clear hb ho hslb
                              clear q_b0 q_b1 q_b2
                              go_wp2_with fail
                              refine (sunk_any _ (HT.out.below S.out.bel)).mono ?_
                              rintro e w13 ⟨rfl, hb⟩
                              replace S := Lib.hid (S.out.call hb)
                              clear hb
                              go_wp2_with fail
                              go_ret
                              exact ⟨rfl, S.out.bel⟩
                            · replace S := Lib.hid (S.out.call hb)
                              clear hb hslb
                              clear q_b0 q_b1 q_b2
                              go_wp2_with fail
                              refine (sunk_any _ (HT.out.below S.out.bel)).mono ?_
                              rintro e w13 ⟨rfl, hb⟩
                              replace S := Lib.hid (S.out.call hb)
                              clear hb
                              go_wp2_with fail
                              go_ret
                              exact ⟨rfl, S.out.bel⟩
                · have q_a0 := S.out.get 3 0 rfl rfl
                  have q_b0 := S.out.get 2 0 rfl rfl
                  have q_q0 := S.out.get 1 0 rfl rfl
                  go_wp2_with fail
                  refine (sunk_any _ (HT.out.below S.out.bel)).mono ?_
                  rintro e w7 ⟨rfl, hb⟩
                  replace S := Lib.hid (S.out.call hb)
                  clear hb
                  clear q_a0 q_b0 q_q0
                  go_wp2_with fail
                  go_ret
                  exact ⟨rfl, S.out.bel⟩
              · have q_a0 := S.out.get 3 0 rfl rfl
                have q_q0 := S.out.get 1 0 rfl rfl
                go_wp2_with fail
                refine (sunk_any _ (HT.out.below S.out.bel)).mono ?_
                rintro e w7 ⟨rfl, hb⟩
                replace S := Lib.hid (S.out.call hb)
                clear hb
                clear q_a0 q_q0
                go_wp2_with fail
                go_ret
                exact ⟨rfl, S.out.bel⟩
          · go_wp2_with fail
            refine (sunk_any _ (HT.out.below S.out.bel)).mono ?_
            rintro e w6 ⟨rfl, hb⟩
            replace S := Lib.hid (S.out.call hb)
            clear hb
            go_wp2_with fail
            go_ret
            exact ⟨rfl, S.out.bel⟩
    · go_wp2_with fail
      refine (sunk_any _ (HT.out.below S.out.bel)).mono ?_
      rintro e w3 ⟨rfl, hb⟩
      replace S := Lib.hid (S.out.call hb)
      clear hb
      go_wp2_with fail
      go_ret
      exact ⟨rfl, S.out.bel⟩
  · go_wp2_with fail
    refine (sunk_any _ (HT.out.below S.out.bel)).mono ?_
    rintro e w2 ⟨rfl, hb⟩
    replace S := Lib.hid (S.out.call hb)
    clear hb
    go_wp2_with fail
    go_ret
    exact ⟨rfl, S.out.bel⟩

end Go.Proofs.YtldcehhhndlhdaaDoor
