/- AqueductBack: the law walked. -/
import Derived.Test.YtbddaemekgflmaaRow
import Derived.Test.YtbddaemekgflmaaW22
namespace Go.Proofs.Ytbddaemekgflmaa
open Go.RowKit Go.Sort

set_option maxRecDepth 100000 in
set_option maxHeartbeats 1500000 in
theorem lawBack_any (v : Value) (d : DLine) (f t x y : Int) (w : World) (hv : LineAt w v d) :
    Calls Try.prog 3 #[v, .agg #[I f, I t, I x, I y]] w fun e w' => e = .returned (.bool true) ∧ Below w.heap.size w w' := by
  have HV := Lib.hid hv
  obtain ⟨pv, ov, rfl, hp, ho⟩ := hv
  obtain ⟨A, c1, rfl, hac, hcm, hoc⟩ := id ho.open_
  obtain ⟨A', c2, rfl, hac', hcm', hpc⟩ := id hp.open_
  have HPC := Lib.hid hpc
  have HOC := Lib.hid hoc
  have B0 := (Box2.new w (.slice A' d.pts.length c2) (.slice A d.odds.length c1) 25).old (.cells #[I f, I t, I x, I y] 27)
  have S0 := Cells.new (w.alloc (.cells #[.slice A' d.pts.length c2, .slice A d.odds.length c1] 25)) [I f, I t, I x, I y] 27
  have hs1 : (w.alloc (.cells #[.slice A' d.pts.length c2, .slice A d.odds.length c1] 25)).heap.size = w.heap.size + 1 := by simp
  rw [hs1] at S0
  have HB0 := Lib.hid (show Below w.heap.size w ((w.alloc (.cells #[.slice A' d.pts.length c2, .slice A d.odds.length c1] 25)).alloc (.cells #[I f, I t, I x, I y] 27)) from ((Below.refl _ _).alloc (Nat.le_refl _) _).alloc (by simp) _)
  clear hp ho hs1 hoc hpc
  cases h1 : valid d
  · go_enter Try.func3, Try.ntmps3
    go_wp2_with (first | (go_at_call 15; refine (ready_any _ d _ (HV.out.below HB0.out)).mono ?_; rintro e w1 ⟨rfl, hb⟩; rw [h1]; have HB1 := Lib.hid (bto HB0.out hb); clear hb) | (go_at_call 18; refine (works_any _).mono ?_; rintro e w2 ⟨rfl, hb⟩; have HB2 := Lib.hid (bto HB1.out hb); clear hb))
    go_ret
    exact ⟨rfl, HB2.out⟩
  · obtain ⟨hn7, hnp, -⟩ := valid_spec h1
    have HNP := Lib.hid hnp
    have hl1 : d.odds.length ≤ 1000 := by omega
    have hl2 : d.pts.length ≤ 1000 := by omega
    have hpos : 0 < d.pts.length := by omega
    clear hnp
    cases h2 : someOf d f t
    · go_enter Try.func3, Try.ntmps3
      go_wp2_with (first | (go_at_call 15; refine (ready_any _ d _ (HV.out.below HB0.out)).mono ?_; rintro e w1 ⟨rfl, hb⟩; rw [h1]; have HB1 := Lib.hid (bto HB0.out hb); have B1 := B0.keep hb; have S1 := S0.keep hb; obtain ⟨x0, x1, x2, x3⟩ := id B1; have s0 := S1 0 _ rfl; have s1 := S1 1 _ rfl; clear hb) | (go_at_call 16; refine (rAreSome_any _ d _ _ _ (HV.out.below HB1.out) hl1).mono ?_; rintro e w2 ⟨rfl, hb⟩; rw [h2]; have HB2 := Lib.hid (bto HB1.out hb); have B2 := B1.keep hb; have S2 := S1.keep hb; obtain ⟨x0, x1, x2, x3⟩ := id B2; have s2 := S2 2 _ rfl; clear hb) | (go_at_call 18; refine (works_any _).mono ?_; rintro e w3 ⟨rfl, hb⟩; have HB3 := Lib.hid (bto HB2.out hb); clear hb))
      go_ret
      exact ⟨rfl, HB3.out⟩
    · obtain ⟨hf0, hft, htn⟩ := someOf_spec h2
      cases h3 : isPt d x
      · have H2 := Lib.hid h2
        clear h2
        go_enter Try.func3, Try.ntmps3
        go_wp2_with (first | (go_at_call 15; refine (ready_any _ d _ (HV.out.below HB0.out)).mono ?_; rintro e w1 ⟨rfl, hb⟩; rw [h1]; have HB1 := Lib.hid (bto HB0.out hb); have B1 := B0.keep hb; have S1 := S0.keep hb; obtain ⟨x0, x1, x2, x3⟩ := id B1; have s0 := S1 0 _ rfl; have s1 := S1 1 _ rfl; clear hb) | (go_at_call 16; refine (rAreSome_any _ d _ _ _ (HV.out.below HB1.out) hl1).mono ?_; rintro e w2 ⟨rfl, hb⟩; rw [H2.out]; have HB2 := Lib.hid (bto HB1.out hb); have B2 := B1.keep hb; have S2 := S1.keep hb; obtain ⟨x0, x1, x2, x3⟩ := id B2; have s2 := S2 2 _ rfl; clear hb) | (go_at_call 17; refine (rIsPt_any _ d _ _ (HV.out.below HB2.out) hl2).mono ?_; rintro e w3 ⟨rfl, hb⟩; rw [h3]; have HB3 := Lib.hid (bto HB2.out hb); have B3 := B2.keep hb; have S3 := S2.keep hb; obtain ⟨x0, x1, x2, x3⟩ := id B3; clear hb) | (go_at_call 18; refine (works_any _).mono ?_; rintro e w4 ⟨rfl, hb⟩; have HB4 := Lib.hid (bto HB3.out hb); clear hb))
        go_ret
        exact ⟨rfl, HB4.out⟩
      · obtain ⟨hx0, hx1⟩ := isPt_spec h3
        have H2 := Lib.hid h2
        have H3 := Lib.hid h3
        obtain ⟨f, rfl⟩ := Int.eq_ofNat_of_zero_le hf0
        obtain ⟨t, rfl⟩ := Int.eq_ofNat_of_zero_le (show 0 ≤ t by omega)
        obtain ⟨x, rfl⟩ := Int.eq_ofNat_of_zero_le hx0
        have hn0 : 0 < d.odds.length := by omega
        obtain ⟨⟨a1, e1⟩, hR1⟩ : ∃ r, worstR d f t = r := ⟨_, rfl⟩
        obtain ⟨⟨⟨a2, b2⟩, e2⟩, hR2⟩ : ∃ r, avgR d f t = r := ⟨_, rfl⟩
        obtain ⟨⟨a3, e3⟩, hR3⟩ : ∃ r, freeR d x = r := ⟨_, rfl⟩
        have HM := Lib.hid (back_mirror HNP.out)
        have hm := mirror_some HM.out h1 f t (by omega) (by omega)
        have hf := mirror_free HM.out h1 x (by have := HNP.out; omega)
        rw [hR1, hR2] at hm
        rw [hR3] at hf
        have ce1 : ((d.odds.length - t : Nat) : Int) = (d.odds.length : Int) - (t : Int) := by omega
        have ce2 : ((d.odds.length - f : Nat) : Int) = (d.odds.length : Int) - (f : Int) := by omega
        have ce3 : ((d.odds.length - x : Nat) : Int) = (d.odds.length : Int) - (x : Int) := by have := HNP.out; omega
        rw [ce1, ce2] at hm
        rw [ce3] at hf
        have HR1 := Lib.hid hR1
        have HR2 := Lib.hid hR2
        have HR3 := Lib.hid hR3
        have HM1 := Lib.hid hm.1
        have HM2 := Lib.hid hm.2
        have HM3 := Lib.hid hf
        have hxn : (x : Int) ≤ (d.odds.length : Int) := by have := HNP.out; omega
        clear h2 h3 hR1 hR2 hR3 hm hf ce1 ce2 ce3
        go_enter Try.func3, Try.ntmps3
        go_wp2_with (first | (go_at_call 15; refine (ready_any _ d _ (HV.out.below HB0.out)).mono ?_; rintro e w1 ⟨rfl, hb⟩; rw [h1]; have HB1 := Lib.hid (bto HB0.out hb); have B1 := B0.keep hb; have S1 := S0.keep hb; obtain ⟨x0, x1, x2, x3⟩ := id B1; have s0 := S1 0 _ rfl; have s1 := S1 1 _ rfl; clear hb) | (go_at_call 16; refine (rAreSome_any _ d _ _ _ (HV.out.below HB1.out) hl1).mono ?_; rintro e w2 ⟨rfl, hb⟩; rw [H2.out]; have HB2 := Lib.hid (bto HB1.out hb); have B2 := B1.keep hb; have S2 := S1.keep hb; obtain ⟨x0, x1, x2, x3⟩ := id B2; have s2 := S2 2 _ rfl; clear hb) | (go_at_call 17; refine (rIsPt_any _ d _ _ (HV.out.below HB2.out) hl2).mono ?_; rintro e w3 ⟨rfl, hb⟩; rw [H3.out]; have HB3 := Lib.hid (bto HB2.out hb); have B3 := B2.keep hb; have S3 := S2.keep hb; obtain ⟨x0, x1, x2, x3⟩ := id B3; clear hb) | (go_at_call 19; refine (copy_any _ d _ (HV.out.below HB3.out) hl1 hl2).mono ?_; rintro e w4 ⟨v', rfl, hown, hb⟩; obtain ⟨g, cap, Ao, co, rfl, hg1, hg2, hO⟩ := hown.at_ hpos; obtain ⟨go, co', hoe, hgo1, hgo2⟩ := own_shape_pos hO.odds hn0; obtain ⟨rfl, -, rfl⟩ := slice_inj hoe; have HB4 := Lib.hid (bto HB3.out hb); have B4 := B3.keep hb; have S4 := S3.keep hb; have HO := Lib.hid hO; have HQ := Lib.hid (And.intro (box_lt S3) (And.intro hg1 (And.intro hg2 (And.intro hgo1 hgo2)))); obtain ⟨x0, x1, x2, x3⟩ := id B4; have hl4 := B4.lt; clear hb hown hO B1 B2 B3 S1 S2 S3 hg1 hg2 hgo1 hgo2))
        have hB4 := Lib.hid (B4.old (.cells #[.slice (some ⟨g, 0, none⟩) d.pts.length cap, .slice (some ⟨go, 0, none⟩) d.odds.length co] 25))
        have hA0 := Lib.hid (show OwnAt (w4.alloc (.cells #[.slice (some ⟨g, 0, none⟩) d.pts.length cap, .slice (some ⟨go, 0, none⟩) d.odds.length co] 25)) w3.heap.size g cap (.slice (some ⟨go, 0, none⟩) d.odds.length co) (backP d 0) from HO.out.below ((Below.refl _ _).alloc (Nat.le_refl _) _))
        have hB0 := Lib.hid (Box2.new w4 (.slice (some ⟨g, 0, none⟩) d.pts.length cap) (.slice (some ⟨go, 0, none⟩) d.odds.length co) 25)
        have hS4 := Lib.hid (S4.keep ((Below.refl w4.heap.size w4).alloc (Nat.le_refl _) (.cells #[.slice (some ⟨g, 0, none⟩) d.pts.length cap, .slice (some ⟨go, 0, none⟩) d.odds.length co] 25)))
        have hW4 := Lib.hid (HB4.out.alloc (Nat.le_of_lt hl4) (.cells #[.slice (some ⟨g, 0, none⟩) d.pts.length cap, .slice (some ⟨go, 0, none⟩) d.odds.length co] 25))
        clear B4 S4 x0 x1 x2 x3 s0 s1 s2
        obtain ⟨q1, q2, q3, q4, q5⟩ := HQ.out
        obtain ⟨bs, hbs⟩ : ∃ bs, w3.heap.size = bs := ⟨_, rfl⟩
        obtain ⟨bx, hbx⟩ : ∃ bx, w4.heap.size = bx := ⟨_, rfl⟩
        rw [hbs] at q1 q2 q4 hA0
        rw [hbx] at q3 q5 hB0
        have HQ := Lib.hid (And.intro q1 (And.intro q2 (And.intro q3 (And.intro q4 q5))))
        clear q1 q2 q3 q4 q5 hbs
        rw [hbx]
        go_loopw [7] (fun i wr => ∃ k : Nat, k ≤ d.odds.length + 1 ∧ i = I k ∧ Hid (OwnAt wr bs g cap (.slice (some ⟨go, 0, none⟩) d.odds.length co) (backP d k)) ∧ Hid (Box2 wr bx (.slice (some ⟨g, 0, none⟩) d.pts.length cap) (.slice (some ⟨go, 0, none⟩) d.odds.length co)) ∧ Hid (Box2 wr w.heap.size (.slice A' d.pts.length c2) (.slice A d.odds.length c1)) ∧ Hid (Cells wr (w.heap.size + 1) [I f, I t, I x, I y]) ∧ Hid (Below w.heap.size w wr)) (fun i _ => d.odds.length + 1 - (intOf i).toNat)
        case atStart => exact ⟨0, by omega, rfl, hA0, hB0, hB4, hS4, hW4⟩
        case round =>
          clear hA0 hB0 hB4 hS4 hW4 hbx
          obtain ⟨k, hk, rfl, hA, hB, hB3, hS, hW⟩ := hrel
          by_cases hlt : k ≤ d.odds.length
          · have hkp : k < d.pts.length := by have := HNP.out; omega
            have hnk : d.odds.length - k < d.pts.length := by have := HNP.out; omega
            obtain ⟨b, o, hbo, hbl, hcell⟩ := HPC.out hpos
            obtain ⟨z0, z1, z2⟩ := hcell _ hnk
            subst hbo
            have i1 : IntKind.i64.wrap ((d.odds.length : Int) - (k : Int)) = ((d.odds.length - k : Nat) : Int) := by rw [IntWalk.i64_in _ (by omega)]; omega
            have i2 : ((d.odds.length - k : Nat) : Int) < (d.pts.length : Int) := by omega
            have i3 : (k : Int) < (d.pts.length : Int) := by omega
            have i4 : (0 : Int) ≤ ((d.odds.length - k : Nat) : Int) := by omega
            have HGD := Lib.hid (show d.pts.getD (d.odds.length - k) default = d.pts[d.odds.length - k] by simp [List.getD, List.getElem?_eq_getElem hnk])
            obtain ⟨y0, y1, y2, y3⟩ := id hB3.out
            go_wp2_with fail
            refine wp_region_seg [] [0, 1, 2, 3, 4, 5, 6, 7, 8, 9] [10, 11] 10 (by kernel_rfl) (by kernel_rfl) ?_
            intro KQ hKQ wn hb
            have j0 := cell_regrown (hB3.out.keep hb).c0
            have j1 := cell_regrown (hB.out.keep hb).c0
            have j2 := cell_regrown (keep_cell (bto hW.out hb) z0)
            have j3 := cell_regrown (keep_cell (bto hW.out hb) z1)
            have j4 := cell_regrown (keep_cell (bto hW.out hb) z2)
            clear y0 y1 y2 y3 z0 z1 z2 hcell
            refine seg_last ?_
            simp only [opsAt, List.filterMap_cons, List.filterMap_nil, List.getElem?_toArray, List.getElem?_cons_succ, List.getElem?_cons_zero]
            repeat (first | go_big_quiet_step (fail) | quiet_step (fail))
            refine wpQuiet_nil ?_
            obtain ⟨u0, u1, u2, c0, c1', c2', g0, g1, g2⟩ := (hA.out.below hb).ptAt k (by rw [(backP_len d k).1]; exact hkp)
            clear j0 j1 j2 j3 j4
            go_wp2_with fail
            go_roundw
            case rel =>
              obtain ⟨q1, q2, q3, q4, q5⟩ := HQ.out
              have hA2 := (hA.out.below hb).pt k d.pts[d.odds.length - k] (by rw [(backP_len d k).1]; exact hkp)
              exact ⟨k + 1, by omega, by go_num, Lib.hid (by
                show OwnAt _ _ _ _ _ (setPt (backP d k) k (d.pts.getD (d.odds.length - k) default))
                rw [HGD.out]
                exact hA2), Lib.hid ((((hB.out.keep hb).other _ _ (by show g ≠ _; omega)).other _ _ (by show g ≠ _; omega)).other _ _ (by show g ≠ _; omega)), Lib.hid ((((hB3.out.keep hb).other _ _ (by show g ≠ _; omega)).other _ _ (by show g ≠ _; omega)).other _ _ (by show g ≠ _; omega)), Lib.hid ((((hS.out.keep hb).other _ _ (by show g ≠ _; omega)).other _ _ (by show g ≠ _; omega)).other _ _ (by show g ≠ _; omega)), Lib.hid ((((bto hW.out hb).setCell (p := ⟨g, k * 3, none⟩) (by show w.heap.size ≤ g; omega) _).setCell (p := ⟨g, k * 3 + 1, none⟩) (by show w.heap.size ≤ g; omega) _).setCell (p := ⟨g, k * 3 + 2, none⟩) (by show w.heap.size ≤ g; omega) _)⟩
            case measure => first | (simp [intOf]; done) | (simp [intOf]; omega)
          · have HK := Lib.hid (show k = d.odds.length + 1 by omega)
            have hki : (d.odds.length : Int) < (k : Int) := by omega
            go_wp2_with fail
            obtain ⟨wo, rfl⟩ : ∃ wo : World, wo = wr := ⟨_, rfl⟩
            have hA0 := Lib.hid (show OwnAt wo bs g cap (.slice (some ⟨go, 0, none⟩) d.odds.length co) (backO d 0) by
              have h := hA.out
              rw [HK.out] at h
              exact h)
            go_loopw [8] (fun i wr => ∃ k : Nat, k ≤ d.odds.length ∧ i = I k ∧ Hid (OwnAt wr bs g cap (.slice (some ⟨go, 0, none⟩) d.odds.length co) (backO d k)) ∧ Hid (Box2 wr bx (.slice (some ⟨g, 0, none⟩) d.pts.length cap) (.slice (some ⟨go, 0, none⟩) d.odds.length co)) ∧ Hid (Box2 wr w.heap.size (.slice A' d.pts.length c2) (.slice A d.odds.length c1)) ∧ Hid (Cells wr (w.heap.size + 1) [I f, I t, I x, I y]) ∧ Hid (Below w.heap.size w wr)) (fun i _ => d.odds.length - (intOf i).toNat)
            case atStart => exact ⟨0, by omega, rfl, hA0, hB, hB3, hS, hW⟩
            case round =>
              clear hA0 hA hB hB3 hS hW
              obtain ⟨j, hj, rfl, hA, hB, hB3, hS, hW⟩ := hrel
              by_cases hlt : j < d.odds.length
              · have hnk : d.odds.length - 1 - j < d.odds.length := by omega
                obtain ⟨b, o, hbo, hbl, hcell⟩ := HOC.out hn0
                have z0 := hcell _ hnk
                subst hbo
                have i0 : IntKind.i64.wrap ((d.odds.length : Int) - 1) = (d.odds.length : Int) - 1 := IntWalk.i64_in _ (by omega)
                have i1 : IntKind.i64.wrap ((d.odds.length : Int) - 1 - (j : Int)) = ((d.odds.length - 1 - j : Nat) : Int) := by rw [IntWalk.i64_in _ (by omega)]; omega
                have i2 : ((d.odds.length - 1 - j : Nat) : Int) < (d.odds.length : Int) := by omega
                have i3 : (j : Int) < (d.odds.length : Int) := by omega
                have i4 : (0 : Int) ≤ ((d.odds.length - 1 - j : Nat) : Int) := by omega
                have HGD := Lib.hid (show d.odds.getD (d.odds.length - 1 - j) 0 = d.odds[d.odds.length - 1 - j] by simp [List.getD, List.getElem?_eq_getElem hnk])
                obtain ⟨y0, y1, y2, y3⟩ := id hB3.out
                go_wp2_with fail
                refine wp_region_seg [] [0, 1, 2, 3, 4, 5, 6, 7, 8, 9, 10] [11, 12] 11 (by kernel_rfl) (by kernel_rfl) ?_
                intro KQ hKQ wn hb
                have jj0 := cell_regrown (hB3.out.keep hb).c1
                have jj1 := cell_regrown (hB.out.keep hb).c1
                have jj2 := cell_regrown (keep_cell (bto hW.out hb) z0)
                clear y0 y1 y2 y3 z0 hcell
                refine seg_last ?_
                simp only [opsAt, List.filterMap_cons, List.filterMap_nil, List.getElem?_toArray, List.getElem?_cons_succ, List.getElem?_cons_zero]
                repeat (first | go_big_quiet_step (fail) | quiet_step (fail))
                refine wpQuiet_nil ?_
                obtain ⟨⟨u0, c0⟩, g0⟩ := (hA.out.below hb).oddAt j (by rw [(backO_len d j).2]; exact hlt)
                clear jj0 jj1 jj2
                go_wp2_with fail
                go_roundw
                case rel =>
                  obtain ⟨q1, q2, q3, q4, q5⟩ := HQ.out
                  have hA1 := hA.out.below hb
                  have hlo := (backO_len d j).2
                  have hA2 : OwnAt (wn.setCell ⟨go, j, none⟩ (I d.odds[d.odds.length - 1 - j])) bs g cap (.slice (some ⟨go, 0, none⟩) d.odds.length co) (setOdd (backO d j) j d.odds[d.odds.length - 1 - j]) := by
                    have h5 : OwnAt wn bs g cap (.slice (some ⟨go, 0, none⟩) (backO d j).odds.length co) (backO d j) := by rw [hlo]; exact hA1
                    have h6 := h5.odd j d.odds[d.odds.length - 1 - j]
                    rw [hlo] at h6
                    exact h6
                  exact ⟨j + 1, by omega, by go_num, Lib.hid (by
                    show OwnAt _ _ _ _ _ (setOdd (backO d j) j (d.odds.getD (d.odds.length - 1 - j) 0))
                    rw [HGD.out]
                    exact hA2), Lib.hid ((hB.out.keep hb).other _ _ (by show go ≠ _; omega)), Lib.hid ((hB3.out.keep hb).other _ _ (by show go ≠ _; omega)), Lib.hid ((hS.out.keep hb).other _ _ (by show go ≠ _; omega)), Lib.hid ((bto hW.out hb).setCell (p := ⟨go, j, none⟩) (by show w.heap.size ≤ go; omega) _)⟩
                case measure => first | (simp [intOf]; done) | (simp [intOf]; omega)
              · obtain rfl : j = d.odds.length := by omega
                have HLN := Lib.hid (show LineAt wr (.agg #[.slice (some ⟨g, 0, none⟩) d.pts.length cap, .slice (some ⟨go, 0, none⟩) d.odds.length co]) (backO d d.odds.length) by
                  have h := hA.out.line.line
                  rw [HM.out.lp] at h
                  exact h)
                have hV := Lib.hid (HM.out.valid h1)
                obtain ⟨D, hD⟩ : ∃ D, backO d d.odds.length = D := ⟨_, rfl⟩
                rw [hD] at HLN HM HM1 HM2 HM3 hV
                clear hA hD
                have hl3 : D.odds.length ≤ 1000 := by rw [HM.out.lo]; exact hl1
                have hl4 : D.pts.length ≤ 1000 := by rw [HM.out.lp]; exact hl2
                obtain ⟨x0, x1, x2, x3⟩ := id hB3.out
                obtain ⟨y0, y1, y2, y3⟩ := id hB.out
                have s0 := hS.out 0 _ rfl
                have s1 := hS.out 1 _ rfl
                have s2 := hS.out 2 _ rfl
                have HB5 := hW
                clear hW
                go_wp2_with (first | (go_at_call 20; refine (worst_any _ d _ _ _ (HV.out.below HB5.out) hl1).mono ?_; rintro e w6 ⟨rfl, hb⟩; rw [HR1.out]; have HB6 := Lib.hid (bto HB5.out hb); have HLN6 := Lib.hid (HLN.out.below hb); have hB := Lib.hid (hB.out.keep hb); have hB3 := Lib.hid (hB3.out.keep hb); have hS := Lib.hid (hS.out.keep hb); obtain ⟨x0, x1, x2, x3⟩ := id hB3.out; obtain ⟨y0, y1, y2, y3⟩ := id hB.out; have s0 := hS.out 0 _ rfl; have s1 := hS.out 1 _ rfl; have s2 := hS.out 2 _ rfl; have lx := hB3.out.lt; have ly := hB.out.lt; have ls := box_lt hS.out; clear hb HLN HB5) | (go_at_call 20; refine (worst_any _ D _ _ _ HLN6.out hl3).mono ?_; rintro e w7 ⟨rfl, hb⟩; rw [HM1.out]; have HB7 := Lib.hid (bto HB6.out hb); have HLN7 := Lib.hid (HLN6.out.below hb); have hB := Lib.hid (hB.out.keep hb); have hB3 := Lib.hid (hB3.out.keep hb); have hS := Lib.hid (hS.out.keep hb); obtain ⟨x0, x1, x2, x3⟩ := id hB3.out; obtain ⟨y0, y1, y2, y3⟩ := id hB.out; have s0 := hS.out 0 _ rfl; have s1 := hS.out 1 _ rfl; have s2 := hS.out 2 _ rfl; have lx := hB3.out.lt; have ly := hB.out.lt; have ls := box_lt hS.out; clear hb HLN6 HB6) | (go_at_call 21; refine (avg_any _ d _ _ _ (HV.out.below HB7.out) hl1).mono ?_; rintro e w8 ⟨rfl, hb⟩; rw [HR2.out]; have HB8 := Lib.hid (bto HB7.out hb); have HLN8 := Lib.hid (HLN7.out.below hb); have hB := Lib.hid (hB.out.keep hb); have hB3 := Lib.hid (hB3.out.keep hb); have hS := Lib.hid (hS.out.keep hb); obtain ⟨x0, x1, x2, x3⟩ := id hB3.out; obtain ⟨y0, y1, y2, y3⟩ := id hB.out; have s0 := hS.out 0 _ rfl; have s1 := hS.out 1 _ rfl; have s2 := hS.out 2 _ rfl; have lx := hB3.out.lt; have ly := hB.out.lt; have ls := box_lt hS.out; clear hb HLN7 HB7) | (go_at_call 21; refine (avg_any _ D _ _ _ (HLN8.out.below ((Below.refl _ _).alloc (Nat.le_refl _) _)) hl3).mono ?_; rintro e w9 ⟨rfl, hb⟩; rw [HM2.out]; have HB9 := Lib.hid (bto (HB8.out.alloc HB8.out.size _) hb); have HLN9 := Lib.hid ((HLN8.out.below ((Below.refl _ _).alloc (Nat.le_refl _) _)).below hb); have X8 := (Box2.new w8 (I a2) (I b2) 41).keep hb; obtain ⟨m0, m1, m2, m3⟩ := id X8; have lm := X8.lt; have hB := Lib.hid ((hB.out.keep ((Below.refl _ _).alloc (Nat.le_refl _) _)).keep hb); have hB3 := Lib.hid ((hB3.out.keep ((Below.refl _ _).alloc (Nat.le_refl _) _)).keep hb); have hS := Lib.hid ((hS.out.keep ((Below.refl _ _).alloc (Nat.le_refl _) _)).keep hb); obtain ⟨x0, x1, x2, x3⟩ := id hB3.out; obtain ⟨y0, y1, y2, y3⟩ := id hB.out; have s0 := hS.out 0 _ rfl; have s1 := hS.out 1 _ rfl; have s2 := hS.out 2 _ rfl; have lx := hB3.out.lt; have ly := hB.out.lt; have ls := box_lt hS.out; clear hb HLN8 HB8) | (go_at_call 22; refine (free_any _ d _ _ (HV.out.below (HB9.out.alloc HB9.out.size _)) hl1 hl2).mono ?_; rintro e w10 ⟨rfl, hb⟩; rw [HR3.out]; have HB10 := Lib.hid (bto (HB9.out.alloc HB9.out.size _) hb); have HLN10 := Lib.hid ((HLN9.out.below ((Below.refl _ _).alloc (Nat.le_refl _) _)).below hb); have hB := Lib.hid ((hB.out.keep ((Below.refl _ _).alloc (Nat.le_refl _) _)).keep hb); have hB3 := Lib.hid ((hB3.out.keep ((Below.refl _ _).alloc (Nat.le_refl _) _)).keep hb); have hS := Lib.hid ((hS.out.keep ((Below.refl _ _).alloc (Nat.le_refl _) _)).keep hb); obtain ⟨x0, x1, x2, x3⟩ := id hB3.out; obtain ⟨y0, y1, y2, y3⟩ := id hB.out; have s0 := hS.out 0 _ rfl; have s1 := hS.out 1 _ rfl; have s2 := hS.out 2 _ rfl; have lx := hB3.out.lt; have ly := hB.out.lt; have ls := box_lt hS.out; clear hb HLN9 HB9) | (go_at_call 22; refine (free_any _ D _ _ HLN10.out hl3 hl4).mono ?_; rintro e w11 ⟨rfl, hb⟩; rw [HM3.out]; have HB11 := Lib.hid (bto HB10.out hb); clear hb) | (go_at_call 18; refine (works_any _).mono ?_; rintro e w12 ⟨rfl, hb⟩; have HB12 := Lib.hid (bto HB11.out hb); clear hb))
                go_ret
                exact ⟨rfl, HB12.out⟩
end Go.Proofs.Ytbddaemekgflmaa
