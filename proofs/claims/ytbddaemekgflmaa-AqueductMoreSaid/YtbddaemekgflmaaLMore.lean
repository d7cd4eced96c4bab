/- AqueductMore: the law walked. -/
import Derived.Test.YtbddaemekgflmaaRow
import Derived.Test.YtbddaemekgflmaaW43
namespace Go.Proofs.Ytbddaemekgflmaa
open Go.RowKit Go.Sort

set_option maxRecDepth 100000 in
set_option maxHeartbeats 8000000 in
theorem lawMore_any (v : Value) (d : DLine) (p lo hi s q : Int) (w : World) (hv : LineAt w v d) :
    Calls Try.prog 11 #[v, .agg #[I p, I lo, I hi, I s, I q]] w fun e w' => e = .returned (.bool true) ∧ Below w.heap.size w w' := by
  have HV := Lib.hid hv
  obtain ⟨pv, ov, rfl, hp, ho⟩ := hv
  obtain ⟨Ao, co, rfl, _, _, _⟩ := id ho.open_
  obtain ⟨Ap, cp, rfl, _, _, hpc⟩ := id hp.open_
  have HPC := Lib.hid hpc
  have B0 := (Box2.new w (.slice Ap d.pts.length cp) (.slice Ao d.odds.length co) 25).old (.cells #[I p, I lo, I hi, I s, I q] 66)
  have S0 := Cells.new (w.alloc (.cells #[.slice Ap d.pts.length cp, .slice Ao d.odds.length co] 25)) [I p, I lo, I hi, I s, I q] 66
  have hs1 : (w.alloc (.cells #[.slice Ap d.pts.length cp, .slice Ao d.odds.length co] 25)).heap.size = w.heap.size + 1 := by simp
  rw [hs1] at S0
  have HB0 := Lib.hid (show Below w.heap.size w ((w.alloc (.cells #[.slice Ap d.pts.length cp, .slice Ao d.odds.length co] 25)).alloc (.cells #[I p, I lo, I hi, I s, I q] 66)) from ((Below.refl _ _).alloc (Nat.le_refl _) _).alloc (by simp) _)
  clear hp ho hpc hs1
  have k0 := cell_regrown B0.c0
  have k1 := cell_regrown B0.c1
  have g0 := cell_regrown (S0 0 _ rfl)
  have g1 := cell_regrown (S0 1 _ rfl)
  have g2 := cell_regrown (S0 2 _ rfl)
  have g3 := cell_regrown (S0 3 _ rfl)
  have g4 := cell_regrown (S0 4 _ rfl)
  have c1 := ext_call (w := ((w.alloc (.cells #[.slice Ap d.pts.length cp, .slice Ao d.odds.length co] 25)).alloc (.cells #[I p, I lo, I hi, I s, I q] 66))) fun W hW => ready_any _ d W (HV.out.below (bto HB0.out hW))
  cases h1 : valid d
  · rw [h1] at c1
    clear h1
    go_enter Try.func11, Try.ntmps11
    go_wp2_with fail
    refine wp_region_ext (by kernel_rfl) (by kernel_rfl) ?_
    repeat (first | go_big_quiet_step (first | (with_reducible exact c1 _ _)) | quiet_step (first | (with_reducible exact c1 _ _)))
    refine wpQuiet_nil ?_
    intro w1 hb
    have HB1 := Lib.hid (bto HB0.out hb)
    clear k0 k1 g0 g1 g2 g3 g4 c1 hb
    go_wp2_with (go_at_call 18; refine (works_any _).mono ?_; rintro e w2 ⟨rfl, hb⟩; have HB2 := Lib.hid (bto HB1.out hb); clear hb)
    go_ret
    exact ⟨rfl, HB2.out⟩
  · rw [h1] at c1
    have HVD := Lib.hid h1
    obtain ⟨hn7, hnp, -⟩ := valid_spec h1
    have HNP := Lib.hid hnp
    have hl1 : d.odds.length ≤ 1000 := by omega
    have hl2 : d.pts.length ≤ 1000 := by omega
    have hpos : 0 < d.pts.length := by omega
    clear hnp h1
    have c2 := ext_call (w := ((w.alloc (.cells #[.slice Ap d.pts.length cp, .slice Ao d.odds.length co] 25)).alloc (.cells #[I p, I lo, I hi, I s, I q] 66))) fun W hW => rIsPt_any _ d p W (HV.out.below (bto HB0.out hW)) hl2
    cases h2 : isPt d p
    · rw [h2] at c2
      clear h2
      go_enter Try.func11, Try.ntmps11
      go_wp2_with fail
      refine wp_region_ext (by kernel_rfl) (by kernel_rfl) ?_
      repeat (first | go_big_quiet_step (first | (with_reducible exact c1 _ _) | (with_reducible exact c2 _ _)) | quiet_step (first | (with_reducible exact c1 _ _) | (with_reducible exact c2 _ _)))
      refine wpQuiet_nil ?_
      intro w1 hb
      have HB1 := Lib.hid (bto HB0.out hb)
      clear k0 k1 g0 g1 g2 g3 g4 c1 c2 hb
      go_wp2_with (go_at_call 18; refine (works_any _).mono ?_; rintro e w2 ⟨rfl, hb⟩; have HB2 := Lib.hid (bto HB1.out hb); clear hb)
      go_ret
      exact ⟨rfl, HB2.out⟩
    · rw [h2] at c2
      obtain ⟨hp0, hp1⟩ := isPt_spec h2
      clear h2
      obtain ⟨p, rfl⟩ := Int.eq_ofNat_of_zero_le hp0
      have hpl : p < d.pts.length := by omega
      obtain ⟨b, o, rfl, hbl, hcell⟩ := HPC.out hpos
      obtain ⟨y0, y1, -⟩ := hcell p hpl
      obtain ⟨pt, hpt⟩ : ∃ pt, d.pts[p] = pt := ⟨_, rfl⟩
      rw [hpt] at y0 y1
      have HPT := Lib.hid hpt
      clear hcell hp0 hpt
      have m0 := cell_regrown (keep_cell HB0.out y0)
      have m1 := cell_regrown (keep_cell HB0.out y1)
      have c3 := ext_call (w := ((w.alloc (.cells #[.slice (some ⟨b, o, none⟩) d.pts.length cp, .slice Ao d.odds.length co] 25)).alloc (.cells #[I (p : Int), I lo, I hi, I s, I q] 66))) fun W _ => inside_any lo hi pt.lo pt.hi W
      cases h3 : insideB (lo, hi) (pt.lo, pt.hi)
      · rw [h3] at c3
        clear h3
        go_enter Try.func11, Try.ntmps11
        go_wp2_with fail
        refine wp_region_ext (by kernel_rfl) (by kernel_rfl) ?_
        repeat (first | go_big_quiet_step (first | (with_reducible exact c1 _ _) | (with_reducible exact c2 _ _) | (with_reducible exact c3 _ _)) | quiet_step (first | (with_reducible exact c1 _ _) | (with_reducible exact c2 _ _) | (with_reducible exact c3 _ _)))
        refine wpQuiet_nil ?_
        intro w1 hb
        have HB1 := Lib.hid (bto HB0.out hb)
        clear k0 k1 g0 g1 g2 g3 g4 m0 m1 c1 c2 c3 hb
        go_wp2_with (go_at_call 18; refine (works_any _).mono ?_; rintro e w2 ⟨rfl, hb⟩; have HB2 := Lib.hid (bto HB1.out hb); clear hb)
        go_ret
        exact ⟨rfl, HB2.out⟩
      · rw [h3] at c3
        have H3 := Lib.hid h3
        clear h3
        have c4 := ext_call (w := ((w.alloc (.cells #[.slice (some ⟨b, o, none⟩) d.pts.length cp, .slice Ao d.odds.length co] 25)).alloc (.cells #[I (p : Int), I lo, I hi, I s, I q] 66))) fun W hW => rIsPt_any _ d q W (HV.out.below (bto HB0.out hW)) hl2
        cases h4 : isPt d q
        · rw [h4] at c4
          clear h4
          go_enter Try.func11, Try.ntmps11
          go_wp2_with fail
          refine wp_region_ext (by kernel_rfl) (by kernel_rfl) ?_
          repeat (first | go_big_quiet_step (first | (with_reducible exact c1 _ _) | (with_reducible exact c2 _ _) | (with_reducible exact c3 _ _) | (with_reducible exact c4 _ _)) | quiet_step (first | (with_reducible exact c1 _ _) | (with_reducible exact c2 _ _) | (with_reducible exact c3 _ _) | (with_reducible exact c4 _ _)))
          refine wpQuiet_nil ?_
          intro w1 hb
          have HB1 := Lib.hid (bto HB0.out hb)
          clear k0 k1 g0 g1 g2 g3 g4 m0 m1 c1 c2 c3 c4 hb
          go_wp2_with (go_at_call 18; refine (works_any _).mono ?_; rintro e w2 ⟨rfl, hb⟩; have HB2 := Lib.hid (bto HB1.out hb); clear hb)
          go_ret
          exact ⟨rfl, HB2.out⟩
        · rw [h4] at c4
          obtain ⟨hq0, hq1⟩ := isPt_spec h4
          clear h4
          obtain ⟨q, rfl⟩ := Int.eq_ofNat_of_zero_le hq0
          have hql : q < d.pts.length := by omega
          clear hq0
          have HVD2 := Lib.hid (show valid (setFlow d p lo hi) = true by
            have h := (inside_iff _ _).1 H3.out
            have h' := valid_pt HVD.out p hpl
            rw [show d.pts.getD p default = d.pts[p] by simp [List.getD, List.getElem?_eq_getElem hpl], HPT.out] at h'
            simp only at h
            exact setFlow_valid HVD.out p lo hi (by omega) (by omega) (by omega))
          have hlD1 := (setFlow_len d p lo hi).1
          have HDO := Lib.hid (setFlow_len d p lo hi).2
          have HNW := Lib.hid (show oneB (setFlow d p lo hi) = true → Narrow d (setFlow d p lo hi) from fun h => narrow_of HVD.out p hpl lo hi (by rw [HPT.out]; exact H3.out) h)
          have hl3 : (setFlow d p lo hi).odds.length ≤ 1000 := by rw [HDO.out]; exact hl1
          have hl4 : (setFlow d p lo hi).pts.length ≤ 1000 := by rw [hlD1]; exact hl2
          obtain ⟨D, hD⟩ : ∃ D, setFlow d p lo hi = D := ⟨_, rfl⟩
          rw [hD] at HVD2 HNW hl3 hl4 hlD1 HDO
          have HLD := Lib.hid hlD1
          have HD := Lib.hid hD
          clear hlD1
          clear hD
          cases h5 : oneB D
          · have H5 := Lib.hid h5
            clear h5
            go_enter Try.func11, Try.ntmps11
            go_wp2_with fail
            refine wp_region_ext (by kernel_rfl) (by kernel_rfl) ?_
            repeat (first | go_big_quiet_step (first | (with_reducible exact c1 _ _) | (with_reducible exact c2 _ _) | (with_reducible exact c3 _ _) | (with_reducible exact c4 _ _)) | quiet_step (first | (with_reducible exact c1 _ _) | (with_reducible exact c2 _ _) | (with_reducible exact c3 _ _) | (with_reducible exact c4 _ _)))
            refine wpQuiet_nil ?_
            intro w1 hb
            have HB1 := Lib.hid (bto HB0.out hb)
            have X := B0.keep hb
            have S := S0.keep hb
            obtain ⟨x0, x1, x2, x3⟩ := id X
            have s0 := S 0 _ rfl
            have s1 := S 1 _ rfl
            have s2 := S 2 _ rfl
            clear k0 k1 g0 g1 g2 g3 g4 m0 m1 c1 c2 c3 c4 hb B0 S0 y0 y1
            go_wp2_with fail
            go_at_call 19
            refine (copy_any _ d _ (HV.out.below HB1.out) hl1 hl2).mono ?_
            rintro e w2 ⟨v', rfl, hown, hb⟩
            obtain ⟨g, cap, A3, c3', rfl, hg1, hg2, hO⟩ := hown.at_ hpos
            obtain ⟨v0, v1, v2, hc0, hc1, hc2, hf0, hf1, hf2⟩ := hO.ptAt p hpl
            have hgw : w.heap.size + 1 < g := (by have := X.lt; have := box_lt S; omega)
            have HB2 := Lib.hid (bto HB1.out hb)
            have X := X.keep hb
            have S := S.keep hb
            obtain ⟨x0, x1, x2, x3⟩ := id X
            have s0 := S 0 _ rfl
            have s1 := S 1 _ rfl
            have s2 := S 2 _ rfl
            have lX := X.lt
            have lS := box_lt S
            have HO := Lib.hid ((hO.flow p lo hi hpl).line.line)
            rw [HD.out, HLD.out] at HO
            have HG := Lib.hid hg2
            clear hb hO hown hg1
            go_wp2_with fail
            go_at_call 47
            refine (one_any _ D _ (HO.out.below ((Below.refl _ _).alloc (Nat.le_refl _) _)) HVD2.out).mono ?_
            rintro e w3 ⟨rfl, hb⟩
            rw [H5.out]
            have HB3 := Lib.hid (bto (((HB2.out.setCell (p := ⟨g, p * 3, none⟩) (by show w.heap.size ≤ g; omega) _).setCell (p := ⟨g, p * 3 + 1, none⟩) (by show w.heap.size ≤ g; omega) _).alloc (by have := HB2.out.size; simp; omega) _) hb)
            have LO3 := Lib.hid ((HO.out.below ((Below.refl _ _).alloc (Nat.le_refl _) _)).below hb)
            have X3 := Lib.hid ((((X.other ⟨g, p * 3, none⟩ (I lo) (by show g ≠ _; omega)).other ⟨g, p * 3 + 1, none⟩ (I hi) (by show g ≠ _; omega)).old _).keep hb)
            have S3 := Lib.hid ((((S.other ⟨g, p * 3, none⟩ (I lo) (by show g ≠ _; omega)).other ⟨g, p * 3 + 1, none⟩ (I hi) (by show g ≠ _; omega)).keep ((Below.refl _ _).alloc (Nat.le_refl _) _)).keep hb)
            have Y3 := Lib.hid (((Box2.new _ _ _ _).at_ (show _ = w2.heap.size by simp)).keep hb)
            have X := X3.out
            have Y := Y3.out
            have S := S3.out
            obtain ⟨x0, x1, x2, x3⟩ := id X
            obtain ⟨y0, y1, y2, y3⟩ := id Y
            have s2 := S 2 _ rfl
            have s3 := S 3 _ rfl
            have s4 := S 4 _ rfl
            have lX := X.lt
            have lY := Y.lt
            have lS := box_lt S
            have HC3 := Lib.hid (Below.refl w3.heap.size w3)
            clear hb HB2 HO hc0 hc1 hc2 hf0 hf1 hf2 s0 s1
            go_wp2_with fail
            go_at_call 18
            refine (works_any _).mono ?_
            rintro e w4 ⟨rfl, hb⟩
            have HBE := Lib.hid (bto HB3.out hb)
            clear hb
            go_wp2_with fail
            go_ret
            exact ⟨rfl, HBE.out⟩
          · have H5 := Lib.hid h5
            have NR := Lib.hid (HNW.out h5)
            clear h5
            have hf := NR.out.flow q hql
            obtain ⟨⟨a1, a2⟩, hA⟩ : ∃ r, flowAt d q = r := ⟨_, rfl⟩
            obtain ⟨⟨b1, b2⟩, hB⟩ : ∃ r, flowAt D q = r := ⟨_, rfl⟩
            obtain ⟨⟨t1, t2⟩, hT⟩ : ∃ r, lossP d 0 d.odds.length = r := ⟨_, rfl⟩
            obtain ⟨⟨u1, u2⟩, hU⟩ : ∃ r, lossP D 0 d.odds.length = r := ⟨_, rfl⟩
            have HR1 := Lib.hid (flowR_ok HVD.out NR.out.cd q hql)
            have HR2 := Lib.hid (flowR_ok HVD2.out NR.out.cD q (by rw [HLD.out]; exact hql))
            have HR3 := Lib.hid (wholeR_ok HVD.out NR.out.cd)
            have HR4 := Lib.hid (wholeR_ok HVD2.out NR.out.cD)
            have hw := NR.out.loss 0 d.odds.length (by omega) (by have := HNP.out; omega)
            rw [hA] at HR1 hf
            rw [hB] at HR2 hf
            rw [hT] at HR3 hw
            rw [NR.out.lo, hU] at HR4
            rw [hU] at hw
            have HI1 := Lib.hid hf
            have HI2 := Lib.hid hw
            clear hf hw hA hB hT hU
            cases h6 : isSt d s
            · have H6 := Lib.hid h6
              clear h6
              go_enter Try.func11, Try.ntmps11
              go_wp2_with fail
              refine wp_region_ext (by kernel_rfl) (by kernel_rfl) ?_
              repeat (first | go_big_quiet_step (first | (with_reducible exact c1 _ _) | (with_reducible exact c2 _ _) | (with_reducible exact c3 _ _) | (with_reducible exact c4 _ _)) | quiet_step (first | (with_reducible exact c1 _ _) | (with_reducible exact c2 _ _) | (with_reducible exact c3 _ _) | (with_reducible exact c4 _ _)))
              refine wpQuiet_nil ?_
              intro w1 hb
              have HB1 := Lib.hid (bto HB0.out hb)
              have X := B0.keep hb
              have S := S0.keep hb
              obtain ⟨x0, x1, x2, x3⟩ := id X
              have s0 := S 0 _ rfl
              have s1 := S 1 _ rfl
              have s2 := S 2 _ rfl
              clear k0 k1 g0 g1 g2 g3 g4 m0 m1 c1 c2 c3 c4 hb B0 S0 y0 y1
              go_wp2_with fail
              go_at_call 19
              refine (copy_any _ d _ (HV.out.below HB1.out) hl1 hl2).mono ?_
              rintro e w2 ⟨v', rfl, hown, hb⟩
              obtain ⟨g, cap, A3, c3', rfl, hg1, hg2, hO⟩ := hown.at_ hpos
              obtain ⟨v0, v1, v2, hc0, hc1, hc2, hf0, hf1, hf2⟩ := hO.ptAt p hpl
              have hgw : w.heap.size + 1 < g := (by have := X.lt; have := box_lt S; omega)
              have HB2 := Lib.hid (bto HB1.out hb)
              have X := X.keep hb
              have S := S.keep hb
              obtain ⟨x0, x1, x2, x3⟩ := id X
              have s0 := S 0 _ rfl
              have s1 := S 1 _ rfl
              have s2 := S 2 _ rfl
              have lX := X.lt
              have lS := box_lt S
              have HO := Lib.hid ((hO.flow p lo hi hpl).line.line)
              rw [HD.out, HLD.out] at HO
              have HG := Lib.hid hg2
              clear hb hO hown hg1
              go_wp2_with fail
              go_at_call 47
              refine (one_any _ D _ (HO.out.below ((Below.refl _ _).alloc (Nat.le_refl _) _)) HVD2.out).mono ?_
              rintro e w3 ⟨rfl, hb⟩
              rw [H5.out]
              have HB3 := Lib.hid (bto (((HB2.out.setCell (p := ⟨g, p * 3, none⟩) (by show w.heap.size ≤ g; omega) _).setCell (p := ⟨g, p * 3 + 1, none⟩) (by show w.heap.size ≤ g; omega) _).alloc (by have := HB2.out.size; simp; omega) _) hb)
              have LO3 := Lib.hid ((HO.out.below ((Below.refl _ _).alloc (Nat.le_refl _) _)).below hb)
              have X3 := Lib.hid ((((X.other ⟨g, p * 3, none⟩ (I lo) (by show g ≠ _; omega)).other ⟨g, p * 3 + 1, none⟩ (I hi) (by show g ≠ _; omega)).old _).keep hb)
              have S3 := Lib.hid ((((S.other ⟨g, p * 3, none⟩ (I lo) (by show g ≠ _; omega)).other ⟨g, p * 3 + 1, none⟩ (I hi) (by show g ≠ _; omega)).keep ((Below.refl _ _).alloc (Nat.le_refl _) _)).keep hb)
              have Y3 := Lib.hid (((Box2.new _ _ _ _).at_ (show _ = w2.heap.size by simp)).keep hb)
              have X := X3.out
              have Y := Y3.out
              have S := S3.out
              obtain ⟨x0, x1, x2, x3⟩ := id X
              obtain ⟨y0, y1, y2, y3⟩ := id Y
              have s2 := S 2 _ rfl
              have s3 := S 3 _ rfl
              have s4 := S 4 _ rfl
              have lX := X.lt
              have lY := Y.lt
              have lS := box_lt S
              have HC3 := Lib.hid (Below.refl w3.heap.size w3)
              clear hb HB2 HO hc0 hc1 hc2 hf0 hf1 hf2 s0 s1
              go_wp2_with fail
              go_at_call 36
              refine (flow_any _ d _ _ (HV.out.below (bto HB3.out HC3.out)) hl1 hl2).mono ?_
              rintro e w4 ⟨rfl, hb⟩
              rw [HR1.out]
              have HC4 := Lib.hid (bto HC3.out hb)
              have X := X3.out.keep HC4.out
              obtain ⟨aX, bX, cX, dX⟩ := id X
              have lX := X.lt
              have Y := Y3.out.keep HC4.out
              obtain ⟨aY, bY, cY, dY⟩ := id Y
              have lY := Y.lt
              have S := S3.out.keep HC4.out
              have s2 := S 2 _ rfl
              have s3 := S 3 _ rfl
              have s4 := S 4 _ rfl
              have lS := box_lt S
              clear hb HC3
              go_wp2_with fail
              go_at_call 36
              refine (flow_any _ D _ _ (LO3.out.below (HC4.out.alloc HC4.out.size _)) hl3 hl4).mono ?_
              rintro e w5 ⟨rfl, hb⟩
              rw [HR2.out]
              have HC5 := Lib.hid (bto (HC4.out.alloc HC4.out.size _) hb)
              have Z1 := (Box2.new w4 (I a1) (I a2) 34).keep hb
              have lbZ1 := HC4.out.size
              have X := X3.out.keep HC5.out
              obtain ⟨aX, bX, cX, dX⟩ := id X
              have lX := X.lt
              have Y := Y3.out.keep HC5.out
              obtain ⟨aY, bY, cY, dY⟩ := id Y
              have lY := Y.lt
              obtain ⟨aZ1, bZ1, cZ1, dZ1⟩ := id Z1
              have lZ1 := Z1.lt
              have S := S3.out.keep HC5.out
              have s2 := S 2 _ rfl
              have s3 := S 3 _ rfl
              have s4 := S 4 _ rfl
              have lS := box_lt S
              clear hb HC4
              go_wp2_with fail
              go_at_call 38
              refine (whole_any _ d _ (HV.out.below (bto HB3.out (HC5.out.alloc HC5.out.size _))) hl1 hl2).mono ?_
              rintro e w6 ⟨rfl, hb⟩
              rw [HR3.out]
              have neZ2Z1 := Lib.hid (Nat.ne_of_gt lZ1)
              have neZ1Z2 := Lib.hid (Nat.ne_of_lt lZ1)
              have HC6 := Lib.hid (bto (HC5.out.alloc HC5.out.size _) hb)
              have Z1 := (Z1.old _).keep hb
              have Z2 := (Box2.new w5 (I b1) (I b2) 34).keep hb
              have lbZ2 := HC5.out.size
              have X := X3.out.keep HC6.out
              obtain ⟨aX, bX, cX, dX⟩ := id X
              have lX := X.lt
              have Y := Y3.out.keep HC6.out
              obtain ⟨aY, bY, cY, dY⟩ := id Y
              have lY := Y.lt
              obtain ⟨aZ1, bZ1, cZ1, dZ1⟩ := id Z1
              have lZ1 := Z1.lt
              obtain ⟨aZ2, bZ2, cZ2, dZ2⟩ := id Z2
              have lZ2 := Z2.lt
              have S := S3.out.keep HC6.out
              have s2 := S 2 _ rfl
              have s3 := S 3 _ rfl
              have s4 := S 4 _ rfl
              have lS := box_lt S
              clear hb HC5
              go_wp2_with fail
              go_at_call 38
              refine (whole_any _ D _ (LO3.out.below (HC6.out.alloc HC6.out.size _)) hl3 hl4).mono ?_
              rintro e w7 ⟨rfl, hb⟩
              rw [HR4.out]
              have neZ3Z1 := Lib.hid (Nat.ne_of_gt lZ1)
              have neZ1Z3 := Lib.hid (Nat.ne_of_lt lZ1)
              have neZ3Z2 := Lib.hid (Nat.ne_of_gt lZ2)
              have neZ2Z3 := Lib.hid (Nat.ne_of_lt lZ2)
              have HC7 := Lib.hid (bto (HC6.out.alloc HC6.out.size _) hb)
              have Z1 := (Z1.old _).keep hb
              have Z2 := (Z2.old _).keep hb
              have Z3 := (Box2.new w6 (I t1) (I t2) 34).keep hb
              have lbZ3 := HC6.out.size
              have X := X3.out.keep HC7.out
              obtain ⟨aX, bX, cX, dX⟩ := id X
              have lX := X.lt
              have Y := Y3.out.keep HC7.out
              obtain ⟨aY, bY, cY, dY⟩ := id Y
              have lY := Y.lt
              obtain ⟨aZ1, bZ1, cZ1, dZ1⟩ := id Z1
              have lZ1 := Z1.lt
              obtain ⟨aZ2, bZ2, cZ2, dZ2⟩ := id Z2
              have lZ2 := Z2.lt
              obtain ⟨aZ3, bZ3, cZ3, dZ3⟩ := id Z3
              have lZ3 := Z3.lt
              have S := S3.out.keep HC7.out
              have s2 := S 2 _ rfl
              have s3 := S 3 _ rfl
              have s4 := S 4 _ rfl
              have lS := box_lt S
              clear hb HC6
              go_wp2_with fail
              go_at_call 46
              refine (inside_any b1 b2 a1 a2 _).mono ?_
              rintro e w8 ⟨rfl, hb⟩
              rw [HI1.out]
              have neZ4Z1 := Lib.hid (Nat.ne_of_gt lZ1)
              have neZ1Z4 := Lib.hid (Nat.ne_of_lt lZ1)
              have neZ4Z2 := Lib.hid (Nat.ne_of_gt lZ2)
              have neZ2Z4 := Lib.hid (Nat.ne_of_lt lZ2)
              have neZ4Z3 := Lib.hid (Nat.ne_of_gt lZ3)
              have neZ3Z4 := Lib.hid (Nat.ne_of_lt lZ3)
              have HC8 := Lib.hid (bto (HC7.out.alloc HC7.out.size _) hb)
              have Z1 := (Z1.old _).keep hb
              have Z2 := (Z2.old _).keep hb
              have Z3 := (Z3.old _).keep hb
              have Z4 := (Box2.new w7 (I u1) (I u2) 34).keep hb
              have lbZ4 := HC7.out.size
              have X := X3.out.keep HC8.out
              obtain ⟨aX, bX, cX, dX⟩ := id X
              have lX := X.lt
              have Y := Y3.out.keep HC8.out
              obtain ⟨aY, bY, cY, dY⟩ := id Y
              have lY := Y.lt
              obtain ⟨aZ1, bZ1, cZ1, dZ1⟩ := id Z1
              have lZ1 := Z1.lt
              obtain ⟨aZ2, bZ2, cZ2, dZ2⟩ := id Z2
              have lZ2 := Z2.lt
              obtain ⟨aZ3, bZ3, cZ3, dZ3⟩ := id Z3
              have lZ3 := Z3.lt
              obtain ⟨aZ4, bZ4, cZ4, dZ4⟩ := id Z4
              have lZ4 := Z4.lt
              have S := S3.out.keep HC8.out
              have s2 := S 2 _ rfl
              have s3 := S 3 _ rfl
              have s4 := S 4 _ rfl
              have lS := box_lt S
              clear hb HC7
              go_wp2_with fail
              go_at_call 46
              refine (inside_any u1 u2 t1 t2 _).mono ?_
              rintro e w9 ⟨rfl, hb⟩
              rw [HI2.out]
              have HC9 := Lib.hid (bto HC8.out hb)
              have Z1 := Z1.keep hb
              have Z2 := Z2.keep hb
              have Z3 := Z3.keep hb
              have Z4 := Z4.keep hb
              have X := X3.out.keep HC9.out
              obtain ⟨aX, bX, cX, dX⟩ := id X
              have lX := X.lt
              have Y := Y3.out.keep HC9.out
              obtain ⟨aY, bY, cY, dY⟩ := id Y
              have lY := Y.lt
              obtain ⟨aZ1, bZ1, cZ1, dZ1⟩ := id Z1
              have lZ1 := Z1.lt
              obtain ⟨aZ2, bZ2, cZ2, dZ2⟩ := id Z2
              have lZ2 := Z2.lt
              obtain ⟨aZ3, bZ3, cZ3, dZ3⟩ := id Z3
              have lZ3 := Z3.lt
              obtain ⟨aZ4, bZ4, cZ4, dZ4⟩ := id Z4
              have lZ4 := Z4.lt
              have S := S3.out.keep HC9.out
              have s2 := S 2 _ rfl
              have s3 := S 3 _ rfl
              have s4 := S 4 _ rfl
              have lS := box_lt S
              clear hb HC8
              go_wp2_with fail
              go_at_call 48
              refine (rIsSt_any _ d _ _ (HV.out.below (bto HB3.out HC9.out)) hl1).mono ?_
              rintro e w10 ⟨rfl, hb⟩
              rw [H6.out]
              have HC10 := Lib.hid (bto HC9.out hb)
              have Z1 := Z1.keep hb
              have Z2 := Z2.keep hb
              have Z3 := Z3.keep hb
              have Z4 := Z4.keep hb
              have X := X3.out.keep HC10.out
              obtain ⟨aX, bX, cX, dX⟩ := id X
              have lX := X.lt
              have Y := Y3.out.keep HC10.out
              obtain ⟨aY, bY, cY, dY⟩ := id Y
              have lY := Y.lt
              obtain ⟨aZ1, bZ1, cZ1, dZ1⟩ := id Z1
              have lZ1 := Z1.lt
              obtain ⟨aZ2, bZ2, cZ2, dZ2⟩ := id Z2
              have lZ2 := Z2.lt
              obtain ⟨aZ3, bZ3, cZ3, dZ3⟩ := id Z3
              have lZ3 := Z3.lt
              obtain ⟨aZ4, bZ4, cZ4, dZ4⟩ := id Z4
              have lZ4 := Z4.lt
              have S := S3.out.keep HC10.out
              have s2 := S 2 _ rfl
              have s3 := S 3 _ rfl
              have s4 := S 4 _ rfl
              have lS := box_lt S
              clear hb HC9
              go_wp2_with fail
              go_at_call 18
              refine (works_any _).mono ?_
              rintro e w11 ⟨rfl, hb⟩
              have HBE := Lib.hid (bto (bto HB3.out HC10.out) hb)
              clear hb
              go_wp2_with fail
              go_ret
              exact ⟨rfl, HBE.out⟩
            · have H6 := Lib.hid h6
              obtain ⟨hs0, hs1⟩ := isSt_spec h6
              clear h6
              obtain ⟨s, rfl⟩ := Int.eq_ofNat_of_zero_le hs0
              have hsl : s < d.odds.length := by omega
              clear hs0
              have HR5 := Lib.hid (lossR_ok HVD.out NR.out.cd s hsl)
              have HR6 := Lib.hid (lossR_ok HVD2.out NR.out.cD s (by rw [NR.out.lo]; exact hsl))
              have hi3 := NR.out.loss s (s + 1) (by omega) (by have := HNP.out; omega)
              have hly := NR.out.lossy s hsl
              obtain ⟨k, hk⟩ : ∃ k, (lossyR d s).1 = k := ⟨_, rfl⟩
              obtain ⟨l, hl⟩ : ∃ k, (lossyR D s).1 = k := ⟨_, rfl⟩
              have HR7 := Lib.hid (show lossyR d s = (k, 0) by rw [← hk, lossyR_ok HVD.out NR.out.cd s hsl])
              have HR8 := Lib.hid (show lossyR D s = (l, 0) by rw [← hl, lossyR_ok HVD2.out NR.out.cD s (by rw [NR.out.lo]; exact hsl)])
              rw [hk, hl] at hly
              obtain ⟨⟨e1, e2⟩, hE⟩ : ∃ r, lossP d s (s + 1) = r := ⟨_, rfl⟩
              obtain ⟨⟨f1, f2⟩, hF⟩ : ∃ r, lossP D s (s + 1) = r := ⟨_, rfl⟩
              rw [hE] at HR5 hi3
              rw [hF] at HR6 hi3
              have HI3 := Lib.hid hi3
              clear hi3 hE hF hk hl
              by_cases hk3 : k = 3
              · have hq : (k == 3) = true := by simp [hk3]
                clear hk3 hly
                go_enter Try.func11, Try.ntmps11
                go_wp2_with fail
                refine wp_region_ext (by kernel_rfl) (by kernel_rfl) ?_
                repeat (first | go_big_quiet_step (first | (with_reducible exact c1 _ _) | (with_reducible exact c2 _ _) | (with_reducible exact c3 _ _) | (with_reducible exact c4 _ _)) | quiet_step (first | (with_reducible exact c1 _ _) | (with_reducible exact c2 _ _) | (with_reducible exact c3 _ _) | (with_reducible exact c4 _ _)))
                refine wpQuiet_nil ?_
                intro w1 hb
                have HB1 := Lib.hid (bto HB0.out hb)
                have X := B0.keep hb
                have S := S0.keep hb
                obtain ⟨x0, x1, x2, x3⟩ := id X
                have s0 := S 0 _ rfl
                have s1 := S 1 _ rfl
                have s2 := S 2 _ rfl
                clear k0 k1 g0 g1 g2 g3 g4 m0 m1 c1 c2 c3 c4 hb B0 S0 y0 y1
                go_wp2_with fail
                go_at_call 19
                refine (copy_any _ d _ (HV.out.below HB1.out) hl1 hl2).mono ?_
                rintro e w2 ⟨v', rfl, hown, hb⟩
                obtain ⟨g, cap, A3, c3', rfl, hg1, hg2, hO⟩ := hown.at_ hpos
                obtain ⟨v0, v1, v2, hc0, hc1, hc2, hf0, hf1, hf2⟩ := hO.ptAt p hpl
                have hgw : w.heap.size + 1 < g := (by have := X.lt; have := box_lt S; omega)
                have HB2 := Lib.hid (bto HB1.out hb)
                have X := X.keep hb
                have S := S.keep hb
                obtain ⟨x0, x1, x2, x3⟩ := id X
                have s0 := S 0 _ rfl
                have s1 := S 1 _ rfl
                have s2 := S 2 _ rfl
                have lX := X.lt
                have lS := box_lt S
                have HO := Lib.hid ((hO.flow p lo hi hpl).line.line)
                rw [HD.out, HLD.out] at HO
                have HG := Lib.hid hg2
                clear hb hO hown hg1
                go_wp2_with fail
                go_at_call 47
                refine (one_any _ D _ (HO.out.below ((Below.refl _ _).alloc (Nat.le_refl _) _)) HVD2.out).mono ?_
                rintro e w3 ⟨rfl, hb⟩
                rw [H5.out]
                have HB3 := Lib.hid (bto (((HB2.out.setCell (p := ⟨g, p * 3, none⟩) (by show w.heap.size ≤ g; omega) _).setCell (p := ⟨g, p * 3 + 1, none⟩) (by show w.heap.size ≤ g; omega) _).alloc (by have := HB2.out.size; simp; omega) _) hb)
                have LO3 := Lib.hid ((HO.out.below ((Below.refl _ _).alloc (Nat.le_refl _) _)).below hb)
                have X3 := Lib.hid ((((X.other ⟨g, p * 3, none⟩ (I lo) (by show g ≠ _; omega)).other ⟨g, p * 3 + 1, none⟩ (I hi) (by show g ≠ _; omega)).old _).keep hb)
                have S3 := Lib.hid ((((S.other ⟨g, p * 3, none⟩ (I lo) (by show g ≠ _; omega)).other ⟨g, p * 3 + 1, none⟩ (I hi) (by show g ≠ _; omega)).keep ((Below.refl _ _).alloc (Nat.le_refl _) _)).keep hb)
                have Y3 := Lib.hid (((Box2.new _ _ _ _).at_ (show _ = w2.heap.size by simp)).keep hb)
                have X := X3.out
                have Y := Y3.out
                have S := S3.out
                obtain ⟨x0, x1, x2, x3⟩ := id X
                obtain ⟨y0, y1, y2, y3⟩ := id Y
                have s2 := S 2 _ rfl
                have s3 := S 3 _ rfl
                have s4 := S 4 _ rfl
                have lX := X.lt
                have lY := Y.lt
                have lS := box_lt S
                have HC3 := Lib.hid (Below.refl w3.heap.size w3)
                clear hb HB2 HO hc0 hc1 hc2 hf0 hf1 hf2 s0 s1
                go_wp2_with fail
                go_at_call 36
                refine (flow_any _ d _ _ (HV.out.below (bto HB3.out HC3.out)) hl1 hl2).mono ?_
                rintro e w4 ⟨rfl, hb⟩
                rw [HR1.out]
                have HC4 := Lib.hid (bto HC3.out hb)
                have X := X3.out.keep HC4.out
                obtain ⟨aX, bX, cX, dX⟩ := id X
                have lX := X.lt
                have Y := Y3.out.keep HC4.out
                obtain ⟨aY, bY, cY, dY⟩ := id Y
                have lY := Y.lt
                have S := S3.out.keep HC4.out
                have s2 := S 2 _ rfl
                have s3 := S 3 _ rfl
                have s4 := S 4 _ rfl
                have lS := box_lt S
                clear hb HC3
                go_wp2_with fail
                go_at_call 36
                refine (flow_any _ D _ _ (LO3.out.below (HC4.out.alloc HC4.out.size _)) hl3 hl4).mono ?_
                rintro e w5 ⟨rfl, hb⟩
                rw [HR2.out]
                have HC5 := Lib.hid (bto (HC4.out.alloc HC4.out.size _) hb)
                have Z1 := (Box2.new w4 (I a1) (I a2) 34).keep hb
                have lbZ1 := HC4.out.size
                have X := X3.out.keep HC5.out
                obtain ⟨aX, bX, cX, dX⟩ := id X
                have lX := X.lt
                have Y := Y3.out.keep HC5.out
                obtain ⟨aY, bY, cY, dY⟩ := id Y
                have lY := Y.lt
                obtain ⟨aZ1, bZ1, cZ1, dZ1⟩ := id Z1
                have lZ1 := Z1.lt
                have S := S3.out.keep HC5.out
                have s2 := S 2 _ rfl
                have s3 := S 3 _ rfl
                have s4 := S 4 _ rfl
                have lS := box_lt S
                clear hb HC4
                go_wp2_with fail
                go_at_call 38
                refine (whole_any _ d _ (HV.out.below (bto HB3.out (HC5.out.alloc HC5.out.size _))) hl1 hl2).mono ?_
                rintro e w6 ⟨rfl, hb⟩
                rw [HR3.out]
                have neZ2Z1 := Lib.hid (Nat.ne_of_gt lZ1)
                have neZ1Z2 := Lib.hid (Nat.ne_of_lt lZ1)
                have HC6 := Lib.hid (bto (HC5.out.alloc HC5.out.size _) hb)
                have Z1 := (Z1.old _).keep hb
                have Z2 := (Box2.new w5 (I b1) (I b2) 34).keep hb
                have lbZ2 := HC5.out.size
                have X := X3.out.keep HC6.out
                obtain ⟨aX, bX, cX, dX⟩ := id X
                have lX := X.lt
                have Y := Y3.out.keep HC6.out
                obtain ⟨aY, bY, cY, dY⟩ := id Y
                have lY := Y.lt
                obtain ⟨aZ1, bZ1, cZ1, dZ1⟩ := id Z1
                have lZ1 := Z1.lt
                obtain ⟨aZ2, bZ2, cZ2, dZ2⟩ := id Z2
                have lZ2 := Z2.lt
                have S := S3.out.keep HC6.out
                have s2 := S 2 _ rfl
                have s3 := S 3 _ rfl
                have s4 := S 4 _ rfl
                have lS := box_lt S
                clear hb HC5
                go_wp2_with fail
                go_at_call 38
                refine (whole_any _ D _ (LO3.out.below (HC6.out.alloc HC6.out.size _)) hl3 hl4).mono ?_
                rintro e w7 ⟨rfl, hb⟩
                rw [HR4.out]
                have neZ3Z1 := Lib.hid (Nat.ne_of_gt lZ1)
                have neZ1Z3 := Lib.hid (Nat.ne_of_lt lZ1)
                have neZ3Z2 := Lib.hid (Nat.ne_of_gt lZ2)
                have neZ2Z3 := Lib.hid (Nat.ne_of_lt lZ2)
                have HC7 := Lib.hid (bto (HC6.out.alloc HC6.out.size _) hb)
                have Z1 := (Z1.old _).keep hb
                have Z2 := (Z2.old _).keep hb
                have Z3 := (Box2.new w6 (I t1) (I t2) 34).keep hb
                have lbZ3 := HC6.out.size
                have X := X3.out.keep HC7.out
                obtain ⟨aX, bX, cX, dX⟩ := id X
                have lX := X.lt
                have Y := Y3.out.keep HC7.out
                obtain ⟨aY, bY, cY, dY⟩ := id Y
                have lY := Y.lt
                obtain ⟨aZ1, bZ1, cZ1, dZ1⟩ := id Z1
                have lZ1 := Z1.lt
                obtain ⟨aZ2, bZ2, cZ2, dZ2⟩ := id Z2
                have lZ2 := Z2.lt
                obtain ⟨aZ3, bZ3, cZ3, dZ3⟩ := id Z3
                have lZ3 := Z3.lt
                have S := S3.out.keep HC7.out
                have s2 := S 2 _ rfl
                have s3 := S 3 _ rfl
                have s4 := S 4 _ rfl
                have lS := box_lt S
                clear hb HC6
                go_wp2_with fail
                go_at_call 46
                refine (inside_any b1 b2 a1 a2 _).mono ?_
                rintro e w8 ⟨rfl, hb⟩
                rw [HI1.out]
                have neZ4Z1 := Lib.hid (Nat.ne_of_gt lZ1)
                have neZ1Z4 := Lib.hid (Nat.ne_of_lt lZ1)
                have neZ4Z2 := Lib.hid (Nat.ne_of_gt lZ2)
                have neZ2Z4 := Lib.hid (Nat.ne_of_lt lZ2)
                have neZ4Z3 := Lib.hid (Nat.ne_of_gt lZ3)
                have neZ3Z4 := Lib.hid (Nat.ne_of_lt lZ3)
                have HC8 := Lib.hid (bto (HC7.out.alloc HC7.out.size _) hb)
                have Z1 := (Z1.old _).keep hb
                have Z2 := (Z2.old _).keep hb
                have Z3 := (Z3.old _).keep hb
                have Z4 := (Box2.new w7 (I u1) (I u2) 34).keep hb
                have lbZ4 := HC7.out.size
                have X := X3.out.keep HC8.out
                obtain ⟨aX, bX, cX, dX⟩ := id X
                have lX := X.lt
                have Y := Y3.out.keep HC8.out
                obtain ⟨aY, bY, cY, dY⟩ := id Y
                have lY := Y.lt
                obtain ⟨aZ1, bZ1, cZ1, dZ1⟩ := id Z1
                have lZ1 := Z1.lt
                obtain ⟨aZ2, bZ2, cZ2, dZ2⟩ := id Z2
                have lZ2 := Z2.lt
                obtain ⟨aZ3, bZ3, cZ3, dZ3⟩ := id Z3
                have lZ3 := Z3.lt
                obtain ⟨aZ4, bZ4, cZ4, dZ4⟩ := id Z4
                have lZ4 := Z4.lt
                have S := S3.out.keep HC8.out
                have s2 := S 2 _ rfl
                have s3 := S 3 _ rfl
                have s4 := S 4 _ rfl
                have lS := box_lt S
                clear hb HC7
                go_wp2_with fail
                go_at_call 46
                refine (inside_any u1 u2 t1 t2 _).mono ?_
                rintro e w9 ⟨rfl, hb⟩
                rw [HI2.out]
                have HC9 := Lib.hid (bto HC8.out hb)
                have Z1 := Z1.keep hb
                have Z2 := Z2.keep hb
                have Z3 := Z3.keep hb
                have Z4 := Z4.keep hb
                have X := X3.out.keep HC9.out
                obtain ⟨aX, bX, cX, dX⟩ := id X
                have lX := X.lt
                have Y := Y3.out.keep HC9.out
                obtain ⟨aY, bY, cY, dY⟩ := id Y
                have lY := Y.lt
                obtain ⟨aZ1, bZ1, cZ1, dZ1⟩ := id Z1
                have lZ1 := Z1.lt
                obtain ⟨aZ2, bZ2, cZ2, dZ2⟩ := id Z2
                have lZ2 := Z2.lt
                obtain ⟨aZ3, bZ3, cZ3, dZ3⟩ := id Z3
                have lZ3 := Z3.lt
                obtain ⟨aZ4, bZ4, cZ4, dZ4⟩ := id Z4
                have lZ4 := Z4.lt
                have S := S3.out.keep HC9.out
                have s2 := S 2 _ rfl
                have s3 := S 3 _ rfl
                have s4 := S 4 _ rfl
                have lS := box_lt S
                clear hb HC8
                go_wp2_with fail
                go_at_call 48
                refine (rIsSt_any _ d _ _ (HV.out.below (bto HB3.out HC9.out)) hl1).mono ?_
                rintro e w10 ⟨rfl, hb⟩
                rw [H6.out]
                have HC10 := Lib.hid (bto HC9.out hb)
                have Z1 := Z1.keep hb
                have Z2 := Z2.keep hb
                have Z3 := Z3.keep hb
                have Z4 := Z4.keep hb
                have X := X3.out.keep HC10.out
                obtain ⟨aX, bX, cX, dX⟩ := id X
                have lX := X.lt
                have Y := Y3.out.keep HC10.out
                obtain ⟨aY, bY, cY, dY⟩ := id Y
                have lY := Y.lt
                obtain ⟨aZ1, bZ1, cZ1, dZ1⟩ := id Z1
                have lZ1 := Z1.lt
                obtain ⟨aZ2, bZ2, cZ2, dZ2⟩ := id Z2
                have lZ2 := Z2.lt
                obtain ⟨aZ3, bZ3, cZ3, dZ3⟩ := id Z3
                have lZ3 := Z3.lt
                obtain ⟨aZ4, bZ4, cZ4, dZ4⟩ := id Z4
                have lZ4 := Z4.lt
                have S := S3.out.keep HC10.out
                have s2 := S 2 _ rfl
                have s3 := S 3 _ rfl
                have s4 := S 4 _ rfl
                have lS := box_lt S
                clear hb HC9
                go_wp2_with fail
                go_at_call 49
                refine (loss_any _ d _ _ (HV.out.below (bto HB3.out HC10.out)) hl1 hl2).mono ?_
                rintro e w11 ⟨rfl, hb⟩
                rw [HR5.out]
                have HC11 := Lib.hid (bto HC10.out hb)
                have Z1 := Z1.keep hb
                have Z2 := Z2.keep hb
                have Z3 := Z3.keep hb
                have Z4 := Z4.keep hb
                have X := X3.out.keep HC11.out
                obtain ⟨aX, bX, cX, dX⟩ := id X
                have lX := X.lt
                have Y := Y3.out.keep HC11.out
                obtain ⟨aY, bY, cY, dY⟩ := id Y
                have lY := Y.lt
                obtain ⟨aZ1, bZ1, cZ1, dZ1⟩ := id Z1
                have lZ1 := Z1.lt
                obtain ⟨aZ2, bZ2, cZ2, dZ2⟩ := id Z2
                have lZ2 := Z2.lt
                obtain ⟨aZ3, bZ3, cZ3, dZ3⟩ := id Z3
                have lZ3 := Z3.lt
                obtain ⟨aZ4, bZ4, cZ4, dZ4⟩ := id Z4
                have lZ4 := Z4.lt
                have S := S3.out.keep HC11.out
                have s2 := S 2 _ rfl
                have s3 := S 3 _ rfl
                have s4 := S 4 _ rfl
                have lS := box_lt S
                clear hb HC10
                go_wp2_with fail
                go_at_call 49
                refine (loss_any _ D _ _ (LO3.out.below ((HC11.out.setCell (p := ⟨w4.heap.size, 0, none⟩) lbZ1 _).setCell (p := ⟨w4.heap.size, 1, none⟩) lbZ1 _)) hl3 hl4).mono ?_
                rintro e w12 ⟨rfl, hb⟩
                rw [HR6.out]
                have HC12 := Lib.hid (bto ((HC11.out.setCell (p := ⟨w4.heap.size, 0, none⟩) lbZ1 _).setCell (p := ⟨w4.heap.size, 1, none⟩) lbZ1 _) hb)
                have Z1 := ((Z1.set0 _).set1 _).keep hb
                have Z2 := ((Z2.other _ _ neZ1Z2.out).other _ _ neZ1Z2.out).keep hb
                have Z3 := ((Z3.other _ _ neZ1Z3.out).other _ _ neZ1Z3.out).keep hb
                have Z4 := ((Z4.other _ _ neZ1Z4.out).other _ _ neZ1Z4.out).keep hb
                have X := X3.out.keep HC12.out
                obtain ⟨aX, bX, cX, dX⟩ := id X
                have lX := X.lt
                have Y := Y3.out.keep HC12.out
                obtain ⟨aY, bY, cY, dY⟩ := id Y
                have lY := Y.lt
                obtain ⟨aZ1, bZ1, cZ1, dZ1⟩ := id Z1
                have lZ1 := Z1.lt
                obtain ⟨aZ2, bZ2, cZ2, dZ2⟩ := id Z2
                have lZ2 := Z2.lt
                obtain ⟨aZ3, bZ3, cZ3, dZ3⟩ := id Z3
                have lZ3 := Z3.lt
                obtain ⟨aZ4, bZ4, cZ4, dZ4⟩ := id Z4
                have lZ4 := Z4.lt
                have S := S3.out.keep HC12.out
                have s2 := S 2 _ rfl
                have s3 := S 3 _ rfl
                have s4 := S 4 _ rfl
                have lS := box_lt S
                clear hb HC11
                go_wp2_with fail
                go_at_call 50
                refine (lossy_any _ d _ _ (HV.out.below (bto HB3.out ((HC12.out.setCell (p := ⟨w5.heap.size, 0, none⟩) lbZ2 _).setCell (p := ⟨w5.heap.size, 1, none⟩) lbZ2 _))) hl1 hl2).mono ?_
                rintro e w13 ⟨rfl, hb⟩
                rw [HR7.out]
                have HC13 := Lib.hid (bto ((HC12.out.setCell (p := ⟨w5.heap.size, 0, none⟩) lbZ2 _).setCell (p := ⟨w5.heap.size, 1, none⟩) lbZ2 _) hb)
                have Z1 := ((Z1.other _ _ neZ2Z1.out).other _ _ neZ2Z1.out).keep hb
                have Z2 := ((Z2.set0 _).set1 _).keep hb
                have Z3 := ((Z3.other _ _ neZ2Z3.out).other _ _ neZ2Z3.out).keep hb
                have Z4 := ((Z4.other _ _ neZ2Z4.out).other _ _ neZ2Z4.out).keep hb
                have X := X3.out.keep HC13.out
                obtain ⟨aX, bX, cX, dX⟩ := id X
                have lX := X.lt
                have Y := Y3.out.keep HC13.out
                obtain ⟨aY, bY, cY, dY⟩ := id Y
                have lY := Y.lt
                obtain ⟨aZ1, bZ1, cZ1, dZ1⟩ := id Z1
                have lZ1 := Z1.lt
                obtain ⟨aZ2, bZ2, cZ2, dZ2⟩ := id Z2
                have lZ2 := Z2.lt
                obtain ⟨aZ3, bZ3, cZ3, dZ3⟩ := id Z3
                have lZ3 := Z3.lt
                obtain ⟨aZ4, bZ4, cZ4, dZ4⟩ := id Z4
                have lZ4 := Z4.lt
                have S := S3.out.keep HC13.out
                have s2 := S 2 _ rfl
                have s3 := S 3 _ rfl
                have s4 := S 4 _ rfl
                have lS := box_lt S
                clear hb HC12
                go_wp2_with fail
                go_at_call 50
                refine (lossy_any _ D _ _ (LO3.out.below HC13.out) hl3 hl4).mono ?_
                rintro e w14 ⟨rfl, hb⟩
                rw [HR8.out]
                have HC14 := Lib.hid (bto HC13.out hb)
                have Z1 := Z1.keep hb
                have Z2 := Z2.keep hb
                have Z3 := Z3.keep hb
                have Z4 := Z4.keep hb
                have X := X3.out.keep HC14.out
                obtain ⟨aX, bX, cX, dX⟩ := id X
                have lX := X.lt
                have Y := Y3.out.keep HC14.out
                obtain ⟨aY, bY, cY, dY⟩ := id Y
                have lY := Y.lt
                obtain ⟨aZ1, bZ1, cZ1, dZ1⟩ := id Z1
                have lZ1 := Z1.lt
                obtain ⟨aZ2, bZ2, cZ2, dZ2⟩ := id Z2
                have lZ2 := Z2.lt
                obtain ⟨aZ3, bZ3, cZ3, dZ3⟩ := id Z3
                have lZ3 := Z3.lt
                obtain ⟨aZ4, bZ4, cZ4, dZ4⟩ := id Z4
                have lZ4 := Z4.lt
                have S := S3.out.keep HC14.out
                have s2 := S 2 _ rfl
                have s3 := S 3 _ rfl
                have s4 := S 4 _ rfl
                have lS := box_lt S
                clear hb HC13
                go_wp2_with fail
                go_at_call 46
                refine (inside_any f1 f2 e1 e2 _).mono ?_
                rintro e w15 ⟨rfl, hb⟩
                rw [HI3.out]
                have HC15 := Lib.hid (bto HC14.out hb)
                have Z1 := Z1.keep hb
                have Z2 := Z2.keep hb
                have Z3 := Z3.keep hb
                have Z4 := Z4.keep hb
                have X := X3.out.keep HC15.out
                obtain ⟨aX, bX, cX, dX⟩ := id X
                have lX := X.lt
                have Y := Y3.out.keep HC15.out
                obtain ⟨aY, bY, cY, dY⟩ := id Y
                have lY := Y.lt
                obtain ⟨aZ1, bZ1, cZ1, dZ1⟩ := id Z1
                have lZ1 := Z1.lt
                obtain ⟨aZ2, bZ2, cZ2, dZ2⟩ := id Z2
                have lZ2 := Z2.lt
                obtain ⟨aZ3, bZ3, cZ3, dZ3⟩ := id Z3
                have lZ3 := Z3.lt
                obtain ⟨aZ4, bZ4, cZ4, dZ4⟩ := id Z4
                have lZ4 := Z4.lt
                have S := S3.out.keep HC15.out
                have s2 := S 2 _ rfl
                have s3 := S 3 _ rfl
                have s4 := S 4 _ rfl
                have lS := box_lt S
                clear hb HC14
                go_wp2_with fail
                go_at_call 18
                refine (works_any _).mono ?_
                rintro e w16 ⟨rfl, hb⟩
                have HBE := Lib.hid (bto (bto HB3.out HC15.out) hb)
                clear hb
                go_wp2_with fail
                go_ret
                exact ⟨rfl, HBE.out⟩
              · have hq : (k == 3) = false := by simp [hk3]
                have hq2 : (l == k) = true := by simpa [hk3] using hly
                clear hk3 hly
                go_enter Try.func11, Try.ntmps11
                go_wp2_with fail
                refine wp_region_ext (by kernel_rfl) (by kernel_rfl) ?_
                repeat (first | go_big_quiet_step (first | (with_reducible exact c1 _ _) | (with_reducible exact c2 _ _) | (with_reducible exact c3 _ _) | (with_reducible exact c4 _ _)) | quiet_step (first | (with_reducible exact c1 _ _) | (with_reducible exact c2 _ _) | (with_reducible exact c3 _ _) | (with_reducible exact c4 _ _)))
                refine wpQuiet_nil ?_
                intro w1 hb
                have HB1 := Lib.hid (bto HB0.out hb)
                have X := B0.keep hb
                have S := S0.keep hb
                obtain ⟨x0, x1, x2, x3⟩ := id X
                have s0 := S 0 _ rfl
                have s1 := S 1 _ rfl
                have s2 := S 2 _ rfl
                clear k0 k1 g0 g1 g2 g3 g4 m0 m1 c1 c2 c3 c4 hb B0 S0 y0 y1
                go_wp2_with fail
                go_at_call 19
                refine (copy_any _ d _ (HV.out.below HB1.out) hl1 hl2).mono ?_
                rintro e w2 ⟨v', rfl, hown, hb⟩
                obtain ⟨g, cap, A3, c3', rfl, hg1, hg2, hO⟩ := hown.at_ hpos
                obtain ⟨v0, v1, v2, hc0, hc1, hc2, hf0, hf1, hf2⟩ := hO.ptAt p hpl
                have hgw : w.heap.size + 1 < g := (by have := X.lt; have := box_lt S; omega)
                have HB2 := Lib.hid (bto HB1.out hb)
                have X := X.keep hb
                have S := S.keep hb
                obtain ⟨x0, x1, x2, x3⟩ := id X
                have s0 := S 0 _ rfl
                have s1 := S 1 _ rfl
                have s2 := S 2 _ rfl
                have lX := X.lt
                have lS := box_lt S
                have HO := Lib.hid ((hO.flow p lo hi hpl).line.line)
                rw [HD.out, HLD.out] at HO
                have HG := Lib.hid hg2
                clear hb hO hown hg1
                go_wp2_with fail
                go_at_call 47
                refine (one_any _ D _ (HO.out.below ((Below.refl _ _).alloc (Nat.le_refl _) _)) HVD2.out).mono ?_
                rintro e w3 ⟨rfl, hb⟩
                rw [H5.out]
                have HB3 := Lib.hid (bto (((HB2.out.setCell (p := ⟨g, p * 3, none⟩) (by show w.heap.size ≤ g; omega) _).setCell (p := ⟨g, p * 3 + 1, none⟩) (by show w.heap.size ≤ g; omega) _).alloc (by have := HB2.out.size; simp; omega) _) hb)
                have LO3 := Lib.hid ((HO.out.below ((Below.refl _ _).alloc (Nat.le_refl _) _)).below hb)
                have X3 := Lib.hid ((((X.other ⟨g, p * 3, none⟩ (I lo) (by show g ≠ _; omega)).other ⟨g, p * 3 + 1, none⟩ (I hi) (by show g ≠ _; omega)).old _).keep hb)
                have S3 := Lib.hid ((((S.other ⟨g, p * 3, none⟩ (I lo) (by show g ≠ _; omega)).other ⟨g, p * 3 + 1, none⟩ (I hi) (by show g ≠ _; omega)).keep ((Below.refl _ _).alloc (Nat.le_refl _) _)).keep hb)
                have Y3 := Lib.hid (((Box2.new _ _ _ _).at_ (show _ = w2.heap.size by simp)).keep hb)
                have X := X3.out
                have Y := Y3.out
                have S := S3.out
                obtain ⟨x0, x1, x2, x3⟩ := id X
                obtain ⟨y0, y1, y2, y3⟩ := id Y
                have s2 := S 2 _ rfl
                have s3 := S 3 _ rfl
                have s4 := S 4 _ rfl
                have lX := X.lt
                have lY := Y.lt
                have lS := box_lt S
                have HC3 := Lib.hid (Below.refl w3.heap.size w3)
                clear hb HB2 HO hc0 hc1 hc2 hf0 hf1 hf2 s0 s1
                go_wp2_with fail
                go_at_call 36
                refine (flow_any _ d _ _ (HV.out.below (bto HB3.out HC3.out)) hl1 hl2).mono ?_
                rintro e w4 ⟨rfl, hb⟩
                rw [HR1.out]
                have HC4 := Lib.hid (bto HC3.out hb)
                have X := X3.out.keep HC4.out
                obtain ⟨aX, bX, cX, dX⟩ := id X
                have lX := X.lt
                have Y := Y3.out.keep HC4.out
                obtain ⟨aY, bY, cY, dY⟩ := id Y
                have lY := Y.lt
                have S := S3.out.keep HC4.out
                have s2 := S 2 _ rfl
                have s3 := S 3 _ rfl
                have s4 := S 4 _ rfl
                have lS := box_lt S
                clear hb HC3
                go_wp2_with fail
                go_at_call 36
                refine (flow_any _ D _ _ (LO3.out.below (HC4.out.alloc HC4.out.size _)) hl3 hl4).mono ?_
                rintro e w5 ⟨rfl, hb⟩
                rw [HR2.out]
                have HC5 := Lib.hid (bto (HC4.out.alloc HC4.out.size _) hb)
                have Z1 := (Box2.new w4 (I a1) (I a2) 34).keep hb
                have lbZ1 := HC4.out.size
                have X := X3.out.keep HC5.out
                obtain ⟨aX, bX, cX, dX⟩ := id X
                have lX := X.lt
                have Y := Y3.out.keep HC5.out
                obtain ⟨aY, bY, cY, dY⟩ := id Y
                have lY := Y.lt
                obtain ⟨aZ1, bZ1, cZ1, dZ1⟩ := id Z1
                have lZ1 := Z1.lt
                have S := S3.out.keep HC5.out
                have s2 := S 2 _ rfl
                have s3 := S 3 _ rfl
                have s4 := S 4 _ rfl
                have lS := box_lt S
                clear hb HC4
                go_wp2_with fail
                go_at_call 38
                refine (whole_any _ d _ (HV.out.below (bto HB3.out (HC5.out.alloc HC5.out.size _))) hl1 hl2).mono ?_
                rintro e w6 ⟨rfl, hb⟩
                rw [HR3.out]
                have neZ2Z1 := Lib.hid (Nat.ne_of_gt lZ1)
                have neZ1Z2 := Lib.hid (Nat.ne_of_lt lZ1)
                have HC6 := Lib.hid (bto (HC5.out.alloc HC5.out.size _) hb)
                have Z1 := (Z1.old _).keep hb
                have Z2 := (Box2.new w5 (I b1) (I b2) 34).keep hb
                have lbZ2 := HC5.out.size
                have X := X3.out.keep HC6.out
                obtain ⟨aX, bX, cX, dX⟩ := id X
                have lX := X.lt
                have Y := Y3.out.keep HC6.out
                obtain ⟨aY, bY, cY, dY⟩ := id Y
                have lY := Y.lt
                obtain ⟨aZ1, bZ1, cZ1, dZ1⟩ := id Z1
                have lZ1 := Z1.lt
                obtain ⟨aZ2, bZ2, cZ2, dZ2⟩ := id Z2
                have lZ2 := Z2.lt
                have S := S3.out.keep HC6.out
                have s2 := S 2 _ rfl
                have s3 := S 3 _ rfl
                have s4 := S 4 _ rfl
                have lS := box_lt S
                clear hb HC5
                go_wp2_with fail
                go_at_call 38
                refine (whole_any _ D _ (LO3.out.below (HC6.out.alloc HC6.out.size _)) hl3 hl4).mono ?_
                rintro e w7 ⟨rfl, hb⟩
                rw [HR4.out]
                have neZ3Z1 := Lib.hid (Nat.ne_of_gt lZ1)
                have neZ1Z3 := Lib.hid (Nat.ne_of_lt lZ1)
                have neZ3Z2 := Lib.hid (Nat.ne_of_gt lZ2)
                have neZ2Z3 := Lib.hid (Nat.ne_of_lt lZ2)
                have HC7 := Lib.hid (bto (HC6.out.alloc HC6.out.size _) hb)
                have Z1 := (Z1.old _).keep hb
                have Z2 := (Z2.old _).keep hb
                have Z3 := (Box2.new w6 (I t1) (I t2) 34).keep hb
                have lbZ3 := HC6.out.size
                have X := X3.out.keep HC7.out
                obtain ⟨aX, bX, cX, dX⟩ := id X
                have lX := X.lt
                have Y := Y3.out.keep HC7.out
                obtain ⟨aY, bY, cY, dY⟩ := id Y
                have lY := Y.lt
                obtain ⟨aZ1, bZ1, cZ1, dZ1⟩ := id Z1
                have lZ1 := Z1.lt
                obtain ⟨aZ2, bZ2, cZ2, dZ2⟩ := id Z2
                have lZ2 := Z2.lt
                obtain ⟨aZ3, bZ3, cZ3, dZ3⟩ := id Z3
                have lZ3 := Z3.lt
                have S := S3.out.keep HC7.out
                have s2 := S 2 _ rfl
                have s3 := S 3 _ rfl
                have s4 := S 4 _ rfl
                have lS := box_lt S
                clear hb HC6
                go_wp2_with fail
                go_at_call 46
                refine (inside_any b1 b2 a1 a2 _).mono ?_
                rintro e w8 ⟨rfl, hb⟩
                rw [HI1.out]
                have neZ4Z1 := Lib.hid (Nat.ne_of_gt lZ1)
                have neZ1Z4 := Lib.hid (Nat.ne_of_lt lZ1)
                have neZ4Z2 := Lib.hid (Nat.ne_of_gt lZ2)
                have neZ2Z4 := Lib.hid (Nat.ne_of_lt lZ2)
                have neZ4Z3 := Lib.hid (Nat.ne_of_gt lZ3)
                have neZ3Z4 := Lib.hid (Nat.ne_of_lt lZ3)
                have HC8 := Lib.hid (bto (HC7.out.alloc HC7.out.size _) hb)
                have Z1 := (Z1.old _).keep hb
                have Z2 := (Z2.old _).keep hb
                have Z3 := (Z3.old _).keep hb
                have Z4 := (Box2.new w7 (I u1) (I u2) 34).keep hb
                have lbZ4 := HC7.out.size
                have X := X3.out.keep HC8.out
                obtain ⟨aX, bX, cX, dX⟩ := id X
                have lX := X.lt
                have Y := Y3.out.keep HC8.out
                obtain ⟨aY, bY, cY, dY⟩ := id Y
                have lY := Y.lt
                obtain ⟨aZ1, bZ1, cZ1, dZ1⟩ := id Z1
                have lZ1 := Z1.lt
                obtain ⟨aZ2, bZ2, cZ2, dZ2⟩ := id Z2
                have lZ2 := Z2.lt
                obtain ⟨aZ3, bZ3, cZ3, dZ3⟩ := id Z3
                have lZ3 := Z3.lt
                obtain ⟨aZ4, bZ4, cZ4, dZ4⟩ := id Z4
                have lZ4 := Z4.lt
                have S := S3.out.keep HC8.out
                have s2 := S 2 _ rfl
                have s3 := S 3 _ rfl
                have s4 := S 4 _ rfl
                have lS := box_lt S
                clear hb HC7
                go_wp2_with fail
                go_at_call 46
                refine (inside_any u1 u2 t1 t2 _).mono ?_
                rintro e w9 ⟨rfl, hb⟩
                rw [HI2.out]
                have HC9 := Lib.hid (bto HC8.out hb)
                have Z1 := Z1.keep hb
                have Z2 := Z2.keep hb
                have Z3 := Z3.keep hb
                have Z4 := Z4.keep hb
                have X := X3.out.keep HC9.out
                obtain ⟨aX, bX, cX, dX⟩ := id X
                have lX := X.lt
                have Y := Y3.out.keep HC9.out
                obtain ⟨aY, bY, cY, dY⟩ := id Y
                have lY := Y.lt
                obtain ⟨aZ1, bZ1, cZ1, dZ1⟩ := id Z1
                have lZ1 := Z1.lt
                obtain ⟨aZ2, bZ2, cZ2, dZ2⟩ := id Z2
                have lZ2 := Z2.lt
                obtain ⟨aZ3, bZ3, cZ3, dZ3⟩ := id Z3
                have lZ3 := Z3.lt
                obtain ⟨aZ4, bZ4, cZ4, dZ4⟩ := id Z4
                have lZ4 := Z4.lt
                have S := S3.out.keep HC9.out
                have s2 := S 2 _ rfl
                have s3 := S 3 _ rfl
                have s4 := S 4 _ rfl
                have lS := box_lt S
                clear hb HC8
                go_wp2_with fail
                go_at_call 48
                refine (rIsSt_any _ d _ _ (HV.out.below (bto HB3.out HC9.out)) hl1).mono ?_
                rintro e w10 ⟨rfl, hb⟩
                rw [H6.out]
                have HC10 := Lib.hid (bto HC9.out hb)
                have Z1 := Z1.keep hb
                have Z2 := Z2.keep hb
                have Z3 := Z3.keep hb
                have Z4 := Z4.keep hb
                have X := X3.out.keep HC10.out
                obtain ⟨aX, bX, cX, dX⟩ := id X
                have lX := X.lt
                have Y := Y3.out.keep HC10.out
                obtain ⟨aY, bY, cY, dY⟩ := id Y
                have lY := Y.lt
                obtain ⟨aZ1, bZ1, cZ1, dZ1⟩ := id Z1
                have lZ1 := Z1.lt
                obtain ⟨aZ2, bZ2, cZ2, dZ2⟩ := id Z2
                have lZ2 := Z2.lt
                obtain ⟨aZ3, bZ3, cZ3, dZ3⟩ := id Z3
                have lZ3 := Z3.lt
                obtain ⟨aZ4, bZ4, cZ4, dZ4⟩ := id Z4
                have lZ4 := Z4.lt
                have S := S3.out.keep HC10.out
                have s2 := S 2 _ rfl
                have s3 := S 3 _ rfl
                have s4 := S 4 _ rfl
                have lS := box_lt S
                clear hb HC9
                go_wp2_with fail
                go_at_call 49
                refine (loss_any _ d _ _ (HV.out.below (bto HB3.out HC10.out)) hl1 hl2).mono ?_
                rintro e w11 ⟨rfl, hb⟩
                rw [HR5.out]
                have HC11 := Lib.hid (bto HC10.out hb)
                have Z1 := Z1.keep hb
                have Z2 := Z2.keep hb
                have Z3 := Z3.keep hb
                have Z4 := Z4.keep hb
                have X := X3.out.keep HC11.out
                obtain ⟨aX, bX, cX, dX⟩ := id X
                have lX := X.lt
                have Y := Y3.out.keep HC11.out
                obtain ⟨aY, bY, cY, dY⟩ := id Y
                have lY := Y.lt
                obtain ⟨aZ1, bZ1, cZ1, dZ1⟩ := id Z1
                have lZ1 := Z1.lt
                obtain ⟨aZ2, bZ2, cZ2, dZ2⟩ := id Z2
                have lZ2 := Z2.lt
                obtain ⟨aZ3, bZ3, cZ3, dZ3⟩ := id Z3
                have lZ3 := Z3.lt
                obtain ⟨aZ4, bZ4, cZ4, dZ4⟩ := id Z4
                have lZ4 := Z4.lt
                have S := S3.out.keep HC11.out
                have s2 := S 2 _ rfl
                have s3 := S 3 _ rfl
                have s4 := S 4 _ rfl
                have lS := box_lt S
                clear hb HC10
                go_wp2_with fail
                go_at_call 49
                refine (loss_any _ D _ _ (LO3.out.below ((HC11.out.setCell (p := ⟨w4.heap.size, 0, none⟩) lbZ1 _).setCell (p := ⟨w4.heap.size, 1, none⟩) lbZ1 _)) hl3 hl4).mono ?_
                rintro e w12 ⟨rfl, hb⟩
                rw [HR6.out]
                have HC12 := Lib.hid (bto ((HC11.out.setCell (p := ⟨w4.heap.size, 0, none⟩) lbZ1 _).setCell (p := ⟨w4.heap.size, 1, none⟩) lbZ1 _) hb)
                have Z1 := ((Z1.set0 _).set1 _).keep hb
                have Z2 := ((Z2.other _ _ neZ1Z2.out).other _ _ neZ1Z2.out).keep hb
                have Z3 := ((Z3.other _ _ neZ1Z3.out).other _ _ neZ1Z3.out).keep hb
                have Z4 := ((Z4.other _ _ neZ1Z4.out).other _ _ neZ1Z4.out).keep hb
                have X := X3.out.keep HC12.out
                obtain ⟨aX, bX, cX, dX⟩ := id X
                have lX := X.lt
                have Y := Y3.out.keep HC12.out
                obtain ⟨aY, bY, cY, dY⟩ := id Y
                have lY := Y.lt
                obtain ⟨aZ1, bZ1, cZ1, dZ1⟩ := id Z1
                have lZ1 := Z1.lt
                obtain ⟨aZ2, bZ2, cZ2, dZ2⟩ := id Z2
                have lZ2 := Z2.lt
                obtain ⟨aZ3, bZ3, cZ3, dZ3⟩ := id Z3
                have lZ3 := Z3.lt
                obtain ⟨aZ4, bZ4, cZ4, dZ4⟩ := id Z4
                have lZ4 := Z4.lt
                have S := S3.out.keep HC12.out
                have s2 := S 2 _ rfl
                have s3 := S 3 _ rfl
                have s4 := S 4 _ rfl
                have lS := box_lt S
                clear hb HC11
                go_wp2_with fail
                go_at_call 50
                refine (lossy_any _ d _ _ (HV.out.below (bto HB3.out ((HC12.out.setCell (p := ⟨w5.heap.size, 0, none⟩) lbZ2 _).setCell (p := ⟨w5.heap.size, 1, none⟩) lbZ2 _))) hl1 hl2).mono ?_
                rintro e w13 ⟨rfl, hb⟩
                rw [HR7.out]
                have HC13 := Lib.hid (bto ((HC12.out.setCell (p := ⟨w5.heap.size, 0, none⟩) lbZ2 _).setCell (p := ⟨w5.heap.size, 1, none⟩) lbZ2 _) hb)
                have Z1 := ((Z1.other _ _ neZ2Z1.out).other _ _ neZ2Z1.out).keep hb
                have Z2 := ((Z2.set0 _).set1 _).keep hb
                have Z3 := ((Z3.other _ _ neZ2Z3.out).other _ _ neZ2Z3.out).keep hb
                have Z4 := ((Z4.other _ _ neZ2Z4.out).other _ _ neZ2Z4.out).keep hb
                have X := X3.out.keep HC13.out
                obtain ⟨aX, bX, cX, dX⟩ := id X
                have lX := X.lt
                have Y := Y3.out.keep HC13.out
                obtain ⟨aY, bY, cY, dY⟩ := id Y
                have lY := Y.lt
                obtain ⟨aZ1, bZ1, cZ1, dZ1⟩ := id Z1
                have lZ1 := Z1.lt
                obtain ⟨aZ2, bZ2, cZ2, dZ2⟩ := id Z2
                have lZ2 := Z2.lt
                obtain ⟨aZ3, bZ3, cZ3, dZ3⟩ := id Z3
                have lZ3 := Z3.lt
                obtain ⟨aZ4, bZ4, cZ4, dZ4⟩ := id Z4
                have lZ4 := Z4.lt
                have S := S3.out.keep HC13.out
                have s2 := S 2 _ rfl
                have s3 := S 3 _ rfl
                have s4 := S 4 _ rfl
                have lS := box_lt S
                clear hb HC12
                go_wp2_with fail
                go_at_call 50
                refine (lossy_any _ D _ _ (LO3.out.below HC13.out) hl3 hl4).mono ?_
                rintro e w14 ⟨rfl, hb⟩
                rw [HR8.out]
                have HC14 := Lib.hid (bto HC13.out hb)
                have Z1 := Z1.keep hb
                have Z2 := Z2.keep hb
                have Z3 := Z3.keep hb
                have Z4 := Z4.keep hb
                have X := X3.out.keep HC14.out
                obtain ⟨aX, bX, cX, dX⟩ := id X
                have lX := X.lt
                have Y := Y3.out.keep HC14.out
                obtain ⟨aY, bY, cY, dY⟩ := id Y
                have lY := Y.lt
                obtain ⟨aZ1, bZ1, cZ1, dZ1⟩ := id Z1
                have lZ1 := Z1.lt
                obtain ⟨aZ2, bZ2, cZ2, dZ2⟩ := id Z2
                have lZ2 := Z2.lt
                obtain ⟨aZ3, bZ3, cZ3, dZ3⟩ := id Z3
                have lZ3 := Z3.lt
                obtain ⟨aZ4, bZ4, cZ4, dZ4⟩ := id Z4
                have lZ4 := Z4.lt
                have S := S3.out.keep HC14.out
                have s2 := S 2 _ rfl
                have s3 := S 3 _ rfl
                have s4 := S 4 _ rfl
                have lS := box_lt S
                clear hb HC13
                go_wp2_with fail
                go_at_call 46
                refine (inside_any f1 f2 e1 e2 _).mono ?_
                rintro e w15 ⟨rfl, hb⟩
                rw [HI3.out]
                have HC15 := Lib.hid (bto HC14.out hb)
                have Z1 := Z1.keep hb
                have Z2 := Z2.keep hb
                have Z3 := Z3.keep hb
                have Z4 := Z4.keep hb
                have X := X3.out.keep HC15.out
                obtain ⟨aX, bX, cX, dX⟩ := id X
                have lX := X.lt
                have Y := Y3.out.keep HC15.out
                obtain ⟨aY, bY, cY, dY⟩ := id Y
                have lY := Y.lt
                obtain ⟨aZ1, bZ1, cZ1, dZ1⟩ := id Z1
                have lZ1 := Z1.lt
                obtain ⟨aZ2, bZ2, cZ2, dZ2⟩ := id Z2
                have lZ2 := Z2.lt
                obtain ⟨aZ3, bZ3, cZ3, dZ3⟩ := id Z3
                have lZ3 := Z3.lt
                obtain ⟨aZ4, bZ4, cZ4, dZ4⟩ := id Z4
                have lZ4 := Z4.lt
                have S := S3.out.keep HC15.out
                have s2 := S 2 _ rfl
                have s3 := S 3 _ rfl
                have s4 := S 4 _ rfl
                have lS := box_lt S
                clear hb HC14
                go_wp2_with fail
                go_at_call 18
                refine (works_any _).mono ?_
                rintro e w16 ⟨rfl, hb⟩
                have HBE := Lib.hid (bto (bto HB3.out HC15.out) hb)
                clear hb
                go_wp2_with fail
                go_ret
                exact ⟨rfl, HBE.out⟩
end Go.Proofs.Ytbddaemekgflmaa
