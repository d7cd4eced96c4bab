/- Walks of the reference's Loss, Lossy, Whole. -/
import Derived.Test.YtbddaemekgflmaaW40
import Derived.Test.YtbddaemekgflmaaW32
namespace Go.Proofs.Ytbddaemekgflmaa
open Go.RowKit Go.Sort

theorem lossOf_step (v : Value) (d : DLine) (p : Nat) (w : World) (hv : LineAt w v d) (hvd : valid d = true) (hcm : calm d.pts) (ht : p + 1 < d.pts.length) :
    Calls Try.prog 79 #[v, I p, I ((p : Int) + 1)] w fun e w' => e = .returned (.agg #[I (lostF (flowsL d) p (p + 1)).1, I (lostF (flowsL d) p (p + 1)).2]) ∧ Below w.heap.size w w' := by
  have h := lossOf_any v d p (p + 1) w hv hvd hcm (by omega) ht
  rw [show ((p + 1 : Nat) : Int) = (p : Int) + 1 by omega] at h
  rw [lostF_lossP d p (p + 1) (by omega) ht]
  exact h
theorem lossOf_all (v : Value) (d : DLine) (w : World) (hv : LineAt w v d) (hvd : valid d = true) (hcm : calm d.pts) :
    Calls Try.prog 79 #[v, I 0, I ((d.pts.length : Int) - 1)] w fun e w' => e = .returned (.agg #[I (lostF (flowsL d) 0 d.odds.length).1, I (lostF (flowsL d) 0 d.odds.length).2]) ∧ Below w.heap.size w w' := by
  have hpn := (valid_spec hvd).2.1
  have h := lossOf_any v d 0 d.odds.length w hv hvd hcm (by omega) (by omega)
  rw [show ((d.odds.length : Nat) : Int) = (d.pts.length : Int) - 1 by omega] at h
  rw [lostF_lossP d 0 d.odds.length (by omega) (by omega)]
  exact h

set_option maxRecDepth 20000 in
set_option maxHeartbeats 2000000 in
theorem rLoss_any (v : Value) (d : DLine) (p : Int) (w : World) (hv : LineAt w v d) (hlen : d.odds.length ≤ 1000) (hlen' : d.pts.length ≤ 1000) :
    Calls Try.prog 51 #[v, I p] w fun e w' => e = .returned (.tuple #[.agg #[I (lossR d p).1.1, I (lossR d p).1.2], I (lossR d p).2]) ∧ Below w.heap.size w w' := by
  have HV := Lib.hid hv
  obtain ⟨pv, ov, rfl, hp, ho⟩ := hv
  have hb0 : ∀ x y, Below w.heap.size w ((w.alloc x).alloc y) := fun x y => ((Below.refl _ _).alloc (Nat.le_refl _) _).alloc (by simp) _
  clear hp ho
  have B0 := (Box2.new w pv ov 25).old (.cells #[I 0, I 0] 34)
  have B1 := (Box2.new (w.alloc (.cells #[pv, ov] 25)) (I 0) (I 0) 34).at_ (show _ = w.heap.size + 1 by simp)
  have k0 := cell_regrown B0.c0
  have k1 := cell_regrown B0.c1
  have c1 := ext_call (w := (w.alloc (.cells #[pv, ov] 25)).alloc (.cells #[I 0, I 0] 34)) fun W hW => rIsSt_any _ d p W (HV.out.below (bto (hb0 _ _) hW)) hlen
  have c2 := ext_call (w := (w.alloc (.cells #[pv, ov] 25)).alloc (.cells #[I 0, I 0] 34)) fun W hW => rknown_any _ d (isSt d p) W (HV.out.below (bto (hb0 _ _) hW)) hlen hlen'
  have HBW := Lib.hid (hb0 (.cells #[pv, ov] 25) (.cells #[I 0, I 0] 34))
  by_cases h0 : (flowsR d (isSt d p)).2 = 0
  · obtain ⟨hvd, hpt, -, -⟩ := flowsR_bd h0
    obtain ⟨hp0, hp1⟩ := isSt_spec hpt
    have hpn := (valid_spec hvd).2.1
    have HR := Lib.hid (show lossR d p = (lostF (flowsL d) p.toNat (p.toNat + 1), 0) by unfold lossR; rw [if_pos h0])
    have HCM := Lib.hid (flowsR_calm h0)
    have HVD := Lib.hid hvd
    rw [h0] at c2
    obtain ⟨p, rfl⟩ := Int.eq_ofNat_of_zero_le hp0
    have hpl : p + 1 < d.pts.length := by omega
    clear h0 hvd hpt hpn
    go_enter Try.func51, Try.ntmps51
    go_wp2_with fail
    refine wp_region_ext (by kernel_rfl) (by kernel_rfl) ?_
    repeat (first | go_big_quiet_step (first | exact c1 _ _ | exact c2 _ _) | quiet_step (first | exact c1 _ _ | exact c2 _ _))
    refine wpQuiet_nil ?_
    clear c1 c2 k0 k1
    intro w1 hb
    have HW1 := Lib.hid (bto HBW.out hb)
    obtain ⟨x0, x1, x2, x3⟩ := B0.keep hb
    have B1 := B1.keep hb
    clear hb B0
    go_wp2_with (go_at_call 79; refine (lossOf_step _ d p _ (HV.out.below HW1.out) HVD.out HCM.out hpl).mono ?_; rintro e w2 ⟨rfl, hb⟩; have HW2 := Lib.hid (bto HW1.out hb); have B2 := B1.keep hb; obtain ⟨z0, z1, z2, z3⟩ := id B2; clear hb)
    obtain ⟨r1, r2⟩ := res2 z0 z1
    refine bodyPost_ret (v := .tuple #[.agg #[I (lostF (flowsL d) p (p + 1)).1, I (lostF (flowsL d) p (p + 1)).2], I 0]) (by simp [results, Try.results51, go_sem, r1, r2]) rfl ⟨by rw [HR.out]; simp only [Int.toNat_natCast], ?_⟩
    exact (HW2.out.setCell (p := ⟨w.heap.size + 1, 0, none⟩) (by simp) _).setCell (p := ⟨w.heap.size + 1, 1, none⟩) (by simp) _
  · have HR := Lib.hid (show lossR d p = ((0, 0), (flowsR d (isSt d p)).2) by unfold lossR; rw [if_neg h0])
    have h0' : ((flowsR d (isSt d p)).2 != 0) = true := by simpa using h0
    clear h0
    go_enter Try.func51, Try.ntmps51
    go_wp2_with fail
    refine wp_region_ext (by kernel_rfl) (by kernel_rfl) ?_
    repeat (first | go_big_quiet_step (first | exact c1 _ _ | exact c2 _ _) | quiet_step (first | exact c1 _ _ | exact c2 _ _))
    refine wpQuiet_nil ?_
    clear c1 c2 k0 k1
    intro w1 hb
    have HW1 := Lib.hid (bto HBW.out hb)
    obtain ⟨x0, x1, x2, x3⟩ := B1.keep hb
    clear hb B0
    obtain ⟨r1, r2⟩ := res2 x0 x1
    go_wp2_with fail
    refine bodyPost_ret (v := .tuple #[.agg #[I 0, I 0], I (flowsR d (isSt d p)).2]) (by simp [results, Try.results51, go_sem, r1, r2]) rfl ⟨by rw [HR.out], ?_⟩
    exact (HW1.out.setCell (p := ⟨w.heap.size + 1, 0, none⟩) (by simp) _).setCell (p := ⟨w.heap.size + 1, 1, none⟩) (by simp) _

set_option maxRecDepth 20000 in
set_option maxHeartbeats 2000000 in
theorem rWhole_any (v : Value) (d : DLine) (w : World) (hv : LineAt w v d) (hlen : d.odds.length ≤ 1000) (hlen' : d.pts.length ≤ 1000) :
    Calls Try.prog 39 #[v] w fun e w' => e = .returned (.tuple #[.agg #[I (wholeR d).1.1, I (wholeR d).1.2], I (wholeR d).2]) ∧ Below w.heap.size w w' := by
  have HV := Lib.hid hv
  obtain ⟨pv, ov, rfl, hp, ho⟩ := hv
  obtain ⟨A, c, rfl, hac, hcm, ha⟩ := id hp.open_
  have hb0 : ∀ x y, Below w.heap.size w ((w.alloc x).alloc y) := fun x y => ((Below.refl _ _).alloc (Nat.le_refl _) _).alloc (by simp) _
  clear hp ho ha
  have B0 := (Box2.new w (.slice A d.pts.length c) ov 25).old (.cells #[I 0, I 0] 34)
  have B1 := (Box2.new (w.alloc (.cells #[.slice A d.pts.length c, ov] 25)) (I 0) (I 0) 34).at_ (show _ = w.heap.size + 1 by simp)
  have HBW := Lib.hid (hb0 (.cells #[.slice A d.pts.length c, ov] 25) (.cells #[I 0, I 0] 34))
  by_cases h0 : (flowsR d true).2 = 0
  · obtain ⟨hvd, -, -, -⟩ := flowsR_bd h0
    have HR := Lib.hid (show wholeR d = (lostF (flowsL d) 0 d.odds.length, 0) by unfold wholeR; rw [if_pos h0])
    have HCM := Lib.hid (flowsR_calm h0)
    have HVD := Lib.hid hvd
    have H0 := Lib.hid h0
    clear h0 hvd
    go_enter Try.func39, Try.ntmps39
    go_wp2_with (first | (go_at_call 76; refine (rknown_any _ d true _ (HV.out.below HBW.out) hlen hlen').mono ?_; rintro e w1 ⟨rfl, hb⟩; rw [H0.out]; have HW1 := Lib.hid (bto HBW.out hb); have B0 := B0.keep hb; obtain ⟨x0, x1, x2, x3⟩ := id B0; have B1 := B1.keep hb; clear hb) | (go_at_call 79; refine (lossOf_all _ d _ (HV.out.below HW1.out) HVD.out HCM.out).mono ?_; rintro e w2 ⟨rfl, hb⟩; have HW2 := Lib.hid (bto HW1.out hb); have B2 := B1.keep hb; obtain ⟨z0, z1, z2, z3⟩ := id B2; clear hb))
    obtain ⟨r1, r2⟩ := res2 z0 z1
    refine bodyPost_ret (v := .tuple #[.agg #[I (lostF (flowsL d) 0 d.odds.length).1, I (lostF (flowsL d) 0 d.odds.length).2], I 0]) (by simp [results, Try.results39, go_sem, r1, r2]) rfl ⟨by rw [HR.out], ?_⟩
    exact (HW2.out.setCell (p := ⟨w.heap.size + 1, 0, none⟩) (by simp) _).setCell (p := ⟨w.heap.size + 1, 1, none⟩) (by simp) _
  · have HR := Lib.hid (show wholeR d = ((0, 0), (flowsR d true).2) by unfold wholeR; rw [if_neg h0])
    have h0' : ((flowsR d true).2 != 0) = true := by simpa using h0
    clear h0
    go_enter Try.func39, Try.ntmps39
    go_wp2_with (go_at_call 76; refine (rknown_any _ d true _ (HV.out.below HBW.out) hlen hlen').mono ?_; rintro e w1 ⟨rfl, hb⟩; have HW1 := Lib.hid (bto HBW.out hb); obtain ⟨z0, z1, z2, z3⟩ := B1.keep hb; clear hb)
    obtain ⟨r1, r2⟩ := res2 z0 z1
    refine bodyPost_ret (v := .tuple #[.agg #[I 0, I 0], I (flowsR d true).2]) (by simp [results, Try.results39, go_sem, r1, r2]) rfl ⟨by rw [HR.out], ?_⟩
    exact (HW1.out.setCell (p := ⟨w.heap.size + 1, 0, none⟩) (by simp) _).setCell (p := ⟨w.heap.size + 1, 1, none⟩) (by simp) _

set_option maxRecDepth 20000 in
set_option maxHeartbeats 1000000 in
theorem rLossy_any (v : Value) (d : DLine) (p : Int) (w : World) (hv : LineAt w v d) (hlen : d.odds.length ≤ 1000) (hlen' : d.pts.length ≤ 1000) :
    Calls Try.prog 52 #[v, I p] w fun e w' => e = .returned (.tuple #[I (lossyR d p).1, I (lossyR d p).2]) ∧ Below w.heap.size w w' := by
  have HV := Lib.hid hv
  obtain ⟨pv, ov, rfl, hp, ho⟩ := hv
  have hb0 : ∀ x, Below w.heap.size w (w.alloc x) := fun x => (Below.refl _ _).alloc (Nat.le_refl _) _
  clear hp ho
  obtain ⟨⟨⟨lo, hi⟩, er⟩, hR⟩ : ∃ r, lossR d p = r := ⟨_, rfl⟩
  have HL := Lib.hid (show lossyR d p = lossyOf ((lo, hi), er) by unfold lossyR; rw [hR])
  have HR := Lib.hid hR
  clear hR
  by_cases h0 : er = 0
  · subst h0
    by_cases h1 : 0 < lo
    · have HX := Lib.hid (show lossyOf ((lo, hi), 0) = (1, 0) by simp [lossyOf, h1])
      go_enter Try.func52, Try.ntmps52
      go_wp2_with (go_at_call 51; refine (rLoss_any _ d _ _ (HV.out.below (hb0 _)) hlen hlen').mono ?_; rintro e w1 ⟨rfl, hb⟩; rw [HR.out]; have HB1 := Lib.hid (bto (hb0 _) hb); clear hb)
      go_ret2
      exact ⟨by rw [HL.out, HX.out]; rfl, HB1.out.alloc HB1.out.size _⟩
    · by_cases h2 : hi = 0
      · subst h2
        have HX := Lib.hid (show lossyOf ((lo, 0), 0) = (2, 0) by simp [lossyOf, h1])
        go_enter Try.func52, Try.ntmps52
        go_wp2_with (go_at_call 51; refine (rLoss_any _ d _ _ (HV.out.below (hb0 _)) hlen hlen').mono ?_; rintro e w1 ⟨rfl, hb⟩; rw [HR.out]; have HB1 := Lib.hid (bto (hb0 _) hb); clear hb)
        go_ret2
        exact ⟨by rw [HL.out, HX.out]; rfl, HB1.out.alloc HB1.out.size _⟩
      · have HX := Lib.hid (show lossyOf ((lo, hi), 0) = (3, 0) by simp [lossyOf, h1, h2])
        have h2' : (hi == 0) = false := beq_eq_false_iff_ne.2 h2
        go_enter Try.func52, Try.ntmps52
        go_wp2_with (go_at_call 51; refine (rLoss_any _ d _ _ (HV.out.below (hb0 _)) hlen hlen').mono ?_; rintro e w1 ⟨rfl, hb⟩; rw [HR.out]; have HB1 := Lib.hid (bto (hb0 _) hb); clear hb)
        go_ret2
        exact ⟨by rw [HL.out, HX.out]; rfl, HB1.out.alloc HB1.out.size _⟩
  · have HX := Lib.hid (show lossyOf ((lo, hi), er) = (0, er) by simp [lossyOf, h0])
    have h0' : (er != 0) = true := by simpa using h0
    clear h0
    go_enter Try.func52, Try.ntmps52
    go_wp2_with (go_at_call 51; refine (rLoss_any _ d _ _ (HV.out.below (hb0 _)) hlen hlen').mono ?_; rintro e w1 ⟨rfl, hb⟩; rw [HR.out]; have HB1 := Lib.hid (bto (hb0 _) hb); clear hb)
    go_ret2
    exact ⟨by rw [HL.out, HX.out]; rfl, HB1.out.alloc HB1.out.size _⟩
end Go.Proofs.Ytbddaemekgflmaa
