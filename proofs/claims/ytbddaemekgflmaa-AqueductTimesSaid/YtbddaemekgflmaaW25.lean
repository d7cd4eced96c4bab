/- Walks of the reference's next, Worst, Next. -/
import Derived.Test.YtbddaemekgflmaaW23
namespace Go.Proofs.Ytbddaemekgflmaa
open Go.RowKit Go.Sort

set_option maxRecDepth 20000 in
set_option maxHeartbeats 2000000 in
theorem rnext_any (d : DLine) (hvd : valid d = true) (f t : Nat) (v : Value) (w : World) (hft : f + 2 ≤ t) (ht : t ≤ d.odds.length) (hv : LineAt w v d) :
    Calls Try.prog 66 #[v, I f, I t] w fun e w' => e = .returned (I (nextN d f t : Nat)) ∧ Below w.heap.size w w' := by
  have HV := Lib.hid hv
  have HVD := Lib.hid hvd
  obtain ⟨hn7, hnp, -⟩ := valid_spec hvd
  have HNP := Lib.hid hnp
  clear hnp hvd
  obtain ⟨pv, ov, rfl, hp, ho⟩ := hv
  obtain ⟨A', c2, rfl, hac', hcm', hpc⟩ := id hp.open_
  have HPC := Lib.hid hpc
  have hb0 : ∀ x, Below w.heap.size w (w.alloc x) := fun x => (Below.refl _ _).alloc (Nat.le_refl _) _
  obtain ⟨w0, hw0⟩ : ∃ w0, w.alloc (.cells #[.slice A' d.pts.length c2, ov] 25) = w0 := ⟨_, rfl⟩
  have B0 := Box2.new w (.slice A' d.pts.length c2) ov 25
  have hbw := hb0 (.cells #[.slice A' d.pts.length c2, ov] 25)
  rw [hw0] at B0 hbw
  have HB := Lib.hid B0
  have HBW := Lib.hid hbw
  have HW0 := Lib.hid hw0
  clear hp ho hpc B0 hbw hw0
  obtain ⟨hP1, hP2, hP3⟩ : f < nextN d f t ∧ nextN d f t < t ∧ worstN d f t = tabG (worstP d) (t - f) f (nextN d f t) := by
    unfold nextN
    rw [worstN_eq, tab_eq]
    obtain ⟨h1, h2, h3⟩ := (argmin_pt (tabG (worstP d) (t - f) f) f (t - f - 1)).2 (by omega)
    exact ⟨h1, by omega, h3⟩
  have hPF : ∀ p, f < p → p < nextN d f t → worstN d f t < tabG (worstP d) (t - f) f p := by
    intro p h1 h2
    rw [worstN_eq]
    unfold nextN at h2
    rw [tab_eq] at h2
    exact argmin_first _ _ _ p h1 h2
  obtain ⟨P, hP⟩ : ∃ P, nextN d f t = P := ⟨_, rfl⟩
  rw [hP] at hP1 hP2 hP3 hPF
  have HP := Lib.hid hP
  have HP3 := Lib.hid hP3
  have HPF := Lib.hid hPF
  clear hP hP3 hPF
  go_enter Try.func66, Try.ntmps66
  go_wp2_with fail
  rw [HW0.out]
  go_loopw [7] (fun p wr => ∃ q : Nat, f < q ∧ q ≤ P ∧ p = I (q : Int) ∧ Hid (Below w0.heap.size w0 wr)) (fun p _ => t - (intOf p).toNat)
  case atStart => exact ⟨f + 1, by omega, by omega, by go_num, Lib.hid (Below.refl _ _)⟩
  case round =>
    obtain ⟨q, hq, hk, rfl, hW⟩ := hrel
    have hlt : q < t := by omega
    have hpl : q < d.pts.length := by have := HNP.out; omega
    obtain ⟨b, o, hbo, hbl, hcell⟩ := HPC.out (by omega)
    have hz := keep_cell hW.out (keep_cell HBW.out (hcell _ hpl).2.2)
    have hce : costAt d q = d.pts[q].cost := by unfold costAt; rw [List.getElem?_eq_getElem hpl]; rfl
    rw [← hce] at hz
    have bx := worst_bd HVD.out f q (by omega) (by omega)
    have bz := worst_bd HVD.out q t (by omega) (by omega)
    have bc := costAt_bd HVD.out q
    have c1 := ext_call (w := wr) fun W hW' => rworst_any d HVD.out _ f q _ W rfl (by omega) (by omega) (HV.out.below (bto HBW.out (bto hW.out hW')))
    have c2 := ext_call (w := wr) fun W hW' => rworst_any d HVD.out _ q t _ W rfl (by omega) (by omega) (HV.out.below (bto HBW.out (bto hW.out hW')))
    have c3 := ext_call (w := wr) fun W hW' => rworst_any d HVD.out _ f t _ W rfl (by omega) (by omega) (HV.out.below (bto HBW.out (bto hW.out hW')))
    have hg := tabG_worst d f t q hq hlt
    have h3 := HP3.out
    have hf := HPF.out q hq
    have hwt := worst_bd HVD.out f t (by omega) (by omega)
    obtain ⟨Wt, hWt⟩ : ∃ X, worstN d f t = X := ⟨_, rfl⟩
    obtain ⟨X, hX⟩ : ∃ X, worstN d f q = X := ⟨_, rfl⟩
    obtain ⟨Z, hZ⟩ : ∃ X, worstN d q t = X := ⟨_, rfl⟩
    obtain ⟨C, hC⟩ : ∃ X, costAt d q = X := ⟨_, rfl⟩
    rw [hX, hZ, hC] at hg
    rw [hWt] at h3 hf c3 hwt
    rw [hg] at hf
    have h4 : q = P → Wt = C + max X Z := fun e => by rw [h3, ← e, hg]
    rw [hX] at c1 bx
    rw [hZ] at c2 bz
    rw [hC] at hz bc
    have k0 := cell_regrown (HB.out.keep hW.out).c0
    have k1 := cell_regrown (HB.out.keep hW.out).c1
    have k2 := cell_regrown hz
    obtain ⟨bx1, bx2⟩ := bx
    obtain ⟨bz1, bz2⟩ := bz
    obtain ⟨bc1, bc2⟩ := bc
    obtain ⟨bw1, bw2⟩ := hwt
    subst hbo
    have i2 : (q : Int) < (d.pts.length : Int) := by omega
    have i3 : (q : Int) < (t : Int) := by omega
    clear hcell hce hX hZ hC hz hg h3 hWt
    by_cases hmx : Z ≤ X
    · by_cases hqP : q = P
      · have e1 : ((C + X) == Wt) = true := beq_iff_eq.2 (by have := h4 hqP; omega)
        have HQ := Lib.hid hqP
        clear hqP hf h4
        go_wp2_with fail
        refine wp_region_ext (by kernel_rfl) (by kernel_rfl) ?_
        repeat (first | go_big_quiet_step (first | with_reducible exact c1 _ _ | with_reducible exact c2 _ _ | with_reducible exact c3 _ _) | quiet_step (first | with_reducible exact c1 _ _ | with_reducible exact c2 _ _ | with_reducible exact c3 _ _))
        refine wpQuiet_nil ?_
        clear c1 c2 c3 k0 k1 k2
        intro wn hb
        have HB1 := Lib.hid hb
        clear hb
        go_wp2_with fail
        go_ret
        exact ⟨by rw [HP.out, ← HQ.out]; rfl, bto HBW.out (bto hW.out HB1.out)⟩
      · have e1 : ((C + X) == Wt) = false := beq_eq_false_iff_ne.2 (by have := hf (by omega); omega)
        clear hf h4
        go_wp2_with fail
        refine wp_region_ext (by kernel_rfl) (by kernel_rfl) ?_
        repeat (first | go_big_quiet_step (first | with_reducible exact c1 _ _ | with_reducible exact c2 _ _ | with_reducible exact c3 _ _) | quiet_step (first | with_reducible exact c1 _ _ | with_reducible exact c2 _ _ | with_reducible exact c3 _ _))
        refine wpQuiet_nil ?_
        clear c1 c2 c3 k0 k1 k2
        intro wn hb
        have HB1 := Lib.hid hb
        clear hb
        go_wp2_with fail
        go_roundw
        case rel => exact ⟨q + 1, by omega, by omega, by go_num, Lib.hid (bto hW.out HB1.out)⟩
        case measure => first | (simp [intOf]; done) | (simp [intOf]; omega)
    · by_cases hqP : q = P
      · have e1 : ((C + Z) == Wt) = true := beq_iff_eq.2 (by have := h4 hqP; omega)
        have HQ := Lib.hid hqP
        clear hqP hf h4
        go_wp2_with fail
        refine wp_region_ext (by kernel_rfl) (by kernel_rfl) ?_
        repeat (first | go_big_quiet_step (first | with_reducible exact c1 _ _ | with_reducible exact c2 _ _ | with_reducible exact c3 _ _) | quiet_step (first | with_reducible exact c1 _ _ | with_reducible exact c2 _ _ | with_reducible exact c3 _ _))
        refine wpQuiet_nil ?_
        clear c1 c2 c3 k0 k1 k2
        intro wn hb
        have HB1 := Lib.hid hb
        clear hb
        go_wp2_with fail
        go_ret
        exact ⟨by rw [HP.out, ← HQ.out]; rfl, bto HBW.out (bto hW.out HB1.out)⟩
      · have e1 : ((C + Z) == Wt) = false := beq_eq_false_iff_ne.2 (by have := hf (by omega); omega)
        clear hf h4
        go_wp2_with fail
        refine wp_region_ext (by kernel_rfl) (by kernel_rfl) ?_
        repeat (first | go_big_quiet_step (first | with_reducible exact c1 _ _ | with_reducible exact c2 _ _ | with_reducible exact c3 _ _) | quiet_step (first | with_reducible exact c1 _ _ | with_reducible exact c2 _ _ | with_reducible exact c3 _ _))
        refine wpQuiet_nil ?_
        clear c1 c2 c3 k0 k1 k2
        intro wn hb
        have HB1 := Lib.hid hb
        clear hb
        go_wp2_with fail
        go_roundw
        case rel => exact ⟨q + 1, by omega, by omega, by go_num, Lib.hid (bto hW.out HB1.out)⟩
        case measure => first | (simp [intOf]; done) | (simp [intOf]; omega)

set_option maxRecDepth 20000 in
set_option maxHeartbeats 2000000 in
theorem rWorst_any (v : Value) (d : DLine) (f t : Int) (w : World) (hv : LineAt w v d) (hlen : d.odds.length ≤ 1000) (hlen' : d.pts.length ≤ 1000) :
    Calls Try.prog 28 #[v, I f, I t] w fun e w' => e = .returned (.tuple #[I (worstR d f t).1, I (worstR d f t).2]) ∧ Below w.heap.size w w' := by
  have HV := Lib.hid hv
  obtain ⟨pv, ov, rfl, hp, ho⟩ := hv
  have hb0 : ∀ x, Below w.heap.size w (w.alloc x) := fun x => (Below.refl _ _).alloc (Nat.le_refl _) _
  clear hp ho
  have B0 := Box2.new w pv ov 25
  have k0 := cell_regrown B0.c0
  have k1 := cell_regrown B0.c1
  have c1 := ext_call (w := w.alloc (.cells #[pv, ov] 25)) fun W hW => rAreSome_any _ d f t W (HV.out.below (bto (hb0 _) hW)) hlen
  have c2 := ext_call (w := w.alloc (.cells #[pv, ov] 25)) fun W hW => rask_any _ d (someOf d f t) W (HV.out.below (bto (hb0 _) hW)) hlen hlen'
  by_cases h0 : askE d (someOf d f t) = 0
  · obtain ⟨hvd, hso⟩ := askE_ok h0
    obtain ⟨hf0, hft, htn⟩ := someOf_spec hso
    obtain ⟨hn, -⟩ := valid_spec hvd
    obtain ⟨f, rfl⟩ := Int.eq_ofNat_of_zero_le hf0
    obtain ⟨t, rfl⟩ := Int.eq_ofNat_of_zero_le (show 0 ≤ t by omega)
    have HR := Lib.hid (show worstR d f t = (worstN d f t, 0) from worstR_ok hvd f t (by omega) (by omega))
    have HVD := Lib.hid hvd
    rw [h0] at c2
    clear h0 hso hvd
    go_enter Try.func28, Try.ntmps28
    go_wp2_with fail
    refine wp_region_ext (by kernel_rfl) (by kernel_rfl) ?_
    repeat (first | go_big_quiet_step (first | exact c1 _ _ | exact c2 _ _) | quiet_step (first | exact c1 _ _ | exact c2 _ _))
    refine wpQuiet_nil ?_
    clear c1 c2 k0 k1
    intro w1 hb1
    obtain ⟨x0, x1, x2, x3⟩ := B0.keep hb1
    go_wp2_with (go_at_call 65; refine (rworst_any d HVD.out _ f t _ _ rfl (by omega) (by omega) (HV.out.below (bto (hb0 _) hb1))).mono ?_; rintro e w2 ⟨rfl, hb2⟩)
    go_ret2
    exact ⟨by rw [HR.out]; rfl, bto (hb0 _) (bto hb1 hb2)⟩
  · have HR := Lib.hid (show worstR d f t = (0, askE d (someOf d f t)) by unfold worstR; rw [if_neg h0])
    have h0' : (askE d (someOf d f t) != 0) = true := by simpa using h0
    clear h0
    go_enter Try.func28, Try.ntmps28
    go_wp2_with fail
    refine wp_region_ext (by kernel_rfl) (by kernel_rfl) ?_
    repeat (first | go_big_quiet_step (first | exact c1 _ _ | exact c2 _ _) | quiet_step (first | exact c1 _ _ | exact c2 _ _))
    refine wpQuiet_nil ?_
    clear c1 c2 k0 k1
    intro w1 hb1
    go_wp2_with fail
    go_ret2
    exact ⟨by rw [HR.out]; rfl, bto (hb0 _) hb1⟩

set_option maxRecDepth 20000 in
set_option maxHeartbeats 2000000 in
theorem rNext_any (v : Value) (d : DLine) (f t : Int) (w : World) (hv : LineAt w v d) (hlen : d.odds.length ≤ 1000) (hlen' : d.pts.length ≤ 1000) :
    Calls Try.prog 29 #[v, I f, I t] w fun e w' => e = .returned (.tuple #[I (nextR d f t).1, I (nextR d f t).2]) ∧ Below w.heap.size w w' := by
  have HV := Lib.hid hv
  obtain ⟨pv, ov, rfl, hp, ho⟩ := hv
  have hb0 : ∀ x, Below w.heap.size w (w.alloc x) := fun x => (Below.refl _ _).alloc (Nat.le_refl _) _
  clear hp ho
  have B0 := Box2.new w pv ov 25
  have k0 := cell_regrown B0.c0
  have k1 := cell_regrown B0.c1
  have c1 := ext_call (w := w.alloc (.cells #[pv, ov] 25)) fun W hW => rAreSome_any _ d f t W (HV.out.below (bto (hb0 _) hW)) hlen
  have c2 := ext_call (w := w.alloc (.cells #[pv, ov] 25)) fun W hW => rask_any _ d (someOf d f t) W (HV.out.below (bto (hb0 _) hW)) hlen hlen'
  by_cases h0 : askE d (someOf d f t) = 0
  · obtain ⟨hvd, hso⟩ := askE_ok h0
    obtain ⟨hf0, hft, htn⟩ := someOf_spec hso
    obtain ⟨hn, -⟩ := valid_spec hvd
    obtain ⟨f, rfl⟩ := Int.eq_ofNat_of_zero_le hf0
    obtain ⟨t, rfl⟩ := Int.eq_ofNat_of_zero_le (show 0 ≤ t by omega)
    have HVD := Lib.hid hvd
    by_cases h1 : t = f + 1
    · have HR := Lib.hid (show nextR d f t = (0, 3) by unfold nextR; rw [if_pos h0, if_pos (by omega)])
      have h1' : ((t : Int) == (f : Int) + 1) = true := beq_iff_eq.2 (by omega)
      rw [h0] at c2
      clear h0 hso hvd h1
      go_enter Try.func29, Try.ntmps29
      go_wp2_with fail
      refine wp_region_ext (by kernel_rfl) (by kernel_rfl) ?_
      repeat (first | go_big_quiet_step (first | exact c1 _ _ | exact c2 _ _) | quiet_step (first | exact c1 _ _ | exact c2 _ _))
      refine wpQuiet_nil ?_
      clear c1 c2 k0 k1
      intro w1 hb1
      obtain ⟨x0, x1, x2, x3⟩ := B0.keep hb1
      go_wp2_with fail
      go_ret2
      exact ⟨by rw [HR.out]; rfl, bto (hb0 _) hb1⟩
    · have HR := Lib.hid (show nextR d f t = (((nextN d f t : Nat) : Int), 0) by unfold nextR; rw [if_pos h0, if_neg (by omega)]; simp only [Int.toNat_natCast])
      have h1' : ((t : Int) == (f : Int) + 1) = false := beq_eq_false_iff_ne.2 (by omega)
      have h2 : f + 2 ≤ t := by omega
      rw [h0] at c2
      clear h0 hso hvd h1
      go_enter Try.func29, Try.ntmps29
      go_wp2_with fail
      refine wp_region_ext (by kernel_rfl) (by kernel_rfl) ?_
      repeat (first | go_big_quiet_step (first | exact c1 _ _ | exact c2 _ _) | quiet_step (first | exact c1 _ _ | exact c2 _ _))
      refine wpQuiet_nil ?_
      clear c1 c2 k0 k1
      intro w1 hb1
      obtain ⟨x0, x1, x2, x3⟩ := B0.keep hb1
      go_wp2_with (go_at_call 66; refine (rnext_any d HVD.out f t _ _ h2 (by omega) (HV.out.below (bto (hb0 _) hb1))).mono ?_; rintro e w2 ⟨rfl, hb2⟩)
      go_ret2
      exact ⟨by rw [HR.out]; rfl, bto (hb0 _) (bto hb1 hb2)⟩
  · have HR := Lib.hid (show nextR d f t = (0, askE d (someOf d f t)) by unfold nextR; rw [if_neg h0])
    have h0' : (askE d (someOf d f t) != 0) = true := by simpa using h0
    clear h0
    go_enter Try.func29, Try.ntmps29
    go_wp2_with fail
    refine wp_region_ext (by kernel_rfl) (by kernel_rfl) ?_
    repeat (first | go_big_quiet_step (first | exact c1 _ _ | exact c2 _ _) | quiet_step (first | exact c1 _ _ | exact c2 _ _))
    refine wpQuiet_nil ?_
    clear c1 c2 k0 k1
    intro w1 hb1
    go_wp2_with fail
    go_ret2
    exact ⟨by rw [HR.out]; rfl, bto (hb0 _) hb1⟩
end Go.Proofs.Ytbddaemekgflmaa
