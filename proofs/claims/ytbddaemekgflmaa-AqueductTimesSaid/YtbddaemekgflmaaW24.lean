/- Walks of the reference's OddsOf and average. -/
import Derived.Test.YtbddaemekgflmaaW23
import Derived.Test.YtbddaemekgflmaaPlain4
namespace Go.Proofs.Ytbddaemekgflmaa
open Go.RowKit Go.Sort

set_option maxRecDepth 20000 in
set_option maxHeartbeats 1000000 in
theorem rodds_any (d : DLine) (hvd : valid d = true) (f t : Nat) (v : Value) (w : World) (hft : f ≤ t) (ht : t ≤ d.odds.length) (hv : LineAt w v d) :
    Calls Try.prog 68 #[v, I f, I t] w fun e w' => e = .returned (I (oddsOf d f t)) ∧ Below w.heap.size w w' := by
  have HV := Lib.hid hv
  have HVD := Lib.hid hvd
  obtain ⟨hn7, -, hox⟩ := valid_spec hvd
  have HOX := Lib.hid hox.2
  clear hvd hox
  obtain ⟨pv, ov, rfl, hp, ho⟩ := hv
  obtain ⟨A, c1, rfl, hac, hcm, hoc⟩ := id ho.open_
  have HOC := Lib.hid hoc
  have hbw : Below w.heap.size w (w.alloc (.cells #[pv, .slice A d.odds.length c1] 25)) := (Below.refl _ _).alloc (Nat.le_refl _) _
  have HBW := Lib.hid hbw
  clear hp ho hoc hbw
  go_enter Try.func68, Try.ntmps68
  go_wp2_with fail
  go_loop [7, 8] (fun s i => ∃ q : Nat, f ≤ q ∧ q ≤ t ∧ i = I (q : Int) ∧ s = I (oddsOf d f q)) (fun _ i => t - (intOf i).toNat)
  case atStart => exact ⟨f, by omega, hft, rfl, by rw [oddsOf_self]⟩
  case round =>
    obtain ⟨q, hq1, hq2, rfl, rfl⟩ := hrel
    have bo := oddsOf_bd d f q (fun x hx => by have := HOX.out x hx; omega)
    by_cases hlt : q < t
    · have hql : q < d.odds.length := by omega
      obtain ⟨b, o, hbo, hbl, hcell⟩ := HOC.out (by omega)
      have hz := box_old w (.cells #[pv, .slice A d.odds.length c1] 25) (hcell q hql)
      have hxb := HOX.out _ (List.getElem_mem hql)
      have HS := Lib.hid (oddsOf_back d f q hq1 hql)
      obtain ⟨O, hO⟩ : ∃ O, oddsOf d f q = O := ⟨_, rfl⟩
      obtain ⟨Z, hZ⟩ : ∃ Z, d.odds[q] = Z := ⟨_, rfl⟩
      rw [hO] at bo HS ⊢
      rw [hZ] at hz hxb HS
      obtain ⟨bo1, bo2⟩ := bo
      obtain ⟨hx1, hx2⟩ := hxb
      subst hbo
      clear hcell hO hZ
      have i2 : (q : Int) < (d.odds.length : Int) := by omega
      go_wp2_with fail
      go_round
      case rel => exact ⟨q + 1, by omega, by omega, by go_num, by rw [HS.out]⟩
      case measure => simp [intOf]; omega
    · obtain rfl : q = t := by omega
      go_wp2_with fail
      go_ret
      exact ⟨rfl, HBW.out⟩

theorem tabG_sum (d : DLine) (f t p : Nat) (h1 : f < p) (h2 : p < t) : tabG (sumP d) (t - f) f p = costAt d p * oddsOf d f t + avgN d f p + avgN d p t := by
  unfold tabG avgN sumP
  rw [show f + (t - f) - p = t - p by omega, show f + (t - f) = t by omega]
theorem avgN_eq (d : DLine) (f t : Nat) : avgN d f t = (argmin (tabG (sumP d) (t - f) f) f (t - f - 1)).1 := by
  unfold avgN
  rw [tab_eq]
theorem avg_bd {d : DLine} (h : valid d = true) (f t : Nat) (ht : t ≤ d.odds.length) (hf : f ≤ t) : 0 ≤ avgN d f t ∧ avgN d f t ≤ 10000 := by
  have h1 := (valid_spec h).1
  have h2 := tab_small (sum_small h) (t - f) f (by omega)
  unfold avgN
  omega

set_option maxRecDepth 20000 in
set_option maxHeartbeats 2000000 in
theorem raverage_any (d : DLine) (hvd : valid d = true) (m : Nat) : ∀ (f t : Nat) (v : Value) (w : World), t - f = m → f < t → t ≤ d.odds.length → LineAt w v d →
    Calls Try.prog 67 #[v, I f, I t] w fun e w' => e = .returned (I (avgN d f t)) ∧ Below w.heap.size w w' := by
  induction m using Nat.strongRecOn with
  | _ m ih =>
    intro f t v w hm hft ht hv
    have HV := Lib.hid hv
    have IH := Lib.hid ih
    have HVD := Lib.hid hvd
    obtain ⟨hn7, hnp, -⟩ := valid_spec hvd
    have HNP := Lib.hid hnp
    have HMM := Lib.hid hm
    clear hnp hvd ih hm
    obtain ⟨pv, ov, rfl, hp, ho⟩ := hv
    obtain ⟨A', c2, rfl, hac', hcm', hpc⟩ := id hp.open_
    have HPC := Lib.hid hpc
    have hb0 : ∀ x, Below w.heap.size w (w.alloc x) := fun x => (Below.refl _ _).alloc (Nat.le_refl _) _
    have HB0 := Lib.hid (Below.refl (w.alloc (.cells #[.slice A' d.pts.length c2, ov] 25)).heap.size (w.alloc (.cells #[.slice A' d.pts.length c2, ov] 25)))
    obtain ⟨w0, hw0⟩ : ∃ w0, w.alloc (.cells #[.slice A' d.pts.length c2, ov] 25) = w0 := ⟨_, rfl⟩
    have B0 := Box2.new w (.slice A' d.pts.length c2) ov 25
    have hbw := hb0 (.cells #[.slice A' d.pts.length c2, ov] 25)
    rw [hw0] at B0 hbw HB0
    have HB := Lib.hid B0
    have HBW := Lib.hid hbw
    have HW0 := Lib.hid hw0
    clear hp ho hpc B0 hbw hw0
    have HE := Lib.hid (avgN_eq d f t)
    go_enter Try.func67, Try.ntmps67
    go_wp2_with fail
    rw [HW0.out]
    go_loopw [7, 8] (fun bv p wr => ∃ q : Nat, f < q ∧ (f < t → q ≤ t) ∧ p = I (q : Int) ∧ bv = I (argmin (tabG (sumP d) (t - f) f) f (q - f - 1)).1 ∧ Hid (Below w0.heap.size w0 wr)) (fun _ p _ => t - (intOf p).toNat)
    case atStart => exact ⟨f + 1, by omega, fun h => by omega, by go_num, by rw [show f + 1 - f - 1 = 0 by omega]; rfl, HB0⟩
    case round =>
      obtain ⟨q, hq, hk, rfl, rfl, hW⟩ := hrel
      by_cases hlt : q < t
      · have hpl : q < d.pts.length := by have := HNP.out; omega
        obtain ⟨b, o, hbo, hbl, hcell⟩ := HPC.out (by omega)
        have hz := keep_cell hW.out (keep_cell HBW.out (hcell _ hpl).2.2)
        have hce : costAt d (q) = d.pts[q].cost := by unfold costAt; rw [List.getElem?_eq_getElem hpl]; rfl
        rw [← hce] at hz
        have bx := avg_bd HVD.out f (q) (by omega) (by omega)
        have bz := avg_bd HVD.out (q) t (by omega) (by omega)
        have bc := costAt_bd HVD.out (q)
        have c1 := ext_call (w := wr) fun W hW' => IH.out (q - f) (by have := HMM.out; omega) f (q) _ W (by omega) (by omega) (by omega) (HV.out.below (bto HBW.out (bto hW.out hW')))
        have c2 := ext_call (w := wr) fun W hW' => IH.out (t - (q)) (by have := HMM.out; omega) (q) t _ W (by omega) (by omega) (by omega) (HV.out.below (bto HBW.out (bto hW.out hW')))
        have c3 := ext_call (w := wr) fun W hW' => rodds_any d HVD.out f t _ W (by omega) (by omega) (HV.out.below (bto HBW.out (bto hW.out hW')))
        have bo := oddsOf_bd d f t (fun x hx => by have := (valid_spec HVD.out).2.2.2 x hx; omega)
        have bp := mul_bd bc.1 bc.2 bo.1 (show oddsOf d f t ≤ 63 by omega)
        have HG := Lib.hid (tabG_sum d f t q hq hlt)
        have HS := Lib.hid (show argmin (tabG (sumP d) (t - f) f) f (q + 1 - f - 1) = if (argmin (tabG (sumP d) (t - f) f) f (q - f - 1)).2 = 0 ∨ tabG (sumP d) (t - f) f q < (argmin (tabG (sumP d) (t - f) f) f (q - f - 1)).1 then (tabG (sumP d) (t - f) f q, q) else argmin (tabG (sumP d) (t - f) f) f (q - f - 1) by
          rw [show q + 1 - f - 1 = (q - f - 1) + 1 by omega, argmin_succ, show f + (q - f - 1) + 1 = q by omega])
        have HP0 := Lib.hid (argmin_pt (tabG (sumP d) (t - f) f) f (q - f - 1)).1
        have hbb := tab_small (sum_small HVD.out)
        obtain ⟨X, hX⟩ : ∃ X, avgN d f (q) = X := ⟨_, rfl⟩
        obtain ⟨Z, hZ⟩ : ∃ X, avgN d (q) t = X := ⟨_, rfl⟩
        obtain ⟨C, hC⟩ : ∃ X, costAt d (q) = X := ⟨_, rfl⟩
        obtain ⟨O, hO⟩ : ∃ X, oddsOf d f t = X := ⟨_, rfl⟩
        obtain ⟨⟨BE, PT⟩, hBE⟩ : ∃ X, argmin (tabG (sumP d) (t - f) f) f (q - f - 1) = X := ⟨_, rfl⟩
        rw [hC, hO, hX, hZ] at HG
        rw [hC, hO] at bp
        rw [hO] at c3
        obtain ⟨bp1, bp2⟩ := bp
        rw [hBE] at HS HP0 ⊢
        rw [HG.out] at HS
        rw [hX] at c1 bx
        rw [hZ] at c2 bz
        rw [hC] at hz bc
        have k0 := cell_regrown (HB.out.keep hW.out).c0
        have k1 := cell_regrown (HB.out.keep hW.out).c1
        have k2 := cell_regrown hz
        obtain ⟨bx1, bx2⟩ := bx
        obtain ⟨bz1, bz2⟩ := bz
        obtain ⟨bc1, bc2⟩ := bc
        subst hbo
        have i2 : ((q : Nat) : Int) < (d.pts.length : Int) := by omega
        have i3 : ((q : Nat) : Int) < (t : Int) := by omega
        clear hO hcell hce hX hZ hC hBE hz hbb
        by_cases hz0 : q - f - 1 = 0
        · have HT := Lib.hid (show (if PT = 0 ∨ C * O + X + Z < BE then (C * O + X + Z, q) else (BE, PT)).1 = C * O + X + Z by rw [if_pos (.inl (HP0.out.2 hz0))])
          have e1 : ((q : Int) == (f : Int) + 1) = true := beq_iff_eq.2 (by omega)
          clear hz0
          go_wp2_with fail
          refine wp_region_ext (by kernel_rfl) (by kernel_rfl) ?_
          repeat (first | go_big_quiet_step (first | with_reducible exact c1 _ _ | with_reducible exact c2 _ _ | with_reducible exact c3 _ _) | quiet_step (first | with_reducible exact c1 _ _ | with_reducible exact c2 _ _ | with_reducible exact c3 _ _))
          refine wpQuiet_nil ?_
          clear c1 c2 c3 k0 k1 k2
          intro wn hb
          have HB := Lib.hid hb
          clear hb
          go_wp2_with fail
          go_roundw
          case rel => exact ⟨q + 1, by omega, by omega, by go_num, by rw [HS.out, HT.out], Lib.hid (bto hW.out HB.out)⟩
          case measure => first | (simp [intOf]; done) | (simp [intOf]; omega)
        · have e1 : ((q : Int) == (f : Int) + 1) = false := beq_eq_false_iff_ne.2 (by omega)
          have HPT := Lib.hid (show ¬ PT = 0 from fun h => hz0 (HP0.out.1 h))
          clear hz0
          by_cases hlt2 : C * O + X + Z < BE
          · have HT := Lib.hid (show (if PT = 0 ∨ C * O + X + Z < BE then (C * O + X + Z, q) else (BE, PT)).1 = C * O + X + Z by rw [if_pos (.inr hlt2)])
            go_wp2_with fail
            refine wp_region_ext (by kernel_rfl) (by kernel_rfl) ?_
            repeat (first | go_big_quiet_step (first | with_reducible exact c1 _ _ | with_reducible exact c2 _ _ | with_reducible exact c3 _ _) | quiet_step (first | with_reducible exact c1 _ _ | with_reducible exact c2 _ _ | with_reducible exact c3 _ _))
            refine wpQuiet_nil ?_
            clear c1 c2 c3 k0 k1 k2
            intro wn hb
            have HB := Lib.hid hb
            clear hb
            go_wp2_with fail
            go_roundw
            case rel => exact ⟨q + 1, by omega, by omega, by go_num, by rw [HS.out, HT.out], Lib.hid (bto hW.out HB.out)⟩
            case measure => first | (simp [intOf]; done) | (simp [intOf]; omega)
          · have HT := Lib.hid (show (if PT = 0 ∨ C * O + X + Z < BE then (C * O + X + Z, q) else (BE, PT)).1 = BE by rw [if_neg (fun h => by rcases h with h | h; exact HPT.out h; exact hlt2 h)])
            go_wp2_with fail
            refine wp_region_ext (by kernel_rfl) (by kernel_rfl) ?_
            repeat (first | go_big_quiet_step (first | with_reducible exact c1 _ _ | with_reducible exact c2 _ _ | with_reducible exact c3 _ _) | quiet_step (first | with_reducible exact c1 _ _ | with_reducible exact c2 _ _ | with_reducible exact c3 _ _))
            refine wpQuiet_nil ?_
            clear c1 c2 c3 k0 k1 k2
            intro wn hb
            have HB := Lib.hid hb
            clear hb
            go_wp2_with fail
            go_roundw
            case rel => exact ⟨q + 1, by omega, by omega, by go_num, by rw [HS.out, HT.out], Lib.hid (bto hW.out HB.out)⟩
            case measure => first | (simp [intOf]; done) | (simp [intOf]; omega)
      · have hge : ¬ ((q : Int) < (t : Int)) := by omega
        have HL := Lib.hid (show (argmin (tabG (sumP d) (t - f) f) f (q - f - 1)).1 = avgN d f t by
          rw [HE.out]
          by_cases hz0 : f < t
          · have := hk hz0
            rw [show t - f - 1 = q - f - 1 by omega]
          · omega)
        go_wp2_with fail
        go_ret
        exact ⟨by rw [← HL.out]; rfl, bto HBW.out hW.out⟩
end Go.Proofs.Ytbddaemekgflmaa
