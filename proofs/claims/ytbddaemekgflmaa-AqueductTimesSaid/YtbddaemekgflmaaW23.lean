/- Walks of the reference's worst, OddsOf, ask, Worst. -/
import Derived.Test.YtbddaemekgflmaaW16
import Derived.Test.YtbddaemekgflmaaW17
namespace Go.Proofs.Ytbddaemekgflmaa
open Go.RowKit Go.Sort

set_option maxHeartbeats 400000 in
theorem rask_any (v : Value) (d : DLine) (is : Bool) (w : World) (hv : LineAt w v d) (hlen : d.odds.length ≤ 1000) (hlen' : d.pts.length ≤ 1000) :
    Calls Try.prog 64 #[v, .bool is] w fun e w' => e = .returned (I (askE d is)) ∧ Below w.heap.size w w' := by
  have hv0 := hv
  obtain ⟨pv, ov, rfl, hp, ho⟩ := hv
  have hb0 : ∀ x, Below w.heap.size w (w.alloc x) := fun x => (Below.refl _ _).alloc (Nat.le_refl _) _
  have HV := Lib.hid hv0; clear hv0 hp ho
  cases h1 : valid d
  · have h2 : chk d = 60 := by simp [chk, h1]
    go_enter Try.func64, Try.ntmps64
    go_wp2_with (go_at_call 33; refine (rCheck_any _ _ _ (HV.out.below (hb0 _)) hlen hlen').mono ?_; rintro e w1 ⟨rfl, hb1⟩)
    go_ret
    exact ⟨by simp [askE, h1], bto (hb0 _) hb1⟩
  · have h2 : chk d = 0 := by simp [chk, h1]
    cases is
    · go_enter Try.func64, Try.ntmps64
      go_wp2_with (go_at_call 33; refine (rCheck_any _ _ _ (HV.out.below (hb0 _)) hlen hlen').mono ?_; rintro e w1 ⟨rfl, hb1⟩)
      go_ret
      exact ⟨by simp [askE, h1], bto (hb0 _) hb1⟩
    · go_enter Try.func64, Try.ntmps64
      go_wp2_with (go_at_call 33; refine (rCheck_any _ _ _ (HV.out.below (hb0 _)) hlen hlen').mono ?_; rintro e w1 ⟨rfl, hb1⟩)
      go_ret
      exact ⟨by simp [askE, h1], bto (hb0 _) hb1⟩

theorem argmin_succ (g : Nat → Int) (f k : Nat) : argmin g f (k + 1) = if (argmin g f k).2 = 0 ∨ g (f + k + 1) < (argmin g f k).1 then (g (f + k + 1), f + k + 1) else argmin g f k := rfl
theorem tabG_worst (d : DLine) (f t p : Nat) (h1 : f < p) (h2 : p < t) : tabG (worstP d) (t - f) f p = costAt d p + max (worstN d f p) (worstN d p t) := by
  unfold tabG worstN worstP
  rw [show f + (t - f) - p = t - p by omega]
theorem worstN_eq (d : DLine) (f t : Nat) : worstN d f t = (argmin (tabG (worstP d) (t - f) f) f (t - f - 1)).1 := by
  unfold worstN
  rw [tab_eq]

set_option maxRecDepth 20000 in
set_option maxHeartbeats 2000000 in
theorem rworst_any (d : DLine) (hvd : valid d = true) (m : Nat) : ∀ (f t : Nat) (v : Value) (w : World), t - f = m → f < t → t ≤ d.odds.length → LineAt w v d →
    Calls Try.prog 65 #[v, I f, I t] w fun e w' => e = .returned (I (worstN d f t)) ∧ Below w.heap.size w w' := by
  induction m using Nat.strongRecOn with
  | _ m ih =>
    intro f t v w hm hft ht hv
    have HV := Lib.hid hv
    have IH := Lib.hid ih
    have HVD := Lib.hid hvd
    obtain ⟨hn7, hnp, -⟩ := valid_spec hvd
    have HNP := Lib.hid hnp
    have HMM := Lib.hid hm
    clear hnp hvd ih hm
    obtain ⟨pv, ov, rfl, hp, ho⟩ := hv
    obtain ⟨A', c2, rfl, hac', hcm', hpc⟩ := id hp.open_
    have HPC := Lib.hid hpc
    have hb0 : ∀ x, Below w.heap.size w (w.alloc x) := fun x => (Below.refl _ _).alloc (Nat.le_refl _) _
    have HB0 := Lib.hid (Below.refl (w.alloc (.cells #[.slice A' d.pts.length c2, ov] 25)).heap.size (w.alloc (.cells #[.slice A' d.pts.length c2, ov] 25)))
    obtain ⟨w0, hw0⟩ : ∃ w0, w.alloc (.cells #[.slice A' d.pts.length c2, ov] 25) = w0 := ⟨_, rfl⟩
    have B0 := Box2.new w (.slice A' d.pts.length c2) ov 25
    have hbw := hb0 (.cells #[.slice A' d.pts.length c2, ov] 25)
    rw [hw0] at B0 hbw HB0
    have HB := Lib.hid B0
    have HBW := Lib.hid hbw
    have HW0 := Lib.hid hw0
    clear hp ho hpc B0 hbw hw0
    have HE := Lib.hid (worstN_eq d f t)
    go_enter Try.func65, Try.ntmps65
    go_wp2_with fail
    rw [HW0.out]
    go_loopw [7, 8] (fun bv p wr => ∃ q : Nat, f < q ∧ (f < t → q ≤ t) ∧ p = I (q : Int) ∧ bv = I (argmin (tabG (worstP d) (t - f) f) f (q - f - 1)).1 ∧ Hid (Below w0.heap.size w0 wr)) (fun _ p _ => t - (intOf p).toNat)
    case atStart => exact ⟨f + 1, by omega, fun h => by omega, by go_num, by rw [show f + 1 - f - 1 = 0 by omega]; rfl, HB0⟩
    case round =>
      obtain ⟨q, hq, hk, rfl, rfl, hW⟩ := hrel
      by_cases hlt : q < t
      · have hpl : q < d.pts.length := by have := HNP.out; omega
        obtain ⟨b, o, hbo, hbl, hcell⟩ := HPC.out (by omega)
        have hz := keep_cell hW.out (keep_cell HBW.out (hcell _ hpl).2.2)
        have hce : costAt d (q) = d.pts[q].cost := by unfold costAt; rw [List.getElem?_eq_getElem hpl]; rfl
        rw [← hce] at hz
        have bx := worst_bd HVD.out f (q) (by omega) (by omega)
        have bz := worst_bd HVD.out (q) t (by omega) (by omega)
        have bc := costAt_bd HVD.out (q)
        have c1 := ext_call (w := wr) fun W hW' => IH.out (q - f) (by have := HMM.out; omega) f (q) _ W (by omega) (by omega) (by omega) (HV.out.below (bto HBW.out (bto hW.out hW')))
        have c2 := ext_call (w := wr) fun W hW' => IH.out (t - (q)) (by have := HMM.out; omega) (q) t _ W (by omega) (by omega) (by omega) (HV.out.below (bto HBW.out (bto hW.out hW')))
        have HG := Lib.hid (tabG_worst d f t q hq hlt)
        have HS := Lib.hid (show argmin (tabG (worstP d) (t - f) f) f (q + 1 - f - 1) = if (argmin (tabG (worstP d) (t - f) f) f (q - f - 1)).2 = 0 ∨ tabG (worstP d) (t - f) f q < (argmin (tabG (worstP d) (t - f) f) f (q - f - 1)).1 then (tabG (worstP d) (t - f) f q, q) else argmin (tabG (worstP d) (t - f) f) f (q - f - 1) by
          rw [show q + 1 - f - 1 = (q - f - 1) + 1 by omega, argmin_succ, show f + (q - f - 1) + 1 = q by omega])
        have HP0 := Lib.hid (argmin_pt (tabG (worstP d) (t - f) f) f (q - f - 1)).1
        have hbb := tab_small (worst_small HVD.out)
        obtain ⟨X, hX⟩ : ∃ X, worstN d f (q) = X := ⟨_, rfl⟩
        obtain ⟨Z, hZ⟩ : ∃ X, worstN d (q) t = X := ⟨_, rfl⟩
        obtain ⟨C, hC⟩ : ∃ X, costAt d (q) = X := ⟨_, rfl⟩
        obtain ⟨⟨BE, PT⟩, hBE⟩ : ∃ X, argmin (tabG (worstP d) (t - f) f) f (q - f - 1) = X := ⟨_, rfl⟩
        rw [hX, hZ, hC] at HG
        rw [hBE] at HS HP0 ⊢
        rw [HG.out] at HS
        rw [hX] at c1 bx
        rw [hZ] at c2 bz
        rw [hC] at hz bc
        have k0 := cell_regrown (HB.out.keep hW.out).c0
        have k1 := cell_regrown (HB.out.keep hW.out).c1
        have k2 := cell_regrown hz
        obtain ⟨bx1, bx2⟩ := bx
        obtain ⟨bz1, bz2⟩ := bz
        obtain ⟨bc1, bc2⟩ := bc
        subst hbo
        have i2 : ((q : Nat) : Int) < (d.pts.length : Int) := by omega
        have i3 : ((q : Nat) : Int) < (t : Int) := by omega
        clear hcell hce hX hZ hC hBE hz hbb
        by_cases hmx : Z ≤ X
        · have HMX := Lib.hid (show C + max X Z = C + X by omega)
          rw [HMX.out] at HS
          by_cases hz0 : q - f - 1 = 0
          · have HT := Lib.hid (show (if PT = 0 ∨ C + X < BE then (C + X, q) else (BE, PT)).1 = C + X by rw [if_pos (.inl (HP0.out.2 hz0))])
            have e1 : (((q : Nat) : Int) == (f : Int) + 1) = true := beq_iff_eq.2 (by omega)
            clear hz0
            go_wp2_with fail
            refine wp_region_ext (by kernel_rfl) (by kernel_rfl) ?_
            repeat (first | go_big_quiet_step (first | with_reducible exact c1 _ _ | with_reducible exact c2 _ _) | quiet_step (first | with_reducible exact c1 _ _ | with_reducible exact c2 _ _))
            refine wpQuiet_nil ?_
            clear c1 c2 k0 k1 k2
            intro wn hb
            have HB := Lib.hid hb
            clear hb
            go_wp2_with fail
            go_roundw
            case rel => exact ⟨q + 1, by omega, by omega, by go_num, by rw [HS.out, HT.out], Lib.hid (bto hW.out HB.out)⟩
            case measure => first | (simp [intOf]; done) | (simp [intOf]; omega)
          · have e1 : (((q : Nat) : Int) == (f : Int) + 1) = false := beq_eq_false_iff_ne.2 (by omega)
            have HPT := Lib.hid (show ¬ PT = 0 from fun h => hz0 (HP0.out.1 h))
            clear hz0
            by_cases hlt2 : C + X < BE
            · have HT := Lib.hid (show (if PT = 0 ∨ C + X < BE then (C + X, q) else (BE, PT)).1 = C + X by rw [if_pos (.inr hlt2)])
              go_wp2_with fail
              refine wp_region_ext (by kernel_rfl) (by kernel_rfl) ?_
              repeat (first | go_big_quiet_step (first | with_reducible exact c1 _ _ | with_reducible exact c2 _ _) | quiet_step (first | with_reducible exact c1 _ _ | with_reducible exact c2 _ _))
              refine wpQuiet_nil ?_
              clear c1 c2 k0 k1 k2
              intro wn hb
              have HB := Lib.hid hb
              clear hb
              go_wp2_with fail
              go_roundw
              case rel => exact ⟨q + 1, by omega, by omega, by go_num, by rw [HS.out, HT.out], Lib.hid (bto hW.out HB.out)⟩
              case measure => first | (simp [intOf]; done) | (simp [intOf]; omega)
            · have HT := Lib.hid (show (if PT = 0 ∨ C + X < BE then (C + X, q) else (BE, PT)).1 = BE by rw [if_neg (fun h => by rcases h with h | h; exact HPT.out h; exact hlt2 h)])
              go_wp2_with fail
              refine wp_region_ext (by kernel_rfl) (by kernel_rfl) ?_
              repeat (first | go_big_quiet_step (first | with_reducible exact c1 _ _ | with_reducible exact c2 _ _) | quiet_step (first | with_reducible exact c1 _ _ | with_reducible exact c2 _ _))
              refine wpQuiet_nil ?_
              clear c1 c2 k0 k1 k2
              intro wn hb
              have HB := Lib.hid hb
              clear hb
              go_wp2_with fail
              go_roundw
              case rel => exact ⟨q + 1, by omega, by omega, by go_num, by rw [HS.out, HT.out], Lib.hid (bto hW.out HB.out)⟩
              case measure => first | (simp [intOf]; done) | (simp [intOf]; omega)
        · have HMX := Lib.hid (show C + max X Z = C + Z by omega)
          rw [HMX.out] at HS
          by_cases hz0 : q - f - 1 = 0
          · have HT := Lib.hid (show (if PT = 0 ∨ C + Z < BE then (C + Z, q) else (BE, PT)).1 = C + Z by rw [if_pos (.inl (HP0.out.2 hz0))])
            have e1 : (((q : Nat) : Int) == (f : Int) + 1) = true := beq_iff_eq.2 (by omega)
            clear hz0
            go_wp2_with fail
            refine wp_region_ext (by kernel_rfl) (by kernel_rfl) ?_
            repeat (first | go_big_quiet_step (first | with_reducible exact c1 _ _ | with_reducible exact c2 _ _) | quiet_step (first | with_reducible exact c1 _ _ | with_reducible exact c2 _ _))
            refine wpQuiet_nil ?_
            clear c1 c2 k0 k1 k2
            intro wn hb
            have HB := Lib.hid hb
            clear hb
            go_wp2_with fail
            go_roundw
            case rel => exact ⟨q + 1, by omega, by omega, by go_num, by rw [HS.out, HT.out], Lib.hid (bto hW.out HB.out)⟩
            case measure => first | (simp [intOf]; done) | (simp [intOf]; omega)
          · have e1 : (((q : Nat) : Int) == (f : Int) + 1) = false := beq_eq_false_iff_ne.2 (by omega)
            have HPT := Lib.hid (show ¬ PT = 0 from fun h => hz0 (HP0.out.1 h))
            clear hz0
            by_cases hlt2 : C + Z < BE
            · have HT := Lib.hid (show (if PT = 0 ∨ C + Z < BE then (C + Z, q) else (BE, PT)).1 = C + Z by rw [if_pos (.inr hlt2)])
              go_wp2_with fail
              refine wp_region_ext (by kernel_rfl) (by kernel_rfl) ?_
              repeat (first | go_big_quiet_step (first | with_reducible exact c1 _ _ | with_reducible exact c2 _ _) | quiet_step (first | with_reducible exact c1 _ _ | with_reducible exact c2 _ _))
              refine wpQuiet_nil ?_
              clear c1 c2 k0 k1 k2
              intro wn hb
              have HB := Lib.hid hb
              clear hb
              go_wp2_with fail
              go_roundw
              case rel => exact ⟨q + 1, by omega, by omega, by go_num, by rw [HS.out, HT.out], Lib.hid (bto hW.out HB.out)⟩
              case measure => first | (simp [intOf]; done) | (simp [intOf]; omega)
            · have HT := Lib.hid (show (if PT = 0 ∨ C + Z < BE then (C + Z, q) else (BE, PT)).1 = BE by rw [if_neg (fun h => by rcases h with h | h; exact HPT.out h; exact hlt2 h)])
              go_wp2_with fail
              refine wp_region_ext (by kernel_rfl) (by kernel_rfl) ?_
              repeat (first | go_big_quiet_step (first | with_reducible exact c1 _ _ | with_reducible exact c2 _ _) | quiet_step (first | with_reducible exact c1 _ _ | with_reducible exact c2 _ _))
              refine wpQuiet_nil ?_
              clear c1 c2 k0 k1 k2
              intro wn hb
              have HB := Lib.hid hb
              clear hb
              go_wp2_with fail
              go_roundw
              case rel => exact ⟨q + 1, by omega, by omega, by go_num, by rw [HS.out, HT.out], Lib.hid (bto hW.out HB.out)⟩
              case measure => first | (simp [intOf]; done) | (simp [intOf]; omega)
      · have hge : ¬ ((q : Int) < (t : Int)) := by omega
        have HL := Lib.hid (show (argmin (tabG (worstP d) (t - f) f) f (q - f - 1)).1 = worstN d f t by
          rw [HE.out]
          by_cases hz0 : f < t
          · have := hk hz0
            rw [show t - f - 1 = q - f - 1 by omega]
          · omega)
        go_wp2_with fail
        go_ret
        exact ⟨by rw [← HL.out]; rfl, bto HBW.out hW.out⟩
end Go.Proofs.Ytbddaemekgflmaa
