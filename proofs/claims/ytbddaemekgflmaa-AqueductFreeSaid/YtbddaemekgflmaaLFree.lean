/- AqueductFree: the law walked, and the row. -/
import Derived.Test.YtbddaemekgflmaaRow
import Derived.Test.YtbddaemekgflmaaW20
import Derived.Test.YtbddaemekgflmaaPlain3
namespace Go.Proofs.Ytbddaemekgflmaa
open Go.RowKit Go.Sort

theorem costAt_setCost (d : DLine) (p q : Nat) (c : Int) (hp : p < d.pts.length) : costAt (setCost d p c) q = if q = p then c else costAt d q := by
  unfold costAt setCost
  by_cases h : q = p
  · subst h
    rw [if_pos rfl]
    simp [hp]
  · rw [if_neg h]
    simp [Ne.symm h]
theorem costAt_at (d : DLine) (p : Nat) (hp : p < d.pts.length) : costAt d p = d.pts[p].cost := by
  unfold costAt; rw [List.getElem?_eq_getElem hp]; rfl
/-- What the theorem of the free point says, in plain words. -/
theorem free_plain {d : DLine} (hv : valid d = true) (p : Nat) (hp : p < d.pts.length) : 0 ≤ worstN d 0 d.odds.length - worstN (setCost d p 0) 0 d.odds.length ∧ worstN d 0 d.odds.length - worstN (setCost d p 0) 0 d.odds.length ≤ d.pts[p].cost ∧
    (¬ (0 < p ∧ p < d.odds.length) → worstN d 0 d.odds.length - worstN (setCost d p 0) 0 d.odds.length = 0) := by
  have hb := costAt_bd hv p
  have hc := costAt_at d p hp
  have h1 := wt_mono (c := costAt (setCost d p 0)) (c' := costAt d) (d.odds.length - 0) 0 (fun q _ _ => by
    rw [costAt_setCost d p q 0 hp]
    by_cases h : q = p
    · subst h; rw [if_pos rfl]; exact hb.1
    · rw [if_neg h]; exact Int.le_refl _)
  have h2 := wt_point (c := costAt d) (c' := costAt (setCost d p 0)) (p := p) (k := costAt d p) hb.1 (by rw [costAt_setCost d p p 0 hp, if_pos rfl]; omega) (fun q hq => by rw [costAt_setCost d p q 0 hp, if_neg hq]) (d.odds.length - 0) 0
  rw [worst_wt, worst_wt]
  refine ⟨by omega, by omega, fun h => ?_⟩
  have h3 := wt_congr (c := costAt d) (c' := costAt (setCost d p 0)) (d.odds.length - 0) 0 (fun q hq1 hq2 => by
    rw [costAt_setCost d p q 0 hp, if_neg (by omega)])
  omega

set_option maxRecDepth 100000 in
set_option maxHeartbeats 4000000 in
theorem lawFree_any (v : Value) (d : DLine) (p : Int) (w : World) (hv : LineAt w v d) :
    Calls Try.prog 5 #[v, I p] w fun e w' => e = .returned (.bool true) ∧ Below w.heap.size w w' := by
  have HV := Lib.hid hv
  obtain ⟨pv, ov, rfl, hp, ho⟩ := hv
  obtain ⟨A, c, rfl, hac, hcm, _⟩ := id ho.open_
  obtain ⟨A', c', rfl, hac', hcm', hcell⟩ := id hp.open_
  have hb0 : ∀ x, Below w.heap.size w (w.alloc x) := fun x => (Below.refl _ _).alloc (Nat.le_refl _) _
  have B0 := Box2.new w (.slice A' d.pts.length c') (.slice A d.odds.length c) 25
  have HB0 := Lib.hid (hb0 (.cells #[.slice A' d.pts.length c', .slice A d.odds.length c] 25))
  have HC := Lib.hid hcell
  clear hp ho hcell
  cases h1 : valid d
  · go_enter Try.func5, Try.ntmps5
    go_wp2_with (first | (go_at_call 15; refine (ready_any _ d _ (HV.out.below HB0.out)).mono ?_; rintro e w1 ⟨rfl, hb⟩; rw [h1]; have HB1 := Lib.hid (bto HB0.out hb); clear hb) | (go_at_call 18; refine (works_any _).mono ?_; rintro e w2 ⟨rfl, hb⟩; have HB2 := Lib.hid (bto HB1.out hb); clear hb))
    go_ret
    exact ⟨rfl, HB2.out⟩
  · obtain ⟨hn7, hnp, -⟩ := valid_spec h1
    have HNP := Lib.hid hnp
    have hl1 : d.odds.length ≤ 1000 := by omega
    have hl2 : d.pts.length ≤ 1000 := by omega
    clear hnp
    cases h2 : isPt d p
    · go_enter Try.func5, Try.ntmps5
      go_wp2_with (first | (go_at_call 15; refine (ready_any _ d _ (HV.out.below HB0.out)).mono ?_; rintro e w1 ⟨rfl, hb⟩; rw [h1]; have HB1 := Lib.hid (bto HB0.out hb); have B1 := B0.keep hb; obtain ⟨x0, x1, x2, x3⟩ := id B1; clear hb) | (go_at_call 17; refine (rIsPt_any _ d _ _ (HV.out.below HB1.out) hl2).mono ?_; rintro e w2 ⟨rfl, hb⟩; rw [h2]; have HB2 := Lib.hid (bto HB1.out hb); clear hb) | (go_at_call 18; refine (works_any _).mono ?_; rintro e w3 ⟨rfl, hb⟩; have HB3 := Lib.hid (bto HB2.out hb); clear hb))
      go_ret
      exact ⟨rfl, HB3.out⟩
    · obtain ⟨hp0, hp1⟩ := isPt_spec h2
      obtain ⟨p, rfl⟩ := Int.eq_ofNat_of_zero_le hp0
      have hpl : p < d.pts.length := by omega
      have hE : askE d (isPt d p) = 0 := by simp [askE, h1, h2]
      by_cases hz : d.odds.length = 0
      · have hR : freeR d p = (0, 3) := by unfold freeR; rw [if_pos hE, if_pos hz]
        have HR := Lib.hid hR
        have hz' : ((d.odds.length : Int) == 0) = true := beq_iff_eq.2 (by omega)
        have H2 := Lib.hid h2
        clear hR hE hz
        go_enter Try.func5, Try.ntmps5
        go_wp2_with (first | (go_at_call 15; refine (ready_any _ d _ (HV.out.below HB0.out)).mono ?_; rintro e w1 ⟨rfl, hb⟩; rw [h1]; have HB1 := Lib.hid (bto HB0.out hb); have B1 := B0.keep hb; obtain ⟨x0, x1, x2, x3⟩ := id B1; clear hb) | (go_at_call 17; refine (rIsPt_any _ d _ _ (HV.out.below HB1.out) hl2).mono ?_; rintro e w2 ⟨rfl, hb⟩; rw [H2.out]; have HB2 := Lib.hid (bto HB1.out hb); have B2 := B1.keep hb; obtain ⟨x0, x1, x2, x3⟩ := id B2; clear hb) | (go_at_call 22; refine (free_any _ d _ _ (HV.out.below HB2.out) hl1 hl2).mono ?_; rintro e w3 ⟨rfl, hb⟩; rw [HR.out]; have HB3 := Lib.hid (bto HB2.out hb); have B3 := B2.keep hb; obtain ⟨x0, x1, x2, x3⟩ := id B3; clear hb) | (go_at_call 18; refine (works_any _).mono ?_; rintro e w4 ⟨rfl, hb⟩; have HB4 := Lib.hid (bto HB3.out hb); clear hb))
        go_ret
        exact ⟨rfl, HB4.out⟩
      · have hR : freeR d p = (worstN d 0 d.odds.length - worstN (setCost d p 0) 0 d.odds.length, 0) := by unfold freeR; rw [if_pos hE, if_neg hz]; simp only [Int.toNat_natCast]
        have hz' : ((d.odds.length : Int) == 0) = false := beq_eq_false_iff_ne.2 (by omega)
        have hv2 := setCost_valid h1 p 0 (by omega)
        have hw1 : worstR d 0 (d.odds.length : Int) = (worstN d 0 d.odds.length, 0) := worstR_ok h1 0 d.odds.length (by omega) (Nat.le_refl _)
        have hw2 : worstR (setCost d p 0) 0 (d.odds.length : Int) = (worstN (setCost d p 0) 0 d.odds.length, 0) := worstR_ok hv2 0 d.odds.length (by omega) (Nat.le_refl _)
        have bd1 := worst_bd h1 0 d.odds.length (Nat.le_refl _) (by omega)
        have bd2 := worst_bd hv2 0 d.odds.length (Nat.le_refl _) (by omega)
        obtain ⟨q1, q2, q3⟩ := free_plain h1 p hpl
        obtain ⟨b, o, hA', hbl, hcell⟩ := HC.out (by omega)
        subst hA'
        have hk := (hcell p hpl).2.2
        obtain ⟨M, hM⟩ : ∃ M, worstN d 0 d.odds.length = M := ⟨_, rfl⟩
        obtain ⟨K, hK⟩ : ∃ K, worstN (setCost d p 0) 0 d.odds.length = K := ⟨_, rfl⟩
        obtain ⟨C, hC⟩ : ∃ C, d.pts[p].cost = C := ⟨_, rfl⟩
        rw [hM, hK] at hR
        rw [hM] at hw1 bd1
        rw [hK] at hw2 bd2
        rw [hM, hK] at q1 q2 q3
        rw [hC] at hk q2
        have HR := Lib.hid hR
        have HW1 := Lib.hid hw1
        have HW2 := Lib.hid hw2
        have HK := Lib.hid hk
        have H2 := Lib.hid h2
        have t1 : decide (M < 0) = false := decide_eq_false (by omega)
        have t2 : decide (1000 < M) = false := decide_eq_false (by omega)
        have t3 : decide (K < 0) = false := decide_eq_false (by omega)
        have t4 : decide (1000 < K) = false := decide_eq_false (by omega)
        have t5 : decide (M - K < 0) = false := decide_eq_false (by omega)
        have t6 : decide (C < M - K) = false := decide_eq_false (by omega)
        obtain ⟨m1, m2⟩ := bd1
        obtain ⟨k1, k2⟩ := bd2
        clear hR hE hz hw1 hw2 hM hK hC hk hcell h2 hv2
        have hways : (0 < (p : Int) ∧ (p : Int) < (d.odds.length : Int)) ∨ (0 < (p : Int) ∧ (d.odds.length : Int) ≤ (p : Int) ∧ M - K = 0) ∨ ((p : Int) ≤ 0 ∧ M - K = 0) := by
          by_cases c1 : 0 < p
          · by_cases c2 : p < d.odds.length
            · exact .inl ⟨by omega, by omega⟩
            · exact .inr (.inl ⟨by omega, by omega, q3 (by omega)⟩)
          · exact .inr (.inr ⟨by omega, q3 (by omega)⟩)
        clear q3
        rcases hways with ⟨u1, u2⟩ | ⟨u1, u2, u3⟩ | ⟨u1, u3⟩
        · go_enter Try.func5, Try.ntmps5
          go_wp2_with (first | (go_at_call 15; refine (ready_any _ d _ (HV.out.below HB0.out)).mono ?_; rintro e w1 ⟨rfl, hb⟩; rw [h1]; have HB1 := Lib.hid (bto HB0.out hb); have B1 := B0.keep hb; obtain ⟨x0, x1, x2, x3⟩ := id B1; clear hb) | (go_at_call 17; refine (rIsPt_any _ d _ _ (HV.out.below HB1.out) hl2).mono ?_; rintro e w2 ⟨rfl, hb⟩; rw [H2.out]; have HB2 := Lib.hid (bto HB1.out hb); have B2 := B1.keep hb; obtain ⟨x0, x1, x2, x3⟩ := id B2; clear hb) | (go_at_call 22; refine (free_any _ d _ _ (HV.out.below HB2.out) hl1 hl2).mono ?_; rintro e w3 ⟨rfl, hb⟩; rw [HR.out]; have HB3 := Lib.hid (bto HB2.out hb); have B3 := B2.keep hb; obtain ⟨x0, x1, x2, x3⟩ := id B3; clear hb) | (go_at_call 20; refine (worst_any _ d _ _ _ (HV.out.below HB3.out) hl1).mono ?_; rintro e w4 ⟨rfl, hb⟩; rw [HW1.out]; have HB4 := Lib.hid (bto HB3.out hb); have B4 := B3.keep hb; clear hb B3 B2 B1))
          refine wp_region_seg [([0, 1, 3, 4, 5], 2), ([], 6)] [7, 8, 9, 10] [11] 11 (by kernel_rfl) (by kernel_rfl) ?_
          intro KQ hKQ w5 hb
          have HB5 := Lib.hid (bto HB4.out hb)
          have B5 := B4.keep hb
          clear hb B4
          have j0 := cell_regrown B5.c0
          have j1 := cell_regrown B5.c1
          refine seg_next ?_
          simp only [opsAt, List.filterMap_cons, List.filterMap_nil, List.getElem?_toArray, List.getElem?_cons_succ, List.getElem?_cons_zero]
          repeat (first | go_big_quiet_step (fail) | quiet_step (fail))
          refine wpQuiet_nil ?_
          intro KK hKK
          refine loud_op rfl rfl ?_
          go_simp
          refine (freed_any _ d p _ (HV.out.below HB5.out) hl1 hl2 hpl).mono ?_
          rintro e w6 ⟨v', rfl, hown, hb⟩
          have HB6 := Lib.hid (bto HB5.out hb)
          have B6 := B5.keep hb
          have HO := Lib.hid hown.line
          refine hKK _ _ hb ?_
          clear hKK KK j0 j1 hb hown B5
          refine seg_next ?_
          simp only [opsAt, List.filterMap_nil]
          refine wpQuiet_nil ?_
          intro KK hKK
          refine loud_op rfl rfl ?_
          go_simp
          refine (worst_any _ (setCost d p 0) _ _ _ HO.out hl1).mono ?_
          rintro e w7 ⟨rfl, hb⟩
          rw [HW2.out]
          have HB7 := Lib.hid (bto HB6.out hb)
          have B7 := B6.keep hb
          refine hKK _ _ hb ?_
          clear hKK KK hb B6
          refine seg_last ?_
          simp only [opsAt, List.filterMap_cons, List.filterMap_nil, List.getElem?_toArray, List.getElem?_cons_succ, List.getElem?_cons_zero]
          repeat (first | go_big_quiet_step (fail) | quiet_step (fail))
          refine wpQuiet_nil ?_
          obtain ⟨x0, x1, x2, x3⟩ := id B7
          have hk := keep_cell HB7.out HK.out
          have hpi : (p : Int) < (d.pts.length : Int) := by omega
          go_wp2_with (go_at_call 18; refine (works_any _).mono ?_; rintro e w8 ⟨rfl, hb⟩; have HB8 := Lib.hid (bto HB7.out hb); clear hb)
          all_goals first | (go_ret; exact ⟨rfl, HB8.out⟩) | (go_ret; exact ⟨by simp; omega, HB8.out⟩)
        · have u4 : decide (C < 0) = false := decide_eq_false (by omega)
          go_enter Try.func5, Try.ntmps5
          go_wp2_with (first | (go_at_call 15; refine (ready_any _ d _ (HV.out.below HB0.out)).mono ?_; rintro e w1 ⟨rfl, hb⟩; rw [h1]; have HB1 := Lib.hid (bto HB0.out hb); have B1 := B0.keep hb; obtain ⟨x0, x1, x2, x3⟩ := id B1; clear hb) | (go_at_call 17; refine (rIsPt_any _ d _ _ (HV.out.below HB1.out) hl2).mono ?_; rintro e w2 ⟨rfl, hb⟩; rw [H2.out]; have HB2 := Lib.hid (bto HB1.out hb); have B2 := B1.keep hb; obtain ⟨x0, x1, x2, x3⟩ := id B2; clear hb) | (go_at_call 22; refine (free_any _ d _ _ (HV.out.below HB2.out) hl1 hl2).mono ?_; rintro e w3 ⟨rfl, hb⟩; rw [HR.out]; have HB3 := Lib.hid (bto HB2.out hb); have B3 := B2.keep hb; obtain ⟨x0, x1, x2, x3⟩ := id B3; clear hb) | (go_at_call 20; refine (worst_any _ d _ _ _ (HV.out.below HB3.out) hl1).mono ?_; rintro e w4 ⟨rfl, hb⟩; rw [HW1.out]; have HB4 := Lib.hid (bto HB3.out hb); have B4 := B3.keep hb; clear hb B3 B2 B1))
          refine wp_region_seg [([0, 1, 3, 4, 5], 2), ([], 6)] [7, 8, 9, 10] [11] 11 (by kernel_rfl) (by kernel_rfl) ?_
          intro KQ hKQ w5 hb
          have HB5 := Lib.hid (bto HB4.out hb)
          have B5 := B4.keep hb
          clear hb B4
          have j0 := cell_regrown B5.c0
          have j1 := cell_regrown B5.c1
          refine seg_next ?_
          simp only [opsAt, List.filterMap_cons, List.filterMap_nil, List.getElem?_toArray, List.getElem?_cons_succ, List.getElem?_cons_zero]
          repeat (first | go_big_quiet_step (fail) | quiet_step (fail))
          refine wpQuiet_nil ?_
          intro KK hKK
          refine loud_op rfl rfl ?_
          go_simp
          refine (freed_any _ d p _ (HV.out.below HB5.out) hl1 hl2 hpl).mono ?_
          rintro e w6 ⟨v', rfl, hown, hb⟩
          have HB6 := Lib.hid (bto HB5.out hb)
          have B6 := B5.keep hb
          have HO := Lib.hid hown.line
          refine hKK _ _ hb ?_
          clear hKK KK j0 j1 hb hown B5
          refine seg_next ?_
          simp only [opsAt, List.filterMap_nil]
          refine wpQuiet_nil ?_
          intro KK hKK
          refine loud_op rfl rfl ?_
          go_simp
          refine (worst_any _ (setCost d p 0) _ _ _ HO.out hl1).mono ?_
          rintro e w7 ⟨rfl, hb⟩
          rw [HW2.out]
          have HB7 := Lib.hid (bto HB6.out hb)
          have B7 := B6.keep hb
          refine hKK _ _ hb ?_
          clear hKK KK hb B6
          refine seg_last ?_
          simp only [opsAt, List.filterMap_cons, List.filterMap_nil, List.getElem?_toArray, List.getElem?_cons_succ, List.getElem?_cons_zero]
          repeat (first | go_big_quiet_step (fail) | quiet_step (fail))
          refine wpQuiet_nil ?_
          obtain ⟨x0, x1, x2, x3⟩ := id B7
          have hk := keep_cell HB7.out HK.out
          have hpi : (p : Int) < (d.pts.length : Int) := by omega
          go_wp2_with (go_at_call 18; refine (works_any _).mono ?_; rintro e w8 ⟨rfl, hb⟩; have HB8 := Lib.hid (bto HB7.out hb); clear hb)
          all_goals first | (go_ret; exact ⟨rfl, HB8.out⟩) | (go_ret; exact ⟨by simp; omega, HB8.out⟩)
        · have u4 : decide (C < 0) = false := decide_eq_false (by omega)
          go_enter Try.func5, Try.ntmps5
          go_wp2_with (first | (go_at_call 15; refine (ready_any _ d _ (HV.out.below HB0.out)).mono ?_; rintro e w1 ⟨rfl, hb⟩; rw [h1]; have HB1 := Lib.hid (bto HB0.out hb); have B1 := B0.keep hb; obtain ⟨x0, x1, x2, x3⟩ := id B1; clear hb) | (go_at_call 17; refine (rIsPt_any _ d _ _ (HV.out.below HB1.out) hl2).mono ?_; rintro e w2 ⟨rfl, hb⟩; rw [H2.out]; have HB2 := Lib.hid (bto HB1.out hb); have B2 := B1.keep hb; obtain ⟨x0, x1, x2, x3⟩ := id B2; clear hb) | (go_at_call 22; refine (free_any _ d _ _ (HV.out.below HB2.out) hl1 hl2).mono ?_; rintro e w3 ⟨rfl, hb⟩; rw [HR.out]; have HB3 := Lib.hid (bto HB2.out hb); have B3 := B2.keep hb; obtain ⟨x0, x1, x2, x3⟩ := id B3; clear hb) | (go_at_call 20; refine (worst_any _ d _ _ _ (HV.out.below HB3.out) hl1).mono ?_; rintro e w4 ⟨rfl, hb⟩; rw [HW1.out]; have HB4 := Lib.hid (bto HB3.out hb); have B4 := B3.keep hb; clear hb B3 B2 B1))
          refine wp_region_seg [([0, 1, 3, 4, 5], 2), ([], 6)] [7, 8, 9, 10] [11] 11 (by kernel_rfl) (by kernel_rfl) ?_
          intro KQ hKQ w5 hb
          have HB5 := Lib.hid (bto HB4.out hb)
          have B5 := B4.keep hb
          clear hb B4
          have j0 := cell_regrown B5.c0
          have j1 := cell_regrown B5.c1
          refine seg_next ?_
          simp only [opsAt, List.filterMap_cons, List.filterMap_nil, List.getElem?_toArray, List.getElem?_cons_succ, List.getElem?_cons_zero]
          repeat (first | go_big_quiet_step (fail) | quiet_step (fail))
          refine wpQuiet_nil ?_
          intro KK hKK
          refine loud_op rfl rfl ?_
          go_simp
          refine (freed_any _ d p _ (HV.out.below HB5.out) hl1 hl2 hpl).mono ?_
          rintro e w6 ⟨v', rfl, hown, hb⟩
          have HB6 := Lib.hid (bto HB5.out hb)
          have B6 := B5.keep hb
          have HO := Lib.hid hown.line
          refine hKK _ _ hb ?_
          clear hKK KK j0 j1 hb hown B5
          refine seg_next ?_
          simp only [opsAt, List.filterMap_nil]
          refine wpQuiet_nil ?_
          intro KK hKK
          refine loud_op rfl rfl ?_
          go_simp
          refine (worst_any _ (setCost d p 0) _ _ _ HO.out hl1).mono ?_
          rintro e w7 ⟨rfl, hb⟩
          rw [HW2.out]
          have HB7 := Lib.hid (bto HB6.out hb)
          have B7 := B6.keep hb
          refine hKK _ _ hb ?_
          clear hKK KK hb B6
          refine seg_last ?_
          simp only [opsAt, List.filterMap_cons, List.filterMap_nil, List.getElem?_toArray, List.getElem?_cons_succ, List.getElem?_cons_zero]
          repeat (first | go_big_quiet_step (fail) | quiet_step (fail))
          refine wpQuiet_nil ?_
          obtain ⟨x0, x1, x2, x3⟩ := id B7
          have hk := keep_cell HB7.out HK.out
          have hpi : (p : Int) < (d.pts.length : Int) := by omega
          go_wp2_with (go_at_call 18; refine (works_any _).mono ?_; rintro e w8 ⟨rfl, hb⟩; have HB8 := Lib.hid (bto HB7.out hb); clear hb)
          all_goals first | (go_ret; exact ⟨rfl, HB8.out⟩) | (go_ret; exact ⟨by simp; omega, HB8.out⟩)
end Go.Proofs.Ytbddaemekgflmaa
