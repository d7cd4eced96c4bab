/- Walk of the reference's Free. -/
import Derived.Test.YtbddaemekgflmaaW20
import Derived.Test.YtbddaemekgflmaaW23
namespace Go.Proofs.Ytbddaemekgflmaa
open Go.RowKit Go.Sort

set_option maxRecDepth 20000 in
set_option maxHeartbeats 2000000 in
theorem rFree_any (v : Value) (d : DLine) (p : Int) (w : World) (hv : LineAt w v d) (hlen : d.odds.length ≤ 1000) (hlen' : d.pts.length ≤ 1000) :
    Calls Try.prog 44 #[v, I p] w fun e w' => e = .returned (.tuple #[I (freeR d p).1, I (freeR d p).2]) ∧ Below w.heap.size w w' := by
  have HV := Lib.hid hv
  obtain ⟨pv, ov, rfl, hp, ho⟩ := hv
  obtain ⟨A, c, rfl, hac, hcm, _⟩ := id ho.open_
  have hb0 : ∀ x, Below w.heap.size w (w.alloc x) := fun x => (Below.refl _ _).alloc (Nat.le_refl _) _
  clear hp ho
  have B0 := Box2.new w pv (.slice A d.odds.length c) 25
  have k0 := cell_regrown B0.c0
  have k1 := cell_regrown B0.c1
  have c1 := ext_call (w := w.alloc (.cells #[pv, .slice A d.odds.length c] 25)) fun W hW => rIsPt_any _ d p W (HV.out.below (bto (hb0 _) hW)) hlen'
  have c2 := ext_call (w := w.alloc (.cells #[pv, .slice A d.odds.length c] 25)) fun W hW => rask_any _ d (isPt d p) W (HV.out.below (bto (hb0 _) hW)) hlen hlen'
  by_cases h0 : askE d (isPt d p) = 0
  · obtain ⟨hvd, hso⟩ := askE_ok h0
    obtain ⟨hp0, hp1⟩ := isPt_spec hso
    rw [h0] at c2
    obtain ⟨p, rfl⟩ := Int.eq_ofNat_of_zero_le hp0
    obtain ⟨hn7, -, -⟩ := valid_spec hvd
    by_cases hz : d.odds.length = 0
    · have HR := Lib.hid (show freeR d p = (0, 3) by unfold freeR; rw [if_pos h0, if_pos hz])
      have hz' : ((d.odds.length : Int) == 0) = true := beq_iff_eq.2 (by omega)
      clear h0 hso hvd hz
      go_enter Try.func44, Try.ntmps44
      go_wp2_with fail
      refine wp_region_ext (by kernel_rfl) (by kernel_rfl) ?_
      repeat (first | go_big_quiet_step (first | exact c1 _ _ | exact c2 _ _) | quiet_step (first | exact c1 _ _ | exact c2 _ _))
      refine wpQuiet_nil ?_
      clear c1 c2 k0 k1
      intro w1 hb1
      obtain ⟨x0, x1, x2, x3⟩ := B0.keep hb1
      go_wp2_with fail
      go_ret2
      exact ⟨by rw [HR.out]; rfl, bto (hb0 _) hb1⟩
    · have HR := Lib.hid (show freeR d p = (worstN d 0 d.odds.length - worstN (setCost d p 0) 0 d.odds.length, 0) by unfold freeR; rw [if_pos h0, if_neg hz]; simp only [Int.toNat_natCast])
      have hz' : ((d.odds.length : Int) == 0) = false := beq_eq_false_iff_ne.2 (by omega)
      have hv2 := setCost_valid hvd p 0 (by omega)
      have bd1 := worst_bd hvd 0 d.odds.length (Nat.le_refl _) (by omega)
      have bd2 := worst_bd hv2 0 d.odds.length (Nat.le_refl _) (by omega)
      have hpl : p < d.pts.length := by omega
      have HVD := Lib.hid hvd
      have HV2 := Lib.hid hv2
      have hn0 : 0 < d.odds.length := by omega
      obtain ⟨bd1a, bd1b⟩ := bd1
      obtain ⟨bd2a, bd2b⟩ := bd2
      clear h0 hso hvd hz hv2
      go_enter Try.func44, Try.ntmps44
      go_wp2_with fail
      refine wp_region_ext (by kernel_rfl) (by kernel_rfl) ?_
      repeat (first | go_big_quiet_step (first | exact c1 _ _ | exact c2 _ _) | quiet_step (first | exact c1 _ _ | exact c2 _ _))
      refine wpQuiet_nil ?_
      clear c1 c2 k0 k1
      intro w1 hb
      have B1 := B0.keep hb
      have HB1 := Lib.hid (bto (hb0 (.cells #[pv, .slice A d.odds.length c] 25)) hb)
      clear hb B0
      obtain ⟨x0, x1, x2, x3⟩ := id B1
      go_wp2_with fail
      refine wp_region_seg [([0, 1, 2, 3, 5, 6, 8, 9, 10], 4), ([], 7), ([], 11)] [12, 13] [14] 14 (by kernel_rfl) (by kernel_rfl) ?_
      intro KQ hKQ w2 hb
      have HB2 := Lib.hid (bto HB1.out hb)
      have k0 := cell_regrown (B1.keep hb).c0
      have k1 := cell_regrown (B1.keep hb).c1
      clear hb B1 x0 x1 x2 x3
      refine seg_next ?_
      simp only [opsAt, List.filterMap_cons, List.filterMap_nil, List.getElem?_toArray, List.getElem?_cons_succ, List.getElem?_cons_zero]
      repeat (first | go_big_quiet_step (fail) | quiet_step (fail))
      refine wpQuiet_nil ?_
      intro K hK
      refine loud_op rfl rfl ?_
      go_simp
      refine (rworst_any d HVD.out _ 0 d.odds.length _ _ rfl hn0 (Nat.le_refl _) (HV.out.below HB2.out)).mono ?_
      rintro e w3 ⟨rfl, hb⟩
      have HB3 := Lib.hid (bto HB2.out hb)
      refine hK _ _ hb ?_
      clear hK K k0 k1 hb
      refine seg_next ?_
      simp only [opsAt, List.filterMap_nil]
      refine wpQuiet_nil ?_
      intro K hK
      refine loud_op rfl rfl ?_
      go_simp
      refine (freed_any _ d p _ (HV.out.below HB3.out) hlen hlen' hpl).mono ?_
      rintro e w4 ⟨v', rfl, hown, hb⟩
      have HB4 := Lib.hid (bto HB3.out hb)
      have HO := Lib.hid hown.line
      refine hK _ _ hb ?_
      clear hK K hb hown
      refine seg_next ?_
      simp only [opsAt, List.filterMap_nil]
      refine wpQuiet_nil ?_
      intro K hK
      refine loud_op rfl rfl ?_
      go_simp
      refine (rworst_any (setCost d p 0) HV2.out _ 0 d.odds.length _ _ rfl hn0 (Nat.le_refl _) HO.out).mono ?_
      rintro e w5 ⟨rfl, hb⟩
      have HB5 := Lib.hid (bto HB4.out hb)
      refine hK _ _ hb ?_
      clear hK K hb
      refine seg_last ?_
      simp only [opsAt, List.filterMap_nil, List.filterMap_cons, List.getElem?_toArray, List.getElem?_cons_succ, List.getElem?_cons_zero]
      repeat (first | go_big_quiet_step (fail) | quiet_step (fail))
      refine wpQuiet_nil ?_
      go_wp2_with fail
      go_ret2
      exact ⟨by rw [HR.out]; rfl, HB5.out⟩
  · have HR := Lib.hid (show freeR d p = (0, askE d (isPt d p)) by unfold freeR; rw [if_neg h0])
    have h0' : (askE d (isPt d p) != 0) = true := by simpa using h0
    clear h0
    go_enter Try.func44, Try.ntmps44
    go_wp2_with fail
    refine wp_region_ext (by kernel_rfl) (by kernel_rfl) ?_
    repeat (first | go_big_quiet_step (first | exact c1 _ _ | exact c2 _ _) | quiet_step (first | exact c1 _ _ | exact c2 _ _))
    refine wpQuiet_nil ?_
    clear c1 c2 k0 k1
    intro w1 hb1
    go_wp2_with fail
    go_ret2
    exact ⟨by rw [HR.out]; rfl, bto (hb0 _) hb1⟩
end Go.Proofs.Ytbddaemekgflmaa
