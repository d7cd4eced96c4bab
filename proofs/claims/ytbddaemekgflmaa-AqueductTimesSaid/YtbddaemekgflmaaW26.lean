/- Walks of Reduced and of the reference's Average. -/
import Derived.Test.YtbddaemekgflmaaW24
import Derived.Test.YtbddaemekgflmaaW25
namespace Go.Proofs.Ytbddaemekgflmaa
open Go.RowKit Go.Sort

set_option maxRecDepth 20000 in
set_option maxHeartbeats 2000000 in
theorem reduced_any (N M : Nat) (w : World) (hN : N ≤ 1000000) (hM : M ≤ 1000000) (hM0 : 0 < M) :
    Calls Try.prog 26 #[I N, I M] w fun e w' => e = .returned (.agg #[I (redR N M).1, I (redR N M).2]) ∧ Below w.heap.size w w' := by
  have B0 := Box2.new w (I 0) (I 0) 41
  obtain ⟨w4, hw4⟩ : ∃ w4, w.alloc (.cells #[I 0, I 0] 41) = w4 := ⟨_, rfl⟩
  have hbw : Below w.heap.size w (w.alloc (.cells #[I 0, I 0] 41)) := (Below.refl _ _).alloc (Nat.le_refl _) _
  rw [hw4] at B0 hbw
  have HB := Lib.hid B0
  have HBW := Lib.hid hbw
  have HW4 := Lib.hid hw4
  clear hw4 hbw B0
  have hneg : -(N : Int) ≤ (N : Int) := by omega
  go_enter Try.func26, Try.ntmps26
  go_wp2_with fail
  rw [HW4.out]
  clear hneg
  go_loopw [5, 6] (fun x y wr => ∃ a b : Nat, x = I a ∧ y = I b ∧ Hid (Nat.gcd a b = Nat.gcd N M) ∧ (0 < a ∨ 0 < b) ∧ a ≤ 1000000 ∧ b ≤ 1000000 ∧ Below w4.heap.size w4 wr) (fun _ y _ => (intOf y).toNat)
  case atStart => exact ⟨N, M, rfl, rfl, Lib.hid rfl, by omega, by omega, by omega, Below.refl _ _⟩
  case round =>
    obtain ⟨a, b, rfl, rfl, hg, hab, ha, hb, hbw⟩ := hrel
    by_cases h0 : b = 0
    · subst h0
      have hga : a = Nat.gcd N M := by have := hg.out; simpa using this
      have HG := Lib.hid hga
      have HW := Lib.hid hbw
      have B1 := HB.out.keep hbw
      have ha0 : 0 < a := by omega
      have hd1 : 0 ≤ (N : Int) / (a : Int) ∧ (N : Int) / (a : Int) ≤ 1000000 := ⟨Int.ediv_nonneg (by omega) (by omega), Int.le_trans (Int.ediv_le_self _ (by omega)) (by omega)⟩
      have hd2 : 0 ≤ (M : Int) / (a : Int) ∧ (M : Int) / (a : Int) ≤ 1000000 := ⟨Int.ediv_nonneg (by omega) (by omega), Int.le_trans (Int.ediv_le_self _ (by omega)) (by omega)⟩
      obtain ⟨d1, d2⟩ := hd1
      obtain ⟨d3, d4⟩ := hd2
      obtain ⟨q6, q7, q8, q9⟩ := id B1
      obtain ⟨r1, r2⟩ := res2 q6 q7
      clear hga hbw
      go_wp2_with fail
      go_region
      go_wp2_with fail
      refine bodyPost_ret (v := .agg #[I ((N : Int) / (a : Int)), I ((M : Int) / (a : Int))]) (by simp [results, Try.results26, go_sem, r1, r2]) rfl ⟨?_, ?_⟩
      · unfold redR
        simp only [Int.toNat_natCast]
        rw [← HG.out]
      · exact ((((bto HBW.out HW.out).setCell (p := ⟨w.heap.size, 0, none⟩) (by simp) _).setCell (p := ⟨w.heap.size, 1, none⟩) (by simp) _).drew)
    · have h0' : (0 : Int) < (b : Int) := by omega
      go_wp2_with fail
      refine wp_region_ext (by kernel_rfl) (by kernel_rfl) ?_
      repeat (first | go_big_quiet_step (fail) | quiet_step (fail))
      refine wpQuiet_nil ?_
      intro w5 hb5
      go_wp2_with fail
      go_roundw
      case rel => exact ⟨b, a % b, rfl, by go_num, Lib.hid (by rw [← hg.out, Nat.gcd_comm a b, Nat.gcd_rec b a, Nat.gcd_comm]), by omega, by omega, by have := Nat.mod_lt a (show 0 < b by omega); omega, bto hbw hb5⟩
      case measure =>
        have := Nat.mod_lt a (show 0 < b by omega)
        simp [intOf]; omega

set_option maxRecDepth 20000 in
set_option maxHeartbeats 2000000 in
theorem rAverage_any (v : Value) (d : DLine) (f t : Int) (w : World) (hv : LineAt w v d) (hlen : d.odds.length ≤ 1000) (hlen' : d.pts.length ≤ 1000) :
    Calls Try.prog 30 #[v, I f, I t] w fun e w' => e = .returned (.tuple #[.agg #[I (avgR d f t).1.1, I (avgR d f t).1.2], I (avgR d f t).2]) ∧ Below w.heap.size w w' := by
  have HV := Lib.hid hv
  obtain ⟨pv, ov, rfl, hp, ho⟩ := hv
  have hb0 : ∀ x y, Below w.heap.size w ((w.alloc x).alloc y) := fun x y => ((Below.refl _ _).alloc (Nat.le_refl _) _).alloc (by simp) _
  clear hp ho
  have B0 := (Box2.new w pv ov 25).old (.cells #[I 0, I 0] 41)
  have R0 := (Box2.new (w.alloc (.cells #[pv, ov] 25)) (I 0) (I 0) 41).at_ (show _ = w.heap.size + 1 by simp)
  have k0 := cell_regrown B0.c0
  have k1 := cell_regrown B0.c1
  have c1 := ext_call (w := (w.alloc (.cells #[pv, ov] 25)).alloc (.cells #[I 0, I 0] 41)) fun W hW => rAreSome_any _ d f t W (HV.out.below (bto (hb0 _ _) hW)) hlen
  have c2 := ext_call (w := (w.alloc (.cells #[pv, ov] 25)).alloc (.cells #[I 0, I 0] 41)) fun W hW => rask_any _ d (someOf d f t) W (HV.out.below (bto (hb0 _ _) hW)) hlen hlen'
  by_cases h0 : askE d (someOf d f t) = 0
  · obtain ⟨hvd, hso⟩ := askE_ok h0
    obtain ⟨hf0, hft, htn⟩ := someOf_spec hso
    obtain ⟨hn, -⟩ := valid_spec hvd
    obtain ⟨f, rfl⟩ := Int.eq_ofNat_of_zero_le hf0
    obtain ⟨t, rfl⟩ := Int.eq_ofNat_of_zero_le (show 0 ≤ t by omega)
    have ba := avg_bd hvd f t (by omega) (by omega)
    have bo := oddsOf_pos hvd (f := f) (t := t) (by omega) (by omega)
    have hR : avgR d f t = (redR (avgN d f t) (oddsOf d f t), 0) := by unfold avgR; rw [if_pos h0]; simp only [Int.toNat_natCast]
    obtain ⟨NA, hNA⟩ := Int.eq_ofNat_of_zero_le ba.1
    obtain ⟨MA, hMA⟩ := Int.eq_ofNat_of_zero_le (show 0 ≤ oddsOf d f t by omega)
    rw [hNA, hMA] at hR
    have HR := Lib.hid hR
    have HNA := Lib.hid hNA
    have HMA := Lib.hid hMA
    have HVD := Lib.hid hvd
    have hb1 : NA ≤ 1000000 := by omega
    have hb2 : MA ≤ 1000000 := by omega
    have hb3 : 0 < MA := by omega
    rw [h0] at c2
    clear h0 hso hvd hR hNA hMA ba bo
    go_enter Try.func30, Try.ntmps30
    go_wp2_with fail
    refine wp_region_ext (by kernel_rfl) (by kernel_rfl) ?_
    repeat (first | go_big_quiet_step (first | exact c1 _ _ | exact c2 _ _) | quiet_step (first | exact c1 _ _ | exact c2 _ _))
    refine wpQuiet_nil ?_
    clear c1 c2 k0 k1
    intro w1 hb
    have B1 := B0.keep hb
    have R1 := R0.keep hb
    have HB1 := Lib.hid (bto (hb0 (.cells #[pv, ov] 25) (.cells #[I 0, I 0] 41)) hb)
    clear hb B0 R0
    obtain ⟨x0, x1, x2, x3⟩ := id B1
    go_wp2_with fail
    refine wp_region_seg [([0, 1, 2, 4, 5, 6], 3), ([], 7), ([], 8)] [] [9, 10] 9 (by kernel_rfl) (by kernel_rfl) ?_
    intro KQ hKQ w2 hb
    have HB2 := Lib.hid (bto HB1.out hb)
    have R2 := R1.keep hb
    have k0 := cell_regrown (B1.keep hb).c0
    have k1 := cell_regrown (B1.keep hb).c1
    clear hb B1 R1 x0 x1 x2 x3
    refine seg_next ?_
    simp only [opsAt, List.filterMap_cons, List.filterMap_nil, List.getElem?_toArray, List.getElem?_cons_succ, List.getElem?_cons_zero]
    repeat (first | go_big_quiet_step (fail) | quiet_step (fail))
    refine wpQuiet_nil ?_
    intro K hK
    refine loud_op rfl rfl ?_
    go_simp
    refine (raverage_any d HVD.out _ f t _ _ rfl (by omega) (by omega) (HV.out.below HB2.out)).mono ?_
    rintro e w3 ⟨rfl, hb⟩
    have HB3 := Lib.hid (bto HB2.out hb)
    have R3 := R2.keep hb
    refine hK _ _ hb ?_
    clear hK K k0 k1 hb R2
    rw [HNA.out]
    refine seg_next ?_
    simp only [opsAt, List.filterMap_nil]
    refine wpQuiet_nil ?_
    intro K hK
    refine loud_op rfl rfl ?_
    go_simp
    refine (rodds_any d HVD.out f t _ _ (by omega) (by omega) (HV.out.below HB3.out)).mono ?_
    rintro e w4 ⟨rfl, hb⟩
    have HB4 := Lib.hid (bto HB3.out hb)
    have R4 := R3.keep hb
    refine hK _ _ hb ?_
    clear hK K hb R3
    rw [HMA.out]
    refine seg_next ?_
    simp only [opsAt, List.filterMap_nil]
    refine wpQuiet_nil ?_
    intro K hK
    refine loud_op rfl rfl ?_
    go_simp
    refine (reduced_any NA MA _ hb1 hb2 hb3).mono ?_
    rintro e w5 ⟨rfl, hb⟩
    have HB5 := Lib.hid (bto HB4.out hb)
    have R5 := R4.keep hb
    refine hK _ _ hb ?_
    clear hK K hb R4
    refine seg_last ?_
    simp only [opsAt, List.filterMap_nil, List.filterMap_cons, List.getElem?_toArray, List.getElem?_cons_succ, List.getElem?_cons_zero]
    refine wpQuiet_nil ?_
    obtain ⟨x0, x1, x2, x3⟩ := id R5
    obtain ⟨r1, r2⟩ := res2 x0 x1
    go_wp2_with fail
    refine bodyPost_ret (v := .tuple #[.agg #[I (redR NA MA).1, I (redR NA MA).2], I 0]) (by simp [results, Try.results30, go_sem, r1, r2]) rfl ⟨by rw [HR.out], ?_⟩
    exact (HB5.out.setCell (p := ⟨w.heap.size + 1, 0, none⟩) (by simp) _).setCell (p := ⟨w.heap.size + 1, 1, none⟩) (by simp) _
  · have HR := Lib.hid (show avgR d f t = ((0, 0), askE d (someOf d f t)) by unfold avgR; rw [if_neg h0])
    have h0' : (askE d (someOf d f t) != 0) = true := by simpa using h0
    clear h0
    go_enter Try.func30, Try.ntmps30
    go_wp2_with fail
    refine wp_region_ext (by kernel_rfl) (by kernel_rfl) ?_
    repeat (first | go_big_quiet_step (first | exact c1 _ _ | exact c2 _ _) | quiet_step (first | exact c1 _ _ | exact c2 _ _))
    refine wpQuiet_nil ?_
    clear c1 c2 k0 k1
    intro w1 hb1
    have R1 := R0.keep hb1
    obtain ⟨x0, x1, x2, x3⟩ := id R1
    obtain ⟨r1, r2⟩ := res2 x0 x1
    go_wp2_with fail
    refine bodyPost_ret (v := .tuple #[.agg #[I 0, I 0], I (askE d (someOf d f t))]) (by simp [results, Try.results30, go_sem, r1, r2]) rfl ⟨by rw [HR.out], ?_⟩
    exact ((bto (hb0 _ _) hb1).setCell (p := ⟨w.heap.size + 1, 0, none⟩) (by simp) _).setCell (p := ⟨w.heap.size + 1, 1, none⟩) (by simp) _
end Go.Proofs.Ytbddaemekgflmaa
