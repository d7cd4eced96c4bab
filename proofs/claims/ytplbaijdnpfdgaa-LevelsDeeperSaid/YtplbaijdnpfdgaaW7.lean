/- Walks: Level, Differ, Higher. -/
import Derived.Test.YtplbaijdnpfdgaaW6
namespace Go.Proofs.Ytplbaijdnpfdgaa
open Go.RowKit Go.Sort

def levelP (t : Twn) (well : Int) : Sp × Int := if openE t (isWell t.wells well) = 0 then (⟨-at_ (closeM (baseM t)) well.toNat 6, at_ (closeM (baseM t)) 6 well.toNat⟩, 0) else (⟨0, 0⟩, openE t (isWell t.wells well))
def differP (t : Twn) (a b : Int) : Sp × Int := if openE t (isWell t.wells a && isWell t.wells b) = 0 then (⟨-at_ (closeM (baseM t)) b.toNat a.toNat, at_ (closeM (baseM t)) a.toNat b.toNat⟩, 0) else (⟨0, 0⟩, openE t (isWell t.wells a && isWell t.wells b))
theorem open_tight {t : Twn} {is : Bool} (h : openE t is = 0) : Tight t (closeM (baseM t)) := by
  obtain ⟨hv, -, hd⟩ := openE_zero h
  exact (says_ok hv (baseM_says hv)).2 hd
theorem open_bd {t : Twn} {is : Bool} (h : openE t is = 0) {i j : Nat} (hi : act t.wells i) (hj : act t.wells j) : -9000000000 ≤ at_ (closeM (baseM t)) i j ∧ at_ (closeM (baseM t)) i j ≤ 9000000000 := by
  have := (open_tight h).fin i j hi hj
  omega
theorem act_well {W n : Int} (h : isWell W n = true) : act W n.toNat := by
  have := isWell_iff.1 h
  exact .inl (by omega)
theorem closeBase_len (t : Twn) : (closeM (baseM t)).length = 49 := by rw [closeM_len, baseM_len]

set_option maxRecDepth 20000 in
set_option maxHeartbeats 4000000 in
theorem level_any (v : Value) (t : Twn) (well : Int) (w : World) (hv : TwnAt w v t) :
    Calls Try.prog 34 #[v, I well] w fun e w' => e = .returned (.tuple #[(levelP t well).1.val, I (levelP t well).2]) ∧ Below w.heap.size w w' := by
  obtain ⟨sv, pv, rfl, hs, hp⟩ := hv
  have HSN := Lib.hid hs
  have HSP := Lib.hid hp
  obtain ⟨A1, c1, rfl, -, -, -⟩ := id hs.open_
  obtain ⟨A2, c2, rfl, -, -, -⟩ := id hp.open_
  clear hs hp
  have S := Lib.hid (show St w (w.alloc (.cells #[I t.wells, .slice A1 t.snd.length c1, .slice A2 t.slp.length c2] 25)) (w.heap.size + 1) [.box w.heap.size [I t.wells, .slice A1 t.snd.length c1, .slice A2 t.slp.length c2]] from (St.init w).alloc [I t.wells, .slice A1 t.snd.length c1, .slice A2 t.slp.length c2] 25)
  have S := Lib.hid (S.out.alloc [I 0, I 0] 40)
  have hlt := S.out.lt 1 rfl
  have q0 := S.out.get 1 0 rfl rfl
  have q1 := S.out.get 1 1 rfl rfl
  have q2 := S.out.get 1 2 rfl rfl
  cases hvd : valid t
  · have HO := Lib.hid (show ∀ x, openE t x = 10 from fun x => by simp [openE, hvd])
    have HE := Lib.hid (show levelP t well = (⟨0, 0⟩, 10) by unfold levelP; rw [if_neg (by rw [HO.out]; simp), HO.out])
    clear hvd
    go_enter Try.func34, Try.ntmps34
    go_wp2_with fail
    clear q0 q1 q2
    refine wp_region_seg [([0, 1, 2], 3), ([], 4)] [5, 6, 7, 8, 9] [] 10 (by kernel_rfl) (by kernel_rfl) ?_
    intro KQ hKQ w1 hb
    have S := Lib.hid (S.out.call hb)
    clear hb
    have k0 := cell_regrown (S.out.get 1 0 rfl rfl)
    have k1 := cell_regrown (S.out.get 1 1 rfl rfl)
    have k2 := cell_regrown (S.out.get 1 2 rfl rfl)
    refine seg_next ?_
    simp only [opsAt, List.filterMap_cons, List.filterMap_nil, List.getElem?_toArray, List.getElem?_cons_succ, List.getElem?_cons_zero]
    repeat (first | go_big_quiet_step (fail) | quiet_step (fail))
    refine wpQuiet_nil ?_
    intro K hK
    refine loud_op rfl rfl ?_
    go_simp
    refine (isWellW_any _ _ _ _ _ ⟨_, _, _, rfl⟩ ⟨_, _, _, rfl⟩).mono ?_
    rintro e w2 ⟨rfl, hb⟩
    have S := Lib.hid (S.out.call hb)
    refine hK _ _ hb ?_
    clear hK K hb k0 k1 k2
    refine seg_next ?_
    simp only [opsAt, List.filterMap_nil]
    refine wpQuiet_nil ?_
    intro K hK
    refine loud_op rfl rfl ?_
    go_simp
    refine (open_no _ t _ _ ⟨_, _, rfl, HSN.out.below S.out.bel, HSP.out.below S.out.bel⟩ (by rw [HO.out]; simp)).mono ?_
    rintro e w4 ⟨rfl, hb⟩
    rw [HO.out]
    have S := Lib.hid (S.out.call hb)
    refine hK _ _ hb ?_
    clear hK K hb
    refine seg_last ?_
    simp only [opsAt, List.filterMap_cons, List.filterMap_nil, List.getElem?_toArray, List.getElem?_cons_succ, List.getElem?_cons_zero]
    repeat (first | go_big_quiet_step (fail) | quiet_step (fail))
    refine wpQuiet_nil ?_
    have p0 := S.out.get 0 0 rfl rfl
    have p1 := S.out.get 0 1 rfl rfl
    have z0 := S.out.free 0 0 rfl
    have z1 := S.out.free 0 1 rfl
    have hbase := S.out.base 0 rfl

    go_wp2_with fail
    refine bodyPost_ret (v := .tuple #[Sp.val ⟨0, 0⟩, I (10)]) (by simp [results, Try.results34, go_sem, p0, p1]) rfl ⟨by rw [HE.out], ?_⟩
    exact (S.out.bel.setCell (by simp) _).setCell (by simp) _
  · have hvl0 := valid_vl hvd
    have hw0 := hvl0.w0
    have hw6 : t.wells ≤ 1000 := by have := hvl0.w6; omega
    clear hvd hvl0
    by_cases h : openE t (isWell t.wells well) = 0
    · have HE := Lib.hid (show levelP t well = _ from if_pos h)
      obtain ⟨hvl, hwl, -⟩ := openE_zero h
      have HA := Lib.hid (show 0 ≤ well ∧ well < 6 by have := isWell_iff.1 hwl; have := hvl.w6; omega)
      have HBD := Lib.hid (open_bd h (act_well hwl) (.inr rfl))
      have HO := Lib.hid h
      clear h hvl hwl
      go_enter Try.func34, Try.ntmps34
      go_wp2_with fail
      clear q0 q1 q2
      refine wp_region_seg [([0, 1, 2], 3), ([], 4)] [5, 6, 7, 8, 9] [] 10 (by kernel_rfl) (by kernel_rfl) ?_
      intro KQ hKQ w1 hb
      have S := Lib.hid (S.out.call hb)
      clear hb
      have k0 := cell_regrown (S.out.get 1 0 rfl rfl)
      have k1 := cell_regrown (S.out.get 1 1 rfl rfl)
      have k2 := cell_regrown (S.out.get 1 2 rfl rfl)
      refine seg_next ?_
      simp only [opsAt, List.filterMap_cons, List.filterMap_nil, List.getElem?_toArray, List.getElem?_cons_succ, List.getElem?_cons_zero]
      repeat (first | go_big_quiet_step (fail) | quiet_step (fail))
      refine wpQuiet_nil ?_
      intro K hK
      refine loud_op rfl rfl ?_
      go_simp
      refine (isWell_any _ _ _ _ _ hw0 hw6 ⟨_, _, _, rfl⟩ ⟨_, _, _, rfl⟩).mono ?_
      rintro e w2 ⟨rfl, hb⟩
      have S := Lib.hid (S.out.call hb)
      refine hK _ _ hb ?_
      clear hK K hb k0 k1 k2
      refine seg_next ?_
      simp only [opsAt, List.filterMap_nil]
      refine wpQuiet_nil ?_
      intro K hK
      refine loud_op rfl rfl ?_
      go_simp
      refine (open_yes _ t _ _ ⟨_, _, rfl, HSN.out.below S.out.bel, HSP.out.below S.out.bel⟩ HO.out).mono ?_
      rintro e w4 hr
      obtain ⟨B, rfl, hB, hm, hb⟩ := hr
      have hB := Lib.hid hB
      have S := Lib.hid (S.out.takeM hb hB.out hm)
      refine hK _ _ hb ?_
      clear hK K hb hm
      refine seg_last ?_
      simp only [opsAt, List.filterMap_cons, List.filterMap_nil, List.getElem?_toArray, List.getElem?_cons_succ, List.getElem?_cons_zero]
      repeat (first | go_big_quiet_step (fail) | quiet_step (fail))
      refine wpQuiet_nil ?_
      go_wp2_with fail
      refine (span_any B 6 well _ _ (S.out.mat 0 rfl) (closeBase_len t) (by omega) (by omega) (by have := HA.out; omega) (by have := HA.out; omega) HBD.out.1 HBD.out.2).mono ?_
      rintro e w5 ⟨rfl, hb⟩
      have S := Lib.hid (S.out.call hb)
      clear hb
      have p0 := S.out.get 1 0 rfl rfl
      have p1 := S.out.get 1 1 rfl rfl
      have z0 := S.out.free 1 0 rfl
      have z1 := S.out.free 1 1 rfl
      have hbase := S.out.base 1 rfl
      go_wp2_with fail
      refine bodyPost_ret (v := .tuple #[Sp.val ⟨-at_ (closeM (baseM t)) well.toNat 6, at_ (closeM (baseM t)) 6 well.toNat⟩, I 0]) (by simp [results, Try.results34, go_sem, p0, p1]) rfl ⟨by first | (rw [HE.out]; done) | (rw [HE.out]; rfl), ?_⟩
      exact (S.out.bel.setCell (by simp) _).setCell (by simp) _
    · have HE := Lib.hid (show levelP t well = _ from if_neg h)
      have HO := Lib.hid h
      clear h
      go_enter Try.func34, Try.ntmps34
      go_wp2_with fail
      clear q0 q1 q2
      refine wp_region_seg [([0, 1, 2], 3), ([], 4)] [5, 6, 7, 8, 9] [] 10 (by kernel_rfl) (by kernel_rfl) ?_
      intro KQ hKQ w1 hb
      have S := Lib.hid (S.out.call hb)
      clear hb
      have k0 := cell_regrown (S.out.get 1 0 rfl rfl)
      have k1 := cell_regrown (S.out.get 1 1 rfl rfl)
      have k2 := cell_regrown (S.out.get 1 2 rfl rfl)
      refine seg_next ?_
      simp only [opsAt, List.filterMap_cons, List.filterMap_nil, List.getElem?_toArray, List.getElem?_cons_succ, List.getElem?_cons_zero]
      repeat (first | go_big_quiet_step (fail) | quiet_step (fail))
      refine wpQuiet_nil ?_
      intro K hK
      refine loud_op rfl rfl ?_
      go_simp
      refine (isWell_any _ _ _ _ _ hw0 hw6 ⟨_, _, _, rfl⟩ ⟨_, _, _, rfl⟩).mono ?_
      rintro e w2 ⟨rfl, hb⟩
      have S := Lib.hid (S.out.call hb)
      refine hK _ _ hb ?_
      clear hK K hb k0 k1 k2
      refine seg_next ?_
      simp only [opsAt, List.filterMap_nil]
      refine wpQuiet_nil ?_
      intro K hK
      refine loud_op rfl rfl ?_
      go_simp
      refine (open_no _ t _ _ ⟨_, _, rfl, HSN.out.below S.out.bel, HSP.out.below S.out.bel⟩ HO.out).mono ?_
      rintro e w4 ⟨rfl, hb⟩

      have S := Lib.hid (S.out.call hb)
      refine hK _ _ hb ?_
      clear hK K hb
      refine seg_last ?_
      simp only [opsAt, List.filterMap_cons, List.filterMap_nil, List.getElem?_toArray, List.getElem?_cons_succ, List.getElem?_cons_zero]
      repeat (first | go_big_quiet_step (fail) | quiet_step (fail))
      refine wpQuiet_nil ?_
      have p0 := S.out.get 0 0 rfl rfl
      have p1 := S.out.get 0 1 rfl rfl
      have z0 := S.out.free 0 0 rfl
      have z1 := S.out.free 0 1 rfl
      have hbase := S.out.base 0 rfl
      have hne := bne_iff_ne.2 HO.out
      go_wp2_with fail
      refine bodyPost_ret (v := .tuple #[Sp.val ⟨0, 0⟩, I (openE t (isWell t.wells well))]) (by simp [results, Try.results34, go_sem, p0, p1]) rfl ⟨by rw [HE.out], ?_⟩
      exact (S.out.bel.setCell (by simp) _).setCell (by simp) _

set_option maxRecDepth 20000 in
set_option maxHeartbeats 4000000 in
theorem differ_any (v : Value) (t : Twn) (a b : Int) (w : World) (hv : TwnAt w v t) :
    Calls Try.prog 29 #[v, I a, I b] w fun e w' => e = .returned (.tuple #[(differP t a b).1.val, I (differP t a b).2]) ∧ Below w.heap.size w w' := by
  obtain ⟨sv, pv, rfl, hs, hp⟩ := hv
  have HSN := Lib.hid hs
  have HSP := Lib.hid hp
  obtain ⟨A1, c1, rfl, -, -, -⟩ := id hs.open_
  obtain ⟨A2, c2, rfl, -, -, -⟩ := id hp.open_
  clear hs hp
  have S := Lib.hid (show St w (w.alloc (.cells #[I t.wells, .slice A1 t.snd.length c1, .slice A2 t.slp.length c2] 25)) (w.heap.size + 1) [.box w.heap.size [I t.wells, .slice A1 t.snd.length c1, .slice A2 t.slp.length c2]] from (St.init w).alloc [I t.wells, .slice A1 t.snd.length c1, .slice A2 t.slp.length c2] 25)
  have S := Lib.hid (S.out.alloc [I 0, I 0] 40)
  have hlt := S.out.lt 1 rfl
  have q0 := S.out.get 1 0 rfl rfl
  have q1 := S.out.get 1 1 rfl rfl
  have q2 := S.out.get 1 2 rfl rfl
  cases hvd : valid t
  · have HO := Lib.hid (show ∀ x, openE t x = 10 from fun x => by simp [openE, hvd])
    have HE := Lib.hid (show differP t a b = (⟨0, 0⟩, 10) by unfold differP; rw [if_neg (by rw [HO.out]; simp), HO.out])
    clear hvd
    go_enter Try.func29, Try.ntmps29
    go_wp2_with fail
    clear q0 q1 q2
    refine wp_region_seg [([0, 1, 2], 3), ([4, 5, 6], 7), ([8], 9)] [10, 11, 12, 13, 14] [] 15 (by kernel_rfl) (by kernel_rfl) ?_
    intro KQ hKQ w1 hb
    have S := Lib.hid (S.out.call hb)
    clear hb
    have k0 := cell_regrown (S.out.get 1 0 rfl rfl)
    have k1 := cell_regrown (S.out.get 1 1 rfl rfl)
    have k2 := cell_regrown (S.out.get 1 2 rfl rfl)
    refine seg_next ?_
    simp only [opsAt, List.filterMap_cons, List.filterMap_nil, List.getElem?_toArray, List.getElem?_cons_succ, List.getElem?_cons_zero]
    repeat (first | go_big_quiet_step (fail) | quiet_step (fail))
    refine wpQuiet_nil ?_
    intro K hK
    refine loud_op rfl rfl ?_
    go_simp
    refine (isWellW_any _ _ _ _ _ ⟨_, _, _, rfl⟩ ⟨_, _, _, rfl⟩).mono ?_
    rintro e w2 ⟨rfl, hb⟩
    have S := Lib.hid (S.out.call hb)
    refine hK _ _ hb ?_
    clear hK K hb k0 k1 k2
    cases ha : isWellW t.wells a
    · clear ha
      refine seg_next ?_
      simp only [opsAt, List.filterMap_cons, List.filterMap_nil, List.getElem?_toArray, List.getElem?_cons_succ, List.getElem?_cons_zero]
      repeat (first | go_big_quiet_step (fail) | quiet_step (fail))
      refine wpQuiet_nil ?_
      intro K hK
      refine loud_skip rfl rfl ?_
      refine hK _ _ (Below.refl _ _) ?_
      clear hK K
      refine seg_next ?_
      simp only [opsAt, List.filterMap_cons, List.filterMap_nil, List.getElem?_toArray, List.getElem?_cons_succ, List.getElem?_cons_zero]
      repeat (first | go_big_quiet_step (fail) | quiet_step (fail))
      refine wpQuiet_nil ?_
      intro K hK
      refine loud_op rfl rfl ?_
      go_simp
      refine (open_no _ t _ _ ⟨_, _, rfl, HSN.out.below S.out.bel, HSP.out.below S.out.bel⟩ (by rw [HO.out]; simp)).mono ?_
      rintro e w4 ⟨rfl, hb⟩
      rw [HO.out]
      have S := Lib.hid (S.out.call hb)
      refine hK _ _ hb ?_
      clear hK K hb
      refine seg_last ?_
      simp only [opsAt, List.filterMap_cons, List.filterMap_nil, List.getElem?_toArray, List.getElem?_cons_succ, List.getElem?_cons_zero]
      repeat (first | go_big_quiet_step (fail) | quiet_step (fail))
      refine wpQuiet_nil ?_
      have p0 := S.out.get 0 0 rfl rfl
      have p1 := S.out.get 0 1 rfl rfl
      have z0 := S.out.free 0 0 rfl
      have z1 := S.out.free 0 1 rfl
      have hbase := S.out.base 0 rfl

      go_wp2_with fail
      refine bodyPost_ret (v := .tuple #[Sp.val ⟨0, 0⟩, I (10)]) (by simp [results, Try.results29, go_sem, p0, p1]) rfl ⟨by rw [HE.out], ?_⟩
      exact (S.out.bel.setCell (by simp) _).setCell (by simp) _
    · clear ha
      have k0 := cell_regrown (S.out.get 1 0 rfl rfl)
      have k1 := cell_regrown (S.out.get 1 1 rfl rfl)
      have k2 := cell_regrown (S.out.get 1 2 rfl rfl)
      refine seg_next ?_
      simp only [opsAt, List.filterMap_cons, List.filterMap_nil, List.getElem?_toArray, List.getElem?_cons_succ, List.getElem?_cons_zero]
      repeat (first | go_big_quiet_step (fail) | quiet_step (fail))
      refine wpQuiet_nil ?_
      intro K hK
      refine loud_op rfl rfl ?_
      go_simp
      refine (isWellW_any _ _ _ _ _ ⟨_, _, _, rfl⟩ ⟨_, _, _, rfl⟩).mono ?_
      rintro e w3 ⟨rfl, hb⟩
      have S := Lib.hid (S.out.call hb)
      refine hK _ _ hb ?_
      clear hK K hb k0 k1 k2
      refine seg_next ?_
      simp only [opsAt, List.filterMap_cons, List.filterMap_nil, List.getElem?_toArray, List.getElem?_cons_succ, List.getElem?_cons_zero]
      repeat (first | go_big_quiet_step (fail) | quiet_step (fail))
      refine wpQuiet_nil ?_
      intro K hK
      refine loud_op rfl rfl ?_
      go_simp
      refine (open_no _ t _ _ ⟨_, _, rfl, HSN.out.below S.out.bel, HSP.out.below S.out.bel⟩ (by rw [HO.out]; simp)).mono ?_
      rintro e w4 ⟨rfl, hb⟩
      rw [HO.out]
      have S := Lib.hid (S.out.call hb)
      refine hK _ _ hb ?_
      clear hK K hb
      refine seg_last ?_
      simp only [opsAt, List.filterMap_cons, List.filterMap_nil, List.getElem?_toArray, List.getElem?_cons_succ, List.getElem?_cons_zero]
      repeat (first | go_big_quiet_step (fail) | quiet_step (fail))
      refine wpQuiet_nil ?_
      have p0 := S.out.get 0 0 rfl rfl
      have p1 := S.out.get 0 1 rfl rfl
      have z0 := S.out.free 0 0 rfl
      have z1 := S.out.free 0 1 rfl
      have hbase := S.out.base 0 rfl

      go_wp2_with fail
      refine bodyPost_ret (v := .tuple #[Sp.val ⟨0, 0⟩, I (10)]) (by simp [results, Try.results29, go_sem, p0, p1]) rfl ⟨by rw [HE.out], ?_⟩
      exact (S.out.bel.setCell (by simp) _).setCell (by simp) _
  · have hvl0 := valid_vl hvd
    have hw0 := hvl0.w0
    have hw6 : t.wells ≤ 1000 := by have := hvl0.w6; omega
    clear hvd hvl0
    by_cases h : openE t (isWell t.wells a && isWell t.wells b) = 0
    · have HE := Lib.hid (show differP t a b = _ from if_pos h)
      obtain ⟨hvl, hwl, -⟩ := openE_zero h
      rw [Bool.and_eq_true] at hwl
      have HA1 := Lib.hid hwl.1
      have HA2 := Lib.hid hwl.2
      have HA := Lib.hid (show 0 ≤ a ∧ a < 6 ∧ 0 ≤ b ∧ b < 6 by have := isWell_iff.1 hwl.1; have := isWell_iff.1 hwl.2; have := hvl.w6; omega)
      have HBD := Lib.hid (open_bd h (act_well hwl.2) (act_well hwl.1))
      have HO := Lib.hid (show openE t true = 0 by rw [hwl.1, hwl.2] at h; exact h)
      clear h hvl hwl
      go_enter Try.func29, Try.ntmps29
      go_wp2_with fail
      clear q0 q1 q2
      refine wp_region_seg [([0, 1, 2], 3), ([4, 5, 6], 7), ([8], 9)] [10, 11, 12, 13, 14] [] 15 (by kernel_rfl) (by kernel_rfl) ?_
      intro KQ hKQ w1 hb
      have S := Lib.hid (S.out.call hb)
      clear hb
      have k0 := cell_regrown (S.out.get 1 0 rfl rfl)
      have k1 := cell_regrown (S.out.get 1 1 rfl rfl)
      have k2 := cell_regrown (S.out.get 1 2 rfl rfl)
      refine seg_next ?_
      simp only [opsAt, List.filterMap_cons, List.filterMap_nil, List.getElem?_toArray, List.getElem?_cons_succ, List.getElem?_cons_zero]
      repeat (first | go_big_quiet_step (fail) | quiet_step (fail))
      refine wpQuiet_nil ?_
      intro K hK
      refine loud_op rfl rfl ?_
      go_simp
      refine (isWell_any _ _ _ _ _ hw0 hw6 ⟨_, _, _, rfl⟩ ⟨_, _, _, rfl⟩).mono ?_
      rintro e w2 ⟨rfl, hb⟩
      have S := Lib.hid (S.out.call hb)
      refine hK _ _ hb ?_
      clear hK K hb k0 k1 k2
      rw [HA1.out]
      have k0 := cell_regrown (S.out.get 1 0 rfl rfl)
      have k1 := cell_regrown (S.out.get 1 1 rfl rfl)
      have k2 := cell_regrown (S.out.get 1 2 rfl rfl)
      refine seg_next ?_
      simp only [opsAt, List.filterMap_cons, List.filterMap_nil, List.getElem?_toArray, List.getElem?_cons_succ, List.getElem?_cons_zero]
      repeat (first | go_big_quiet_step (fail) | quiet_step (fail))
      refine wpQuiet_nil ?_
      intro K hK
      refine loud_op rfl rfl ?_
      go_simp
      refine (isWell_any _ _ _ _ _ hw0 hw6 ⟨_, _, _, rfl⟩ ⟨_, _, _, rfl⟩).mono ?_
      rintro e w3 ⟨rfl, hb⟩
      have S := Lib.hid (S.out.call hb)
      refine hK _ _ hb ?_
      clear hK K hb k0 k1 k2
      refine seg_next ?_
      simp only [opsAt, List.filterMap_cons, List.filterMap_nil, List.getElem?_toArray, List.getElem?_cons_succ, List.getElem?_cons_zero]
      repeat (first | go_big_quiet_step (fail) | quiet_step (fail))
      refine wpQuiet_nil ?_
      intro K hK
      refine loud_op rfl rfl ?_
      go_simp
      simp only [HA2.out]
      refine (open_yes _ t _ _ ⟨_, _, rfl, HSN.out.below S.out.bel, HSP.out.below S.out.bel⟩ HO.out).mono ?_
      rintro e w4 hr
      obtain ⟨B, rfl, hB, hm, hb⟩ := hr
      have hB := Lib.hid hB
      have S := Lib.hid (S.out.takeM hb hB.out hm)
      refine hK _ _ hb ?_
      clear hK K hb hm
      refine seg_last ?_
      simp only [opsAt, List.filterMap_cons, List.filterMap_nil, List.getElem?_toArray, List.getElem?_cons_succ, List.getElem?_cons_zero]
      repeat (first | go_big_quiet_step (fail) | quiet_step (fail))
      refine wpQuiet_nil ?_
      go_wp2_with fail
      refine (span_any B a b _ _ (S.out.mat 0 rfl) (closeBase_len t) (by have := HA.out; omega) (by have := HA.out; omega) (by have := HA.out; omega) (by have := HA.out; omega) HBD.out.1 HBD.out.2).mono ?_
      rintro e w5 ⟨rfl, hb⟩
      have S := Lib.hid (S.out.call hb)
      clear hb
      have p0 := S.out.get 1 0 rfl rfl
      have p1 := S.out.get 1 1 rfl rfl
      have z0 := S.out.free 1 0 rfl
      have z1 := S.out.free 1 1 rfl
      have hbase := S.out.base 1 rfl
      go_wp2_with fail
      refine bodyPost_ret (v := .tuple #[Sp.val ⟨-at_ (closeM (baseM t)) b.toNat a.toNat, at_ (closeM (baseM t)) a.toNat b.toNat⟩, I 0]) (by simp [results, Try.results29, go_sem, p0, p1]) rfl ⟨by first | (rw [HE.out]; done) | (rw [HE.out]; rfl), ?_⟩
      exact (S.out.bel.setCell (by simp) _).setCell (by simp) _
    · have HE := Lib.hid (show differP t a b = _ from if_neg h)
      have HO := Lib.hid h
      clear h
      go_enter Try.func29, Try.ntmps29
      go_wp2_with fail
      clear q0 q1 q2
      refine wp_region_seg [([0, 1, 2], 3), ([4, 5, 6], 7), ([8], 9)] [10, 11, 12, 13, 14] [] 15 (by kernel_rfl) (by kernel_rfl) ?_
      intro KQ hKQ w1 hb
      have S := Lib.hid (S.out.call hb)
      clear hb
      have k0 := cell_regrown (S.out.get 1 0 rfl rfl)
      have k1 := cell_regrown (S.out.get 1 1 rfl rfl)
      have k2 := cell_regrown (S.out.get 1 2 rfl rfl)
      refine seg_next ?_
      simp only [opsAt, List.filterMap_cons, List.filterMap_nil, List.getElem?_toArray, List.getElem?_cons_succ, List.getElem?_cons_zero]
      repeat (first | go_big_quiet_step (fail) | quiet_step (fail))
      refine wpQuiet_nil ?_
      intro K hK
      refine loud_op rfl rfl ?_
      go_simp
      refine (isWell_any _ _ _ _ _ hw0 hw6 ⟨_, _, _, rfl⟩ ⟨_, _, _, rfl⟩).mono ?_
      rintro e w2 ⟨rfl, hb⟩
      have S := Lib.hid (S.out.call hb)
      refine hK _ _ hb ?_
      clear hK K hb k0 k1 k2
      cases ha : isWell t.wells a
      · have HO1 := Lib.hid (show openE t false ≠ 0 by have := HO.out; simpa [ha] using this)
        have HE := Lib.hid (show differP t a b = (⟨0, 0⟩, openE t false) by rw [HE.out, ha]; rfl)
        clear ha
        refine seg_next ?_
        simp only [opsAt, List.filterMap_cons, List.filterMap_nil, List.getElem?_toArray, List.getElem?_cons_succ, List.getElem?_cons_zero]
        repeat (first | go_big_quiet_step (fail) | quiet_step (fail))
        refine wpQuiet_nil ?_
        intro K hK
        refine loud_skip rfl rfl ?_
        refine hK _ _ (Below.refl _ _) ?_
        clear hK K
        refine seg_next ?_
        simp only [opsAt, List.filterMap_cons, List.filterMap_nil, List.getElem?_toArray, List.getElem?_cons_succ, List.getElem?_cons_zero]
        repeat (first | go_big_quiet_step (fail) | quiet_step (fail))
        refine wpQuiet_nil ?_
        intro K hK
        refine loud_op rfl rfl ?_
        go_simp
        refine (open_no _ t _ _ ⟨_, _, rfl, HSN.out.below S.out.bel, HSP.out.below S.out.bel⟩ HO1.out).mono ?_
        rintro e w4 ⟨rfl, hb⟩

        have S := Lib.hid (S.out.call hb)
        refine hK _ _ hb ?_
        clear hK K hb
        refine seg_last ?_
        simp only [opsAt, List.filterMap_cons, List.filterMap_nil, List.getElem?_toArray, List.getElem?_cons_succ, List.getElem?_cons_zero]
        repeat (first | go_big_quiet_step (fail) | quiet_step (fail))
        refine wpQuiet_nil ?_
        have p0 := S.out.get 0 0 rfl rfl
        have p1 := S.out.get 0 1 rfl rfl
        have z0 := S.out.free 0 0 rfl
        have z1 := S.out.free 0 1 rfl
        have hbase := S.out.base 0 rfl
        have hne := bne_iff_ne.2 HO1.out
        go_wp2_with fail
        refine bodyPost_ret (v := .tuple #[Sp.val ⟨0, 0⟩, I (openE t false)]) (by simp [results, Try.results29, go_sem, p0, p1]) rfl ⟨by rw [HE.out], ?_⟩
        exact (S.out.bel.setCell (by simp) _).setCell (by simp) _
      · have HE := Lib.hid (show differP t a b = (⟨0, 0⟩, openE t (isWell t.wells b)) by rw [HE.out, ha, Bool.true_and])
        have HO1 := Lib.hid (show openE t (isWell t.wells b) ≠ 0 by have := HO.out; rwa [ha, Bool.true_and] at this)
        clear ha
        have k0 := cell_regrown (S.out.get 1 0 rfl rfl)
        have k1 := cell_regrown (S.out.get 1 1 rfl rfl)
        have k2 := cell_regrown (S.out.get 1 2 rfl rfl)
        refine seg_next ?_
        simp only [opsAt, List.filterMap_cons, List.filterMap_nil, List.getElem?_toArray, List.getElem?_cons_succ, List.getElem?_cons_zero]
        repeat (first | go_big_quiet_step (fail) | quiet_step (fail))
        refine wpQuiet_nil ?_
        intro K hK
        refine loud_op rfl rfl ?_
        go_simp
        refine (isWell_any _ _ _ _ _ hw0 hw6 ⟨_, _, _, rfl⟩ ⟨_, _, _, rfl⟩).mono ?_
        rintro e w3 ⟨rfl, hb⟩
        have S := Lib.hid (S.out.call hb)
        refine hK _ _ hb ?_
        clear hK K hb k0 k1 k2
        refine seg_next ?_
        simp only [opsAt, List.filterMap_cons, List.filterMap_nil, List.getElem?_toArray, List.getElem?_cons_succ, List.getElem?_cons_zero]
        repeat (first | go_big_quiet_step (fail) | quiet_step (fail))
        refine wpQuiet_nil ?_
        intro K hK
        refine loud_op rfl rfl ?_
        go_simp
        refine (open_no _ t _ _ ⟨_, _, rfl, HSN.out.below S.out.bel, HSP.out.below S.out.bel⟩ HO1.out).mono ?_
        rintro e w4 ⟨rfl, hb⟩

        have S := Lib.hid (S.out.call hb)
        refine hK _ _ hb ?_
        clear hK K hb
        refine seg_last ?_
        simp only [opsAt, List.filterMap_cons, List.filterMap_nil, List.getElem?_toArray, List.getElem?_cons_succ, List.getElem?_cons_zero]
        repeat (first | go_big_quiet_step (fail) | quiet_step (fail))
        refine wpQuiet_nil ?_
        have p0 := S.out.get 0 0 rfl rfl
        have p1 := S.out.get 0 1 rfl rfl
        have z0 := S.out.free 0 0 rfl
        have z1 := S.out.free 0 1 rfl
        have hbase := S.out.base 0 rfl
        have hne := bne_iff_ne.2 HO1.out
        go_wp2_with fail
        refine bodyPost_ret (v := .tuple #[Sp.val ⟨0, 0⟩, I (openE t (isWell t.wells b))]) (by simp [results, Try.results29, go_sem, p0, p1]) rfl ⟨by rw [HE.out], ?_⟩
        exact (S.out.bel.setCell (by simp) _).setCell (by simp) _

end Go.Proofs.Ytplbaijdnpfdgaa
