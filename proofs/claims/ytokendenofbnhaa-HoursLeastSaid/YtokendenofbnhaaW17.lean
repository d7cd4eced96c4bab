/- Walk of Give. -/
import Derived.Test.YtokendenofbnhaaW14
import Derived.Test.YtokendenofbnhaaW11
import Derived.Test.YtokendenofbnhaaPlain5
namespace Go.Proofs.Ytokendenofbnhaa
open Go.RowKit Go.Sort

set_option maxRecDepth 20000 in
set_option maxHeartbeats 4000000 in
theorem give_any (v : Value) (r : Ros) (h : Int) (w : World) (hv : RosAt w v r) :
    Calls Try.prog 30 #[v, I h] w fun e w' => e = .returned (.tuple #[I (giveR r h).1, I (giveR r h).2]) ∧ Below w.heap.size w w' := by
  obtain ⟨rv, sv, rfl, hr, hs⟩ := hv
  obtain ⟨A1, c1, rfl, hr1, hr2, -⟩ := hr.open_
  obtain ⟨A2, c2, rfl, hs1, hs2, -⟩ := hs.open_
  have HR := Lib.hid hr
  have HS := Lib.hid hs
  clear hr hs
  have S := Lib.hid (show St w (w.alloc (.cells #[.slice A1 r.room.length c1, .slice A2 r.strs.length c2] 25)) (w.heap.size + 1) [.box w.heap.size [.slice A1 r.room.length c1, .slice A2 r.strs.length c2]] from (St.init w).alloc [.slice A1 r.room.length c1, .slice A2 r.strs.length c2] 25)
  by_cases ha : askE r (isHour r h) = 0
  · have hvd := valid_iff.1 (askE_zero.1 ha).1
    obtain ⟨hh0, hh1⟩ := isHour_spec (askE_zero.1 ha).2
    obtain ⟨h, rfl⟩ := Int.eq_ofNat_of_zero_le hh0
    have hhl : h < r.room.length := by omega
    obtain ⟨x, hx⟩ : ∃ x, r.room[h] = x := ⟨_, rfl⟩
    have hxb := hvd.rm x (by rw [← hx]; exact List.getElem_mem hhl)
    have hget : r.room.getD h 0 = x := by rw [List.getD_eq_getElem?_getD, List.getElem?_eq_getElem hhl, hx]; rfl
    have hgive : giveR r (h : Int) = if x = 6 then (0, 2) else if (leastR r).2 = 0 then ((leastR r).1 - (leastR (roomier r h 1)).1, 0) else (0, (leastR r).2) := by unfold giveR; rw [if_pos ha, Int.toNat_natCast, hget]
    have HA := Lib.hid ha
    have HGV := Lib.hid hgive
    have HGT := Lib.hid hget
    have HRL := Lib.hid hvd.rl
    obtain ⟨A', c', e, _, _, hcell⟩ := HR.out.open_
    injection e with e1 e2 e3
    subst e1
    obtain ⟨b1, o1, rfl, hb1, hcell⟩ := hcell (by omega)
    have hc0 := hcell h hhl
    rw [hx] at hc0
    have HC0 := Lib.hid hc0
    have HX := Lib.hid hx
    clear hcell hc0 e2 e3 hget hgive ha hh0 hx hvd
    by_cases h6 : x = 6
    · have hx6 : (x == 6) = true := by simp [h6]
      have HE := Lib.hid (show giveR r (h : Int) = (0, 2) by rw [HGV.out, if_pos h6])
      clear h6
      go_enter Try.func30, Try.ntmps30
      go_wp2_with fail
      refine wp_region_seg [([0, 1, 2], 3), ([], 4)] [5] [] 6 (by kernel_rfl) (by kernel_rfl) ?_
      intro KQ hKQ w2 hb
      have S := Lib.hid (S.out.call hb)
      clear hb
      have q0_0 := cell_regrown (S.out.get 0 0 rfl rfl)
      have q0_1 := cell_regrown (S.out.get 0 1 rfl rfl)
      refine seg_next ?_
      simp only [opsAt, List.filterMap_cons, List.filterMap_nil, List.getElem?_toArray, List.getElem?_cons_succ, List.getElem?_cons_zero]
      repeat (first | go_big_quiet_step (fail) | quiet_step (fail))
      refine wpQuiet_nil ?_
      intro K hK
      refine loud_op rfl rfl ?_
      go_simp
      refine (isHour_any _ r h _ ⟨_, _, rfl, HR.out.below S.out.bel, HS.out.below S.out.bel⟩).mono ?_
      rintro e w3 ⟨rfl, hb⟩
      have S := Lib.hid (S.out.call hb)
      refine hK _ _ hb ?_
      clear hK K hb
      refine seg_next ?_
      simp only [opsAt, List.filterMap_nil]
      refine wpQuiet_nil ?_
      intro K hK
      refine loud_op rfl rfl ?_
      go_simp
      refine (ask_any _ r (isHour r h) _ ⟨_, _, rfl, HR.out.below S.out.bel, HS.out.below S.out.bel⟩).mono ?_
      rintro e w4 ⟨rfl, hb⟩
      rw [HA.out]
      have S := Lib.hid (S.out.call hb)
      refine hK _ _ hb ?_
      clear hK K hb q0_0 q0_1
      refine seg_last ?_
      simp only [opsAt, List.filterMap_cons, List.filterMap_nil, List.getElem?_toArray, List.getElem?_cons_succ, List.getElem?_cons_zero]
      repeat (first | go_big_quiet_step (fail) | quiet_step (fail))
      refine wpQuiet_nil ?_
      have q0 := S.out.get 0 0 rfl rfl
      have y0 := keep_cell S.out.bel HC0.out
      go_wp2_with fail
      go_ret2
      exact ⟨by rw [HE.out]; rfl, S.out.bel⟩
    · have hx6 : (x == 6) = false := by simp [h6]
      obtain ⟨⟨m, er⟩, hm⟩ : ∃ p, leastR r = p := ⟨_, rfl⟩
      have hmb := leastR_bd r
      rw [hm] at hmb
      have HM := Lib.hid hm
      obtain ⟨hm1, hm2⟩ := hmb
      simp only at hm1 hm2
      clear hm
      by_cases her : er = 0
      · have her' : (er != 0) = false := by simp [her]
        obtain ⟨⟨m', er'⟩, hm'⟩ : ∃ p, leastR (roomier r h 1) = p := ⟨_, rfl⟩
        have hmb' := leastR_bd (roomier r h 1)
        rw [hm'] at hmb'
        have HM' := Lib.hid hm'
        obtain ⟨hm1', hm2'⟩ := hmb'
        simp only at hm1' hm2'
        have HE := Lib.hid (show giveR r (h : Int) = (m - m', 0) by rw [HGV.out, if_neg h6, HM.out, HM'.out]; exact if_pos her)
        clear hm' her h6
        go_enter Try.func30, Try.ntmps30
        go_wp2_with fail
        refine wp_region_seg [([0, 1, 2], 3), ([], 4)] [5] [] 6 (by kernel_rfl) (by kernel_rfl) ?_
        intro KQ hKQ w2 hb
        have S := Lib.hid (S.out.call hb)
        clear hb
        have q0_0 := cell_regrown (S.out.get 0 0 rfl rfl)
        have q0_1 := cell_regrown (S.out.get 0 1 rfl rfl)
        refine seg_next ?_
        simp only [opsAt, List.filterMap_cons, List.filterMap_nil, List.getElem?_toArray, List.getElem?_cons_succ, List.getElem?_cons_zero]
        repeat (first | go_big_quiet_step (fail) | quiet_step (fail))
        refine wpQuiet_nil ?_
        intro K hK
        refine loud_op rfl rfl ?_
        go_simp
        refine (isHour_any _ r h _ ⟨_, _, rfl, HR.out.below S.out.bel, HS.out.below S.out.bel⟩).mono ?_
        rintro e w3 ⟨rfl, hb⟩
        have S := Lib.hid (S.out.call hb)
        refine hK _ _ hb ?_
        clear hK K hb
        refine seg_next ?_
        simp only [opsAt, List.filterMap_nil]
        refine wpQuiet_nil ?_
        intro K hK
        refine loud_op rfl rfl ?_
        go_simp
        refine (ask_any _ r (isHour r h) _ ⟨_, _, rfl, HR.out.below S.out.bel, HS.out.below S.out.bel⟩).mono ?_
        rintro e w4 ⟨rfl, hb⟩
        rw [HA.out]
        have S := Lib.hid (S.out.call hb)
        refine hK _ _ hb ?_
        clear hK K hb q0_0 q0_1
        refine seg_last ?_
        simp only [opsAt, List.filterMap_cons, List.filterMap_nil, List.getElem?_toArray, List.getElem?_cons_succ, List.getElem?_cons_zero]
        repeat (first | go_big_quiet_step (fail) | quiet_step (fail))
        refine wpQuiet_nil ?_
        have q0 := S.out.get 0 0 rfl rfl
        have q1 := S.out.get 0 1 rfl rfl
        have y0 := keep_cell S.out.bel HC0.out
        go_wp2_with fail
        clear q0 q1 y0
        refine (least_any _ r _ ⟨_, _, rfl, HR.out.below S.out.bel, HS.out.below S.out.bel⟩).mono ?_
        rintro e w5 ⟨rfl, hb⟩
        rw [HM.out]
        have S := Lib.hid (S.out.call hb)
        clear hb
        have q0 := S.out.get 0 0 rfl rfl
        go_wp2_with fail
        clear q0
        refine (cloneI_any _ r.room _ (HR.out.below S.out.bel) (by have := HRL.out; omega)).mono ?_
        rintro e w6 ⟨v', rfl, hown, hb⟩
        have S := Lib.hid (S.out.take hb hown)
        clear hb hown
        obtain ⟨g, cap, rfl, hg1, hg2⟩ := own_shape_pos (S.out.own 0 rfl) (show 0 < r.room.length by omega)
        have S2 := S.out.set 1 0 (.slice (some ⟨g, 0, none⟩) r.room.length cap) rfl
        have q0 := S.out.get 1 0 rfl rfl
        have q2 := S.out.free 1 0 rfl
        have q3 := S2.get 1 0 rfl rfl
        have q4 := S2.get 1 1 rfl rfl
        have y0 := own_cell (S2.own 0 rfl) h x (by rw [List.getElem?_eq_getElem hhl, HX.out])
        have y1 := (S2.own 0 rfl).frozenAt h
        have S3 := S2.put 0 h (I (x + 1)) rfl
        have y2 := S3.get 1 0 rfl rfl
        have y3 := S3.get 1 1 rfl rfl
        have S := Lib.hid (show St w _ _ [.own 3 1 (.slice (some ⟨g, 0, none⟩) r.room.length cap) (roomier r h 1).room.length ((roomier r h 1).room.map I), .box w.heap.size [.slice (some ⟨g, 0, none⟩) r.room.length cap, .slice A2 r.strs.length c2]] from (by
          have e : (roomier r h 1).room = r.room.set h (x + 1) := by unfold roomier; rw [HGT.out]
          rw [e, List.map_set, List.length_set]
          exact S3))
        clear S2 S3
        go_wp2_with fail
        clear q0 q2 q3 q4 y0 y1 y2 y3
        refine (least_any _ (roomier r h 1) _ ⟨_, _, rfl, S.out.ints 0 rfl, HS.out.below S.out.bel⟩).mono ?_
        rintro e w7 ⟨rfl, hb⟩
        rw [HM'.out]
        have S := Lib.hid (S.out.call hb)
        clear hb
        go_wp2_with fail
        go_ret2
        exact ⟨by rw [HE.out]; rfl, S.out.bel⟩
      · have her' : (er != 0) = true := by simp [her]
        have HE := Lib.hid (show giveR r (h : Int) = (0, er) by rw [HGV.out, if_neg h6, HM.out]; exact if_neg her)
        clear her h6
        go_enter Try.func30, Try.ntmps30
        go_wp2_with fail
        refine wp_region_seg [([0, 1, 2], 3), ([], 4)] [5] [] 6 (by kernel_rfl) (by kernel_rfl) ?_
        intro KQ hKQ w2 hb
        have S := Lib.hid (S.out.call hb)
        clear hb
        have q0_0 := cell_regrown (S.out.get 0 0 rfl rfl)
        have q0_1 := cell_regrown (S.out.get 0 1 rfl rfl)
        refine seg_next ?_
        simp only [opsAt, List.filterMap_cons, List.filterMap_nil, List.getElem?_toArray, List.getElem?_cons_succ, List.getElem?_cons_zero]
        repeat (first | go_big_quiet_step (fail) | quiet_step (fail))
        refine wpQuiet_nil ?_
        intro K hK
        refine loud_op rfl rfl ?_
        go_simp
        refine (isHour_any _ r h _ ⟨_, _, rfl, HR.out.below S.out.bel, HS.out.below S.out.bel⟩).mono ?_
        rintro e w3 ⟨rfl, hb⟩
        have S := Lib.hid (S.out.call hb)
        refine hK _ _ hb ?_
        clear hK K hb
        refine seg_next ?_
        simp only [opsAt, List.filterMap_nil]
        refine wpQuiet_nil ?_
        intro K hK
        refine loud_op rfl rfl ?_
        go_simp
        refine (ask_any _ r (isHour r h) _ ⟨_, _, rfl, HR.out.below S.out.bel, HS.out.below S.out.bel⟩).mono ?_
        rintro e w4 ⟨rfl, hb⟩
        rw [HA.out]
        have S := Lib.hid (S.out.call hb)
        refine hK _ _ hb ?_
        clear hK K hb q0_0 q0_1
        refine seg_last ?_
        simp only [opsAt, List.filterMap_cons, List.filterMap_nil, List.getElem?_toArray, List.getElem?_cons_succ, List.getElem?_cons_zero]
        repeat (first | go_big_quiet_step (fail) | quiet_step (fail))
        refine wpQuiet_nil ?_
        have q0 := S.out.get 0 0 rfl rfl
        have q1 := S.out.get 0 1 rfl rfl
        have y0 := keep_cell S.out.bel HC0.out
        go_wp2_with fail
        clear q0 q1 y0
        refine (least_any _ r _ ⟨_, _, rfl, HR.out.below S.out.bel, HS.out.below S.out.bel⟩).mono ?_
        rintro e w5 ⟨rfl, hb⟩
        rw [HM.out]
        have S := Lib.hid (S.out.call hb)
        clear hb
        go_wp2_with fail
        go_ret2
        exact ⟨by rw [HE.out]; rfl, S.out.bel⟩
  · have HE := Lib.hid (show giveR r h = (0, askE r (isHour r h)) by unfold giveR; rw [if_neg ha])
    obtain ⟨er, her⟩ : ∃ x, askE r (isHour r h) = x := ⟨_, rfl⟩
    have hq : (er != 0) = true := by rw [← her]; simpa using ha
    have HA := Lib.hid her
    clear ha her
    go_enter Try.func30, Try.ntmps30
    go_wp2_with fail
    refine wp_region_seg [([0, 1, 2], 3), ([], 4)] [5] [] 6 (by kernel_rfl) (by kernel_rfl) ?_
    intro KQ hKQ w2 hb
    have S := Lib.hid (S.out.call hb)
    clear hb
    have q0_0 := cell_regrown (S.out.get 0 0 rfl rfl)
    have q0_1 := cell_regrown (S.out.get 0 1 rfl rfl)
    refine seg_next ?_
    simp only [opsAt, List.filterMap_cons, List.filterMap_nil, List.getElem?_toArray, List.getElem?_cons_succ, List.getElem?_cons_zero]
    repeat (first | go_big_quiet_step (fail) | quiet_step (fail))
    refine wpQuiet_nil ?_
    intro K hK
    refine loud_op rfl rfl ?_
    go_simp
    refine (isHour_any _ r h _ ⟨_, _, rfl, HR.out.below S.out.bel, HS.out.below S.out.bel⟩).mono ?_
    rintro e w3 ⟨rfl, hb⟩
    have S := Lib.hid (S.out.call hb)
    refine hK _ _ hb ?_
    clear hK K hb
    refine seg_next ?_
    simp only [opsAt, List.filterMap_nil]
    refine wpQuiet_nil ?_
    intro K hK
    refine loud_op rfl rfl ?_
    go_simp
    refine (ask_any _ r (isHour r h) _ ⟨_, _, rfl, HR.out.below S.out.bel, HS.out.below S.out.bel⟩).mono ?_
    rintro e w4 ⟨rfl, hb⟩
    rw [HA.out]
    have S := Lib.hid (S.out.call hb)
    refine hK _ _ hb ?_
    clear hK K hb q0_0 q0_1
    refine seg_last ?_
    simp only [opsAt, List.filterMap_cons, List.filterMap_nil, List.getElem?_toArray, List.getElem?_cons_succ, List.getElem?_cons_zero]
    repeat (first | go_big_quiet_step (fail) | quiet_step (fail))
    refine wpQuiet_nil ?_
    go_wp2_with fail
    go_ret2
    exact ⟨by rw [HE.out, HA.out]; rfl, S.out.bel⟩

end Go.Proofs.Ytokendenofbnhaa
