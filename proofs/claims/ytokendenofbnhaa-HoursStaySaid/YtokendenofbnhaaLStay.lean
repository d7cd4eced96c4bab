/- HoursStay: the law walked. -/
import Derived.Test.YtokendenofbnhaaW22
import Derived.Test.YtokendenofbnhaaW25
import Derived.Test.YtokendenofbnhaaPlain8
namespace Go.Proofs.Ytokendenofbnhaa
open Go.RowKit Go.Sort

theorem near_of_nil {ss : List Str} {l : List Int} (h : (movedL ss l).length = 0) : nearL 0 ss l := by
  intro k h1 h2
  have h0 : movedL ss l = [] := List.eq_nil_of_length_eq_zero h
  unfold movedL movedTo at h0
  rw [List.map_eq_nil_iff, List.filter_eq_nil_iff] at h0
  have := h0 k (List.mem_range.2 h2)
  simp only [decide_eq_true_eq] at this
  rw [List.getD_eq_getElem?_getD, List.getElem?_eq_getElem h1, List.getD_eq_getElem?_getD, List.getElem?_eq_getElem h2] at this
  simp only [Option.getD_some] at this
  omega
theorem stay_zeroI {r : Ros} (h : ROk r) {l : List Int} (hl : newB r l = true) (hn : (movedL r.strs l).length = 0) : (bestR stepsI r).1 = 0 ∧ (farN r : Int) = 0 ∧ (bestR onceI r).1 = 0 := by
  have := stay_zero h hl (near_of_nil hn)
  omega
theorem prod_bd {x y : Int} (hx : 0 ≤ x ∧ x ≤ 9) (h0 : 0 ≤ y) (h6 : y ≤ 6) : 0 ≤ x * y ∧ x * y ≤ 54 := ⟨Int.mul_nonneg hx.1 h0, by have := Int.mul_le_mul hx.2 h6 h0 (by omega : (0 : Int) ≤ 9); omega⟩
theorem farI_bd (r : Ros) : 0 ≤ (farN r : Int) ∧ (farN r : Int) ≤ 8 := by
  have := farN_bd r
  omega

set_option maxRecDepth 20000 in
set_option maxHeartbeats 4000000 in
theorem lawStay_any (v : Value) (r : Ros) (v2 : Value) (l : List Int) (w : World) (hv : RosAt w v r) (hl : Ints w v2 l) :
    Calls Try.prog 3 #[v, v2] w fun e w' => e = .returned (.bool true) ∧ Below w.heap.size w w' := by
  obtain ⟨rv, sv, rfl, hr, hs⟩ := hv
  obtain ⟨A1, c1, rfl, hr1, hr2, -⟩ := hr.open_
  obtain ⟨A2, c2, rfl, hs1, hs2, -⟩ := hs.open_
  have HR := Lib.hid hr
  have HS := Lib.hid hs
  clear hr hs
  have S := Lib.hid (show St w (w.alloc (.cells #[.slice A1 r.room.length c1, .slice A2 r.strs.length c2] 25)) (w.heap.size + 1) [.box w.heap.size [.slice A1 r.room.length c1, .slice A2 r.strs.length c2]] from (St.init w).alloc [.slice A1 r.room.length c1, .slice A2 r.strs.length c2] 25)
  obtain ⟨Al, cl, rfl, hl1, hl2, -⟩ := id hl.open_
  have HL := Lib.hid hl
  clear hl
  obtain ⟨_, _, e, _, _, hsc⟩ := HS.out.open_
  injection e with e1 e2 e3
  subst e1
  have HSC := Lib.hid hsc
  clear e2 e3 hsc
  have q0 := S.out.get 0 0 rfl rfl
  have q1 := S.out.get 0 1 rfl rfl
  go_enter Try.func3, Try.ntmps3
  go_wp2_with fail
  clear q0 q1
  refine (ready_any _ r _ ⟨_, _, rfl, HR.out.below S.out.bel, HS.out.below S.out.bel⟩).mono ?_
  rintro e w1 ⟨⟨b, rfl, hok⟩, hb⟩
  have S := Lib.hid (S.out.call hb)
  clear hb
  have q0 := S.out.get 0 0 rfl rfl
  have q1 := S.out.get 0 1 rfl rfl
  cases b
  · clear hok
    go_wp2_with fail
    clear q0 q1
    refine (works_any _).mono ?_
    rintro e w2 ⟨rfl, hb⟩
    have S := Lib.hid (S.out.call hb)
    clear hb
    go_wp2_with fail
    go_ret
    exact ⟨rfl, S.out.bel⟩
  · have hvd := hok rfl
    have HVD := Lib.hid hvd
    clear hok
    by_cases hl40 : 40 < l.length
    · have hl40' : (40 : Int) < (l.length : Int) := by omega
      go_wp2_with fail
      clear q0 q1
      refine (works_any _).mono ?_
      rintro e w2 ⟨rfl, hb⟩
      have S := Lib.hid (S.out.call hb)
      clear hb
      go_wp2_with fail
      go_ret
      exact ⟨rfl, S.out.bel⟩
    · have hl40' : ¬ (40 : Int) < (l.length : Int) := by omega
      have hlen : l.length ≤ 1000 := by omega
      go_wp2_with fail
      clear q0 q1
      refine (three_any _ r _ ⟨_, _, rfl, HR.out.below S.out.bel, HS.out.below S.out.bel⟩ hvd).mono ?_
      rintro e w2 ⟨rfl, hb⟩
      have S := Lib.hid (S.out.call hb)
      clear hb
      have q0 := S.out.get 0 0 rfl rfl
      have q1 := S.out.get 0 1 rfl rfl
      cases hs : someR r
      · rw [if_neg (by simp)]
        have HN := Lib.hid (show newB r l = false by
          cases hn : newB r l
          · rfl
          · rw [some_of hvd hn] at hs; cases hs)
        clear hs hvd
        go_wp2_with fail
        clear q0 q1
        refine (isNew_any _ _ r l _ ⟨_, _, rfl, HR.out.below S.out.bel, HS.out.below S.out.bel⟩ HVD.out (HL.out.below S.out.bel) hlen).mono ?_
        rintro e w3 ⟨rfl, hb⟩
        rw [HN.out]
        have S := Lib.hid (S.out.call hb)
        clear hb
        have q0 := S.out.get 0 0 rfl rfl
        have q1 := S.out.get 0 1 rfl rfl
        go_wp2_with fail
        go_loopw [10, 11] (fun u i wr => ∃ (k : Nat), k ≤ r.strs.length ∧ i = I k ∧ u = I (minTo r.strs k) ∧ Hid (St w wr wr.heap.size [.box w.heap.size [.slice A1 r.room.length c1, .slice A2 r.strs.length c2]])) (fun _ i _ => r.strs.length - (intOf i).toNat)
        case atStart => exact ⟨0, by omega, rfl, rfl, Lib.hid S.out.fix⟩
        case round =>
          clear S
          obtain ⟨k, hk, rfl, rfl, S⟩ := hrel
          have q0 := S.out.get 0 0 rfl rfl
          have q1 := S.out.get 0 1 rfl rfl
          by_cases hlt : k < r.strs.length
          · have hki : (k : Int) < (r.strs.length : Int) := by omega
            obtain ⟨b2, o2, rfl, hb2, hcell2⟩ := HSC.out (by omega)
            have hy := hcell2 k hlt
            clear hcell2
            have hstep : minTo r.strs (k + 1) = min (minTo r.strs k) r.strs[k].cost := by
              simp only [minTo]
              rw [show r.strs.getD k default = r.strs[k] by simp [List.getD_eq_getElem?_getD, List.getElem?_eq_getElem hlt]]
            have hmb := minTo_bd HVD.out.strs k (by omega)
            obtain ⟨s, hs⟩ : ∃ s, r.strs[k] = s := ⟨_, rfl⟩
            have hc0 := (HVD.out.strs s (hs ▸ List.getElem_mem hlt)).cost0
            have hc1 := (HVD.out.strs s (hs ▸ List.getElem_mem hlt)).cost1
            rw [hs] at hy hstep
            have y0 := keep_cell S.out.bel hy.1
            have y1 := keep_cell S.out.bel hy.2.1
            have y2 := keep_cell S.out.bel hy.2.2.1
            have y3 := keep_cell S.out.bel hy.2.2.2
            have HST := Lib.hid hstep
            clear hstep hs hy
            go_wp2_with fail
            try go_frame
            go_roundw
            case rel => exact ⟨k + 1, by omega, by go_num, by rw [HST.out], S⟩
            case measure => first | (simp [intOf]; done) | (simp [intOf]; omega)
          · obtain rfl : k = r.strs.length := by omega
            have hki : ¬ (r.strs.length : Int) < (r.strs.length : Int) := by omega
            have hmb := minTo_bd HVD.out.strs r.strs.length (by omega)
            go_wp2_with fail
            try go_frame
            refine (works_any _).mono ?_
            rintro e w4 ⟨rfl, hb⟩
            have S := Lib.hid (S.out.call hb)
            clear hb
            go_wp2_with fail
            go_ret
            exact ⟨rfl, S.out.bel⟩

      · rw [if_pos rfl]
        have HZ := Lib.hid (far_zero hvd hs)
        have HLP := Lib.hid (least_pos hvd hs)
        have HFB := Lib.hid (fewest_bd hvd hs)
        have HLC := Lib.hid (least_cost hvd hs)
        have HFA := Lib.hid (farI_bd r)
        have HST := Lib.hid (fun (h : newB r l = true) => stay_zeroI hvd h)
        clear hs hvd
        generalize (bestR stepsI r).1 = le at *
        generalize (bestR onceI r).1 = fe at *
        generalize (farN r : Int) = fa at *
        by_cases hz : fa = 0
        · have hz2 := HZ.out.1 hz
          subst hz hz2
          obtain ⟨hle0, hle1⟩ := HLP.out
          obtain ⟨hfe0, hfe1⟩ := HFB.out
          obtain ⟨hfa0, hfa1⟩ := HFA.out
          have hsl := HVD.out.sl
          cases hn : newB r l
          · go_wp2_with fail
            clear q0 q1
            refine (isNew_any _ _ r l _ ⟨_, _, rfl, HR.out.below S.out.bel, HS.out.below S.out.bel⟩ HVD.out (HL.out.below S.out.bel) hlen).mono ?_
            rintro e w3 ⟨rfl, hb⟩
            rw [hn]
            have S := Lib.hid (S.out.call hb)
            clear hb
            have q0 := S.out.get 0 0 rfl rfl
            have q1 := S.out.get 0 1 rfl rfl
            go_wp2_with fail
            go_loopw [10, 11] (fun u i wr => ∃ (k : Nat), k ≤ r.strs.length ∧ i = I k ∧ u = I (minTo r.strs k) ∧ Hid (St w wr wr.heap.size [.box w.heap.size [.slice A1 r.room.length c1, .slice A2 r.strs.length c2]])) (fun _ i _ => r.strs.length - (intOf i).toNat)
            case atStart => exact ⟨0, by omega, rfl, rfl, Lib.hid S.out.fix⟩
            case round =>
              clear S
              obtain ⟨k, hk, rfl, rfl, S⟩ := hrel
              have q0 := S.out.get 0 0 rfl rfl
              have q1 := S.out.get 0 1 rfl rfl
              by_cases hlt : k < r.strs.length
              · have hki : (k : Int) < (r.strs.length : Int) := by omega
                obtain ⟨b2, o2, rfl, hb2, hcell2⟩ := HSC.out (by omega)
                have hy := hcell2 k hlt
                clear hcell2
                have hstep : minTo r.strs (k + 1) = min (minTo r.strs k) r.strs[k].cost := by
                  simp only [minTo]
                  rw [show r.strs.getD k default = r.strs[k] by simp [List.getD_eq_getElem?_getD, List.getElem?_eq_getElem hlt]]
                have hmb := minTo_bd HVD.out.strs k (by omega)
                obtain ⟨s, hs⟩ : ∃ s, r.strs[k] = s := ⟨_, rfl⟩
                have hc0 := (HVD.out.strs s (hs ▸ List.getElem_mem hlt)).cost0
                have hc1 := (HVD.out.strs s (hs ▸ List.getElem_mem hlt)).cost1
                rw [hs] at hy hstep
                have y0 := keep_cell S.out.bel hy.1
                have y1 := keep_cell S.out.bel hy.2.1
                have y2 := keep_cell S.out.bel hy.2.2.1
                have y3 := keep_cell S.out.bel hy.2.2.2
                have HST := Lib.hid hstep
                clear hstep hs hy
                go_wp2_with fail
                try go_frame
                go_roundw
                case rel => exact ⟨k + 1, by omega, by go_num, by rw [HST.out], S⟩
                case measure => first | (simp [intOf]; done) | (simp [intOf]; omega)
              · obtain rfl : k = r.strs.length := by omega
                have hki : ¬ (r.strs.length : Int) < (r.strs.length : Int) := by omega
                have hmb := minTo_bd HVD.out.strs r.strs.length (by omega)
                have hlc := HLC.out
                have hpb := prod_bd hmb hfe0 (show _ ≤ (6 : Int) by omega)
                go_wp2_with fail
                try go_frame
                refine (works_any _).mono ?_
                rintro e w5 ⟨rfl, hb⟩
                have S := Lib.hid (S.out.call hb)
                clear hb
                go_wp2_with fail
                go_ret
                exact ⟨rfl, S.out.bel⟩
          · have HN := Lib.hid hn
            clear hn
            go_wp2_with fail
            clear q0 q1
            refine (isNew_any _ _ r l _ ⟨_, _, rfl, HR.out.below S.out.bel, HS.out.below S.out.bel⟩ HVD.out (HL.out.below S.out.bel) hlen).mono ?_
            rintro e w3 ⟨rfl, hb⟩
            rw [HN.out]
            have S := Lib.hid (S.out.call hb)
            clear hb
            have q0 := S.out.get 0 0 rfl rfl
            have q1 := S.out.get 0 1 rfl rfl
            go_wp2_with fail
            clear q0 q1
            refine (movedOf_any _ _ r l _ ⟨_, _, rfl, HR.out.below S.out.bel, HS.out.below S.out.bel⟩ HVD.out (HL.out.below S.out.bel) (InL.of_new HN.out)).mono ?_
            rintro e w4 ⟨v', rfl, hown, hb⟩
            obtain ⟨Am, cm, rfl⟩ := own_shape hown
            have S := Lib.hid (S.out.call hb)
            clear hb
            have q0 := S.out.get 0 0 rfl rfl
            have q1 := S.out.get 0 1 rfl rfl
            clear hown
            by_cases hm : (movedL r.strs l).length = 0
            · obtain ⟨rfl, -, -⟩ := HST.out HN.out hm
              have hmI : ((movedL r.strs l).length : Int) = 0 := by omega
              go_wp2_with fail
              go_loopw [10, 11] (fun u i wr => ∃ (k : Nat), k ≤ r.strs.length ∧ i = I k ∧ u = I (minTo r.strs k) ∧ Hid (St w wr wr.heap.size [.box w.heap.size [.slice A1 r.room.length c1, .slice A2 r.strs.length c2]])) (fun _ i _ => r.strs.length - (intOf i).toNat)
              case atStart => exact ⟨0, by omega, rfl, rfl, Lib.hid S.out.fix⟩
              case round =>
                clear S
                obtain ⟨k, hk, rfl, rfl, S⟩ := hrel
                have q0 := S.out.get 0 0 rfl rfl
                have q1 := S.out.get 0 1 rfl rfl
                by_cases hlt : k < r.strs.length
                · have hki : (k : Int) < (r.strs.length : Int) := by omega
                  obtain ⟨b2, o2, rfl, hb2, hcell2⟩ := HSC.out (by omega)
                  have hy := hcell2 k hlt
                  clear hcell2
                  have hstep : minTo r.strs (k + 1) = min (minTo r.strs k) r.strs[k].cost := by
                    simp only [minTo]
                    rw [show r.strs.getD k default = r.strs[k] by simp [List.getD_eq_getElem?_getD, List.getElem?_eq_getElem hlt]]
                  have hmb := minTo_bd HVD.out.strs k (by omega)
                  obtain ⟨s, hs⟩ : ∃ s, r.strs[k] = s := ⟨_, rfl⟩
                  have hc0 := (HVD.out.strs s (hs ▸ List.getElem_mem hlt)).cost0
                  have hc1 := (HVD.out.strs s (hs ▸ List.getElem_mem hlt)).cost1
                  rw [hs] at hy hstep
                  have y0 := keep_cell S.out.bel hy.1
                  have y1 := keep_cell S.out.bel hy.2.1
                  have y2 := keep_cell S.out.bel hy.2.2.1
                  have y3 := keep_cell S.out.bel hy.2.2.2
                  have HST := Lib.hid hstep
                  clear hstep hs hy
                  go_wp2_with fail
                  try go_frame
                  go_roundw
                  case rel => exact ⟨k + 1, by omega, by go_num, by rw [HST.out], S⟩
                  case measure => first | (simp [intOf]; done) | (simp [intOf]; omega)
                · obtain rfl : k = r.strs.length := by omega
                  have hki : ¬ (r.strs.length : Int) < (r.strs.length : Int) := by omega
                  have hmb := minTo_bd HVD.out.strs r.strs.length (by omega)
                  have hlc := HLC.out
                  have hpb := prod_bd hmb hfe0 (show _ ≤ (6 : Int) by omega)
                  go_wp2_with fail
                  try go_frame
                  refine (works_any _).mono ?_
                  rintro e w5 ⟨rfl, hb⟩
                  have S := Lib.hid (S.out.call hb)
                  clear hb
                  go_wp2_with fail
                  go_ret
                  exact ⟨rfl, S.out.bel⟩
            · have hmI : ¬ ((movedL r.strs l).length : Int) = 0 := by omega
              go_wp2_with fail
              go_loopw [10, 11] (fun u i wr => ∃ (k : Nat), k ≤ r.strs.length ∧ i = I k ∧ u = I (minTo r.strs k) ∧ Hid (St w wr wr.heap.size [.box w.heap.size [.slice A1 r.room.length c1, .slice A2 r.strs.length c2]])) (fun _ i _ => r.strs.length - (intOf i).toNat)
              case atStart => exact ⟨0, by omega, rfl, rfl, Lib.hid S.out.fix⟩
              case round =>
                clear S
                obtain ⟨k, hk, rfl, rfl, S⟩ := hrel
                have q0 := S.out.get 0 0 rfl rfl
                have q1 := S.out.get 0 1 rfl rfl
                by_cases hlt : k < r.strs.length
                · have hki : (k : Int) < (r.strs.length : Int) := by omega
                  obtain ⟨b2, o2, rfl, hb2, hcell2⟩ := HSC.out (by omega)
                  have hy := hcell2 k hlt
                  clear hcell2
                  have hstep : minTo r.strs (k + 1) = min (minTo r.strs k) r.strs[k].cost := by
                    simp only [minTo]
                    rw [show r.strs.getD k default = r.strs[k] by simp [List.getD_eq_getElem?_getD, List.getElem?_eq_getElem hlt]]
                  have hmb := minTo_bd HVD.out.strs k (by omega)
                  obtain ⟨s, hs⟩ : ∃ s, r.strs[k] = s := ⟨_, rfl⟩
                  have hc0 := (HVD.out.strs s (hs ▸ List.getElem_mem hlt)).cost0
                  have hc1 := (HVD.out.strs s (hs ▸ List.getElem_mem hlt)).cost1
                  rw [hs] at hy hstep
                  have y0 := keep_cell S.out.bel hy.1
                  have y1 := keep_cell S.out.bel hy.2.1
                  have y2 := keep_cell S.out.bel hy.2.2.1
                  have y3 := keep_cell S.out.bel hy.2.2.2
                  have HST := Lib.hid hstep
                  clear hstep hs hy
                  go_wp2_with fail
                  try go_frame
                  go_roundw
                  case rel => exact ⟨k + 1, by omega, by go_num, by rw [HST.out], S⟩
                  case measure => first | (simp [intOf]; done) | (simp [intOf]; omega)
                · obtain rfl : k = r.strs.length := by omega
                  have hki : ¬ (r.strs.length : Int) < (r.strs.length : Int) := by omega
                  have hmb := minTo_bd HVD.out.strs r.strs.length (by omega)
                  have hlc := HLC.out
                  have hpb := prod_bd hmb hfe0 (show _ ≤ (6 : Int) by omega)
                  go_wp2_with fail
                  try go_frame
                  refine (works_any _).mono ?_
                  rintro e w5 ⟨rfl, hb⟩
                  have S := Lib.hid (S.out.call hb)
                  clear hb
                  go_wp2_with fail
                  go_ret
                  exact ⟨rfl, S.out.bel⟩
        · have hz2 : ¬ fe = 0 := fun e => hz (HZ.out.2 e)
          have hzb1 : (fa == 0) = false := by simpa using hz
          have hzb2 : (fe == 0) = false := by simpa using hz2
          obtain ⟨hle0, hle1⟩ := HLP.out
          obtain ⟨hfe0, hfe1⟩ := HFB.out
          obtain ⟨hfa0, hfa1⟩ := HFA.out
          have hsl := HVD.out.sl
          cases hn : newB r l
          · go_wp2_with fail
            clear q0 q1
            refine (isNew_any _ _ r l _ ⟨_, _, rfl, HR.out.below S.out.bel, HS.out.below S.out.bel⟩ HVD.out (HL.out.below S.out.bel) hlen).mono ?_
            rintro e w3 ⟨rfl, hb⟩
            rw [hn]
            have S := Lib.hid (S.out.call hb)
            clear hb
            have q0 := S.out.get 0 0 rfl rfl
            have q1 := S.out.get 0 1 rfl rfl
            go_wp2_with fail
            go_loopw [10, 11] (fun u i wr => ∃ (k : Nat), k ≤ r.strs.length ∧ i = I k ∧ u = I (minTo r.strs k) ∧ Hid (St w wr wr.heap.size [.box w.heap.size [.slice A1 r.room.length c1, .slice A2 r.strs.length c2]])) (fun _ i _ => r.strs.length - (intOf i).toNat)
            case atStart => exact ⟨0, by omega, rfl, rfl, Lib.hid S.out.fix⟩
            case round =>
              clear S
              obtain ⟨k, hk, rfl, rfl, S⟩ := hrel
              have q0 := S.out.get 0 0 rfl rfl
              have q1 := S.out.get 0 1 rfl rfl
              by_cases hlt : k < r.strs.length
              · have hki : (k : Int) < (r.strs.length : Int) := by omega
                obtain ⟨b2, o2, rfl, hb2, hcell2⟩ := HSC.out (by omega)
                have hy := hcell2 k hlt
                clear hcell2
                have hstep : minTo r.strs (k + 1) = min (minTo r.strs k) r.strs[k].cost := by
                  simp only [minTo]
                  rw [show r.strs.getD k default = r.strs[k] by simp [List.getD_eq_getElem?_getD, List.getElem?_eq_getElem hlt]]
                have hmb := minTo_bd HVD.out.strs k (by omega)
                obtain ⟨s, hs⟩ : ∃ s, r.strs[k] = s := ⟨_, rfl⟩
                have hc0 := (HVD.out.strs s (hs ▸ List.getElem_mem hlt)).cost0
                have hc1 := (HVD.out.strs s (hs ▸ List.getElem_mem hlt)).cost1
                rw [hs] at hy hstep
                have y0 := keep_cell S.out.bel hy.1
                have y1 := keep_cell S.out.bel hy.2.1
                have y2 := keep_cell S.out.bel hy.2.2.1
                have y3 := keep_cell S.out.bel hy.2.2.2
                have HST := Lib.hid hstep
                clear hstep hs hy
                go_wp2_with fail
                try go_frame
                go_roundw
                case rel => exact ⟨k + 1, by omega, by go_num, by rw [HST.out], S⟩
                case measure => first | (simp [intOf]; done) | (simp [intOf]; omega)
              · obtain rfl : k = r.strs.length := by omega
                have hki : ¬ (r.strs.length : Int) < (r.strs.length : Int) := by omega
                have hmb := minTo_bd HVD.out.strs r.strs.length (by omega)
                have hlc := HLC.out
                have hpb := prod_bd hmb hfe0 (show _ ≤ (6 : Int) by omega)
                go_wp2_with fail
                try go_frame
                refine (works_any _).mono ?_
                rintro e w5 ⟨rfl, hb⟩
                have S := Lib.hid (S.out.call hb)
                clear hb
                go_wp2_with fail
                go_ret
                exact ⟨rfl, S.out.bel⟩
          · have HN := Lib.hid hn
            clear hn
            go_wp2_with fail
            clear q0 q1
            refine (isNew_any _ _ r l _ ⟨_, _, rfl, HR.out.below S.out.bel, HS.out.below S.out.bel⟩ HVD.out (HL.out.below S.out.bel) hlen).mono ?_
            rintro e w3 ⟨rfl, hb⟩
            rw [HN.out]
            have S := Lib.hid (S.out.call hb)
            clear hb
            have q0 := S.out.get 0 0 rfl rfl
            have q1 := S.out.get 0 1 rfl rfl
            go_wp2_with fail
            clear q0 q1
            refine (movedOf_any _ _ r l _ ⟨_, _, rfl, HR.out.below S.out.bel, HS.out.below S.out.bel⟩ HVD.out (HL.out.below S.out.bel) (InL.of_new HN.out)).mono ?_
            rintro e w4 ⟨v', rfl, hown, hb⟩
            obtain ⟨Am, cm, rfl⟩ := own_shape hown
            have S := Lib.hid (S.out.call hb)
            clear hb
            have q0 := S.out.get 0 0 rfl rfl
            have q1 := S.out.get 0 1 rfl rfl
            clear hown
            by_cases hm : (movedL r.strs l).length = 0
            · exact absurd (HST.out HN.out hm).2.1 hz
            · have hmI : ¬ ((movedL r.strs l).length : Int) = 0 := by omega
              go_wp2_with fail
              go_loopw [10, 11] (fun u i wr => ∃ (k : Nat), k ≤ r.strs.length ∧ i = I k ∧ u = I (minTo r.strs k) ∧ Hid (St w wr wr.heap.size [.box w.heap.size [.slice A1 r.room.length c1, .slice A2 r.strs.length c2]])) (fun _ i _ => r.strs.length - (intOf i).toNat)
              case atStart => exact ⟨0, by omega, rfl, rfl, Lib.hid S.out.fix⟩
              case round =>
                clear S
                obtain ⟨k, hk, rfl, rfl, S⟩ := hrel
                have q0 := S.out.get 0 0 rfl rfl
                have q1 := S.out.get 0 1 rfl rfl
                by_cases hlt : k < r.strs.length
                · have hki : (k : Int) < (r.strs.length : Int) := by omega
                  obtain ⟨b2, o2, rfl, hb2, hcell2⟩ := HSC.out (by omega)
                  have hy := hcell2 k hlt
                  clear hcell2
                  have hstep : minTo r.strs (k + 1) = min (minTo r.strs k) r.strs[k].cost := by
                    simp only [minTo]
                    rw [show r.strs.getD k default = r.strs[k] by simp [List.getD_eq_getElem?_getD, List.getElem?_eq_getElem hlt]]
                  have hmb := minTo_bd HVD.out.strs k (by omega)
                  obtain ⟨s, hs⟩ : ∃ s, r.strs[k] = s := ⟨_, rfl⟩
                  have hc0 := (HVD.out.strs s (hs ▸ List.getElem_mem hlt)).cost0
                  have hc1 := (HVD.out.strs s (hs ▸ List.getElem_mem hlt)).cost1
                  rw [hs] at hy hstep
                  have y0 := keep_cell S.out.bel hy.1
                  have y1 := keep_cell S.out.bel hy.2.1
                  have y2 := keep_cell S.out.bel hy.2.2.1
                  have y3 := keep_cell S.out.bel hy.2.2.2
                  have HST := Lib.hid hstep
                  clear hstep hs hy
                  go_wp2_with fail
                  try go_frame
                  go_roundw
                  case rel => exact ⟨k + 1, by omega, by go_num, by rw [HST.out], S⟩
                  case measure => first | (simp [intOf]; done) | (simp [intOf]; omega)
                · obtain rfl : k = r.strs.length := by omega
                  have hki : ¬ (r.strs.length : Int) < (r.strs.length : Int) := by omega
                  have hmb := minTo_bd HVD.out.strs r.strs.length (by omega)
                  have hlc := HLC.out
                  have hpb := prod_bd hmb hfe0 (show _ ≤ (6 : Int) by omega)
                  go_wp2_with fail
                  try go_frame
                  refine (works_any _).mono ?_
                  rintro e w5 ⟨rfl, hb⟩
                  have S := Lib.hid (S.out.call hb)
                  clear hb
                  go_wp2_with fail
                  go_ret
                  exact ⟨rfl, S.out.bel⟩

end Go.Proofs.Ytokendenofbnhaa
