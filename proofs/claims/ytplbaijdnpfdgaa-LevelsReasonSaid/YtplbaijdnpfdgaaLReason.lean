/- The law LevelsReason walked. -/
import Derived.Test.YtplbaijdnpfdgaaV13
namespace Go.Proofs.Ytplbaijdnpfdgaa
open Go.RowKit Go.Sort

theorem ofN_take (l : List Nat) (k : Nat) : ofN (l.take k) = (ofN l).take k := by simp [ofN, List.map_take]
theorem way_take {t : Twn} {v : Nat} {l : List Nat} {K : Nat} (h : WhyIs t v l) (hK : l.length = K) (h6 : K ≤ 6) (k : Nat) (h0 : 0 < k) (hk : k ≤ K) : Way t (l.take k) :=
  ⟨by rw [List.length_take]; omega, by rw [List.length_take]; omega, fun x hx => h.lt x (List.mem_of_mem_take hx), h.nodup.sublist (List.take_sublist _ _)⟩
theorem not_before {l : List Nat} {K k q : Nat} (h : l.Nodup) (hK : l.length = K) (hk : k < K) (hq : l.getD k 0 = q) : decide (((q : Nat) : Int) ∈ ofN (l.take k)) = false := by
  refine decide_eq_false fun hm => ?_
  obtain ⟨x, hx, e⟩ := List.mem_map.1 hm
  obtain rfl : x = q := by omega
  obtain ⟨i, hi, e2⟩ := List.getElem_of_mem hx
  rw [List.length_take] at hi
  rw [List.getElem_take] at e2
  rw [getD_at (by omega)] at hq
  exact List.pairwise_iff_getElem.1 h i k (by omega) (by omega) (by omega) (by rw [e2, hq])

theorem last_well {t : Twn} {v : Int} {l : List Nat} {K : Nat} (h : WhyIs t v.toNat l) (hK : l.length = K) (h0 : 0 < K) (hw : isWell t.wells v = true) : ((l.getD (K - 1) 0 : Nat) : Int) = v := by
  have h1 := h.last
  have h2 := isWell_iff.1 hw
  have h3 : lastW l = l.getD (K - 1) 0 := by
    obtain ⟨j, rfl⟩ : ∃ j, K = j + 1 := ⟨K - 1, by omega⟩
    have := take_last (l := l ++ [0]) (k := j + 1) (by simp; omega) (by omega)
    rw [List.take_append_of_le_length (by omega), List.take_of_length_le (by omega)] at this
    rw [this, Nat.add_sub_cancel, getD_at (by simp; omega), getD_at (by omega), List.getElem_append_left (by omega)]
  omega

set_option maxRecDepth 100000 in
set_option maxHeartbeats 8000000 in
theorem lawReason_any (v : Value) (t : Twn) (well : Int) (w : World) (hv : TwnAt w v t) :
    Calls Try.prog 9 #[v, I well] w fun e w' => e = .returned (.bool true) ∧ Below w.heap.size w w' := by
  obtain ⟨i0, hi, hz0, hz1, hz2⟩ := info_parts Try.info3
  obtain ⟨sv, pv, rfl, hs, hp⟩ := hv
  have HSN := Lib.hid hs
  have HSP := Lib.hid hp
  obtain ⟨A1, c1, rfl, -, -, -⟩ := id hs.open_
  obtain ⟨A2, c2, rfl, -, -, -⟩ := id hp.open_
  clear hs hp
  have S := Lib.hid (show St w (w.alloc (.cells #[I t.wells, .slice A1 t.snd.length c1, .slice A2 t.slp.length c2] 25)) (w.heap.size + 1) [.box w.heap.size [I t.wells, .slice A1 t.snd.length c1, .slice A2 t.slp.length c2]] from (St.init w).alloc [I t.wells, .slice A1 t.snd.length c1, .slice A2 t.slp.length c2] 25)
  cases hr : readyB t
  · have HR := Lib.hid hr
    clear hr
    go_enter Try.func9, Try.ntmps9
    have q_town0 := S.out.get 0 0 rfl rfl
    have q_town1 := S.out.get 0 1 rfl rfl
    have q_town2 := S.out.get 0 2 rfl rfl
    go_wp2_with fail
    refine (ready_any _ t _ ⟨_, _, rfl, HSN.out.below S.out.bel, HSP.out.below S.out.bel⟩).mono ?_
    rintro e w1 ⟨rfl, hb⟩
    rw [HR.out]
    have S := Lib.hid (S.out.call hb)
    clear hb
    clear q_town0 q_town1 q_town2
    have q_town0 := S.out.get 0 0 rfl rfl
    have q_town1 := S.out.get 0 1 rfl rfl
    have q_town2 := S.out.get 0 2 rfl rfl
    go_wp2_with fail
    refine (works_any _).mono ?_
    rintro e w2 ⟨rfl, hb⟩
    have S := Lib.hid (S.out.call hb)
    clear hb
    clear q_town0 q_town1 q_town2
    have q_town0 := S.out.get 0 0 rfl rfl
    have q_town1 := S.out.get 0 1 rfl rfl
    have q_town2 := S.out.get 0 2 rfl rfl
    go_wp2_with fail
    go_ret
    exact ⟨rfl, S.out.bel⟩
  · have HR := Lib.hid hr
    obtain ⟨hv, h5, hm8, ht1, ht2⟩ := readyB_true hr
    have hw0 := (valid_vl hv).w0
    have hw6 : t.wells ≤ 1000 := by omega
    have HVL := Lib.hid (valid_vl hv)
    have HV := Lib.hid hv
    have HV5 := Lib.hid h5
    have HT1 := Lib.hid (show t.snd.length ≤ 1000 by omega)
    have HT2 := Lib.hid (show t.slp.length ≤ 1000 by omega)
    clear hv h5 hm8 hr
    cases hwl : isWell t.wells well
    · have HWL := Lib.hid hwl
      clear hwl
      go_enter Try.func9, Try.ntmps9
      have q_town0 := S.out.get 0 0 rfl rfl
      have q_town1 := S.out.get 0 1 rfl rfl
      have q_town2 := S.out.get 0 2 rfl rfl
      go_wp2_with fail
      refine (ready_any _ t _ ⟨_, _, rfl, HSN.out.below S.out.bel, HSP.out.below S.out.bel⟩).mono ?_
      rintro e w1 ⟨rfl, hb⟩
      rw [HR.out]
      have S := Lib.hid (S.out.call hb)
      clear hb
      clear q_town0 q_town1 q_town2
      have q_town0 := S.out.get 0 0 rfl rfl
      have q_town1 := S.out.get 0 1 rfl rfl
      have q_town2 := S.out.get 0 2 rfl rfl
      go_wp2_with fail
      refine (rIsWell_any t.wells well _ _ _ hw0 hw6 ⟨_, _, _, rfl⟩ ⟨_, _, _, rfl⟩).mono ?_
      rintro e w2 ⟨rfl, hb⟩
      rw [show isWell t.wells well = false from HWL.out]
      have S := Lib.hid (S.out.call hb)
      clear hb
      clear q_town0 q_town1 q_town2
      have q_town0 := S.out.get 0 0 rfl rfl
      have q_town1 := S.out.get 0 1 rfl rfl
      have q_town2 := S.out.get 0 2 rfl rfl
      go_wp2_with fail
      refine (works_any _).mono ?_
      rintro e w3 ⟨rfl, hb⟩
      have S := Lib.hid (S.out.call hb)
      clear hb
      clear q_town0 q_town1 q_town2
      have q_town0 := S.out.get 0 0 rfl rfl
      have q_town1 := S.out.get 0 1 rfl rfl
      have q_town2 := S.out.get 0 2 rfl rfl
      go_wp2_with fail
      go_ret
      exact ⟨rfl, S.out.bel⟩
    · have HWL := Lib.hid hwl
      clear hwl
      rcases openE_cases HV.out with h | h
      · have HO := Lib.hid h
        obtain ⟨ws, hid, hwy⟩ := why_said h HWL.out
        have HID := Lib.hid hid
        have HWY := Lib.hid hwy
        obtain ⟨K, hK⟩ : ∃ K, ws.length = K := ⟨_, rfl⟩
        have hK0 : 0 < K := by have := hwy.ne; omega
        have hKW : (K : Int) ≤ t.wells := by have := hwy.le; omega
        have hK6 : K ≤ 6 := by have := HV5.out; omega
        have HKW := Lib.hid hK
        have HKL := Lib.hid (show (ofN ws).length = K by simp [ofN, hK])
        have HLL := Lib.hid (show (ofN ws).length ≤ 1000 by simp [ofN, hK]; omega)
        have HLA := Lib.hid (show ((ws.getD (K - 1) 0 : Nat) : Int) = well from last_well hwy hK hK0 HWL.out)
        clear h hid hwy hK
        go_enter Try.func9, Try.ntmps9
        have q_town0 := S.out.get 0 0 rfl rfl
        have q_town1 := S.out.get 0 1 rfl rfl
        have q_town2 := S.out.get 0 2 rfl rfl
        go_wp2_with fail
        refine (ready_any _ t _ ⟨_, _, rfl, HSN.out.below S.out.bel, HSP.out.below S.out.bel⟩).mono ?_
        rintro e w1 ⟨rfl, hb⟩
        rw [HR.out]
        have S := Lib.hid (S.out.call hb)
        clear hb
        clear q_town0 q_town1 q_town2
        have q_town0 := S.out.get 0 0 rfl rfl
        have q_town1 := S.out.get 0 1 rfl rfl
        have q_town2 := S.out.get 0 2 rfl rfl
        go_wp2_with fail
        refine (rIsWell_any t.wells well _ _ _ hw0 hw6 ⟨_, _, _, rfl⟩ ⟨_, _, _, rfl⟩).mono ?_
        rintro e w2 ⟨rfl, hb⟩
        rw [show isWell t.wells well = true from HWL.out]
        have S := Lib.hid (S.out.call hb)
        clear hb
        clear q_town0 q_town1 q_town2
        have q_town0 := S.out.get 0 0 rfl rfl
        have q_town1 := S.out.get 0 1 rfl rfl
        have q_town2 := S.out.get 0 2 rfl rfl
        go_wp2_with fail
        refine (why_any _ t well _ ⟨_, _, rfl, HSN.out.below S.out.bel, HSP.out.below S.out.bel⟩).mono ?_
        rintro e w3 ⟨vi, rfl, hl, hb⟩
        rw [HID.out] at hl ⊢
        obtain ⟨Ai, ci, rfl, -, -, -⟩ := id hl.open_
        have Hi := Lib.hid hl
        clear hl
        have S := Lib.hid (S.out.call hb)
        clear hb
        clear q_town0 q_town1 q_town2
        have Hi := Lib.hid (show Ints _ (.slice Ai K ci) (ofN ws) by rw [← HKL.out]; exact Hi.out)
        rw [HKL.out]
        have q_town0 := S.out.get 0 0 rfl rfl
        have q_town1 := S.out.get 0 1 rfl rfl
        have q_town2 := S.out.get 0 2 rfl rfl
        go_wp2_with fail
        refine (ends_yes _ t _ ⟨_, _, rfl, HSN.out.below S.out.bel, HSP.out.below S.out.bel⟩ HO.out HV.out).mono ?_
        rintro e w4 ⟨u1, u2, rfl, h1, h2, hb⟩
        obtain ⟨B1, d1, rfl, -, -, -⟩ := id h1.open_
        obtain ⟨C1, e1, rfl, -, -, -⟩ := id h2.open_
        have HE1 := Lib.hid h1
        have HE2 := Lib.hid h2
        clear h1 h2
        have Hi := Lib.hid (Ints.below Hi.out hb)
        have S := Lib.hid (S.out.call hb)
        clear hb
        clear q_town0 q_town1 q_town2
        have HX_town0 := Lib.hid (S.out.get 0 0 rfl rfl)
        have HX_town1 := Lib.hid (S.out.get 0 1 rfl rfl)
        have HX_town2 := Lib.hid (S.out.get 0 2 rfl rfl)
        have HBW := Lib.hid S.out.bel
        have HSN := Lib.hid (HSN.out.below S.out.bel)
        have HSP := Lib.hid (HSP.out.below S.out.bel)
        have S := Lib.hid (St.init w4)
        have q_town0 := keep_cell S.out.bel HX_town0.out
        have q_town1 := keep_cell S.out.bel HX_town1.out
        have q_town2 := keep_cell S.out.bel HX_town2.out
        obtain ⟨_, _, he, hcc, hcm, hci⟩ := Hi.out.open_
        rw [HKL.out] at he hcc
        injection he with he1 he2 he3
        subst he1
        subst he3
        obtain ⟨b3, o3, rfl, hb3, hci⟩ := hci (by rw [HKL.out]; exact hK0)
        obtain ⟨-, hch⟩ := HE2.out.at_get rfl
        have HCC := Lib.hid (show (ofN ws).length ≤ ci by rw [HKL.out]; exact hcc)
        have HCM := Lib.hid hcm
        have HCI := Lib.hid hci
        have HC := Lib.hid (fun k (hk : k < K) => show w4.cell? ⟨b3, o3 + k, none⟩ = some (I ((ws.getD k 0 : Nat) : Int)) from (by have h := hci k (by rw [HKL.out]; exact hk); rw [h, ← ofN_getD, getD_at (by rw [HKL.out]; exact hk)]))
        have HCH := Lib.hid (fun (hn : 0 < (highL t).length) => hch hn)
        have yl := HC.out (K - 1) (by omega)
        rw [HLA.out] at yl
        have r1 : ((K : Nat) : Int) - 1 = ((K - 1 : Nat) : Int) := by omega
        have r2 : IntKind.i64.wrap ((K - 1 : Nat) : Int) = ((K - 1 : Nat) : Int) := IntWalk.i64_in _ (by omega)
        have r3 : K - 1 < K := by omega
        have r4 : ¬ t.wells < (K : Int) := by omega
        have r5 : ¬ K = 0 := by omega
        have r6 : ((K : Int) == 0) = false := by rw [beq_eq_false_iff_ne]; omega
        have r7 : ((K : Int) ≤ t.wells) = True := by simp; omega
        have hcK : K ≤ ci := hcc
        have HIB := Lib.hid Hi.out
        clear hcc hcm hci he2 hch
        go_wp2_with fail
        refine (isKnown_any 0 _).mono ?_
        rintro e wk ⟨rfl, rfl⟩
        rw [show isKnownB 0 = true from rfl]
        go_wp2_with fail
        clear yl r1 r2 r3 r4 r5 r6 r7
        clear q_town0 q_town1 q_town2
        go_loopw [11] (fun i wr => ∃ k : Nat, k ≤ K ∧ i = I k ∧ Hid (St w4 wr wr.heap.size [])) (fun i _ => K - (intOf i).toNat)
        case atStart => exact ⟨0, by omega, rfl, Lib.hid S.out.fix⟩
        case round =>
          clear S
          obtain ⟨k, hk, rfl, S⟩ := hrel
          by_cases hlt : k < K
          · have hki : (k : Int) < (K : Int) := by omega
            obtain ⟨q, hq⟩ : ∃ q, ws.getD k 0 = q := ⟨_, rfl⟩
            have y0 := HC.out k hlt
            rw [hq] at y0
            have HY0 := Lib.hid y0
            have HKQ := Lib.hid hq
            clear y0 hq
            have HWQ := Lib.hid (show isWell t.wells (q : Int) = true from isWell_iff.2 (by
              have h : (q : Int) < t.wells := by rw [← HKQ.out, getD_at (by rw [HKW.out]; exact hlt)]; exact HWY.out.lt _ (List.getElem_mem _)
              omega))
            have HNI := Lib.hid (not_before HWY.out.nodup HKW.out hlt HKQ.out)
            have s1 : (0 : Int) ≤ (k : Int) := by omega
            have s2 : (k : Int) ≤ (ci : Int) := by omega
            go_wp2_with fail
            refine wp_region_treeB (.node [0, 1, 2, 3, 4] [5] (fun _ => .node [6, 7, 9, 10, 11, 13, 14, 15, 16] [8] (fun _ => .node [] [12] (fun _ => .node [] [17] (fun _ => .last [18] []))))) 19 (by kernel_rfl) (by kernel_rfl) ?_
            intro KQ hKQ wq hb
            have S := Lib.hid (S.out.call hb)
            clear hb
            have HB := Lib.hid (Below.refl wq.heap.size wq)
            have q0 := cell_regrown (keep_cell S.out.bel HX_town0.out)
            have q1 := cell_regrown (keep_cell S.out.bel HX_town1.out)
            have q2 := cell_regrown (keep_cell S.out.bel HX_town2.out)
            have y0 := cell_regrown (keep_cell S.out.bel HY0.out)
            refine treeB_node ?_
            simp only [opsAt, List.filterMap_cons, List.filterMap_nil, List.getElem?_toArray, List.getElem?_cons_succ, List.getElem?_cons_zero]
            repeat (first | go_big_quiet_step (fail) | quiet_step (fail))
            refine wpQuiet_nil ?_
            refine all_one ?_
            intro K hK
            refine loud_op rfl rfl ?_
            go_simp
            refine (rIsWell_any t.wells (q : Int) _ _ _ hw0 hw6 ⟨_, _, _, rfl⟩ ⟨_, _, _, rfl⟩).mono ?_
            rintro e wa ⟨rfl, hb⟩
            rw [HWQ.out]
            have HB := Lib.hid (bto HB.out hb)
            refine hK _ _ HB.out ?_
            clear hK K hb
            refine treeB_node ?_
            simp only [opsAt, List.filterMap_cons, List.filterMap_nil, List.getElem?_toArray, List.getElem?_cons_succ, List.getElem?_cons_zero]
            repeat (first | go_big_quiet_step (fail) | quiet_step (fail))
            refine wpQuiet_nil ?_
            refine all_one ?_
            intro K hK
            refine loud_op rfl rfl ?_
            go_simp
            have hb := (Below.refl wa.heap.size wa).alloc (Nat.le_refl _) (.cells #[] 3)
            have hg := heap_alloc_new wa (.cells #[] 3)
            obtain ⟨wp1, hwd⟩ : ∃ x, wa.alloc (.cells #[] 3) = x := ⟨_, rfl⟩
            obtain ⟨gE, hgE⟩ : ∃ x, wa.heap.size = x := ⟨_, rfl⟩
            have hgl : wq.heap.size ≤ gE := by rw [← hgE]; exact HB.out.size
            rw [hwd] at hb hg ⊢
            rw [hgE] at hg ⊢
            clear hwd hgE
            have HGE := Lib.hid hgl
            have HB := Lib.hid (bto HB.out hb)
            have G0 := Lib.hid hg
            refine hK _ _ HB.out ?_
            clear hK K hb hg hgl
            refine treeB_node ?_
            simp only [opsAt, List.filterMap_nil]
            refine wpQuiet_nil ?_
            refine all_one ?_
            intro K hK
            refine loud_op rfl rfl ?_
            have hrd := Ints.below (ints_prefix (xs := ofN ws) HLL.out (by rw [HKL.out]; omega : k ≤ (ofN ws).length) HCC.out HCM.out HCI.out) (bto S.out.bel HB.out)
            have htl : ((ofN ws).take k).length = k := by rw [List.length_take, HKL.out]; omega
            unfold Ints at hrd
            rw [htl] at hrd
            refine wp_append_fresh _ (.tmp 93) (.tmp 96) 29 rfl wq.heap.size 3 i0 (.int .i64 0) 1 8 Try.underlying29 hi hz0 hz1 hz2 rfl (by omega) gE rfl G0.out HGE.out _ k (((ofN ws).take k).map I) rfl hrd (ints_one _) (by simp only [maxLen]; omega) (by omega) HB.out.size ?_
            intro v1 wf hown hb
            have HB := Lib.hid (bto HB.out hb)
            obtain ⟨Av1, cv1, rfl⟩ := own_shape hown
            have O1 := Lib.hid hown
            have HIA := Lib.hid (show Ints wf (.slice Av1 k cv1) (ofN (ws.take k)) from (by rw [ofN_take]; unfold Ints; rw [htl]; exact Reads.of_own O1.out))
            refine hK _ _ HB.out ?_
            clear hK K hb hown hrd htl G0 HGE
            refine treeB_node ?_
            simp only [opsAt, List.filterMap_nil]
            refine wpQuiet_nil ?_
            refine all_one ?_
            intro K hK
            refine loud_op rfl rfl ?_
            go_simp
            refine (in_any _ (ofN (ws.take k)) (q : Int) _ HIA.out).mono ?_
            rintro e wg ⟨rfl, hb⟩
            rw [HNI.out]
            have HB := Lib.hid (bto HB.out hb)
            refine hK _ _ HB.out ?_
            clear hK K hb y0 q0 q1 q2
            refine treeB_last ?_
            simp only [opsAt, List.filterMap_cons, List.filterMap_nil, List.getElem?_toArray, List.getElem?_cons_succ, List.getElem?_cons_zero]
            repeat (first | go_big_quiet_step (fail) | quiet_step (fail))
            refine wpQuiet_nil ?_
            have S := Lib.hid (S.out.call HB.out)
            go_wp2_with fail
            go_roundw
            case rel => exact ⟨k + 1, by omega, by go_num, Lib.hid S.out.fix⟩
            case measure => first | (simp [intOf]; done) | (simp [intOf]; omega)
          · have hki : ¬ (k : Int) < (K : Int) := by omega
            go_wp2_with fail
            clear hki hlt hk
            go_loopw [12] (fun i wr => ∃ k : Nat, k ≤ K ∧ i = I k ∧ Hid (St w4 wr wr.heap.size [])) (fun i _ => K - (intOf i).toNat)
            case atStart => exact ⟨0, by omega, rfl, Lib.hid S.out.fix⟩
            case round =>
              clear S
              obtain ⟨k, hk, rfl, S⟩ := hrel
              by_cases hlt : k < K
              · have hki : (k : Int) < (K : Int) := by omega
                obtain ⟨q, hq⟩ : ∃ q, ws.getD k 0 = q := ⟨_, rfl⟩
                have y0 := HC.out k hlt
                rw [hq] at y0
                have HY0 := Lib.hid y0
                have HKQ := Lib.hid hq
                clear y0 hq
                obtain ⟨k1, hk1⟩ : ∃ k1, k + 1 = k1 := ⟨_, rfl⟩
                have hkw : IntKind.i64.wrap ((k : Int) + 1) = (k1 : Int) := by rw [IntWalk.i64_in _ (by omega)]; omega
                have hk1l : k1 ≤ K := by omega
                have hfo := HWY.out.pre k (by rw [HKW.out]; exact hlt)
                rw [hk1, HKQ.out] at hfo
                have HQW := Lib.hid (show (q : Int) < t.wells from by rw [← HKQ.out, getD_at (by rw [HKW.out]; exact hlt)]; exact HWY.out.lt _ (List.getElem_mem _))
                have hhl := highL_get HQW.out
                simp only [lvl] at hhl
                have hln := highL_len t
                obtain ⟨bh, oh, rfl, -, hch⟩ := HCH.out (by have := HQW.out; omega)
                have y1 := hch q (by have := HQW.out; omega)
                rw [hhl] at y1
                obtain ⟨hv, hhv⟩ : ∃ x, at_ (closeM (baseM t)) 6 q = x := ⟨_, rfl⟩
                rw [hhv] at y1 hfo
                have HFO := Lib.hid hfo
                have HY1 := Lib.hid y1
                have b2 : (q : Int) < ((highL t).length : Int) := by have := HQW.out; omega
                have HWA := Lib.hid (way_take HWY.out HKW.out hK6 k1 (by omega) hk1l)
                have HK1 := Lib.hid hk1
                have s1 : (0 : Int) ≤ (k1 : Int) := by omega
                have s2 : (k1 : Int) ≤ (ci : Int) := by omega
                clear hk1 hfo y1 hhv hhl hln hch
                go_wp2_with fail
                refine wp_region_treeB (.node [0, 2, 3, 4, 5] [1] (fun _ => .node [] [6] (fun _ => .node [] [7] (fun _ => .last [8, 9, 10, 11, 12] [])))) 13 (by kernel_rfl) (by kernel_rfl) ?_
                intro KQ hKQ wq hb
                have S := Lib.hid (S.out.call hb)
                clear hb
                have HB := Lib.hid (Below.refl wq.heap.size wq)
                have q0 := cell_regrown (keep_cell S.out.bel HX_town0.out)
                have q1 := cell_regrown (keep_cell S.out.bel HX_town1.out)
                have q2 := cell_regrown (keep_cell S.out.bel HX_town2.out)
                refine treeB_node ?_
                simp only [opsAt, List.filterMap_cons, List.filterMap_nil, List.getElem?_toArray, List.getElem?_cons_succ, List.getElem?_cons_zero]
                repeat (first | go_big_quiet_step (fail) | quiet_step (fail))
                refine wpQuiet_nil ?_
                refine all_one ?_
                intro K hK
                refine loud_op rfl rfl ?_
                go_simp
                have hb := (Below.refl wq.heap.size wq).alloc (Nat.le_refl _) (.cells #[] 3)
                have hg := heap_alloc_new wq (.cells #[] 3)
                obtain ⟨wp1, hwd⟩ : ∃ x, wq.alloc (.cells #[] 3) = x := ⟨_, rfl⟩
                obtain ⟨gE, hgE⟩ : ∃ x, wq.heap.size = x := ⟨_, rfl⟩
                have hgl : wq.heap.size ≤ gE := by rw [← hgE]; exact HB.out.size
                rw [hwd] at hb hg ⊢
                rw [hgE] at hg ⊢
                clear hwd hgE
                have HGE := Lib.hid hgl
                have HB := Lib.hid (bto HB.out hb)
                have G0 := Lib.hid hg
                refine hK _ _ HB.out ?_
                clear hK K hb hg hgl
                refine treeB_node ?_
                simp only [opsAt, List.filterMap_nil]
                refine wpQuiet_nil ?_
                refine all_one ?_
                intro K hK
                refine loud_op rfl rfl ?_
                have hrd := Ints.below (ints_prefix (xs := ofN ws) HLL.out (by rw [HKL.out]; omega : k1 ≤ (ofN ws).length) HCC.out HCM.out HCI.out) (bto S.out.bel HB.out)
                have htl : ((ofN ws).take k1).length = k1 := by rw [List.length_take, HKL.out]; omega
                unfold Ints at hrd
                rw [htl] at hrd
                refine wp_append_fresh _ (.tmp 112) (.tmp 116) 29 rfl wq.heap.size 3 i0 (.int .i64 0) 1 8 Try.underlying29 hi hz0 hz1 hz2 rfl (by omega) gE rfl G0.out HGE.out _ k1 (((ofN ws).take k1).map I) rfl hrd (ints_one _) (by simp only [maxLen]; omega) (by omega) HB.out.size ?_
                intro v1 wf hown hb
                have HB := Lib.hid (bto HB.out hb)
                obtain ⟨Av1, cv1, rfl⟩ := own_shape hown
                have O1 := Lib.hid hown
                have HIA := Lib.hid (show Ints wf (.slice Av1 k1 cv1) (ofN (ws.take k1)) from (by rw [ofN_take]; unfold Ints; rw [htl]; exact Reads.of_own O1.out))
                refine hK _ _ HB.out ?_
                clear hK K hb hown hrd htl G0 HGE
                refine treeB_node ?_
                simp only [opsAt, List.filterMap_nil]
                refine wpQuiet_nil ?_
                refine all_one ?_
                intro K hK
                refine loud_op rfl rfl ?_
                go_simp
                refine (follows_any _ _ t (ws.take k1) _ ⟨_, _, rfl, HSN.out.below (bto S.out.bel HB.out), HSP.out.below (bto S.out.bel HB.out)⟩ HIA.out HVL.out HT1.out HT2.out HWA.out).mono ?_
                rintro e wg ⟨rfl, hb⟩
                rw [HFO.out]
                have HB := Lib.hid (bto HB.out hb)
                refine hK _ _ HB.out ?_
                clear hK K hb q0 q1 q2
                refine treeB_last ?_
                simp only [opsAt, List.filterMap_cons, List.filterMap_nil, List.getElem?_toArray, List.getElem?_cons_succ, List.getElem?_cons_zero]
                repeat (first | go_big_quiet_step (fail) | quiet_step (fail))
                refine wpQuiet_nil ?_
                have S := Lib.hid (S.out.call HB.out)
                have y0 := keep_cell S.out.bel HY0.out
                have y1 := keep_cell S.out.bel HY1.out
                go_wp2_with fail
                go_roundw
                case rel => exact ⟨k1, by omega, by go_num, Lib.hid S.out.fix⟩
                case measure => have := HK1.out; first | (simp [intOf]; done) | (simp [intOf]; omega)
              · have hki : ¬ (k : Int) < (K : Int) := by omega
                go_wp2_with fail
                refine (works_any _).mono ?_
                rintro e w5 ⟨rfl, hb⟩
                have S := Lib.hid (S.out.call hb)
                clear hb
                have q_town0 := keep_cell S.out.bel HX_town0.out
                have q_town1 := keep_cell S.out.bel HX_town1.out
                have q_town2 := keep_cell S.out.bel HX_town2.out
                go_wp2_with fail
                go_ret
                exact ⟨rfl, bto HBW.out S.out.bel⟩
      · have HO := Lib.hid h
        have HID := Lib.hid (why_three h HWL.out)
        clear h
        go_enter Try.func9, Try.ntmps9
        have q_town0 := S.out.get 0 0 rfl rfl
        have q_town1 := S.out.get 0 1 rfl rfl
        have q_town2 := S.out.get 0 2 rfl rfl
        go_wp2_with fail
        refine (ready_any _ t _ ⟨_, _, rfl, HSN.out.below S.out.bel, HSP.out.below S.out.bel⟩).mono ?_
        rintro e w1 ⟨rfl, hb⟩
        rw [HR.out]
        have S := Lib.hid (S.out.call hb)
        clear hb
        clear q_town0 q_town1 q_town2
        have q_town0 := S.out.get 0 0 rfl rfl
        have q_town1 := S.out.get 0 1 rfl rfl
        have q_town2 := S.out.get 0 2 rfl rfl
        go_wp2_with fail
        refine (rIsWell_any t.wells well _ _ _ hw0 hw6 ⟨_, _, _, rfl⟩ ⟨_, _, _, rfl⟩).mono ?_
        rintro e w2 ⟨rfl, hb⟩
        rw [show isWell t.wells well = true from HWL.out]
        have S := Lib.hid (S.out.call hb)
        clear hb
        clear q_town0 q_town1 q_town2
        have q_town0 := S.out.get 0 0 rfl rfl
        have q_town1 := S.out.get 0 1 rfl rfl
        have q_town2 := S.out.get 0 2 rfl rfl
        go_wp2_with fail
        refine (why_any _ t well _ ⟨_, _, rfl, HSN.out.below S.out.bel, HSP.out.below S.out.bel⟩).mono ?_
        rintro e w3 ⟨vi, rfl, hl, hb⟩
        rw [HID.out] at hl ⊢
        obtain ⟨Ai, ci, rfl, -, -, -⟩ := id hl.open_
        have Hi := Lib.hid hl
        clear hl
        have S := Lib.hid (S.out.call hb)
        clear hb
        clear q_town0 q_town1 q_town2
        have q_town0 := S.out.get 0 0 rfl rfl
        have q_town1 := S.out.get 0 1 rfl rfl
        have q_town2 := S.out.get 0 2 rfl rfl
        go_wp2_with fail
        refine (ends_no _ t _ ⟨_, _, rfl, HSN.out.below S.out.bel, HSP.out.below S.out.bel⟩ HO.out).mono ?_
        rintro e w4 ⟨rfl, hb⟩
        have Hi := Lib.hid (Ints.below Hi.out hb)
        have S := Lib.hid (S.out.call hb)
        clear hb
        clear q_town0 q_town1 q_town2
        have q_town0 := S.out.get 0 0 rfl rfl
        have q_town1 := S.out.get 0 1 rfl rfl
        have q_town2 := S.out.get 0 2 rfl rfl
        go_wp2_with fail
        refine (isKnown_any 3 _).mono ?_
        rintro e wk ⟨rfl, rfl⟩
        rw [show isKnownB 3 = true from rfl]
        go_wp2_with fail
        refine (works_any _).mono ?_
        rintro e w5 ⟨rfl, hb⟩
        have S := Lib.hid (S.out.call hb)
        clear hb
        clear q_town0 q_town1 q_town2
        have q_town0 := S.out.get 0 0 rfl rfl
        have q_town1 := S.out.get 0 1 rfl rfl
        have q_town2 := S.out.get 0 2 rfl rfl
        go_wp2_with fail
        go_ret
        exact ⟨rfl, S.out.bel⟩

end Go.Proofs.Ytplbaijdnpfdgaa
