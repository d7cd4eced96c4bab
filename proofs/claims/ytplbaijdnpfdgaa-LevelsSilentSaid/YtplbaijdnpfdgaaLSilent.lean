/- The law LevelsSilent walked. -/
import Derived.Test.YtplbaijdnpfdgaaV7
namespace Go.Proofs.Ytplbaijdnpfdgaa
open Go.RowKit Go.Sort

set_option maxRecDepth 100000 in
set_option maxHeartbeats 8000000 in
theorem lawSilent_any (v : Value) (t : Twn) (w : World) (hv : TwnAt w v t) :
    Calls Try.prog 16 #[v] w fun e w' => e = .returned (.bool true) ∧ Below w.heap.size w w' := by
  obtain ⟨sv, pv, rfl, hs, hp⟩ := hv
  have HSN := Lib.hid hs
  have HSP := Lib.hid hp
  obtain ⟨A1, c1, rfl, -, -, -⟩ := id hs.open_
  obtain ⟨A2, c2, rfl, -, -, -⟩ := id hp.open_
  clear hs hp
  have S := Lib.hid (show St w (w.alloc (.cells #[I t.wells, .slice A1 t.snd.length c1, .slice A2 t.slp.length c2] 25)) (w.heap.size + 1) [.box w.heap.size [I t.wells, .slice A1 t.snd.length c1, .slice A2 t.slp.length c2]] from (St.init w).alloc [I t.wells, .slice A1 t.snd.length c1, .slice A2 t.slp.length c2] 25)
  cases hr : readyB t
  · have HR := Lib.hid hr
    clear hr
    go_enter Try.func16, Try.ntmps16
    have q_town0 := S.out.get 0 0 rfl rfl
    have q_town1 := S.out.get 0 1 rfl rfl
    have q_town2 := S.out.get 0 2 rfl rfl
    go_wp2_with fail
    refine (ready_any _ t _ ⟨_, _, rfl, HSN.out.below S.out.bel, HSP.out.below S.out.bel⟩).mono ?_
    rintro e w1 ⟨rfl, hb⟩
    rw [HR.out]
    have S := Lib.hid (S.out.call hb)
    clear hb
    clear q_town0 q_town1 q_town2
    have q_town0 := S.out.get 0 0 rfl rfl
    have q_town1 := S.out.get 0 1 rfl rfl
    have q_town2 := S.out.get 0 2 rfl rfl
    go_wp2_with fail
    refine (works_any _).mono ?_
    rintro e w2 ⟨rfl, hb⟩
    have S := Lib.hid (S.out.call hb)
    clear hb
    clear q_town0 q_town1 q_town2
    have q_town0 := S.out.get 0 0 rfl rfl
    have q_town1 := S.out.get 0 1 rfl rfl
    have q_town2 := S.out.get 0 2 rfl rfl
    go_wp2_with fail
    go_ret
    exact ⟨rfl, S.out.bel⟩
  · have HR := Lib.hid hr
    obtain ⟨hv, h5, hm8, ht1, ht2⟩ := readyB_true hr
    have HV := Lib.hid hv
    have HV6 := Lib.hid (show t.wells ≤ 5 from h5)
    obtain ⟨M, hM⟩ : ∃ M, t.snd.length + t.slp.length = M := ⟨_, rfl⟩
    have HM := Lib.hid hM
    have hm1 : M ≤ 8 := by omega
    have hm2 : ¬ (M : Int) < 0 := by omega
    have HAL := Lib.hid (show (ofN (allN t)).length = M by simp [ofN, allN, hM])
    clear hv h5 hm8 hr hM
    rcases openE_cases HV.out with h | h
    · have HO := Lib.hid h
      have HID := Lib.hid (show idleP t = (idleTo t M, 0) by unfold idleP; rw [if_pos h, HM.out])
      have hil := idleTo_len t M
      have hil2 : ¬ (M : Int) < ((idleTo t M).length : Int) := by omega
      have HEL := Lib.hid (fun (k : Nat) => show ((allN t).eraseIdx k).length ≤ 1000 from Nat.le_trans (List.length_eraseIdx_le (allN t) k) (by simp [allN, HM.out]; omega))
      clear h hil
      go_enter Try.func16, Try.ntmps16
      have q_town0 := S.out.get 0 0 rfl rfl
      have q_town1 := S.out.get 0 1 rfl rfl
      have q_town2 := S.out.get 0 2 rfl rfl
      go_wp2_with fail
      refine (ready_any _ t _ ⟨_, _, rfl, HSN.out.below S.out.bel, HSP.out.below S.out.bel⟩).mono ?_
      rintro e w1 ⟨rfl, hb⟩
      rw [HR.out]
      have S := Lib.hid (S.out.call hb)
      clear hb
      clear q_town0 q_town1 q_town2
      have q_town0 := S.out.get 0 0 rfl rfl
      have q_town1 := S.out.get 0 1 rfl rfl
      have q_town2 := S.out.get 0 2 rfl rfl
      go_wp2_with fail
      refine (idle_any _ t _ ⟨_, _, rfl, HSN.out.below S.out.bel, HSP.out.below S.out.bel⟩).mono ?_
      rintro e w2 ⟨vi, rfl, hl, hb⟩
      rw [HID.out] at hl ⊢
      obtain ⟨Ai, ci, rfl, -, -, -⟩ := id hl.open_
      have Hi := Lib.hid hl
      clear hl
      have S := Lib.hid (S.out.call hb)
      clear hb
      clear q_town0 q_town1 q_town2
      have q_town0 := S.out.get 0 0 rfl rfl
      have q_town1 := S.out.get 0 1 rfl rfl
      have q_town2 := S.out.get 0 2 rfl rfl
      go_wp2_with fail
      refine (ends_yes _ t _ ⟨_, _, rfl, HSN.out.below S.out.bel, HSP.out.below S.out.bel⟩ HO.out HV.out).mono ?_
      rintro e w3 ⟨u1, u2, rfl, h1, h2, hb⟩
      obtain ⟨B1, d1, rfl, -, -, -⟩ := id h1.open_
      obtain ⟨C1, e1, rfl, -, -, -⟩ := id h2.open_
      have HE1 := Lib.hid h1
      have HE2 := Lib.hid h2
      clear h1 h2
      have Hi := Lib.hid (Ints.below Hi.out hb)
      have S := Lib.hid (S.out.call hb)
      clear hb
      clear q_town0 q_town1 q_town2
      have q_town0 := S.out.get 0 0 rfl rfl
      have q_town1 := S.out.get 0 1 rfl rfl
      have q_town2 := S.out.get 0 2 rfl rfl
      go_wp2_with fail
      refine (isKnown_any 0 _).mono ?_
      rintro e wk ⟨rfl, rfl⟩
      rw [show isKnownB 0 = true from rfl]
      go_wp2_with fail
      refine (many_any _ t _ ⟨_, _, rfl, HSN.out.below S.out.bel, HSP.out.below S.out.bel⟩ (by omega) (by omega)).mono ?_
      rintro e w4 ⟨rfl, hb⟩
      rw [HM.out]
      have Hi := Lib.hid (Ints.below Hi.out hb)
      have HE1 := Lib.hid (Ints.below HE1.out hb)
      have HE2 := Lib.hid (Ints.below HE2.out hb)
      have S := Lib.hid (S.out.call hb)
      clear hb
      clear q_town0 q_town1 q_town2
      have q_town0 := S.out.get 0 0 rfl rfl
      have q_town1 := S.out.get 0 1 rfl rfl
      have q_town2 := S.out.get 0 2 rfl rfl
      go_wp2_with fail
      refine (all_any _ t _ ⟨_, _, rfl, HSN.out.below S.out.bel, HSP.out.below S.out.bel⟩ (by omega) (by omega)).mono ?_
      rintro e w5 ⟨va, rfl, ho, hb⟩
      rw [show (ofN (allN t)).length = M by simp [ofN, allN, HM.out]] at ho
      obtain ⟨Aa, ca, rfl⟩ := own_shape ho
      have Hi := Lib.hid (Ints.below Hi.out hb)
      have HE1 := Lib.hid (Ints.below HE1.out hb)
      have HE2 := Lib.hid (Ints.below HE2.out hb)
      have S := Lib.hid (S.out.take hb ho)
      clear hb
      clear q_town0 q_town1 q_town2
      clear ho
      have HALL := Lib.hid (show Ints _ (.slice Aa M ca) (ofN (allN t)) from (by have h := S.out.row 0 rfl; rw [← HAL.out] at h ⊢; exact h))
      have HX_town0 := Lib.hid (S.out.get 1 0 rfl rfl)
      have HX_town1 := Lib.hid (S.out.get 1 1 rfl rfl)
      have HX_town2 := Lib.hid (S.out.get 1 2 rfl rfl)
      have HBW := Lib.hid S.out.bel
      have HSN := Lib.hid (HSN.out.below S.out.bel)
      have HSP := Lib.hid (HSP.out.below S.out.bel)
      have S := Lib.hid (St.init w5)
      go_wp2_with fail
      go_loopw [10] (fun i wr => ∃ k : Nat, k ≤ M ∧ i = I k ∧ Hid (St w5 wr wr.heap.size [])) (fun i _ => M - (intOf i).toNat)
      case atStart => exact ⟨0, by omega, rfl, Lib.hid S.out.fix⟩
      case round =>
        clear S
        obtain ⟨k, hk, rfl, S⟩ := hrel
        by_cases hlt : k < M
        · have hki : (k : Int) < (M : Int) := by omega
          have HW := Lib.hid (words_but t k)
          have HOO := Lib.hid (sub_one HO.out (butW k))
          have HVO := Lib.hid (sub_valid HV.out (butW k))
          have HSL := Lib.hid (same_lows (t := t) (o := sub t (butW k)) rfl)
          have HMI := Lib.hid (mem_idle (t := t) hlt)
          go_wp2_with fail
          refine wp_region_treeB (.node [0, 1, 2] [3] (fun _ => .node [] [4] (fun _ => .node [] [5] (fun _ => .last [6, 7, 8, 9, 10, 11, 12, 13, 14] [])))) 15 (by kernel_rfl) (by kernel_rfl) ?_
          intro KQ hKQ wq hb
          have S := Lib.hid (S.out.call hb)
          clear hb
          have k0 := cell_regrown (keep_cell S.out.bel HX_town0.out)
          have k1 := cell_regrown (keep_cell S.out.bel HX_town1.out)
          have k2 := cell_regrown (keep_cell S.out.bel HX_town2.out)
          have HB := Lib.hid (Below.refl wq.heap.size wq)
          refine treeB_node ?_
          simp only [opsAt, List.filterMap_cons, List.filterMap_nil, List.getElem?_toArray, List.getElem?_cons_succ, List.getElem?_cons_zero]
          repeat (first | go_big_quiet_step (fail) | quiet_step (fail))
          refine wpQuiet_nil ?_
          refine all_one ?_
          intro K hK
          refine loud_op rfl rfl ?_
          go_simp
          refine (but_any _ (ofN (allN t)) k _ (HALL.out.below S.out.bel) (by rw [HAL.out]; exact hlt) (by rw [HAL.out]; omega)).mono ?_
          rintro e wb ⟨vb, rfl, ho, hb⟩
          rw [butL_map] at ho
          have S := Lib.hid (S.out.take hb ho)
          have HB := Lib.hid (bto HB.out hb)
          refine hK _ _ HB.out ?_
          clear hK K hb ho k0 k1 k2
          refine treeB_node ?_
          simp only [opsAt, List.filterMap_nil]
          refine wpQuiet_nil ?_
          refine all_one ?_
          intro K hK
          refine loud_op rfl rfl ?_
          go_simp
          refine (words_any' _ _ t ((allN t).eraseIdx k) _ ⟨_, _, rfl, HSN.out.below S.out.bel, HSP.out.below S.out.bel⟩ (S.out.ints 0 rfl) (HEL.out k) (fun n hn => by have := List.mem_of_mem_eraseIdx hn; simpa [allN] using this) (by omega) (by omega)).mono ?_
          rintro e wc ⟨v', rfl, ⟨sv', pv', rfl, ho1, ho2⟩, hb⟩
          rw [HW.out] at ho1 ho2
          rw [wordsT_wells]
          have S := Lib.hid (S.out.take2 hb ho1 ho2 (by decide))
          have HB := Lib.hid (bto HB.out hb)
          refine hK _ _ HB.out ?_
          clear hK K hb ho1 ho2
          refine treeB_node ?_
          simp only [opsAt, List.filterMap_nil]
          refine wpQuiet_nil ?_
          refine all_one ?_
          intro K hK
          refine loud_op rfl rfl ?_
          go_simp
          refine (ends_yes _ (sub t (butW k)) _ ⟨_, _, rfl, S.out.row 0 rfl, S.out.row 1 rfl⟩ HOO.out HVO.out).mono ?_
          rintro e wd ⟨u1, u2, rfl, h1, h2, hb⟩
          obtain ⟨B2, d2, rfl, -, -, -⟩ := id h1.open_
          obtain ⟨C2, e2, rfl, -, -, -⟩ := id h2.open_
          have HF1 := Lib.hid h1
          have HF2 := Lib.hid h2
          have S := Lib.hid (S.out.call hb)
          have HB := Lib.hid (bto HB.out hb)
          refine hK _ _ HB.out ?_
          clear hK K hb h1 h2
          refine treeB_last ?_
          simp only [opsAt, List.filterMap_cons, List.filterMap_nil, List.getElem?_toArray, List.getElem?_cons_succ, List.getElem?_cons_zero]
          repeat (first | go_big_quiet_step (fail) | quiet_step (fail))
          refine wpQuiet_nil ?_
          go_wp2_with fail
          cases hd1 : decide (lowL t = lowL (sub t (butW k)))
          · have HIN := Lib.hid (show decide (((k : Nat) : Int) ∈ idleTo t M) = false by rw [show decide (((k : Nat) : Int) ∈ idleTo t M) = (decide (lowL t = lowL (sub t (butW k))) && decide (highL t = highL (sub t (butW k)))) from by rw [← HSL.out, Bool.eq_iff_iff, decide_eq_true_eq]; exact HMI.out]; rw [hd1]; rfl)
            refine (sameInts_any _ _ (lowL t) (lowL (sub t (butW k))) _ (Ints.below HE1.out S.out.bel) HF1.out (by rw [lowL_len]; have := HV6.out; omega) (by rw [lowL_len]; have := HV6.out; show t.wells.toNat ≤ 1000; omega)).mono ?_
            rintro e we1 ⟨rfl, hb⟩
            rw [hd1]
            have S := Lib.hid (S.out.call hb)
            have HF2 := Lib.hid (Ints.below HF2.out hb)
            clear hb
            go_wp2_with fail
            refine (in_any _ _ (k : Int) _ (Ints.below Hi.out S.out.bel)).mono ?_
            rintro e we3 ⟨rfl, hb⟩
            rw [HIN.out]
            have S := Lib.hid (S.out.call hb)
            clear hb
            go_wp2_with fail
            go_roundw
            case rel => exact ⟨k + 1, by omega, by go_num, Lib.hid (S.out.less (List.nil_sublist _)).fix⟩
            case measure => first | (simp [intOf]; done) | (simp [intOf]; omega)
          · cases hd2 : decide (highL t = highL (sub t (butW k)))
            · have HIN := Lib.hid (show decide (((k : Nat) : Int) ∈ idleTo t M) = false by rw [show decide (((k : Nat) : Int) ∈ idleTo t M) = (decide (lowL t = lowL (sub t (butW k))) && decide (highL t = highL (sub t (butW k)))) from by rw [← HSL.out, Bool.eq_iff_iff, decide_eq_true_eq]; exact HMI.out]; rw [hd1, hd2]; rfl)
              refine (sameInts_any _ _ (lowL t) (lowL (sub t (butW k))) _ (Ints.below HE1.out S.out.bel) HF1.out (by rw [lowL_len]; have := HV6.out; omega) (by rw [lowL_len]; have := HV6.out; show t.wells.toNat ≤ 1000; omega)).mono ?_
              rintro e we1 ⟨rfl, hb⟩
              rw [hd1]
              have S := Lib.hid (S.out.call hb)
              have HF2 := Lib.hid (Ints.below HF2.out hb)
              clear hb
              go_wp2_with fail
              refine (sameInts_any _ _ (highL t) (highL (sub t (butW k))) _ (Ints.below HE2.out S.out.bel) HF2.out (by rw [highL_len]; have := HV6.out; omega) (by rw [highL_len]; have := HV6.out; show t.wells.toNat ≤ 1000; omega)).mono ?_
              rintro e we2 ⟨rfl, hb⟩
              rw [hd2]
              have S := Lib.hid (S.out.call hb)
              have HF2 := Lib.hid (Ints.below HF2.out hb)
              clear hb
              go_wp2_with fail
              refine (in_any _ _ (k : Int) _ (Ints.below Hi.out S.out.bel)).mono ?_
              rintro e we3 ⟨rfl, hb⟩
              rw [HIN.out]
              have S := Lib.hid (S.out.call hb)
              clear hb
              go_wp2_with fail
              go_roundw
              case rel => exact ⟨k + 1, by omega, by go_num, Lib.hid (S.out.less (List.nil_sublist _)).fix⟩
              case measure => first | (simp [intOf]; done) | (simp [intOf]; omega)
            · have HIN := Lib.hid (show decide (((k : Nat) : Int) ∈ idleTo t M) = true by rw [show decide (((k : Nat) : Int) ∈ idleTo t M) = (decide (lowL t = lowL (sub t (butW k))) && decide (highL t = highL (sub t (butW k)))) from by rw [← HSL.out, Bool.eq_iff_iff, decide_eq_true_eq]; exact HMI.out]; rw [hd1, hd2]; rfl)
              refine (sameInts_any _ _ (lowL t) (lowL (sub t (butW k))) _ (Ints.below HE1.out S.out.bel) HF1.out (by rw [lowL_len]; have := HV6.out; omega) (by rw [lowL_len]; have := HV6.out; show t.wells.toNat ≤ 1000; omega)).mono ?_
              rintro e we1 ⟨rfl, hb⟩
              rw [hd1]
              have S := Lib.hid (S.out.call hb)
              have HF2 := Lib.hid (Ints.below HF2.out hb)
              clear hb
              go_wp2_with fail
              refine (sameInts_any _ _ (highL t) (highL (sub t (butW k))) _ (Ints.below HE2.out S.out.bel) HF2.out (by rw [highL_len]; have := HV6.out; omega) (by rw [highL_len]; have := HV6.out; show t.wells.toNat ≤ 1000; omega)).mono ?_
              rintro e we2 ⟨rfl, hb⟩
              rw [hd2]
              have S := Lib.hid (S.out.call hb)
              have HF2 := Lib.hid (Ints.below HF2.out hb)
              clear hb
              go_wp2_with fail
              refine (in_any _ _ (k : Int) _ (Ints.below Hi.out S.out.bel)).mono ?_
              rintro e we3 ⟨rfl, hb⟩
              rw [HIN.out]
              have S := Lib.hid (S.out.call hb)
              clear hb
              go_wp2_with fail
              go_roundw
              case rel => exact ⟨k + 1, by omega, by go_num, Lib.hid (S.out.less (List.nil_sublist _)).fix⟩
              case measure => first | (simp [intOf]; done) | (simp [intOf]; omega)
        · have hki : ¬ (k : Int) < (M : Int) := by omega
          go_wp2_with fail
          refine (works_any _).mono ?_
          rintro e w6 ⟨rfl, hb⟩
          have S := Lib.hid (S.out.call hb)
          clear hb
          go_wp2_with fail
          go_ret
          exact ⟨rfl, bto HBW.out S.out.bel⟩
    · have HO := Lib.hid h
      have HID := Lib.hid (show idleP t = ([], 3) by unfold idleP; rw [if_neg (by omega), h])
      clear h
      go_enter Try.func16, Try.ntmps16
      have q_town0 := S.out.get 0 0 rfl rfl
      have q_town1 := S.out.get 0 1 rfl rfl
      have q_town2 := S.out.get 0 2 rfl rfl
      go_wp2_with fail
      refine (ready_any _ t _ ⟨_, _, rfl, HSN.out.below S.out.bel, HSP.out.below S.out.bel⟩).mono ?_
      rintro e w1 ⟨rfl, hb⟩
      rw [HR.out]
      have S := Lib.hid (S.out.call hb)
      clear hb
      clear q_town0 q_town1 q_town2
      have q_town0 := S.out.get 0 0 rfl rfl
      have q_town1 := S.out.get 0 1 rfl rfl
      have q_town2 := S.out.get 0 2 rfl rfl
      go_wp2_with fail
      refine (idle_any _ t _ ⟨_, _, rfl, HSN.out.below S.out.bel, HSP.out.below S.out.bel⟩).mono ?_
      rintro e w2 ⟨vi, rfl, hl, hb⟩
      rw [HID.out] at hl ⊢
      obtain ⟨Ai, ci, rfl, -, -, -⟩ := id hl.open_
      have Hi := Lib.hid hl
      clear hl
      have S := Lib.hid (S.out.call hb)
      clear hb
      clear q_town0 q_town1 q_town2
      have q_town0 := S.out.get 0 0 rfl rfl
      have q_town1 := S.out.get 0 1 rfl rfl
      have q_town2 := S.out.get 0 2 rfl rfl
      go_wp2_with fail
      refine (ends_no _ t _ ⟨_, _, rfl, HSN.out.below S.out.bel, HSP.out.below S.out.bel⟩ HO.out).mono ?_
      rintro e w3 ⟨rfl, hb⟩
      have Hi := Lib.hid (Ints.below Hi.out hb)
      have S := Lib.hid (S.out.call hb)
      clear hb
      clear q_town0 q_town1 q_town2
      have q_town0 := S.out.get 0 0 rfl rfl
      have q_town1 := S.out.get 0 1 rfl rfl
      have q_town2 := S.out.get 0 2 rfl rfl
      go_wp2_with fail
      refine (isKnown_any 3 _).mono ?_
      rintro e wk ⟨rfl, rfl⟩
      rw [show isKnownB 3 = true from rfl]
      go_wp2_with fail
      refine (many_any _ t _ ⟨_, _, rfl, HSN.out.below S.out.bel, HSP.out.below S.out.bel⟩ (by omega) (by omega)).mono ?_
      rintro e w4 ⟨rfl, hb⟩
      rw [HM.out]
      have Hi := Lib.hid (Ints.below Hi.out hb)
      have S := Lib.hid (S.out.call hb)
      clear hb
      clear q_town0 q_town1 q_town2
      have q_town0 := S.out.get 0 0 rfl rfl
      have q_town1 := S.out.get 0 1 rfl rfl
      have q_town2 := S.out.get 0 2 rfl rfl
      go_wp2_with fail
      refine (all_any _ t _ ⟨_, _, rfl, HSN.out.below S.out.bel, HSP.out.below S.out.bel⟩ (by omega) (by omega)).mono ?_
      rintro e w5 ⟨va, rfl, ho, hb⟩
      rw [show (ofN (allN t)).length = M by simp [ofN, allN, HM.out]] at ho
      obtain ⟨Aa, ca, rfl⟩ := own_shape ho
      have Hi := Lib.hid (Ints.below Hi.out hb)
      have S := Lib.hid (S.out.take hb ho)
      clear hb
      clear q_town0 q_town1 q_town2
      clear ho
      go_wp2_with fail
      go_loopw [10] (fun i wr => i = I 0 ∧ Hid (St w wr wr.heap.size [.box w.heap.size [I t.wells, .slice A1 t.snd.length c1, .slice A2 t.slp.length c2]])) (fun _ _ => 0)
      case atStart => exact ⟨rfl, Lib.hid S.out.tail.fix⟩
      case round =>
        clear S
        obtain ⟨rfl, S⟩ := hrel
        by_cases hm0 : 0 < M
        · have hmi : (0 : Int) < (M : Int) := by omega
          go_wp2_with fail
          refine (works_any _).mono ?_
          rintro e w6 ⟨rfl, hb⟩
          have S := Lib.hid (S.out.call hb)
          clear hb
          go_wp2_with fail
          go_ret
          exact ⟨rfl, S.out.bel⟩
        · have hmi : ¬ (0 : Int) < (M : Int) := by omega
          go_wp2_with fail
          refine (works_any _).mono ?_
          rintro e w6 ⟨rfl, hb⟩
          have S := Lib.hid (S.out.call hb)
          clear hb
          go_wp2_with fail
          go_ret
          exact ⟨rfl, S.out.bel⟩

end Go.Proofs.Ytplbaijdnpfdgaa
