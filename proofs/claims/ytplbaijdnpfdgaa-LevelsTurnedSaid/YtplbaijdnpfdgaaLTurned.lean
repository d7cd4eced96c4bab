/- The law LevelsTurned walked. -/
import Derived.Test.YtplbaijdnpfdgaaV9
namespace Go.Proofs.Ytplbaijdnpfdgaa
open Go.RowKit Go.Sort

theorem clashP_len {t : Twn} (hv : valid t = true) (h8 : t.snd.length + t.slp.length ≤ 8) : (ofN (clashP t).1).length ≤ 1000 := by
  rcases openE_cases hv with h | h
  · rw [clash_zero h]; simp [ofN]
  · obtain ⟨l, e, hl⟩ := clash_said hv h
    rw [e]
    have : l.length ≤ t.snd.length + t.slp.length := by
      rw [asc_filter hl.asc hl.lt]
      exact Nat.le_trans (List.length_filter_le _ _) (by simp)
    simp [ofN]; omega
theorem idleP_len {t : Twn} (h8 : t.snd.length + t.slp.length ≤ 8) : (idleP t).1.length ≤ 1000 := by
  unfold idleP
  split
  · have := idleTo_len t (t.snd.length + t.slp.length)
    dsimp only; omega
  · simp

theorem ownB_low {t : Twn} (h : openE t true = 0) {k : Nat} (hk : (k : Int) < t.wells) {x : Int} (hx : (lowL t).getD k 0 = x) : 0 ≤ x ∧ x ≤ 99 := by
  rw [lowL_get hk] at hx
  obtain ⟨⟨y, hy, ey⟩, -⟩ := lvl_one h hk
  have := hy.own k hk
  omega
theorem ownB_high {t : Twn} (h : openE t true = 0) {k : Nat} (hk : (k : Int) < t.wells) {x : Int} (hx : (highL t).getD k 0 = x) : 0 ≤ x ∧ x ≤ 99 := by
  rw [highL_get hk] at hx
  obtain ⟨-, ⟨y, hy, ey⟩⟩ := lvl_one h hk
  have := hy.own k hk
  omega

set_option maxRecDepth 100000 in
set_option maxHeartbeats 8000000 in
theorem lawTurned_any (v : Value) (t : Twn) (w : World) (hv : TwnAt w v t) :
    Calls Try.prog 15 #[v] w fun e w' => e = .returned (.bool true) ∧ Below w.heap.size w w' := by
  obtain ⟨sv, pv, rfl, hs, hp⟩ := hv
  obtain ⟨A1, c1, rfl, hsl1, hsl2, hc1⟩ := hs.open_
  obtain ⟨A2, c2, rfl, hpl1, hpl2, hc2⟩ := hp.open_
  have HSN := Lib.hid hs
  have HSP := Lib.hid hp
  have HC1 := Lib.hid hc1
  have HC2 := Lib.hid hc2
  clear hc1 hc2 hs hp
  have S := Lib.hid (show St w (w.alloc (.cells #[I t.wells, .slice A1 t.snd.length c1, .slice A2 t.slp.length c2] 25)) (w.heap.size + 1) [.box w.heap.size [I t.wells, .slice A1 t.snd.length c1, .slice A2 t.slp.length c2]] from (St.init w).alloc [I t.wells, .slice A1 t.snd.length c1, .slice A2 t.slp.length c2] 25)
  cases hr : readyB t
  · have HR := Lib.hid hr
    clear hr
    go_enter Try.func15, Try.ntmps15
    have q_town0 := S.out.get 0 0 rfl rfl
    have q_town1 := S.out.get 0 1 rfl rfl
    have q_town2 := S.out.get 0 2 rfl rfl
    go_wp2_with fail
    refine (ready_any _ t _ ⟨_, _, rfl, HSN.out.below S.out.bel, HSP.out.below S.out.bel⟩).mono ?_
    rintro e w1 ⟨rfl, hb⟩
    rw [HR.out]
    have S := Lib.hid (S.out.call hb)
    clear hb
    clear q_town0 q_town1 q_town2
    have q_town0 := S.out.get 0 0 rfl rfl
    have q_town1 := S.out.get 0 1 rfl rfl
    have q_town2 := S.out.get 0 2 rfl rfl
    go_wp2_with fail
    refine (works_any _).mono ?_
    rintro e w2 ⟨rfl, hb⟩
    have S := Lib.hid (S.out.call hb)
    clear hb
    clear q_town0 q_town1 q_town2
    have q_town0 := S.out.get 0 0 rfl rfl
    have q_town1 := S.out.get 0 1 rfl rfl
    have q_town2 := S.out.get 0 2 rfl rfl
    go_wp2_with fail
    go_ret
    exact ⟨rfl, S.out.bel⟩
  · have HR := Lib.hid hr
    obtain ⟨hv, h5, hm8, ht1, ht2⟩ := readyB_true hr
    have HV := Lib.hid hv
    have HVL := Lib.hid (valid_vl hv)
    have HV6 := Lib.hid (show t.wells ≤ 5 from h5)
    obtain ⟨N, hN⟩ := Int.eq_ofNat_of_zero_le (valid_vl hv).w0
    have HNW := Lib.hid hN
    have hN5 : N ≤ 5 := by omega
    have hcl := clashP_len hv (by omega)
    have hil := idleP_len (t := t) (by omega)
    obtain ⟨⟨cl, ce⟩, hcp⟩ : ∃ x, clashP t = x := ⟨_, rfl⟩
    obtain ⟨⟨il, ie⟩, hip⟩ : ∃ x, idleP t = x := ⟨_, rfl⟩
    have HCL := Lib.hid hcp
    have HID := Lib.hid hip
    rw [hcp] at hcl
    rw [hip] at hil
    have HCN := Lib.hid hcl
    have HIN := Lib.hid hil
    clear hv h5 hm8 hr hN hcp hip hcl hil
    go_enter Try.func15, Try.ntmps15
    have q_town0 := S.out.get 0 0 rfl rfl
    have q_town1 := S.out.get 0 1 rfl rfl
    have q_town2 := S.out.get 0 2 rfl rfl
    go_wp2_with fail
    refine (ready_any _ t _ ⟨_, _, rfl, HSN.out.below S.out.bel, HSP.out.below S.out.bel⟩).mono ?_
    rintro e w1 ⟨rfl, hb⟩
    rw [HR.out]
    have S := Lib.hid (S.out.call hb)
    clear hb
    clear q_town0 q_town1 q_town2
    have q_town0 := S.out.get 0 0 rfl rfl
    have q_town1 := S.out.get 0 1 rfl rfl
    have q_town2 := S.out.get 0 2 rfl rfl
    go_wp2_with fail
    clear q_town0 q_town1 q_town2
    refine (copy_any _ t _ ⟨_, _, rfl, HSN.out.below S.out.bel, HSP.out.below S.out.bel⟩ (by omega) (by omega)).mono ?_
    rintro e wc ⟨v', rfl, ⟨rv', sv', rfl, ho1, ho2⟩, hb⟩
    obtain ⟨Ax, cx, rfl⟩ := own_shape ho1
    obtain ⟨Ay, cy, rfl⟩ := own_shape ho2
    have S := Lib.hid (S.out.take2 hb ho1 ho2 (by decide))
    clear hb ho1 ho2
    have S := Lib.hid (S.out.alloc [I t.wells, .slice Ax t.snd.length cx, .slice Ay t.slp.length cy] 25)
    have cc0 := S.out.get 0 0 rfl rfl
    have cc1 := S.out.get 0 1 rfl rfl
    have cc2 := S.out.get 0 2 rfl rfl
    go_wp2_with fail
    clear cc0 cc1 cc2
    go_loopw [4] (fun i wr => ∃ k : Nat, k ≤ t.snd.length ∧ i = I k ∧ Hid (St w wr wr.heap.size [.box wc.heap.size [I t.wells, .slice Ax t.snd.length cx, .slice Ay t.slp.length cy], .own 57 3 (.slice Ax t.snd.length cx) t.snd.length (sndCells (mapTo turnS k t.snd)), .own 47 4 (.slice Ay t.slp.length cy) t.slp.length (slpCells t.slp), .box w.heap.size [I t.wells, .slice A1 t.snd.length c1, .slice A2 t.slp.length c2]])) (fun i _ => t.snd.length - (intOf i).toNat)
    case atStart => exact ⟨0, by omega, rfl, Lib.hid (by rw [mapTo_zero]; exact S.out.fix)⟩
    case round =>
      clear S
      obtain ⟨k, hk, rfl, S⟩ := hrel
      have p1 := S.out.get 0 1 rfl rfl
      by_cases hlt : k < t.snd.length
      · have hki : (k : Int) < (t.snd.length : Int) := by omega
        obtain ⟨b1, o1, rfl, hb1, hcell1⟩ := HC1.out (by omega)
        obtain ⟨x0, x1, x2⟩ := hcell1 k hlt
        have x0 := keep_cell S.out.bel x0
        have x1 := keep_cell S.out.bel x1
        have x2 := keep_cell S.out.bel x2
        have hvs := HVL.out.snd t.snd[k] (List.getElem_mem hlt)
        have hs1 := mapTo_succ turnS (l := t.snd) hlt
        clear hcell1
        obtain ⟨⟨sw, sl, sh⟩, hs⟩ : ∃ s, t.snd[k] = s := ⟨_, rfl⟩
        rw [hs] at x0 x1 x2 hs1 hvs
        clear hs
        dsimp only at x0 x1 x2 hvs
        simp only [turnS] at hs1
        obtain ⟨L, hL⟩ : ∃ L, mapTo turnS k t.snd = L := ⟨_, rfl⟩
        have hLl : L.length = t.snd.length := by rw [← hL, mapTo_len]
        rw [hL] at S hs1
        have HS1 := Lib.hid hs1
        have HVS := Lib.hid hvs
        clear hL hs1 hvs
        obtain ⟨g3, c3', hA3, -, hg3⟩ := own_shape_pos (S.out.own 1 rfl) (show 0 < t.snd.length by omega)
        injection hA3 with hA3 _ hcc
        subst hA3
        have hset := sndCells_set L k ⟨sw, 99 - sh, 99 - sl⟩ (by rw [hLl]; exact hlt)
        obtain ⟨d0, d1, d2, hc0, hc1, hc2⟩ := sndCells_all L k (by rw [hLl]; exact hlt)
        have y0 := own_at2 (S.out.own 1 rfl) hc0
        have u0 := (S.out.own 1 rfl).frozenAt (k * 3)
        have y1 := own_at2 (S.out.own 1 rfl) hc1
        have u1 := (S.out.own 1 rfl).frozenAt (k * 3 + 1)
        have y2 := own_at2 (S.out.own 1 rfl) hc2
        have u2 := (S.out.own 1 rfl).frozenAt (k * 3 + 2)
        have hlt1 := S.out.lt 0 rfl
        have hlt2 := S.out.lt 3 rfl
        have q1 := S.out.get 3 1 rfl rfl
        clear hc0 hc1 hc2 hLl hcc
        have S2 := Lib.hid (((S.out.put 1 (k * 3) (I sw) rfl).put 1 (k * 3 + 1) (I (99 - sh)) rfl).put 1 (k * 3 + 2) (I (99 - sl)) rfl)
        dsimp only [List.set_cons_zero, List.set_cons_succ] at S2
        dsimp only at hset
        rw [hset] at S2
        have S2 := Lib.hid (S2.out.alloc [I sw, I sl, I sh] 57)
        clear hset
        obtain ⟨hr1, hr2, hr3, hr4, hr5⟩ := HVS.out
        have hr6 : 99 - sh ≤ 99 := by omega
        go_wp2_with fail
        go_roundw
        case rel => exact ⟨k + 1, by omega, by go_num, Lib.hid (by rw [HS1.out]; exact S2.out.tail.fix)⟩
        case measure => first | (simp [intOf]; done) | (simp [intOf]; omega)
      · have hkn : k = t.snd.length := by omega
        rw [hkn, mapTo_all] at S
        have hki : ¬ (t.snd.length : Int) < (t.snd.length : Int) := by omega
        rw [hkn]
        clear hkn hlt hk
        go_wp2_with fail
        clear p1 hki
        go_loopw [6] (fun i wr => ∃ k : Nat, k ≤ t.slp.length ∧ i = I k ∧ Hid (St w wr wr.heap.size [.box wc.heap.size [I t.wells, .slice Ax t.snd.length cx, .slice Ay t.slp.length cy], .own 57 3 (.slice Ax t.snd.length cx) t.snd.length (sndCells (t.snd.map turnS)), .own 47 4 (.slice Ay t.slp.length cy) t.slp.length (slpCells (mapTo turnP k t.slp)), .box w.heap.size [I t.wells, .slice A1 t.snd.length c1, .slice A2 t.slp.length c2]])) (fun i _ => t.slp.length - (intOf i).toNat)
        case atStart => exact ⟨0, by omega, rfl, Lib.hid (by rw [mapTo_zero]; exact S.out.fix)⟩
        case round =>
          clear S
          obtain ⟨k, hk, rfl, S⟩ := hrel
          have p2 := S.out.get 0 2 rfl rfl
          by_cases hlt : k < t.slp.length
          · have hki : (k : Int) < (t.slp.length : Int) := by omega
            obtain ⟨b1, o1, rfl, hb1, hcell1⟩ := HC2.out (by omega)
            obtain ⟨x0, x1, x2, x3⟩ := hcell1 k hlt
            have x0 := keep_cell S.out.bel x0
            have x1 := keep_cell S.out.bel x1
            have x2 := keep_cell S.out.bel x2
            have x3 := keep_cell S.out.bel x3
            have hvs := HVL.out.slp t.slp[k] (List.getElem_mem hlt)
            have hs1 := mapTo_succ turnP (l := t.slp) hlt
            clear hcell1
            obtain ⟨⟨pa, pb, pl, ph⟩, hs⟩ : ∃ s, t.slp[k] = s := ⟨_, rfl⟩
            rw [hs] at x0 x1 x2 x3 hs1 hvs
            clear hs
            dsimp only at x0 x1 x2 x3 hvs
            simp only [turnP] at hs1
            obtain ⟨L, hL⟩ : ∃ L, mapTo turnP k t.slp = L := ⟨_, rfl⟩
            have hLl : L.length = t.slp.length := by rw [← hL, mapTo_len]
            rw [hL] at S hs1
            have HS1 := Lib.hid hs1
            have HVS := Lib.hid hvs
            clear hL hs1 hvs
            obtain ⟨g3, c3', hA3, -, hg3⟩ := own_shape_pos (S.out.own 2 rfl) (show 0 < t.slp.length by omega)
            injection hA3 with hA3 _ hcc
            subst hA3
            have hset := slpCells_set L k ⟨pb, pa, pl, ph⟩ (by rw [hLl]; exact hlt)
            obtain ⟨d0, d1, d2, d3, hc0, hc1, hc2, hc3⟩ := slpCells_all L k (by rw [hLl]; exact hlt)
            have y0 := own_at2 (S.out.own 2 rfl) hc0
            have u0 := (S.out.own 2 rfl).frozenAt (k * 4)
            have y1 := own_at2 (S.out.own 2 rfl) hc1
            have u1 := (S.out.own 2 rfl).frozenAt (k * 4 + 1)
            have y2 := own_at2 (S.out.own 2 rfl) hc2
            have u2 := (S.out.own 2 rfl).frozenAt (k * 4 + 2)
            have y3 := own_at2 (S.out.own 2 rfl) hc3
            have u3 := (S.out.own 2 rfl).frozenAt (k * 4 + 3)
            have hlt1 := S.out.lt 0 rfl
            have hlt2 := S.out.lt 3 rfl
            have q2 := S.out.get 3 2 rfl rfl
            clear hc0 hc1 hc2 hc3 hLl hcc
            have S2 := Lib.hid ((((S.out.put 2 (k * 4) (I pb) rfl).put 2 (k * 4 + 1) (I pa) rfl).put 2 (k * 4 + 2) (I pl) rfl).put 2 (k * 4 + 3) (I ph) rfl)
            dsimp only [List.set_cons_zero, List.set_cons_succ] at S2
            dsimp only at hset
            rw [hset] at S2
            have S2 := Lib.hid (S2.out.alloc [I pa, I pb, I pl, I ph] 47)
            clear hset
            go_wp2_with fail
            go_roundw
            case rel => exact ⟨k + 1, by omega, by go_num, Lib.hid (by rw [HS1.out]; exact S2.out.tail.fix)⟩
            case measure => first | (simp [intOf]; done) | (simp [intOf]; omega)
          · have hkn : k = t.slp.length := by omega
            rw [hkn, mapTo_all] at S
            have hki : ¬ (t.slp.length : Int) < (t.slp.length : Int) := by omega
            rw [hkn]
            clear hkn hlt hk
            have S := Lib.hid (show St w _ _ [.box wc.heap.size [I (turnT t).wells, .slice Ax (turnT t).snd.length cx, .slice Ay (turnT t).slp.length cy], .own 57 3 (.slice Ax (turnT t).snd.length cx) (turnT t).snd.length (sndCells (turnT t).snd), .own 47 4 (.slice Ay (turnT t).slp.length cy) (turnT t).slp.length (slpCells (turnT t).slp), .box w.heap.size [I t.wells, .slice A1 t.snd.length c1, .slice A2 t.slp.length c2]] from (by rw [(turn_many t).1, (turn_many t).2]; exact S.out))
            obtain ⟨o, ho⟩ : ∃ o, turnT t = o := ⟨_, rfl⟩
            have HOW := Lib.hid (show o.wells = t.wells by rw [← ho]; rfl)
            have HV2 := Lib.hid (show valid o = true by rw [← ho]; exact turn_valid HV.out)
            have HOE := Lib.hid (show openE o true = openE t true by rw [← ho]; exact turn_open HV.out)
            have HCL2 := Lib.hid (show clashP o = (cl, ce) by rw [← ho, turn_clash HV.out]; exact HCL.out)
            have HID2 := Lib.hid (show idleP o = (il, ie) by rw [← ho, turn_idle HV.out]; exact HID.out)
            have HTL := Lib.hid (fun (h : openE t true = 0) (k : Nat) (hk : (k : Int) < t.wells) => show (lowL o).getD k 0 = 99 - (highL t).getD k 0 ∧ (highL o).getD k 0 = 99 - (lowL t).getD k 0 by
              rw [← ho, lowL_get (t := turnT t) hk, highL_get (t := turnT t) hk, lowL_get hk, highL_get hk]; exact turn_lvl h hk)
            rw [ho] at S
            clear ho
            have q0 := S.out.get 3 0 rfl rfl
            have q1 := S.out.get 3 1 rfl rfl
            have q2 := S.out.get 3 2 rfl rfl
            go_wp2_with fail
            clear q0 q1 q2 p2 hki
            rcases openE_cases HV.out with h | h
            · have HO := Lib.hid h
              have HO2 := Lib.hid (HOE.out.trans h)
              have HTL := Lib.hid (HTL.out h)
              clear h
              refine (ends_yes _ t _ ⟨_, _, rfl, HSN.out.below S.out.bel, HSP.out.below S.out.bel⟩ HO.out HV.out).mono ?_
              rintro e w2 ⟨u1, u2, rfl, h1, h2, hb⟩
              obtain ⟨B1, d1, rfl, -, -, -⟩ := id h1.open_
              obtain ⟨C1, e1, rfl, -, -, -⟩ := id h2.open_
              have HE1 := Lib.hid h1
              have HE2 := Lib.hid h2
              clear h1 h2
              have S := Lib.hid (S.out.call hb)
              clear hb
              have q_town0 := S.out.get 3 0 rfl rfl
              have q_town1 := S.out.get 3 1 rfl rfl
              have q_town2 := S.out.get 3 2 rfl rfl
              have q_copy0 := S.out.get 0 0 rfl rfl
              have q_copy1 := S.out.get 0 1 rfl rfl
              have q_copy2 := S.out.get 0 2 rfl rfl
              go_wp2_with fail
              refine (ends_yes _ o _ ⟨_, _, rfl, S.out.row 1 rfl, S.out.row 2 rfl⟩ HO2.out HV2.out).mono ?_
              rintro e w3 ⟨u1, u2, rfl, h1, h2, hb⟩
              obtain ⟨B2, d2, rfl, -, -, -⟩ := id h1.open_
              obtain ⟨C2, e2, rfl, -, -, -⟩ := id h2.open_
              have HF1 := Lib.hid h1
              have HF2 := Lib.hid h2
              clear h1 h2
              have HE1 := Lib.hid (Ints.below HE1.out hb)
              have HE2 := Lib.hid (Ints.below HE2.out hb)
              have S := Lib.hid (S.out.call hb)
              clear hb
              clear q_town0 q_town1 q_town2 q_copy0 q_copy1 q_copy2
              have q_town0 := S.out.get 3 0 rfl rfl
              have q_town1 := S.out.get 3 1 rfl rfl
              have q_town2 := S.out.get 3 2 rfl rfl
              have q_copy0 := S.out.get 0 0 rfl rfl
              have q_copy1 := S.out.get 0 1 rfl rfl
              have q_copy2 := S.out.get 0 2 rfl rfl
              go_wp2_with fail
              refine (clash_any _ t _ ⟨_, _, rfl, HSN.out.below S.out.bel, HSP.out.below S.out.bel⟩).mono ?_
              rintro e w4 ⟨va, rfl, hl, hb⟩
              rw [HCL.out] at hl ⊢
              obtain ⟨Aa, ca, rfl, -, -, -⟩ := id hl.open_
              have Ha := Lib.hid hl
              clear hl
              have HE1 := Lib.hid (Ints.below HE1.out hb)
              have HE2 := Lib.hid (Ints.below HE2.out hb)
              have HF1 := Lib.hid (Ints.below HF1.out hb)
              have HF2 := Lib.hid (Ints.below HF2.out hb)
              have S := Lib.hid (S.out.call hb)
              clear hb
              clear q_town0 q_town1 q_town2 q_copy0 q_copy1 q_copy2
              have q_town0 := S.out.get 3 0 rfl rfl
              have q_town1 := S.out.get 3 1 rfl rfl
              have q_town2 := S.out.get 3 2 rfl rfl
              have q_copy0 := S.out.get 0 0 rfl rfl
              have q_copy1 := S.out.get 0 1 rfl rfl
              have q_copy2 := S.out.get 0 2 rfl rfl
              go_wp2_with fail
              refine (clash_any _ o _ ⟨_, _, rfl, S.out.row 1 rfl, S.out.row 2 rfl⟩).mono ?_
              rintro e w5 ⟨vb, rfl, hl, hb⟩
              rw [HCL2.out] at hl ⊢
              obtain ⟨Ab, cb, rfl, -, -, -⟩ := id hl.open_
              have Hb := Lib.hid hl
              clear hl
              have HE1 := Lib.hid (Ints.below HE1.out hb)
              have HE2 := Lib.hid (Ints.below HE2.out hb)
              have HF1 := Lib.hid (Ints.below HF1.out hb)
              have HF2 := Lib.hid (Ints.below HF2.out hb)
              have Ha := Lib.hid (Ints.below Ha.out hb)
              have S := Lib.hid (S.out.call hb)
              clear hb
              clear q_town0 q_town1 q_town2 q_copy0 q_copy1 q_copy2
              have q_town0 := S.out.get 3 0 rfl rfl
              have q_town1 := S.out.get 3 1 rfl rfl
              have q_town2 := S.out.get 3 2 rfl rfl
              have q_copy0 := S.out.get 0 0 rfl rfl
              have q_copy1 := S.out.get 0 1 rfl rfl
              have q_copy2 := S.out.get 0 2 rfl rfl
              go_wp2_with fail
              refine (idle_any _ t _ ⟨_, _, rfl, HSN.out.below S.out.bel, HSP.out.below S.out.bel⟩).mono ?_
              rintro e w6 ⟨vi, rfl, hl, hb⟩
              rw [HID.out] at hl ⊢
              obtain ⟨Ai, ci, rfl, -, -, -⟩ := id hl.open_
              have Hi := Lib.hid hl
              clear hl
              have HE1 := Lib.hid (Ints.below HE1.out hb)
              have HE2 := Lib.hid (Ints.below HE2.out hb)
              have HF1 := Lib.hid (Ints.below HF1.out hb)
              have HF2 := Lib.hid (Ints.below HF2.out hb)
              have Ha := Lib.hid (Ints.below Ha.out hb)
              have Hb := Lib.hid (Ints.below Hb.out hb)
              have S := Lib.hid (S.out.call hb)
              clear hb
              clear q_town0 q_town1 q_town2 q_copy0 q_copy1 q_copy2
              have q_town0 := S.out.get 3 0 rfl rfl
              have q_town1 := S.out.get 3 1 rfl rfl
              have q_town2 := S.out.get 3 2 rfl rfl
              have q_copy0 := S.out.get 0 0 rfl rfl
              have q_copy1 := S.out.get 0 1 rfl rfl
              have q_copy2 := S.out.get 0 2 rfl rfl
              go_wp2_with fail
              refine (idle_any _ o _ ⟨_, _, rfl, S.out.row 1 rfl, S.out.row 2 rfl⟩).mono ?_
              rintro e w7 ⟨vj, rfl, hl, hb⟩
              rw [HID2.out] at hl ⊢
              obtain ⟨Aj, cj, rfl, -, -, -⟩ := id hl.open_
              have Hj := Lib.hid hl
              clear hl
              have HE1 := Lib.hid (Ints.below HE1.out hb)
              have HE2 := Lib.hid (Ints.below HE2.out hb)
              have HF1 := Lib.hid (Ints.below HF1.out hb)
              have HF2 := Lib.hid (Ints.below HF2.out hb)
              have Ha := Lib.hid (Ints.below Ha.out hb)
              have Hb := Lib.hid (Ints.below Hb.out hb)
              have Hi := Lib.hid (Ints.below Hi.out hb)
              have S := Lib.hid (S.out.call hb)
              clear hb
              clear q_town0 q_town1 q_town2 q_copy0 q_copy1 q_copy2
              go_wp2_with fail
              refine (sameInts_any _ _ (ofN cl) (ofN cl) _ Ha.out Hb.out HCN.out HCN.out).mono ?_
              rintro e w8 ⟨rfl, hb⟩
              rw [show decide ((ofN cl) = (ofN cl)) = true by simp]
              have HE1 := Lib.hid (Ints.below HE1.out hb)
              have HE2 := Lib.hid (Ints.below HE2.out hb)
              have HF1 := Lib.hid (Ints.below HF1.out hb)
              have HF2 := Lib.hid (Ints.below HF2.out hb)
              have Ha := Lib.hid (Ints.below Ha.out hb)
              have Hb := Lib.hid (Ints.below Hb.out hb)
              have Hi := Lib.hid (Ints.below Hi.out hb)
              have Hj := Lib.hid (Ints.below Hj.out hb)
              have S := Lib.hid (S.out.call hb)
              clear hb
              go_wp2_with fail
              refine (sameInts_any _ _ il il _ Hi.out Hj.out HIN.out HIN.out).mono ?_
              rintro e w9 ⟨rfl, hb⟩
              rw [show decide (il = il) = true by simp]
              have HE1 := Lib.hid (Ints.below HE1.out hb)
              have HE2 := Lib.hid (Ints.below HE2.out hb)
              have HF1 := Lib.hid (Ints.below HF1.out hb)
              have HF2 := Lib.hid (Ints.below HF2.out hb)
              have Ha := Lib.hid (Ints.below Ha.out hb)
              have Hb := Lib.hid (Ints.below Hb.out hb)
              have Hi := Lib.hid (Ints.below Hi.out hb)
              have Hj := Lib.hid (Ints.below Hj.out hb)
              have S := Lib.hid (S.out.call hb)
              clear hb
              go_wp2_with fail
              have S := Lib.hid (show St w w9 _ [.box w.heap.size [I t.wells, .slice A1 t.snd.length c1, .slice A2 t.slp.length c2]] from S.out.tail.tail.tail)
              go_loopw [24] (fun i wr => ∃ k : Nat, k ≤ N ∧ i = I k ∧ Hid (St w wr wr.heap.size [.box w.heap.size [I t.wells, .slice A1 t.snd.length c1, .slice A2 t.slp.length c2]]) ∧ Hid (Below w9.heap.size w9 wr)) (fun i _ => N - (intOf i).toNat)
              case atStart => exact ⟨0, by omega, rfl, Lib.hid S.out.fix, Lib.hid (Below.refl _ _)⟩
              case round =>
                clear S
                obtain ⟨k, hk, rfl, S, HB⟩ := hrel
                have q0 := S.out.get 0 0 rfl rfl
                by_cases hlt : k < N
                · have hki : (k : Int) < t.wells := by rw [HNW.out]; omega
                  have hv1 := (lowL_get (t := t) (w := k) hki)
                  have hv2 := (highL_get (t := t) (w := k) hki)
                  obtain ⟨hv3, hv4⟩ := HTL.out k hki
                  obtain ⟨a1, ha1⟩ : ∃ x, (lowL t).getD k 0 = x := ⟨_, rfl⟩
                  obtain ⟨a2, ha2⟩ : ∃ x, (highL t).getD k 0 = x := ⟨_, rfl⟩
                  rw [ha1] at hv1 hv4
                  rw [ha2] at hv2 hv3
                  obtain ⟨-, z1⟩ := HE1.out.at_get rfl
                  obtain ⟨-, z2⟩ := HE2.out.at_get rfl
                  obtain ⟨-, z3⟩ := HF1.out.at_get rfl
                  obtain ⟨-, z4⟩ := HF2.out.at_get rfl
                  have hl1 := lowL_len t
                  have hl2 := highL_len t
                  have hl3 := lowL_len o
                  have hl4 := highL_len o
                  rw [HOW.out] at hl3 hl4
                  have hkn : k < t.wells.toNat := by omega
                  obtain ⟨e1, e2, rfl, -, z1⟩ := z1 (by omega)
                  obtain ⟨f1, f2, rfl, -, z2⟩ := z2 (by omega)
                  obtain ⟨g1, g2, rfl, -, z3⟩ := z3 (by omega)
                  obtain ⟨h1, h2, rfl, -, z4⟩ := z4 (by omega)
                  have z1 := keep_cell HB.out (z1 k (by omega))
                  have z2 := keep_cell HB.out (z2 k (by omega))
                  have z3 := keep_cell HB.out (z3 k (by omega))
                  have z4 := keep_cell HB.out (z4 k (by omega))
                  rw [ha1] at z1
                  rw [ha2] at z2
                  rw [hv3] at z3
                  rw [hv4] at z4
                  have r1 : 0 ≤ a1 ∧ a1 ≤ 99 := ownB_low HO.out hki ha1
                  have r2 : 0 ≤ a2 ∧ a2 ≤ 99 := ownB_high HO.out hki ha2
                  have b1 : ((k : Nat) : Int) < ((lowL t).length : Int) := by omega
                  have b2 : ((k : Nat) : Int) < ((highL t).length : Int) := by omega
                  have b3 : ((k : Nat) : Int) < ((lowL o).length : Int) := by omega
                  have b4 : ((k : Nat) : Int) < ((highL o).length : Int) := by omega
                  obtain ⟨y1, hy1⟩ : ∃ y, 99 - a1 = y := ⟨_, rfl⟩
                  obtain ⟨y2, hy2⟩ : ∃ y, 99 - a2 = y := ⟨_, rfl⟩
                  clear hl1 hl2 hl3 hl4 hv1 hv2 hv3 hv4 ha1 ha2 hkn hy1 hy2 y1 y2
                  have t1 : (99 - a1 != 99 - a1) = false := by simp
                  have t2 : (99 - a2 != 99 - a2) = false := by simp
                  go_wp2_with fail
                  refine wp_region_ext (by kernel_rfl) (by kernel_rfl) ?_
                  have z1 := cell_regrown z1
                  have z2 := cell_regrown z2
                  have z3 := cell_regrown z3
                  have z4 := cell_regrown z4
                  repeat (first | go_big_quiet_step (fail) | quiet_step (fail))
                  refine wpQuiet_nil ?_
                  clear z1 z2 z3 z4
                  intro wq hbq
                  have S := Lib.hid (S.out.call hbq)
                  have HB := Lib.hid (bto HB.out hbq)
                  go_wp2_with fail
                  go_roundw
                  case rel => exact ⟨k + 1, by omega, by go_num, Lib.hid S.out.fix, HB⟩
                  case measure => first | (simp [intOf]; done) | (simp [intOf]; omega)
                · have hki : ¬ (k : Int) < t.wells := by rw [HNW.out]; omega
                  go_wp2_with fail
                  clear q0
                  refine (works_any _).mono ?_
                  rintro e w10 ⟨rfl, hb⟩
                  have S := Lib.hid (S.out.call hb)
                  clear hb
                  have q_town0 := S.out.get 0 0 rfl rfl
                  go_wp2_with fail
                  go_ret
                  exact ⟨rfl, S.out.bel⟩
            · have HO := Lib.hid h
              have HO2 := Lib.hid (HOE.out.trans h)
              clear h
              refine (ends_no _ t _ ⟨_, _, rfl, HSN.out.below S.out.bel, HSP.out.below S.out.bel⟩ HO.out).mono ?_
              rintro e w2 ⟨rfl, hb⟩
              have S := Lib.hid (S.out.call hb)
              clear hb
              have q_town0 := S.out.get 3 0 rfl rfl
              have q_town1 := S.out.get 3 1 rfl rfl
              have q_town2 := S.out.get 3 2 rfl rfl
              have q_copy0 := S.out.get 0 0 rfl rfl
              have q_copy1 := S.out.get 0 1 rfl rfl
              have q_copy2 := S.out.get 0 2 rfl rfl
              go_wp2_with fail
              refine (ends_no _ o _ ⟨_, _, rfl, S.out.row 1 rfl, S.out.row 2 rfl⟩ HO2.out).mono ?_
              rintro e w3 ⟨rfl, hb⟩
              have S := Lib.hid (S.out.call hb)
              clear hb
              clear q_town0 q_town1 q_town2 q_copy0 q_copy1 q_copy2
              have q_town0 := S.out.get 3 0 rfl rfl
              have q_town1 := S.out.get 3 1 rfl rfl
              have q_town2 := S.out.get 3 2 rfl rfl
              have q_copy0 := S.out.get 0 0 rfl rfl
              have q_copy1 := S.out.get 0 1 rfl rfl
              have q_copy2 := S.out.get 0 2 rfl rfl
              go_wp2_with fail
              refine (clash_any _ t _ ⟨_, _, rfl, HSN.out.below S.out.bel, HSP.out.below S.out.bel⟩).mono ?_
              rintro e w4 ⟨va, rfl, hl, hb⟩
              rw [HCL.out] at hl ⊢
              obtain ⟨Aa, ca, rfl, -, -, -⟩ := id hl.open_
              have Ha := Lib.hid hl
              clear hl
              have S := Lib.hid (S.out.call hb)
              clear hb
              clear q_town0 q_town1 q_town2 q_copy0 q_copy1 q_copy2
              have q_town0 := S.out.get 3 0 rfl rfl
              have q_town1 := S.out.get 3 1 rfl rfl
              have q_town2 := S.out.get 3 2 rfl rfl
              have q_copy0 := S.out.get 0 0 rfl rfl
              have q_copy1 := S.out.get 0 1 rfl rfl
              have q_copy2 := S.out.get 0 2 rfl rfl
              go_wp2_with fail
              refine (clash_any _ o _ ⟨_, _, rfl, S.out.row 1 rfl, S.out.row 2 rfl⟩).mono ?_
              rintro e w5 ⟨vb, rfl, hl, hb⟩
              rw [HCL2.out] at hl ⊢
              obtain ⟨Ab, cb, rfl, -, -, -⟩ := id hl.open_
              have Hb := Lib.hid hl
              clear hl
              have Ha := Lib.hid (Ints.below Ha.out hb)
              have S := Lib.hid (S.out.call hb)
              clear hb
              clear q_town0 q_town1 q_town2 q_copy0 q_copy1 q_copy2
              have q_town0 := S.out.get 3 0 rfl rfl
              have q_town1 := S.out.get 3 1 rfl rfl
              have q_town2 := S.out.get 3 2 rfl rfl
              have q_copy0 := S.out.get 0 0 rfl rfl
              have q_copy1 := S.out.get 0 1 rfl rfl
              have q_copy2 := S.out.get 0 2 rfl rfl
              go_wp2_with fail
              refine (idle_any _ t _ ⟨_, _, rfl, HSN.out.below S.out.bel, HSP.out.below S.out.bel⟩).mono ?_
              rintro e w6 ⟨vi, rfl, hl, hb⟩
              rw [HID.out] at hl ⊢
              obtain ⟨Ai, ci, rfl, -, -, -⟩ := id hl.open_
              have Hi := Lib.hid hl
              clear hl
              have Ha := Lib.hid (Ints.below Ha.out hb)
              have Hb := Lib.hid (Ints.below Hb.out hb)
              have S := Lib.hid (S.out.call hb)
              clear hb
              clear q_town0 q_town1 q_town2 q_copy0 q_copy1 q_copy2
              have q_town0 := S.out.get 3 0 rfl rfl
              have q_town1 := S.out.get 3 1 rfl rfl
              have q_town2 := S.out.get 3 2 rfl rfl
              have q_copy0 := S.out.get 0 0 rfl rfl
              have q_copy1 := S.out.get 0 1 rfl rfl
              have q_copy2 := S.out.get 0 2 rfl rfl
              go_wp2_with fail
              refine (idle_any _ o _ ⟨_, _, rfl, S.out.row 1 rfl, S.out.row 2 rfl⟩).mono ?_
              rintro e w7 ⟨vj, rfl, hl, hb⟩
              rw [HID2.out] at hl ⊢
              obtain ⟨Aj, cj, rfl, -, -, -⟩ := id hl.open_
              have Hj := Lib.hid hl
              clear hl
              have Ha := Lib.hid (Ints.below Ha.out hb)
              have Hb := Lib.hid (Ints.below Hb.out hb)
              have Hi := Lib.hid (Ints.below Hi.out hb)
              have S := Lib.hid (S.out.call hb)
              clear hb
              clear q_town0 q_town1 q_town2 q_copy0 q_copy1 q_copy2
              go_wp2_with fail
              refine (sameInts_any _ _ (ofN cl) (ofN cl) _ Ha.out Hb.out HCN.out HCN.out).mono ?_
              rintro e w8 ⟨rfl, hb⟩
              rw [show decide ((ofN cl) = (ofN cl)) = true by simp]
              have Ha := Lib.hid (Ints.below Ha.out hb)
              have Hb := Lib.hid (Ints.below Hb.out hb)
              have Hi := Lib.hid (Ints.below Hi.out hb)
              have Hj := Lib.hid (Ints.below Hj.out hb)
              have S := Lib.hid (S.out.call hb)
              clear hb
              go_wp2_with fail
              refine (sameInts_any _ _ il il _ Hi.out Hj.out HIN.out HIN.out).mono ?_
              rintro e w9 ⟨rfl, hb⟩
              rw [show decide (il = il) = true by simp]
              have Ha := Lib.hid (Ints.below Ha.out hb)
              have Hb := Lib.hid (Ints.below Hb.out hb)
              have Hi := Lib.hid (Ints.below Hi.out hb)
              have Hj := Lib.hid (Ints.below Hj.out hb)
              have S := Lib.hid (S.out.call hb)
              clear hb
              go_wp2_with fail
              have S := Lib.hid (show St w w9 _ [.box w.heap.size [I t.wells, .slice A1 t.snd.length c1, .slice A2 t.slp.length c2]] from S.out.tail.tail.tail)
              go_loopw [24] (fun i wr => i = I 0 ∧ Hid (St w wr wr.heap.size [.box w.heap.size [I t.wells, .slice A1 t.snd.length c1, .slice A2 t.slp.length c2]])) (fun _ _ => 0)
              case atStart => exact ⟨rfl, Lib.hid S.out.fix⟩
              case round =>
                clear S
                obtain ⟨rfl, S⟩ := hrel
                have q0 := S.out.get 0 0 rfl rfl
                by_cases hm0 : 0 < t.wells
                · go_wp2_with fail
                  clear q0
                  refine (works_any _).mono ?_
                  rintro e w10 ⟨rfl, hb⟩
                  have S := Lib.hid (S.out.call hb)
                  clear hb
                  have q_town0 := S.out.get 0 0 rfl rfl
                  go_wp2_with fail
                  go_ret
                  exact ⟨rfl, S.out.bel⟩
                · go_wp2_with fail
                  clear q0
                  refine (works_any _).mono ?_
                  rintro e w10 ⟨rfl, hb⟩
                  have S := Lib.hid (S.out.call hb)
                  clear hb
                  have q_town0 := S.out.get 0 0 rfl rfl
                  go_wp2_with fail
                  go_ret
                  exact ⟨rfl, S.out.bel⟩

end Go.Proofs.Ytplbaijdnpfdgaa
