/- The law LevelsContrary walked. -/
import Derived.Test.YtplbaijdnpfdgaaV10
namespace Go.Proofs.Ytplbaijdnpfdgaa
open Go.RowKit Go.Sort

theorem len_lt {xs ws : List Nat} {X : Nat} (h : (ofN xs).length = X) (h' : (ofN ws).length = ws.length) (c1 : ¬ ((ofN ws).length : Int) < (X : Int)) (c2 : ¬ (X : Int) = ((ofN ws).length : Int)) : xs.length < ws.length := by
  have : (ofN xs).length = xs.length := by simp [ofN]
  omega
theorem len_eq {xs ws : List Nat} {X : Nat} (h : (ofN xs).length = X) (h' : (ofN ws).length = ws.length) (c2 : (X : Int) = ((ofN ws).length : Int)) : xs.length = ws.length := by
  have : (ofN xs).length = xs.length := by simp [ofN]
  omega
structure GoodW (t : Twn) (l : List Nat) : Prop where
  good : badW t l = false
theorem good_diag {t : Twn} {l : List Nat} (h : badW t l = false) : diagOk (closeM (baseM (sub t (hasW l)))) = true := by
  unfold badW at h
  cases g : diagOk (closeM (baseM (sub t (hasW l))))
  · rw [g] at h; cases h
  · rfl
theorem bad_diag {t : Twn} {l : List Nat} (h : badW t l = true) : diagOk (closeM (baseM (sub t (hasW l)))) = false := by
  unfold badW at h
  cases g : diagOk (closeM (baseM (sub t (hasW l))))
  · rfl
  · rw [g] at h; cases h
theorem sub_small {t : Twn} (h : valid t = true) (is : Nat → Bool) : Vl (sub t is) ∧ (sub t is).snd.length ≤ 1000 ∧ (sub t is).slp.length ≤ 1000 := by
  have hv := valid_iff'.1 (sub_valid h is)
  exact ⟨hv.1, by omega, by omega⟩
theorem least_not {t : Twn} {l ws : List Nat} (h : ClashIs t l) (h1 : Asc ws) (h2 : ∀ n ∈ ws, n < t.snd.length + t.slp.length) (h3 : ws.length < l.length ∨ ws.length = l.length ∧ earlierL (ofN ws) (ofN l) = true) : badW t ws = false := by
  rw [Bool.eq_false_iff]
  intro hb
  rcases h.least ws h1 h2 hb with h4 | ⟨h4, h5⟩ <;> rcases h3 with h6 | ⟨h6, h7⟩
  all_goals first | omega | (rw [h5] at h7; cases h7)
theorem asc_len {l : List Nat} {M : Nat} (h : Asc l) (hb : ∀ n ∈ l, n < M) : l.length ≤ M := by
  rw [asc_filter h hb]
  exact Nat.le_trans (List.length_filter_le _ _) (by simp)

set_option maxRecDepth 100000 in
set_option maxHeartbeats 8000000 in
theorem lawContrary_any (v : Value) (t : Twn) (lv : Value) (l : List Int) (w : World) (hv : TwnAt w v t) (hl : Ints w lv l) :
    Calls Try.prog 8 #[v, lv] w fun e w' => e = .returned (.bool true) ∧ Below w.heap.size w w' := by
  obtain ⟨sv, pv, rfl, hs, hp⟩ := hv
  have HSN := Lib.hid hs
  have HSP := Lib.hid hp
  obtain ⟨A1, c1, rfl, -, -, -⟩ := id hs.open_
  obtain ⟨A2, c2, rfl, -, -, -⟩ := id hp.open_
  clear hs hp
  have S := Lib.hid (show St w (w.alloc (.cells #[I t.wells, .slice A1 t.snd.length c1, .slice A2 t.slp.length c2] 25)) (w.heap.size + 1) [.box w.heap.size [I t.wells, .slice A1 t.snd.length c1, .slice A2 t.slp.length c2]] from (St.init w).alloc [I t.wells, .slice A1 t.snd.length c1, .slice A2 t.slp.length c2] 25)
  obtain ⟨Al, cl, rfl, hl1, hl2, -⟩ := id hl.open_
  have HL := Lib.hid hl
  clear hl
  cases hr : readyB t
  · have HR := Lib.hid hr
    clear hr
    go_enter Try.func8, Try.ntmps8
    have q_town0 := S.out.get 0 0 rfl rfl
    have q_town1 := S.out.get 0 1 rfl rfl
    have q_town2 := S.out.get 0 2 rfl rfl
    go_wp2_with fail
    refine (ready_any _ t _ ⟨_, _, rfl, HSN.out.below S.out.bel, HSP.out.below S.out.bel⟩).mono ?_
    rintro e w1 ⟨rfl, hb⟩
    rw [HR.out]
    have S := Lib.hid (S.out.call hb)
    clear hb
    clear q_town0 q_town1 q_town2
    have q_town0 := S.out.get 0 0 rfl rfl
    have q_town1 := S.out.get 0 1 rfl rfl
    have q_town2 := S.out.get 0 2 rfl rfl
    go_wp2_with fail
    refine (works_any _).mono ?_
    rintro e w2 ⟨rfl, hb⟩
    have S := Lib.hid (S.out.call hb)
    clear hb
    clear q_town0 q_town1 q_town2
    have q_town0 := S.out.get 0 0 rfl rfl
    have q_town1 := S.out.get 0 1 rfl rfl
    have q_town2 := S.out.get 0 2 rfl rfl
    go_wp2_with fail
    go_ret
    exact ⟨rfl, S.out.bel⟩
  · have HR := Lib.hid hr
    obtain ⟨hv, h5, hm8, ht1, ht2⟩ := readyB_true hr
    have HV := Lib.hid hv
    obtain ⟨M, hM⟩ : ∃ M : Int, ((t.snd.length + t.slp.length : Nat) : Int) = M := ⟨_, rfl⟩
    have HM := Lib.hid hM
    have hm1 : M ≤ 8 := by omega
    have hm0 : 0 ≤ M := by omega
    clear hv h5 hm8 hr hM
    by_cases hlen : (40 : Int) < (l.length : Int)
    · go_enter Try.func8, Try.ntmps8
      have q_town0 := S.out.get 0 0 rfl rfl
      have q_town1 := S.out.get 0 1 rfl rfl
      have q_town2 := S.out.get 0 2 rfl rfl
      go_wp2_with fail
      refine (ready_any _ t _ ⟨_, _, rfl, HSN.out.below S.out.bel, HSP.out.below S.out.bel⟩).mono ?_
      rintro e w1 ⟨rfl, hb⟩
      rw [HR.out]
      have S := Lib.hid (S.out.call hb)
      clear hb
      clear q_town0 q_town1 q_town2
      have q_town0 := S.out.get 0 0 rfl rfl
      have q_town1 := S.out.get 0 1 rfl rfl
      have q_town2 := S.out.get 0 2 rfl rfl
      go_wp2_with fail
      refine (works_any _).mono ?_
      rintro e w2 ⟨rfl, hb⟩
      have S := Lib.hid (S.out.call hb)
      clear hb
      clear q_town0 q_town1 q_town2
      have q_town0 := S.out.get 0 0 rfl rfl
      have q_town1 := S.out.get 0 1 rfl rfl
      have q_town2 := S.out.get 0 2 rfl rfl
      go_wp2_with fail
      go_ret
      exact ⟨rfl, S.out.bel⟩
    · rcases openE_cases HV.out with h | h
      · have HO := Lib.hid h
        have HID := Lib.hid (clash_zero h)
        clear h
        go_enter Try.func8, Try.ntmps8
        have q_town0 := S.out.get 0 0 rfl rfl
        have q_town1 := S.out.get 0 1 rfl rfl
        have q_town2 := S.out.get 0 2 rfl rfl
        go_wp2_with fail
        refine (ready_any _ t _ ⟨_, _, rfl, HSN.out.below S.out.bel, HSP.out.below S.out.bel⟩).mono ?_
        rintro e w1 ⟨rfl, hb⟩
        rw [HR.out]
        have S := Lib.hid (S.out.call hb)
        clear hb
        clear q_town0 q_town1 q_town2
        have q_town0 := S.out.get 0 0 rfl rfl
        have q_town1 := S.out.get 0 1 rfl rfl
        have q_town2 := S.out.get 0 2 rfl rfl
        go_wp2_with fail
        refine (clash_any _ t _ ⟨_, _, rfl, HSN.out.below S.out.bel, HSP.out.below S.out.bel⟩).mono ?_
        rintro e w2 ⟨vi, rfl, hl, hb⟩
        rw [HID.out] at hl ⊢
        obtain ⟨Ai, ci, rfl, -, -, -⟩ := id hl.open_
        have Hi := Lib.hid hl
        clear hl
        have S := Lib.hid (S.out.call hb)
        clear hb
        clear q_town0 q_town1 q_town2
        have q_town0 := S.out.get 0 0 rfl rfl
        have q_town1 := S.out.get 0 1 rfl rfl
        have q_town2 := S.out.get 0 2 rfl rfl
        go_wp2_with fail
        refine (ends_yes _ t _ ⟨_, _, rfl, HSN.out.below S.out.bel, HSP.out.below S.out.bel⟩ HO.out HV.out).mono ?_
        rintro e w3 ⟨u1, u2, rfl, h1, h2, hb⟩
        obtain ⟨B1, d1, rfl, -, -, -⟩ := id h1.open_
        obtain ⟨C1, e1, rfl, -, -, -⟩ := id h2.open_
        have HE1 := Lib.hid h1
        have HE2 := Lib.hid h2
        clear h1 h2
        have Hi := Lib.hid (Ints.below Hi.out hb)
        have S := Lib.hid (S.out.call hb)
        clear hb
        clear q_town0 q_town1 q_town2
        have q_town0 := S.out.get 0 0 rfl rfl
        have q_town1 := S.out.get 0 1 rfl rfl
        have q_town2 := S.out.get 0 2 rfl rfl
        go_wp2_with fail
        refine (isKnown_any 3 _).mono ?_
        rintro e wk ⟨rfl, rfl⟩
        rw [show isKnownB 3 = true from rfl]
        go_wp2_with fail
        refine (works_any _).mono ?_
        rintro e w4 ⟨rfl, hb⟩
        have Hi := Lib.hid (Ints.below Hi.out hb)
        have HE1 := Lib.hid (Ints.below HE1.out hb)
        have HE2 := Lib.hid (Ints.below HE2.out hb)
        have S := Lib.hid (S.out.call hb)
        clear hb
        clear q_town0 q_town1 q_town2
        have q_town0 := S.out.get 0 0 rfl rfl
        have q_town1 := S.out.get 0 1 rfl rfl
        have q_town2 := S.out.get 0 2 rfl rfl
        go_wp2_with fail
        go_ret
        exact ⟨rfl, S.out.bel⟩
      · have HO := Lib.hid h
        obtain ⟨ws, hid, hc⟩ := clash_said HV.out h
        have HID := Lib.hid hid
        have HC := Lib.hid hc
        have HWM := Lib.hid hc.lt
        have HWL := Lib.hid (show (ofN ws).length = ws.length by simp [ofN])
        have hw0 := hc.ne
        have hw1 : ¬ ws.length = 0 := by omega
        have hw2 : ((ws.length : Int) == 0) = false := by rw [beq_eq_false_iff_ne]; omega
        have hw3 : (((ofN ws).length : Int) == 0) = false := by rw [show (ofN ws).length = ws.length by simp [ofN]]; exact hw2
        have hw4 : ¬ (ofN ws).length = 0 := by rw [show (ofN ws).length = ws.length by simp [ofN]]; exact hw1
        have hw9 : ws.length ≤ 40 := by have := asc_len hc.asc hc.lt; have := HM.out; omega
        have HWS := Lib.hid (words_asc (t := t) hc.asc hc.lt)
        have HSU := Lib.hid (sub_small HV.out (hasW ws))
        have HUP := Lib.hid (show upB (ofN ws) 0 (M - 1) = true by have := up_of hc.asc hc.lt; rw [HM.out] at this; exact this)
        obtain ⟨m, hm⟩ := Int.eq_ofNat_of_zero_le hm0
        have HMM := Lib.hid hm.symm
        have HM' := Lib.hid (show t.snd.length + t.slp.length = m by have := HM.out; omega)
        clear h hid hc hm
        go_enter Try.func8, Try.ntmps8
        have q_town0 := S.out.get 0 0 rfl rfl
        have q_town1 := S.out.get 0 1 rfl rfl
        have q_town2 := S.out.get 0 2 rfl rfl
        go_wp2_with fail
        refine (ready_any _ t _ ⟨_, _, rfl, HSN.out.below S.out.bel, HSP.out.below S.out.bel⟩).mono ?_
        rintro e w1 ⟨rfl, hb⟩
        rw [HR.out]
        have S := Lib.hid (S.out.call hb)
        clear hb
        clear q_town0 q_town1 q_town2
        have q_town0 := S.out.get 0 0 rfl rfl
        have q_town1 := S.out.get 0 1 rfl rfl
        have q_town2 := S.out.get 0 2 rfl rfl
        go_wp2_with fail
        refine (clash_any _ t _ ⟨_, _, rfl, HSN.out.below S.out.bel, HSP.out.below S.out.bel⟩).mono ?_
        rintro e w2 ⟨vi, rfl, hl, hb⟩
        rw [HID.out] at hl ⊢
        obtain ⟨Ai, ci, rfl, -, -, -⟩ := id hl.open_
        have Hi := Lib.hid hl
        clear hl
        have S := Lib.hid (S.out.call hb)
        clear hb
        clear q_town0 q_town1 q_town2
        have q_town0 := S.out.get 0 0 rfl rfl
        have q_town1 := S.out.get 0 1 rfl rfl
        have q_town2 := S.out.get 0 2 rfl rfl
        go_wp2_with fail
        refine (ends_no _ t _ ⟨_, _, rfl, HSN.out.below S.out.bel, HSP.out.below S.out.bel⟩ HO.out).mono ?_
        rintro e w3 ⟨rfl, hb⟩
        have Hi := Lib.hid (Ints.below Hi.out hb)
        have S := Lib.hid (S.out.call hb)
        clear hb
        clear q_town0 q_town1 q_town2
        have q_town0 := S.out.get 0 0 rfl rfl
        have q_town1 := S.out.get 0 1 rfl rfl
        have q_town2 := S.out.get 0 2 rfl rfl
        go_wp2_with fail
        refine (isKnown_any 0 _).mono ?_
        rintro e wk ⟨rfl, rfl⟩
        rw [show isKnownB 0 = true from rfl]
        go_wp2_with fail
        refine (many_any _ t _ ⟨_, _, rfl, HSN.out.below S.out.bel, HSP.out.below S.out.bel⟩ (by omega) (by omega)).mono ?_
        rintro e w4 ⟨rfl, hb⟩
        rw [HM.out]
        have Hi := Lib.hid (Ints.below Hi.out hb)
        have S := Lib.hid (S.out.call hb)
        clear hb
        clear q_town0 q_town1 q_town2
        have q_town0 := S.out.get 0 0 rfl rfl
        have q_town1 := S.out.get 0 1 rfl rfl
        have q_town2 := S.out.get 0 2 rfl rfl
        go_wp2_with fail
        refine (rising_any _ (ofN ws) 0 (M - 1) _ Hi.out (by rw [HWL.out]; omega)).mono ?_
        rintro e w5 ⟨rfl, hb⟩
        rw [HUP.out]
        have Hi := Lib.hid (Ints.below Hi.out hb)
        have S := Lib.hid (S.out.call hb)
        clear hb
        clear q_town0 q_town1 q_town2
        have q_town0 := S.out.get 0 0 rfl rfl
        have q_town1 := S.out.get 0 1 rfl rfl
        have q_town2 := S.out.get 0 2 rfl rfl
        go_wp2_with fail
        refine (words_any' _ _ t ws _ ⟨_, _, rfl, HSN.out.below S.out.bel, HSP.out.below S.out.bel⟩ Hi.out (by omega) HWM.out (by omega) (by omega)).mono ?_
        rintro e w6 ⟨v', rfl, ⟨sv', pv', rfl, ho1, ho2⟩, hb⟩
        rw [HWS.out] at ho1 ho2
        rw [wordsT_wells]
        have Hi := Lib.hid (Ints.below Hi.out hb)
        have S := Lib.hid (S.out.take2 hb ho1 ho2 (by decide))
        clear hb
        clear q_town0 q_town1 q_town2
        clear ho1 ho2
        go_wp2_with fail
        refine (isOne_any _ (sub t (hasW ws)) _ ⟨_, _, rfl, S.out.row 0 rfl, S.out.row 1 rfl⟩ HSU.out.1 HSU.out.2.1 HSU.out.2.2).mono ?_
        rintro e w7 ⟨rfl, hb⟩
        rw [bad_diag HC.out.bad]
        have Hi := Lib.hid (Ints.below Hi.out hb)
        have S := Lib.hid (S.out.call hb)
        clear hb
        have q_town0 := S.out.get 2 0 rfl rfl
        have q_town1 := S.out.get 2 1 rfl rfl
        have q_town2 := S.out.get 2 2 rfl rfl
        go_wp2_with fail
        have HX_town0 := Lib.hid (S.out.get 2 0 rfl rfl)
        have HX_town1 := Lib.hid (S.out.get 2 1 rfl rfl)
        have HX_town2 := Lib.hid (S.out.get 2 2 rfl rfl)
        have HBW := Lib.hid S.out.bel
        have HSN := Lib.hid (HSN.out.below S.out.bel)
        have HSP := Lib.hid (HSP.out.below S.out.bel)
        have S := Lib.hid (St.init w7)
        go_loopw [11] (fun i wr => ∃ k : Nat, k ≤ ws.length ∧ i = I k ∧ Hid (St w7 wr wr.heap.size [])) (fun i _ => ws.length - (intOf i).toNat)
        case atStart => exact ⟨0, by omega, rfl, Lib.hid S.out.fix⟩
        case round =>
          clear S
          obtain ⟨k, hk, rfl, S⟩ := hrel
          by_cases hlt : k < ws.length
          · have hki : (k : Int) < ((ofN ws).length : Int) := by rw [HWL.out]; omega
            have HEW := Lib.hid (words_asc (t := t) (erase_asc HC.out.asc k) fun n hn => HC.out.lt n (List.mem_of_mem_eraseIdx hn))
            have HEL := Lib.hid (show (ws.eraseIdx k).length ≤ 1000 from Nat.le_trans (List.length_eraseIdx_le ws k) (by omega))
            have HEM := Lib.hid (fun n (hn : n ∈ ws.eraseIdx k) => HC.out.lt n (List.mem_of_mem_eraseIdx hn))
            have HEV := Lib.hid (sub_small HV.out (hasW (ws.eraseIdx k)))
            go_wp2_with fail
            refine wp_region_treeB (.node [0, 1, 2] [3] (fun _ => .node [] [4] (fun _ => .node [] [5] (fun _ => .last [6] [])))) 7 (by kernel_rfl) (by kernel_rfl) ?_
            intro KQ hKQ wq hb
            have S := Lib.hid (S.out.call hb)
            clear hb
            have k0 := cell_regrown (keep_cell S.out.bel HX_town0.out)
            have k1 := cell_regrown (keep_cell S.out.bel HX_town1.out)
            have k2 := cell_regrown (keep_cell S.out.bel HX_town2.out)
            have HB := Lib.hid (Below.refl wq.heap.size wq)
            refine treeB_node ?_
            simp only [opsAt, List.filterMap_cons, List.filterMap_nil, List.getElem?_toArray, List.getElem?_cons_succ, List.getElem?_cons_zero]
            repeat (first | go_big_quiet_step (fail) | quiet_step (fail))
            refine wpQuiet_nil ?_
            refine all_one ?_
            intro K hK
            refine loud_op rfl rfl ?_
            go_simp
            refine (but_any _ (ofN ws) k _ (Hi.out.below S.out.bel) (by rw [HWL.out]; exact hlt) (by rw [HWL.out]; omega)).mono ?_
            rintro e wb ⟨vb, rfl, ho, hb⟩
            rw [butL_map] at ho
            have S := Lib.hid (S.out.take hb ho)
            have HB := Lib.hid (bto HB.out hb)
            refine hK _ _ HB.out ?_
            clear hK K hb ho k0 k1 k2
            refine treeB_node ?_
            simp only [opsAt, List.filterMap_nil]
            refine wpQuiet_nil ?_
            refine all_one ?_
            intro K hK
            refine loud_op rfl rfl ?_
            go_simp
            refine (words_any' _ _ t (ws.eraseIdx k) _ ⟨_, _, rfl, HSN.out.below S.out.bel, HSP.out.below S.out.bel⟩ (S.out.ints 0 rfl) HEL.out HEM.out (by omega) (by omega)).mono ?_
            rintro e wc ⟨v', rfl, ⟨sv', pv', rfl, ho1, ho2⟩, hb⟩
            rw [HEW.out] at ho1 ho2
            rw [wordsT_wells]
            have S := Lib.hid (S.out.take2 hb ho1 ho2 (by decide))
            have HB := Lib.hid (bto HB.out hb)
            refine hK _ _ HB.out ?_
            clear hK K hb ho1 ho2
            refine treeB_node ?_
            simp only [opsAt, List.filterMap_nil]
            refine wpQuiet_nil ?_
            refine all_one ?_
            intro K hK
            refine loud_op rfl rfl ?_
            go_simp
            refine (isOne_any _ (sub t (hasW (ws.eraseIdx k))) _ ⟨_, _, rfl, S.out.row 0 rfl, S.out.row 1 rfl⟩ HEV.out.1 HEV.out.2.1 HEV.out.2.2).mono ?_
            rintro e wd ⟨rfl, hb⟩
            rw [good_diag (HC.out.but k hlt)]
            have S := Lib.hid (S.out.call hb)
            have HB := Lib.hid (bto HB.out hb)
            refine hK _ _ HB.out ?_
            clear hK K hb 
            refine treeB_last ?_
            simp only [opsAt, List.filterMap_cons, List.filterMap_nil, List.getElem?_toArray, List.getElem?_cons_succ, List.getElem?_cons_zero]
            repeat (first | go_big_quiet_step (fail) | quiet_step (fail))
            refine wpQuiet_nil ?_
            go_wp2_with fail
            go_roundw
            case rel => exact ⟨k + 1, by omega, by go_num, Lib.hid (S.out.less (List.nil_sublist _)).fix⟩
            case measure => first | (simp [intOf]; done) | (simp [intOf]; omega)
          · have hki : ¬ (k : Int) < ((ofN ws).length : Int) := by rw [HWL.out]; omega
            have q_town0 := keep_cell S.out.bel HX_town0.out
            have q_town1 := keep_cell S.out.bel HX_town1.out
            have q_town2 := keep_cell S.out.bel HX_town2.out
            go_wp2_with fail
            clear hki hlt hk
            refine (many_any _ t _ ⟨_, _, rfl, HSN.out.below S.out.bel, HSP.out.below S.out.bel⟩ (by omega) (by omega)).mono ?_
            rintro e w8 ⟨rfl, hb⟩
            rw [HM.out]
            have S := Lib.hid (S.out.call hb)
            clear hb
            clear q_town0 q_town1 q_town2
            have q_town0 := keep_cell S.out.bel HX_town0.out
            have q_town1 := keep_cell S.out.bel HX_town1.out
            have q_town2 := keep_cell S.out.bel HX_town2.out
            go_wp2_with fail
            cases hu : upB l 0 (M - 1)
            · refine (rising_any _ l 0 (M - 1) _ (HL.out.below (bto HBW.out S.out.bel)) (by omega)).mono ?_
              rintro e w9 ⟨rfl, hb⟩
              rw [hu]
              have S := Lib.hid (S.out.call hb)
              clear hb
              clear q_town0 q_town1 q_town2
              have q_town0 := keep_cell S.out.bel HX_town0.out
              have q_town1 := keep_cell S.out.bel HX_town1.out
              have q_town2 := keep_cell S.out.bel HX_town2.out
              go_wp2_with fail
              refine (works_any _).mono ?_
              rintro e w10 ⟨rfl, hb⟩
              have S := Lib.hid (S.out.call hb)
              clear hb
              clear q_town0 q_town1 q_town2
              have q_town0 := keep_cell S.out.bel HX_town0.out
              have q_town1 := keep_cell S.out.bel HX_town1.out
              have q_town2 := keep_cell S.out.bel HX_town2.out
              go_wp2_with fail
              go_ret
              exact ⟨rfl, bto HBW.out S.out.bel⟩
            · obtain ⟨xs, rfl, hx1, hx2⟩ := up_words (M := m) (by rw [HMM.out]; exact hu)
              have HU := Lib.hid hu
              have HX := Lib.hid hx1
              have HXM := Lib.hid (show ∀ n ∈ xs, n < t.snd.length + t.slp.length by rw [HM'.out]; exact hx2)
              clear hu hx1 hx2
              obtain ⟨X, hX⟩ : ∃ X, (ofN xs).length = X := ⟨_, rfl⟩
              have HXX := Lib.hid hX
              have HL := Lib.hid (show Ints _ (.slice Al X cl) (ofN xs) by rw [← hX]; exact HL.out)
              rw [hX] at hlen ⊢
              clear hX
              have HXL2 := Lib.hid (show xs.length ≤ 1000 by have := HXX.out; simp [ofN] at this; omega)
              refine (rising_any _ (ofN xs) 0 (M - 1) _ (HL.out.below (bto HBW.out S.out.bel)) (by rw [HXX.out]; omega)).mono ?_
              rintro e w9 ⟨rfl, hb⟩
              rw [HU.out]
              have S := Lib.hid (S.out.call hb)
              clear hb
              clear q_town0 q_town1 q_town2
              by_cases c1 : ((ofN ws).length : Int) < (X : Int)
              · have q_town0 := keep_cell S.out.bel HX_town0.out
                have q_town1 := keep_cell S.out.bel HX_town1.out
                have q_town2 := keep_cell S.out.bel HX_town2.out
                go_wp2_with fail
                clear q_town0 q_town1 q_town2
                refine (works_any _).mono ?_
                rintro e w10 ⟨rfl, hb⟩
                have S := Lib.hid (S.out.call hb)
                clear hb
                have q_town0 := keep_cell S.out.bel HX_town0.out
                have q_town1 := keep_cell S.out.bel HX_town1.out
                have q_town2 := keep_cell S.out.bel HX_town2.out
                go_wp2_with fail
                go_ret
                exact ⟨rfl, bto HBW.out S.out.bel⟩
              · have HXW := Lib.hid (words_asc (t := t) HX.out HXM.out)
                have HXV := Lib.hid (sub_small HV.out (hasW xs))
                by_cases c2 : (X : Int) = ((ofN ws).length : Int)
                · have HXE := Lib.hid (len_eq HXX.out HWL.out c2)
                  obtain rfl : X = (ofN ws).length := by omega
                  clear c2 c1
                  cases hE : earlierL (ofN xs) (ofN ws)
                  · have q_town0 := keep_cell S.out.bel HX_town0.out
                    have q_town1 := keep_cell S.out.bel HX_town1.out
                    have q_town2 := keep_cell S.out.bel HX_town2.out
                    go_wp2_with fail
                    clear q_town0 q_town1 q_town2
                    refine (earlier_any _ _ (ofN xs) (ofN ws) _ (HL.out.below (bto HBW.out S.out.bel)) (Hi.out.below S.out.bel) (by rw [HXX.out]; omega) (by rw [HWL.out]; omega)).mono ?_
                    rintro e w10 ⟨rfl, hb⟩
                    rw [hE]
                    have S := Lib.hid (S.out.call hb)
                    clear hb
                    clear hE
                    have q_town0 := keep_cell S.out.bel HX_town0.out
                    have q_town1 := keep_cell S.out.bel HX_town1.out
                    have q_town2 := keep_cell S.out.bel HX_town2.out
                    go_wp2_with fail
                    clear q_town0 q_town1 q_town2
                    refine (works_any _).mono ?_
                    rintro e w11 ⟨rfl, hb⟩
                    have S := Lib.hid (S.out.call hb)
                    clear hb
                    have q_town0 := keep_cell S.out.bel HX_town0.out
                    have q_town1 := keep_cell S.out.bel HX_town1.out
                    have q_town2 := keep_cell S.out.bel HX_town2.out
                    go_wp2_with fail
                    go_ret
                    exact ⟨rfl, bto HBW.out S.out.bel⟩
                  · have HXB := Lib.hid (GoodW.mk (least_not HC.out HX.out HXM.out (.inr ⟨HXE.out, hE⟩)))
                    have q_town0 := keep_cell S.out.bel HX_town0.out
                    have q_town1 := keep_cell S.out.bel HX_town1.out
                    have q_town2 := keep_cell S.out.bel HX_town2.out
                    go_wp2_with fail
                    clear q_town0 q_town1 q_town2
                    refine (earlier_any _ _ (ofN xs) (ofN ws) _ (HL.out.below (bto HBW.out S.out.bel)) (Hi.out.below S.out.bel) (by rw [HXX.out]; omega) (by rw [HWL.out]; omega)).mono ?_
                    rintro e w10 ⟨rfl, hb⟩
                    rw [hE]
                    have S := Lib.hid (S.out.call hb)
                    clear hb
                    clear hE
                    have q_town0 := keep_cell S.out.bel HX_town0.out
                    have q_town1 := keep_cell S.out.bel HX_town1.out
                    have q_town2 := keep_cell S.out.bel HX_town2.out
                    go_wp2_with fail
                    clear q_town0 q_town1 q_town2
                    refine (words_any' _ _ t xs _ ⟨_, _, rfl, HSN.out.below S.out.bel, HSP.out.below S.out.bel⟩ (HL.out.below (bto HBW.out S.out.bel)) HXL2.out HXM.out (by omega) (by omega)).mono ?_
                    rintro e w11 ⟨v', rfl, ⟨sv', pv', rfl, ho1, ho2⟩, hb⟩
                    rw [HXW.out] at ho1 ho2
                    rw [wordsT_wells]
                    have S := Lib.hid (S.out.take2 hb ho1 ho2 (by decide))
                    clear hb
                    clear ho1 ho2
                    go_wp2_with fail
                    refine (isOne_any _ (sub t (hasW xs)) _ ⟨_, _, rfl, S.out.row 0 rfl, S.out.row 1 rfl⟩ HXV.out.1 HXV.out.2.1 HXV.out.2.2).mono ?_
                    rintro e w12 ⟨rfl, hb⟩
                    rw [good_diag HXB.out.good]
                    have S := Lib.hid (S.out.call hb)
                    clear hb
                    have q_town0 := keep_cell S.out.bel HX_town0.out
                    have q_town1 := keep_cell S.out.bel HX_town1.out
                    have q_town2 := keep_cell S.out.bel HX_town2.out
                    go_wp2_with fail
                    refine (works_any _).mono ?_
                    rintro e w13 ⟨rfl, hb⟩
                    have S := Lib.hid (S.out.call hb)
                    clear hb
                    clear q_town0 q_town1 q_town2
                    have q_town0 := keep_cell S.out.bel HX_town0.out
                    have q_town1 := keep_cell S.out.bel HX_town1.out
                    have q_town2 := keep_cell S.out.bel HX_town2.out
                    go_wp2_with fail
                    go_ret
                    exact ⟨rfl, bto HBW.out S.out.bel⟩
                · have HXB := Lib.hid (GoodW.mk (least_not HC.out HX.out HXM.out (.inl (len_lt HXX.out HWL.out c1 c2))))
                  have q_town0 := keep_cell S.out.bel HX_town0.out
                  have q_town1 := keep_cell S.out.bel HX_town1.out
                  have q_town2 := keep_cell S.out.bel HX_town2.out
                  go_wp2_with fail
                  clear q_town0 q_town1 q_town2
                  refine (words_any' _ _ t xs _ ⟨_, _, rfl, HSN.out.below S.out.bel, HSP.out.below S.out.bel⟩ (HL.out.below (bto HBW.out S.out.bel)) HXL2.out HXM.out (by omega) (by omega)).mono ?_
                  rintro e w10 ⟨v', rfl, ⟨sv', pv', rfl, ho1, ho2⟩, hb⟩
                  rw [HXW.out] at ho1 ho2
                  rw [wordsT_wells]
                  have S := Lib.hid (S.out.take2 hb ho1 ho2 (by decide))
                  clear hb
                  clear ho1 ho2
                  go_wp2_with fail
                  refine (isOne_any _ (sub t (hasW xs)) _ ⟨_, _, rfl, S.out.row 0 rfl, S.out.row 1 rfl⟩ HXV.out.1 HXV.out.2.1 HXV.out.2.2).mono ?_
                  rintro e w11 ⟨rfl, hb⟩
                  rw [good_diag HXB.out.good]
                  have S := Lib.hid (S.out.call hb)
                  clear hb
                  have q_town0 := keep_cell S.out.bel HX_town0.out
                  have q_town1 := keep_cell S.out.bel HX_town1.out
                  have q_town2 := keep_cell S.out.bel HX_town2.out
                  go_wp2_with fail
                  refine (works_any _).mono ?_
                  rintro e w12 ⟨rfl, hb⟩
                  have S := Lib.hid (S.out.call hb)
                  clear hb
                  clear q_town0 q_town1 q_town2
                  have q_town0 := keep_cell S.out.bel HX_town0.out
                  have q_town1 := keep_cell S.out.bel HX_town1.out
                  have q_town2 := keep_cell S.out.bel HX_town2.out
                  go_wp2_with fail
                  go_ret
                  exact ⟨rfl, bto HBW.out S.out.bel⟩

end Go.Proofs.Ytplbaijdnpfdgaa
