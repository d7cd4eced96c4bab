/- The law LevelsEach walked. -/
import Derived.Test.YtplbaijdnpfdgaaLThree
import Derived.Test.YtplbaijdnpfdgaaW26
namespace Go.Proofs.Ytplbaijdnpfdgaa
open Go.RowKit Go.Sort

theorem open_of_truth {t : Twn} (hv : valid t = true) {x : Nat → Int} (hx : Tr t x) : openE t true = 0 := by
  have h := (says_ok (valid_vl hv) (baseM_says (valid_vl hv))).1.2 ⟨x, hx⟩
  unfold openE
  rw [if_pos hv, if_pos rfl, if_pos h]
theorem level_zero {t : Twn} (h : openE t true = 0) {a : Int} (ha : isWell t.wells a = true) : levelP t a = (⟨(lvl (closeM (baseM t)) a.toNat).low, (lvl (closeM (baseM t)) a.toNat).high⟩, 0) := by
  unfold levelP
  rw [ha, h, if_pos rfl]
  simp only [lvl]
theorem higher_zero {t : Twn} {a b : Int} {lo hi : Int} (hd : differP t b a = (⟨lo, hi⟩, 0)) : higherP t a b = (if 0 < lo then 1 else if hi ≤ 0 then 2 else 3, 0) := by
  unfold higherP
  rw [hd]
  simp only [ne_eq, not_true_eq_false, if_false]
  split
  · rfl
  · split <;> rfl
theorem each_level {t : Twn} (h : openE t true = 0) {x : Nat → Int} (hx : Tr t x) {w : Nat} (hw : (w : Int) < t.wells) : (lvl (closeM (baseM t)) w).low ≤ x w ∧ x w ≤ (lvl (closeM (baseM t)) w).high := by
  obtain ⟨hv, -, l, he, hl⟩ := open_exact h
  rw [hl w hw]
  exact he.all x hx w (by rw [he.len]; omega)
theorem each_differ {t : Twn} (h : openE t true = 0) {x : Nat → Int} (hx : Tr t x) {a b : Int} (ha : isWell t.wells a = true) (hb : isWell t.wells b = true) : ∃ lo hi, differP t a b = (⟨lo, hi⟩, 0) ∧ lo ≤ x b.toNat - x a.toNat ∧ x b.toNat - x a.toNat ≤ hi := by
  refine ⟨_, _, differ_zero h ha hb, ?_⟩
  have ht := open_tight h
  have h1 := ht.all x hx _ _ (act_well ha) (act_well hb)
  have h2 := ht.all x hx _ _ (act_well hb) (act_well ha)
  have hv := (openE_zero h).1
  have h6 := hv.w6
  have a1 := isWell_iff.1 ha
  have b1 := isWell_iff.1 hb
  have ea : lift x a.toNat = x a.toNat := by simp [lift, show a.toNat ≠ 6 by omega]
  have eb : lift x b.toNat = x b.toNat := by simp [lift, show b.toNat ≠ 6 by omega]
  rw [ea, eb] at h1 h2
  omega

set_option maxRecDepth 100000 in
set_option maxHeartbeats 8000000 in
theorem lawEach_any (v : Value) (t : Twn) (lv : Value) (l : List Int) (x y z u : Int) (w : World) (hv : TwnAt w v t) (hl : Ints w lv l) :
    Calls Try.prog 17 #[v, lv, .agg #[I x, I y, I z, I u]] w fun e w' => e = .returned (.bool true) ∧ Below w.heap.size w w' := by
  obtain ⟨i0, hi, hz0, hz1, hz2⟩ := info_parts Try.info3
  obtain ⟨sv, pv, rfl, hs, hp⟩ := hv
  have HSN := Lib.hid hs
  have HSP := Lib.hid hp
  obtain ⟨A1, c1, rfl, -, -, -⟩ := id hs.open_
  obtain ⟨A2, c2, rfl, -, -, -⟩ := id hp.open_
  clear hs hp
  have S := Lib.hid (show St w ((w.alloc (.cells #[I t.wells, .slice A1 t.snd.length c1, .slice A2 t.slp.length c2] 25)).alloc (.cells #[I x, I y, I z, I u] 38)) (w.heap.size + 1 + 1) [.box (w.heap.size + 1) [I x, I y, I z, I u], .box w.heap.size [I t.wells, .slice A1 t.snd.length c1, .slice A2 t.slp.length c2]] from ((St.init w).alloc [I t.wells, .slice A1 t.snd.length c1, .slice A2 t.slp.length c2] 25).alloc [I x, I y, I z, I u] 38)
  obtain ⟨Al, cl, rfl, hl1, hl2, -⟩ := id hl.open_
  have HL := Lib.hid hl
  clear hl
  cases hr : readyB t
  · have HR := Lib.hid hr
    clear hr
    go_enter Try.func17, Try.ntmps17
    have q_town0 := S.out.get 1 0 rfl rfl
    have q_town1 := S.out.get 1 1 rfl rfl
    have q_town2 := S.out.get 1 2 rfl rfl
    have q_ask0 := S.out.get 0 0 rfl rfl
    have q_ask1 := S.out.get 0 1 rfl rfl
    go_wp2_with fail
    refine (ready_any _ t _ ⟨_, _, rfl, HSN.out.below S.out.bel, HSP.out.below S.out.bel⟩).mono ?_
    rintro e w1 ⟨rfl, hb⟩
    rw [HR.out]
    have S := Lib.hid (S.out.call hb)
    clear hb
    clear q_town0 q_town1 q_town2 q_ask0 q_ask1
    have q_town0 := S.out.get 1 0 rfl rfl
    have q_town1 := S.out.get 1 1 rfl rfl
    have q_town2 := S.out.get 1 2 rfl rfl
    have q_ask0 := S.out.get 0 0 rfl rfl
    have q_ask1 := S.out.get 0 1 rfl rfl
    go_wp2_with fail
    refine (works_any _).mono ?_
    rintro e w2 ⟨rfl, hb⟩
    have S := Lib.hid (S.out.call hb)
    clear hb
    clear q_town0 q_town1 q_town2 q_ask0 q_ask1
    have q_town0 := S.out.get 1 0 rfl rfl
    have q_town1 := S.out.get 1 1 rfl rfl
    have q_town2 := S.out.get 1 2 rfl rfl
    have q_ask0 := S.out.get 0 0 rfl rfl
    have q_ask1 := S.out.get 0 1 rfl rfl
    go_wp2_with fail
    go_ret
    exact ⟨rfl, S.out.bel⟩
  · have HR := Lib.hid hr
    obtain ⟨hv, h5, -, ht1, ht2⟩ := readyB_true hr
    have hw0 := (valid_vl hv).w0
    have hw6 : t.wells ≤ 1000 := by omega
    have HV := Lib.hid hv
    clear hv h5 hr
    by_cases hlen : 40 < l.length
    · have hlen' : (40 : Int) < (l.length : Int) := by omega
      go_enter Try.func17, Try.ntmps17
      have q_town0 := S.out.get 1 0 rfl rfl
      have q_town1 := S.out.get 1 1 rfl rfl
      have q_town2 := S.out.get 1 2 rfl rfl
      have q_ask0 := S.out.get 0 0 rfl rfl
      have q_ask1 := S.out.get 0 1 rfl rfl
      go_wp2_with fail
      refine (ready_any _ t _ ⟨_, _, rfl, HSN.out.below S.out.bel, HSP.out.below S.out.bel⟩).mono ?_
      rintro e w1 ⟨rfl, hb⟩
      rw [HR.out]
      have S := Lib.hid (S.out.call hb)
      clear hb
      clear q_town0 q_town1 q_town2 q_ask0 q_ask1
      have q_town0 := S.out.get 1 0 rfl rfl
      have q_town1 := S.out.get 1 1 rfl rfl
      have q_town2 := S.out.get 1 2 rfl rfl
      have q_ask0 := S.out.get 0 0 rfl rfl
      have q_ask1 := S.out.get 0 1 rfl rfl
      go_wp2_with fail
      refine (works_any _).mono ?_
      rintro e w2 ⟨rfl, hb⟩
      have S := Lib.hid (S.out.call hb)
      clear hb
      clear q_town0 q_town1 q_town2 q_ask0 q_ask1
      have q_town0 := S.out.get 1 0 rfl rfl
      have q_town1 := S.out.get 1 1 rfl rfl
      have q_town2 := S.out.get 1 2 rfl rfl
      have q_ask0 := S.out.get 0 0 rfl rfl
      have q_ask1 := S.out.get 0 1 rfl rfl
      go_wp2_with fail
      go_ret
      exact ⟨rfl, S.out.bel⟩
    · have hlen' : ¬ (40 : Int) < (l.length : Int) := by omega
      cases hit : isTrB t l
      · have HIT := Lib.hid hit
        clear hit
        go_enter Try.func17, Try.ntmps17
        have q_town0 := S.out.get 1 0 rfl rfl
        have q_town1 := S.out.get 1 1 rfl rfl
        have q_town2 := S.out.get 1 2 rfl rfl
        have q_ask0 := S.out.get 0 0 rfl rfl
        have q_ask1 := S.out.get 0 1 rfl rfl
        go_wp2_with fail
        refine (ready_any _ t _ ⟨_, _, rfl, HSN.out.below S.out.bel, HSP.out.below S.out.bel⟩).mono ?_
        rintro e w1 ⟨rfl, hb⟩
        rw [HR.out]
        have S := Lib.hid (S.out.call hb)
        clear hb
        clear q_town0 q_town1 q_town2 q_ask0 q_ask1
        have q_town0 := S.out.get 1 0 rfl rfl
        have q_town1 := S.out.get 1 1 rfl rfl
        have q_town2 := S.out.get 1 2 rfl rfl
        have q_ask0 := S.out.get 0 0 rfl rfl
        have q_ask1 := S.out.get 0 1 rfl rfl
        go_wp2_with fail
        refine (isTruth_any _ _ t l _ ⟨_, _, rfl, HSN.out.below S.out.bel, HSP.out.below S.out.bel⟩ (HL.out.below S.out.bel) (valid_vl HV.out) (by omega) (by omega) (by omega)).mono ?_
        rintro e w2 ⟨rfl, hb⟩
        rw [HIT.out]
        have S := Lib.hid (S.out.call hb)
        clear hb
        clear q_town0 q_town1 q_town2 q_ask0 q_ask1
        have q_town0 := S.out.get 1 0 rfl rfl
        have q_town1 := S.out.get 1 1 rfl rfl
        have q_town2 := S.out.get 1 2 rfl rfl
        have q_ask0 := S.out.get 0 0 rfl rfl
        have q_ask1 := S.out.get 0 1 rfl rfl
        go_wp2_with fail
        refine (works_any _).mono ?_
        rintro e w3 ⟨rfl, hb⟩
        have S := Lib.hid (S.out.call hb)
        clear hb
        clear q_town0 q_town1 q_town2 q_ask0 q_ask1
        have q_town0 := S.out.get 1 0 rfl rfl
        have q_town1 := S.out.get 1 1 rfl rfl
        have q_town2 := S.out.get 1 2 rfl rfl
        have q_ask0 := S.out.get 0 0 rfl rfl
        have q_ask1 := S.out.get 0 1 rfl rfl
        go_wp2_with fail
        go_ret
        exact ⟨rfl, S.out.bel⟩
      · have HIT := Lib.hid hit
        obtain ⟨hlw, htr⟩ := isTrB_iff.1 hit
        have HLW := Lib.hid hlw
        have HTR := Lib.hid htr
        have HO := Lib.hid (open_of_truth HV.out htr)
        have HHO := Lib.hid (show holdsP t l = (true, 0) by simp [holdsP, HV.out, hit])
        clear hit hlw htr
        go_enter Try.func17, Try.ntmps17
        have q_town0 := S.out.get 1 0 rfl rfl
        have q_town1 := S.out.get 1 1 rfl rfl
        have q_town2 := S.out.get 1 2 rfl rfl
        have q_ask0 := S.out.get 0 0 rfl rfl
        have q_ask1 := S.out.get 0 1 rfl rfl
        go_wp2_with fail
        refine (ready_any _ t _ ⟨_, _, rfl, HSN.out.below S.out.bel, HSP.out.below S.out.bel⟩).mono ?_
        rintro e w1 ⟨rfl, hb⟩
        rw [HR.out]
        have S := Lib.hid (S.out.call hb)
        clear hb
        clear q_town0 q_town1 q_town2 q_ask0 q_ask1
        have q_town0 := S.out.get 1 0 rfl rfl
        have q_town1 := S.out.get 1 1 rfl rfl
        have q_town2 := S.out.get 1 2 rfl rfl
        have q_ask0 := S.out.get 0 0 rfl rfl
        have q_ask1 := S.out.get 0 1 rfl rfl
        go_wp2_with fail
        refine (isTruth_any _ _ t l _ ⟨_, _, rfl, HSN.out.below S.out.bel, HSP.out.below S.out.bel⟩ (HL.out.below S.out.bel) (valid_vl HV.out) (by omega) (by omega) (by omega)).mono ?_
        rintro e w2 ⟨rfl, hb⟩
        rw [HIT.out]
        have S := Lib.hid (S.out.call hb)
        clear hb
        clear q_town0 q_town1 q_town2 q_ask0 q_ask1
        have q_town0 := S.out.get 1 0 rfl rfl
        have q_town1 := S.out.get 1 1 rfl rfl
        have q_town2 := S.out.get 1 2 rfl rfl
        have q_ask0 := S.out.get 0 0 rfl rfl
        have q_ask1 := S.out.get 0 1 rfl rfl
        go_wp2_with fail
        refine (ends_yes _ t _ ⟨_, _, rfl, HSN.out.below S.out.bel, HSP.out.below S.out.bel⟩ HO.out HV.out).mono ?_
        rintro e w3 ⟨v1, v2, rfl, h1, h2, hb⟩
        obtain ⟨B1, d1, rfl, -, -, -⟩ := id h1.open_
        obtain ⟨B2, d2, rfl, -, -, -⟩ := id h2.open_
        have HL1 := Lib.hid h1
        have HL2 := Lib.hid h2
        clear h1 h2
        have S := Lib.hid (S.out.call hb)
        clear hb
        clear q_town0 q_town1 q_town2 q_ask0 q_ask1
        have q_town0 := S.out.get 1 0 rfl rfl
        have q_town1 := S.out.get 1 1 rfl rfl
        have q_town2 := S.out.get 1 2 rfl rfl
        have q_ask0 := S.out.get 0 0 rfl rfl
        have q_ask1 := S.out.get 0 1 rfl rfl
        go_wp2_with fail
        clear q_town0 q_town1 q_town2 q_ask0 q_ask1
        refine wp_region_treeB (.node [0, 2] [1] (fun _ => .node [] [3] (fun _ => .node [] [4] (fun _ => .last [5, 6, 7, 8, 9] [])))) 10 (by kernel_rfl) (by kernel_rfl) ?_
        intro KQ hKQ wt hb
        have HL1 := Lib.hid (Ints.below HL1.out hb)
        have HL2 := Lib.hid (Ints.below HL2.out hb)
        have S := Lib.hid (S.out.call hb)
        clear hb
        have k0 := cell_regrown (S.out.get 1 0 rfl rfl)
        have k1 := cell_regrown (S.out.get 1 1 rfl rfl)
        have k2 := cell_regrown (S.out.get 1 2 rfl rfl)
        have HB := Lib.hid (Below.refl wt.heap.size wt)
        refine treeB_node ?_
        simp only [opsAt, List.filterMap_cons, List.filterMap_nil, List.getElem?_toArray, List.getElem?_cons_succ, List.getElem?_cons_zero]
        repeat (first | go_big_quiet_step (fail) | quiet_step (fail))
        refine wpQuiet_nil ?_
        refine all_one ?_
        intro K hK
        refine loud_op rfl rfl ?_
        go_simp
        have hb := (Below.refl wt.heap.size wt).alloc (Nat.le_refl _) (.cells #[] 3)
        have hg := heap_alloc_new wt (.cells #[] 3)
        obtain ⟨wa, hwa⟩ : ∃ x, wt.alloc (.cells #[] 3) = x := ⟨_, rfl⟩
        rw [hwa] at hb hg ⊢
        clear hwa
        have HB := Lib.hid (bto HB.out hb)
        have G0 := Lib.hid hg
        refine hK _ _ HB.out ?_
        clear hK K hb hg k0 k1 k2
        refine treeB_node ?_
        simp only [opsAt, List.filterMap_nil]
        refine wpQuiet_nil ?_
        refine all_one ?_
        intro K hK
        refine loud_op rfl rfl ?_
        refine wp_append_fresh _ (.tmp 45) (.tmp 46) 29 rfl wt.heap.size 3 i0 (.int .i64 0) 1 8 Try.underlying29 hi hz0 hz1 hz2 rfl (by omega) wt.heap.size rfl G0.out (Nat.le_refl _) _ l.length (l.map I) rfl (HL.out.below (bto S.out.bel HB.out)) (ints_one l) (by simp only [maxLen]; omega) (by omega) HB.out.size ?_
        intro v1 wb hown hb
        have HB := Lib.hid (bto HB.out hb)
        obtain ⟨Ak, ck, rfl⟩ := own_shape hown
        have HL1 := Lib.hid (Ints.below HL1.out HB.out)
        have HL2 := Lib.hid (Ints.below HL2.out HB.out)
        have S := Lib.hid (S.out.take HB.out hown)
        refine hK _ _ HB.out ?_
        clear hK K hb hown G0
        refine treeB_node ?_
        simp only [opsAt, List.filterMap_nil]
        refine wpQuiet_nil ?_
        refine all_one ?_
        intro K hK
        refine loud_op rfl rfl ?_
        go_simp
        refine (holds_any _ _ t l _ ⟨_, _, rfl, HSN.out.below S.out.bel, HSP.out.below S.out.bel⟩ (S.out.ints 0 rfl)).mono ?_
        rintro e wE ⟨rfl, hb⟩
        rw [HHO.out]
        have HL1 := Lib.hid (Ints.below HL1.out hb)
        have HL2 := Lib.hid (Ints.below HL2.out hb)
        have S := Lib.hid (S.out.call hb)
        have HB := Lib.hid (bto HB.out hb)
        refine hK _ _ HB.out ?_
        clear hK K hb HB
        refine treeB_last ?_
        simp only [opsAt, List.filterMap_cons, List.filterMap_nil, List.getElem?_toArray, List.getElem?_cons_succ, List.getElem?_cons_zero]
        repeat (first | go_big_quiet_step (fail) | quiet_step (fail))
        refine wpQuiet_nil ?_
        have S := Lib.hid S.out.tail
        go_wp2_with fail
        have HB := Lib.hid (Below.refl wE.heap.size wE)
        go_loopw [13] (fun i wr => ∃ k : Nat, k ≤ l.length ∧ i = I k ∧ Hid (St w wr wr.heap.size [.box (w.heap.size + 1) [I x, I y, I z, I u], .box w.heap.size [I t.wells, .slice A1 t.snd.length c1, .slice A2 t.slp.length c2]]) ∧ Hid (Below wE.heap.size wE wr)) (fun i _ => l.length - (intOf i).toNat)
        case atStart => exact ⟨0, by omega, rfl, Lib.hid S.out.fix, HB⟩
        case round =>
          clear S HB
          obtain ⟨k, hk, rfl, S, HB⟩ := hrel
          have q_town0 := S.out.get 1 0 rfl rfl
          have q_town1 := S.out.get 1 1 rfl rfl
          have q_town2 := S.out.get 1 2 rfl rfl
          by_cases hlt : k < l.length
          · obtain ⟨-, hc3⟩ := HL.out.at_get rfl
            obtain ⟨b3, o3, rfl, hb3, hcell3⟩ := hc3 (by omega)
            obtain ⟨-, hc4⟩ := HL1.out.at_get rfl
            have hll1 : (lowL t).length = l.length := by rw [lowL_len]; have := HLW.out; omega
            have hll2 : (highL t).length = l.length := by rw [highL_len]; have := HLW.out; omega
            obtain ⟨b4, o4, rfl, hb4, hcell4⟩ := hc4 (by omega)
            obtain ⟨-, hc5⟩ := HL2.out.at_get rfl
            obtain ⟨b5, o5, rfl, hb5, hcell5⟩ := hc5 (by omega)
            have y3 := hcell3 k hlt
            have y4 := hcell4 k (by omega)
            have y5 := hcell5 k (by omega)
            have hkw : (k : Int) < t.wells := by have := HLW.out; omega
            have hlev := level_zero HO.out (show isWell t.wells k = true from isWell_iff.2 (by omega))
            have hbet := each_level HO.out HTR.out hkw
            rw [lowL_get hkw] at y4
            rw [highL_get hkw] at y5
            rw [Int.toNat_natCast] at hlev
            obtain ⟨lo, hlo⟩ : ∃ lo, (lvl (closeM (baseM t)) k).low = lo := ⟨_, rfl⟩
            obtain ⟨hi', hhi⟩ : ∃ hi, (lvl (closeM (baseM t)) k).high = hi := ⟨_, rfl⟩
            obtain ⟨xk, hxk⟩ : ∃ x, l.getD k 0 = x := ⟨_, rfl⟩
            rw [hlo, hhi] at hlev
            rw [hlo] at y4
            rw [hhi] at y5
            rw [hxk] at y3
            try dsimp only at hbet
            rw [hlo, hhi, hxk] at hbet
            have HLEV := Lib.hid hlev
            have Y3 := Lib.hid y3
            have Y4 := Lib.hid y4
            have Y5 := Lib.hid y5
            have q1 : ¬ xk < lo := by omega
            have q2 : ¬ hi' < xk := by omega
            have q3 : (k : Int) < (l.length : Int) := by omega
            have q4 : (k : Int) < ((lowL t).length : Int) := by omega
            have q5 : (k : Int) < ((highL t).length : Int) := by omega
            have Q := Lib.hid (And.intro q1 q2)
            have Q2 := Lib.hid (And.intro q4 q5)
            clear hc3 hc4 hc5 hcell3 hcell4 hcell5 hlev hbet hlo hhi hxk y3 y4 y5 q1 q2 q4 q5 hkw hll1 hll2
            go_wp2_with fail
            refine (level_any _ t k _ ⟨_, _, rfl, HSN.out.below S.out.bel, HSP.out.below S.out.bel⟩).mono ?_
            rintro e w4 ⟨rfl, hb⟩
            rw [HLEV.out]
            have HB := Lib.hid (bto HB.out hb)
            have S := Lib.hid ((S.out.call hb).alloc [I lo, I hi'] 40)
            clear hb
            clear q_town0 q_town1 q_town2
            have HB := Lib.hid (HB.out.alloc HB.out.size (.cells #[I lo, I hi'] 40))
            go_wp2_with fail
            have p0 := cell_regrown (S.out.get 0 0 rfl rfl)
            have p1 := cell_regrown (S.out.get 0 1 rfl rfl)
            have y3 := cell_regrown (keep_cell S.out.bel Y3.out)
            have y4 := cell_regrown (keep_cell HB.out Y4.out)
            have y5 := cell_regrown (keep_cell HB.out Y5.out)
            have e1 : ∀ w, (binOp .neq 40 (Sp.val ⟨lo, hi'⟩) (Sp.val ⟨lo, hi'⟩)).run Try.prog w = .ok (.bool false) w := fun w => by rw [span_neq]; simp
            obtain ⟨q1, q2⟩ := Q.out
            obtain ⟨q4, q5⟩ := Q2.out
            refine wp_region_ext (by kernel_rfl) (by kernel_rfl) ?_
            repeat (first | go_big_quiet_step (fail) | quiet_step (fail))
            refine wpQuiet_nil ?_
            clear p0 p1 y3 y4 y5 q4 q5 e1
            intro w9 hb9
            have S := Lib.hid (S.out.call hb9)
            have HB := Lib.hid (bto HB.out hb9)
            go_wp2_with fail
            go_roundw
            case rel => exact ⟨k + 1, by omega, by go_num, Lib.hid S.out.tail, HB⟩
            case measure => first | (simp [intOf]; done) | (simp [intOf]; omega)
          · clear HB HL1 HL2
            clear q_town0 q_town1 q_town2
            have q_town0 := S.out.get 1 0 rfl rfl
            have q_town1 := S.out.get 1 1 rfl rfl
            have q_town2 := S.out.get 1 2 rfl rfl
            have q_ask0 := S.out.get 0 0 rfl rfl
            have q_ask1 := S.out.get 0 1 rfl rfl
            go_wp2_with fail
            cases h : isWell t.wells x
            · have Hx := Lib.hid h
              clear h
              refine (rIsWell_any t.wells x _ _ _ hw0 hw6 ⟨_, _, _, rfl⟩ ⟨_, _, _, rfl⟩).mono ?_
              rintro e w4 ⟨rfl, hb⟩
              rw [show isWell t.wells x = false from Hx.out]
              have S := Lib.hid (S.out.call hb)
              clear hb
              clear q_town0 q_town1 q_town2 q_ask0 q_ask1
              have q_town0 := S.out.get 1 0 rfl rfl
              have q_town1 := S.out.get 1 1 rfl rfl
              have q_town2 := S.out.get 1 2 rfl rfl
              have q_ask0 := S.out.get 0 0 rfl rfl
              have q_ask1 := S.out.get 0 1 rfl rfl
              go_wp2_with fail
              refine (works_any _).mono ?_
              rintro e w5 ⟨rfl, hb⟩
              have S := Lib.hid (S.out.call hb)
              clear hb
              clear q_town0 q_town1 q_town2 q_ask0 q_ask1
              have q_town0 := S.out.get 1 0 rfl rfl
              have q_town1 := S.out.get 1 1 rfl rfl
              have q_town2 := S.out.get 1 2 rfl rfl
              have q_ask0 := S.out.get 0 0 rfl rfl
              have q_ask1 := S.out.get 0 1 rfl rfl
              go_wp2_with fail
              go_ret
              exact ⟨rfl, S.out.bel⟩
            · have Hx := Lib.hid h
              clear h
              refine (rIsWell_any t.wells x _ _ _ hw0 hw6 ⟨_, _, _, rfl⟩ ⟨_, _, _, rfl⟩).mono ?_
              rintro e w4 ⟨rfl, hb⟩
              rw [show isWell t.wells x = true from Hx.out]
              have S := Lib.hid (S.out.call hb)
              clear hb
              clear q_town0 q_town1 q_town2 q_ask0 q_ask1
              have q_town0 := S.out.get 1 0 rfl rfl
              have q_town1 := S.out.get 1 1 rfl rfl
              have q_town2 := S.out.get 1 2 rfl rfl
              have q_ask0 := S.out.get 0 0 rfl rfl
              have q_ask1 := S.out.get 0 1 rfl rfl
              go_wp2_with fail
              cases h : isWell t.wells y
              · have Hy := Lib.hid h
                clear h
                refine (rIsWell_any t.wells y _ _ _ hw0 hw6 ⟨_, _, _, rfl⟩ ⟨_, _, _, rfl⟩).mono ?_
                rintro e w5 ⟨rfl, hb⟩
                rw [show isWell t.wells y = false from Hy.out]
                have S := Lib.hid (S.out.call hb)
                clear hb
                clear q_town0 q_town1 q_town2 q_ask0 q_ask1
                have q_town0 := S.out.get 1 0 rfl rfl
                have q_town1 := S.out.get 1 1 rfl rfl
                have q_town2 := S.out.get 1 2 rfl rfl
                have q_ask0 := S.out.get 0 0 rfl rfl
                have q_ask1 := S.out.get 0 1 rfl rfl
                go_wp2_with fail
                refine (works_any _).mono ?_
                rintro e w6 ⟨rfl, hb⟩
                have S := Lib.hid (S.out.call hb)
                clear hb
                clear q_town0 q_town1 q_town2 q_ask0 q_ask1
                have q_town0 := S.out.get 1 0 rfl rfl
                have q_town1 := S.out.get 1 1 rfl rfl
                have q_town2 := S.out.get 1 2 rfl rfl
                have q_ask0 := S.out.get 0 0 rfl rfl
                have q_ask1 := S.out.get 0 1 rfl rfl
                go_wp2_with fail
                go_ret
                exact ⟨rfl, S.out.bel⟩
              · have Hy := Lib.hid h
                clear h
                refine (rIsWell_any t.wells y _ _ _ hw0 hw6 ⟨_, _, _, rfl⟩ ⟨_, _, _, rfl⟩).mono ?_
                rintro e w5 ⟨rfl, hb⟩
                rw [show isWell t.wells y = true from Hy.out]
                have S := Lib.hid (S.out.call hb)
                clear hb
                clear q_town0 q_town1 q_town2 q_ask0 q_ask1
                have q_town0 := S.out.get 1 0 rfl rfl
                have q_town1 := S.out.get 1 1 rfl rfl
                have q_town2 := S.out.get 1 2 rfl rfl
                have q_ask0 := S.out.get 0 0 rfl rfl
                have q_ask1 := S.out.get 0 1 rfl rfl
                go_wp2_with fail
                obtain ⟨dl, dh, hd1, hd2, hd3⟩ := each_differ HO.out HTR.out Hx.out Hy.out
                obtain ⟨el, eh, he1, he2, he3⟩ := each_differ HO.out HTR.out Hy.out Hx.out
                have hhz := higher_zero he1
                have hx1 := isWell_iff.1 Hx.out
                have hy1 := isWell_iff.1 Hy.out
                obtain ⟨xn, rfl⟩ := Int.eq_ofNat_of_zero_le hx1.1
                obtain ⟨yn, rfl⟩ := Int.eq_ofNat_of_zero_le hy1.1
                have hox := HTR.out.own xn (by omega)
                have hoy := HTR.out.own yn (by omega)
                try dsimp only at hox hoy hd2 hd3 he2 he3
                rw [Int.toNat_natCast, Int.toNat_natCast] at hd2 hd3 he2 he3
                obtain ⟨-, hc3⟩ := HL.out.at_get rfl
                obtain ⟨b3, o3, rfl, hb3, hcell3⟩ := hc3 (by have := HLW.out; omega)
                have y3 := hcell3 xn (by have := HLW.out; omega)
                have y4 := hcell3 yn (by have := HLW.out; omega)
                have hxl : (xn : Int) < (l.length : Int) := by have := HLW.out; omega
                have hyl : (yn : Int) < (l.length : Int) := by have := HLW.out; omega
                obtain ⟨a1, ha1⟩ : ∃ x, l.getD xn 0 = x := ⟨_, rfl⟩
                obtain ⟨a2, ha2⟩ : ∃ x, l.getD yn 0 = x := ⟨_, rfl⟩
                rw [ha1] at hox y3
                rw [ha2] at hoy y4
                rw [ha1, ha2] at hd2 hd3 he2 he3
                have i1 : IntKind.i64.wrap (a2 - a1) = a2 - a1 := IntWalk.i64_in _ (by omega)
                have Y3 := Lib.hid y3
                have Y4 := Lib.hid y4
                have HD := Lib.hid hd1
                clear hc3 hcell3 y3 y4 ha1 ha2 hd1 he1 hox hoy hx1 hy1
                refine (differ_any _ t (xn : Int) (yn : Int) _ ⟨_, _, rfl, HSN.out.below S.out.bel, HSP.out.below S.out.bel⟩).mono ?_
                rintro e w6 ⟨rfl, hb⟩
                rw [HD.out]
                have S := Lib.hid ((S.out.call hb).alloc [I dl, I dh] 40)
                clear hb
                clear q_town0 q_town1 q_town2 q_ask0 q_ask1
                have q_town0 := S.out.get 2 0 rfl rfl
                have q_town1 := S.out.get 2 1 rfl rfl
                have q_town2 := S.out.get 2 2 rfl rfl
                have q_ask0 := S.out.get 1 0 rfl rfl
                have q_ask1 := S.out.get 1 1 rfl rfl
                go_wp2_with fail
                by_cases g1 : 0 < el
                · rw [if_pos g1] at hhz
                  have HH := Lib.hid hhz
                  clear hhz
                  refine (higher_any _ t (xn : Int) (yn : Int) _ ⟨_, _, rfl, HSN.out.below S.out.bel, HSP.out.below S.out.bel⟩).mono ?_
                  rintro e w7 ⟨rfl, hb⟩
                  rw [HH.out]
                  have S := Lib.hid (S.out.call hb)
                  clear hb
                  go_wp2_with fail
                  have q0 := cell_regrown (S.out.get 1 0 rfl rfl)
                  have q1 := cell_regrown (S.out.get 1 1 rfl rfl)
                  have y3 := cell_regrown (keep_cell S.out.bel Y3.out)
                  have y4 := cell_regrown (keep_cell S.out.bel Y4.out)
                  refine wp_region_ext (by kernel_rfl) (by kernel_rfl) ?_
                  repeat (first | go_big_quiet_step (fail) | quiet_step (fail))
                  refine wpQuiet_nil ?_
                  clear y3 y4 q0 q1
                  intro w9 hb
                  have S := Lib.hid (S.out.call hb)
                  clear hb
                  clear i1
                  obtain ⟨d, hd⟩ : ∃ d, a2 - a1 = d := ⟨_, rfl⟩
                  rw [hd] at hd2 hd3 ⊢
                  have hds : d < 0 := by omega
                  clear hd he2 he3
                  have p0 := S.out.get 0 0 rfl rfl
                  have p1 := S.out.get 0 1 rfl rfl
                  go_wp2_with fail
                  refine (rWithin_any _ _ _ _).mono ?_
                  rintro e w' ⟨rfl, rfl⟩
                  rw [show inR 1 1 3 = true from rfl]
                  go_wp2_with fail
                  clear p0 p1
                  refine (works_any _).mono ?_
                  rintro e w8 ⟨rfl, hb⟩
                  have S := Lib.hid (S.out.call hb)
                  clear hb
                  have q_town0 := S.out.get 2 0 rfl rfl
                  have q_town1 := S.out.get 2 1 rfl rfl
                  have q_town2 := S.out.get 2 2 rfl rfl
                  have q_ask0 := S.out.get 1 0 rfl rfl
                  have q_ask1 := S.out.get 1 1 rfl rfl
                  go_wp2_with fail
                  go_ret
                  exact ⟨rfl, S.out.bel⟩
                · by_cases g2 : eh ≤ 0
                  · rw [if_neg g1, if_pos g2] at hhz
                    have HH := Lib.hid hhz
                    clear hhz
                    refine (higher_any _ t (xn : Int) (yn : Int) _ ⟨_, _, rfl, HSN.out.below S.out.bel, HSP.out.below S.out.bel⟩).mono ?_
                    rintro e w7 ⟨rfl, hb⟩
                    rw [HH.out]
                    have S := Lib.hid (S.out.call hb)
                    clear hb
                    go_wp2_with fail
                    have q0 := cell_regrown (S.out.get 1 0 rfl rfl)
                    have q1 := cell_regrown (S.out.get 1 1 rfl rfl)
                    have y3 := cell_regrown (keep_cell S.out.bel Y3.out)
                    have y4 := cell_regrown (keep_cell S.out.bel Y4.out)
                    refine wp_region_ext (by kernel_rfl) (by kernel_rfl) ?_
                    repeat (first | go_big_quiet_step (fail) | quiet_step (fail))
                    refine wpQuiet_nil ?_
                    clear y3 y4 q0 q1
                    intro w9 hb
                    have S := Lib.hid (S.out.call hb)
                    clear hb
                    clear i1
                    obtain ⟨d, hd⟩ : ∃ d, a2 - a1 = d := ⟨_, rfl⟩
                    rw [hd] at hd2 hd3 ⊢
                    have hds : 0 ≤ d := by omega
                    clear hd he2 he3
                    have p0 := S.out.get 0 0 rfl rfl
                    have p1 := S.out.get 0 1 rfl rfl
                    go_wp2_with fail
                    refine (rWithin_any _ _ _ _).mono ?_
                    rintro e w' ⟨rfl, rfl⟩
                    rw [show inR 2 1 3 = true from rfl]
                    go_wp2_with fail
                    clear p0 p1
                    refine (works_any _).mono ?_
                    rintro e w8 ⟨rfl, hb⟩
                    have S := Lib.hid (S.out.call hb)
                    clear hb
                    have q_town0 := S.out.get 2 0 rfl rfl
                    have q_town1 := S.out.get 2 1 rfl rfl
                    have q_town2 := S.out.get 2 2 rfl rfl
                    have q_ask0 := S.out.get 1 0 rfl rfl
                    have q_ask1 := S.out.get 1 1 rfl rfl
                    go_wp2_with fail
                    go_ret
                    exact ⟨rfl, S.out.bel⟩
                  · rw [if_neg g1, if_neg g2] at hhz
                    have HH := Lib.hid hhz
                    clear hhz
                    refine (higher_any _ t (xn : Int) (yn : Int) _ ⟨_, _, rfl, HSN.out.below S.out.bel, HSP.out.below S.out.bel⟩).mono ?_
                    rintro e w7 ⟨rfl, hb⟩
                    rw [HH.out]
                    have S := Lib.hid (S.out.call hb)
                    clear hb
                    go_wp2_with fail
                    have q0 := cell_regrown (S.out.get 1 0 rfl rfl)
                    have q1 := cell_regrown (S.out.get 1 1 rfl rfl)
                    have y3 := cell_regrown (keep_cell S.out.bel Y3.out)
                    have y4 := cell_regrown (keep_cell S.out.bel Y4.out)
                    refine wp_region_ext (by kernel_rfl) (by kernel_rfl) ?_
                    repeat (first | go_big_quiet_step (fail) | quiet_step (fail))
                    refine wpQuiet_nil ?_
                    clear y3 y4 q0 q1
                    intro w9 hb
                    have S := Lib.hid (S.out.call hb)
                    clear hb
                    clear i1
                    obtain ⟨d, hd⟩ : ∃ d, a2 - a1 = d := ⟨_, rfl⟩
                    rw [hd] at hd2 hd3 ⊢
                    have hds : True := trivial
                    clear hd he2 he3
                    have p0 := S.out.get 0 0 rfl rfl
                    have p1 := S.out.get 0 1 rfl rfl
                    go_wp2_with fail
                    refine (rWithin_any _ _ _ _).mono ?_
                    rintro e w' ⟨rfl, rfl⟩
                    rw [show inR 3 1 3 = true from rfl]
                    go_wp2_with fail
                    clear p0 p1
                    refine (works_any _).mono ?_
                    rintro e w8 ⟨rfl, hb⟩
                    have S := Lib.hid (S.out.call hb)
                    clear hb
                    have q_town0 := S.out.get 2 0 rfl rfl
                    have q_town1 := S.out.get 2 1 rfl rfl
                    have q_town2 := S.out.get 2 2 rfl rfl
                    have q_ask0 := S.out.get 1 0 rfl rfl
                    have q_ask1 := S.out.get 1 1 rfl rfl
                    go_wp2_with fail
                    go_ret
                    exact ⟨rfl, S.out.bel⟩

end Go.Proofs.Ytplbaijdnpfdgaa
