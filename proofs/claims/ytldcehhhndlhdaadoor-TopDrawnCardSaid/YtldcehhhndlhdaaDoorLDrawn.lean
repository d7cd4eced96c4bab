/- The law TopDrawn walked. -/
import Derived.Test.YtldcehhhndlhdaaDoorC28
import Derived.Test.YtldcehhhndlhdaaDoorC19
import Derived.Test.YtldcehhhndlhdaaDoorC15
import Derived.Test.YtldcehhhndlhdaaDoorC14
namespace Go.Proofs.YtldcehhhndlhdaaDoor
open Go.RowKit Go.Sort Go.Shelf

theorem more_open3 {t : Twn} (hv : valid t = true) (hd : diagOk (closeM (baseM t)) = true) : openE t true = 0 := by
  unfold openE
  rw [hv, hd]
  rfl
set_option maxRecDepth 20000 in
set_option maxHeartbeats 8000000 in
theorem topDrawn_any (vt vu lv : Value) (t : BTown) (u : Twn) (l : List Int) (ft : Int) (s : Snd) (w : World) (ht : BAt w vt t) (hu : TwnAt w vu u) (hl : Ints w lv l) (hN : NnAt w) :
    Calls Tryd.prog 4 #[vt, vu, .agg #[lv, I ft, I s.well, I s.low, I s.high]] w fun e w' => e = .returned (.bool true) ∧ Below w.heap.size w w' := by
  obtain ⟨ha, hb, hc, rfl, ha1, ha2, ha3⟩ := ht
  obtain ⟨sb, pb, rfl, hb1, hb2⟩ := hu
  obtain ⟨A1, c1, rfl, -, -, -⟩ := id ha1.open_
  obtain ⟨A2, c2, rfl, -, -, -⟩ := id ha2.open_
  obtain ⟨A3, c3, rfl, -, -, -⟩ := id ha3.open_
  obtain ⟨A4, c4, rfl, -, -, -⟩ := id hb1.open_
  obtain ⟨A5, c5, rfl, -, -, -⟩ := id hb2.open_
  obtain ⟨A6, c6, rfl, -, -, -⟩ := id hl.open_
  have HT1 := Lib.hid ha1
  have HT2 := Lib.hid ha2
  have HT3 := Lib.hid ha3
  have HU1 := Lib.hid hb1
  have HU2 := Lib.hid hb2
  have HL := Lib.hid hl
  have HN := Lib.hid hN
  clear ha1 ha2 ha3 hb1 hb2 hl hN
  have S := Lib.hid ((((St.init w).alloc [.slice A1 t.hs.length c1, .slice A2 t.ws.length c2, .slice A3 t.ys.length c3] 62).alloc [I u.wells, .slice A4 u.snd.length c4, .slice A5 u.slp.length c5] 25).alloc [.slice A6 l.length c6, I ft, I s.well, I s.low, I s.high] 64)
  go_enter Tryd.func4, Tryd.ntmps4
  have q_t0 := S.out.get 2 0 rfl rfl
  have q_t1 := S.out.get 2 1 rfl rfl
  have q_t2 := S.out.get 2 2 rfl rfl
  go_wp2_with fail
  refine (far3_any _ t _ ⟨_, _, _, rfl, HT1.out.below S.out.bel, HT2.out.below S.out.bel, HT3.out.below S.out.bel⟩).mono ?_
  rintro e w1 ⟨rfl | ⟨hft, rfl⟩, hb⟩
  · replace S := Lib.hid (S.out.call hb)
    clear hb
    clear q_t0 q_t1 q_t2
    go_wp2_with fail
    refine (drawn_any _ (HN.out.below S.out.bel)).mono ?_
    rintro e w2 ⟨rfl, hb⟩
    replace S := Lib.hid (S.out.call hb)
    clear hb
    go_wp2_with fail
    go_ret
    exact ⟨rfl, S.out.bel⟩
  · replace S := Lib.hid (S.out.call hb)
    clear hb
    clear q_t0 q_t1 q_t2
    have HFT := Lib.hid hft
    clear hft
    have q_t0 := S.out.get 2 0 rfl rfl
    have q_t1 := S.out.get 2 1 rfl rfl
    have q_t2 := S.out.get 2 2 rfl rfl
    go_wp2_with fail
    refine (rCheck3_any _ t _ ⟨_, _, _, rfl, HT1.out.below S.out.bel, HT2.out.below S.out.bel, HT3.out.below S.out.bel⟩).mono ?_
    rintro e w2 ⟨rfl, hb⟩
    replace S := Lib.hid (S.out.call hb)
    clear hb
    clear q_t0 q_t1 q_t2
    cases hvt : bValid t
    · rw [show bChk t = 30 from by simp [bChk, hvt]]
      go_wp2_with fail
      refine (drawn_any _ (HN.out.below S.out.bel)).mono ?_
      rintro e w3 ⟨rfl, hb⟩
      replace S := Lib.hid (S.out.call hb)
      clear hb
      go_wp2_with fail
      go_ret
      exact ⟨rfl, S.out.bel⟩
    · rw [show bChk t = 0 from by simp [bChk, hvt]]
      have q_w0 := S.out.get 1 0 rfl rfl
      have q_w1 := S.out.get 1 1 rfl rfl
      have q_w2 := S.out.get 1 2 rfl rfl
      go_wp2_with fail
      have HVT := Lib.hid (bValid_spec hvt).2
      have HY12 := Lib.hid (bValid_spec hvt).1
      clear hvt
      refine (far_any _ u _ ⟨_, _, rfl, HU1.out.below S.out.bel, HU2.out.below S.out.bel⟩).mono ?_
      rintro e w3 ⟨rfl, hb⟩
      replace S := Lib.hid (S.out.call hb)
      clear hb
      clear q_w0 q_w1 q_w2
      cases hfu : farB u
      · have q_w0 := S.out.get 1 0 rfl rfl
        have q_w1 := S.out.get 1 1 rfl rfl
        have q_w2 := S.out.get 1 2 rfl rfl
        go_wp2_with fail
        have HFU := Lib.hid hfu
        clear hfu
        refine (rCheck_any _ u _ ⟨_, _, rfl, HU1.out.below S.out.bel, HU2.out.below S.out.bel⟩).mono ?_
        rintro e w4 ⟨rfl, hb⟩
        replace S := Lib.hid (S.out.call hb)
        clear hb
        clear q_w0 q_w1 q_w2
        cases hvu : valid u
        · rw [show chk u = 10 from by simp [chk, hvu]]
          go_wp2_with fail
          refine (drawn_any _ (HN.out.below S.out.bel)).mono ?_
          rintro e w5 ⟨rfl, hb⟩
          replace S := Lib.hid (S.out.call hb)
          clear hb
          go_wp2_with fail
          go_ret
          exact ⟨rfl, S.out.bel⟩
        · rw [show chk u = 0 from by simp [chk, hvu]]
          have HVU := Lib.hid hvu
          clear hvu
          by_cases hwl : u.wells = (t.ws.length : Int)
          · have q_w0 := S.out.get 1 0 rfl rfl
            have q_t1 := S.out.get 2 1 rfl rfl
            have q_x1 := S.out.get 0 1 rfl rfl
            go_wp2_with fail
            have HWL := Lib.hid hwl
            clear hwl
            refine (rWithin_any ft 5 99 _).mono ?_
            rintro e w5 ⟨rfl, rfl⟩
            replace S := Lib.hid (S.out)
            clear q_w0 q_t1 q_x1
            cases hfe : inR ft 5 99
            · go_wp2_with fail
              refine (drawn_any _ (HN.out.below S.out.bel)).mono ?_
              rintro e w6 ⟨rfl, hb⟩
              replace S := Lib.hid (S.out.call hb)
              clear hb
              go_wp2_with fail
              go_ret
              exact ⟨rfl, S.out.bel⟩
            · have HFT := Lib.hid hfe
              clear hfe
              by_cases hln : (l.length : Int) ≤ 40
              · have q_x0 := S.out.get 0 0 rfl rfl
                have q_w0 := S.out.get 1 0 rfl rfl
                have q_w1 := S.out.get 1 1 rfl rfl
                have q_w2 := S.out.get 1 2 rfl rfl
                go_wp2_with fail
                have HLN := Lib.hid hln
                clear hln
                refine (isTruth_any _ _ u l _ ⟨_, _, rfl, HU1.out.below S.out.bel, HU2.out.below S.out.bel⟩ (HL.out.below S.out.bel) (valid_vl HVU.out) (by have := HLN.out; omega) (by have := (farB_false HFU.out).1; omega) (by have := (farB_false HFU.out).2.1; omega)).mono ?_
                rintro e w6 ⟨rfl, hb⟩
                replace S := Lib.hid (S.out.call hb)
                clear hb
                clear q_x0 q_w0 q_w1 q_w2
                cases htr : isTrB u l
                · go_wp2_with fail
                  refine (drawn_any _ (HN.out.below S.out.bel)).mono ?_
                  rintro e w7 ⟨rfl, hb⟩
                  replace S := Lib.hid (S.out.call hb)
                  clear hb
                  go_wp2_with fail
                  go_ret
                  exact ⟨rfl, S.out.bel⟩
                · have hop := open_of_truth HVU.out (isTrB_iff.1 htr).2
                  have HOP := Lib.hid hop
                  have HTR := Lib.hid htr
                  have HR0 := Lib.hid (tr_range htr).2
                  have HR1 := Lib.hid (tr_range (ends_true hop).1).2
                  have HR2 := Lib.hid (tr_range (ends_true hop).2).2
                  have HL0 := Lib.hid (show l.length = t.ws.length by have := (tr_range htr).1; have := HWL.out; omega)
                  have HL1 := Lib.hid (show (lowL u).length = t.ws.length by have := (tr_range (ends_true hop).1).1; have := HWL.out; omega)
                  have HL2 := Lib.hid (show (highL u).length = t.ws.length by have := (tr_range (ends_true hop).2).1; have := HWL.out; omega)
                  have HW1 := Lib.hid (show ∀ i, i < t.ws.length → (lowL u).getD i 0 ≤ l.getD i 0 from fun i hi => (low_le htr hop (by have := HWL.out; omega)).1)
                  have HW2 := Lib.hid (show ∀ i, i < t.ws.length → l.getD i 0 ≤ (highL u).getD i 0 from fun i hi => (low_le htr hop (by have := HWL.out; omega)).2)
                  clear htr hop
                  have q_w0 := S.out.get 1 0 rfl rfl
                  have q_w1 := S.out.get 1 1 rfl rfl
                  have q_w2 := S.out.get 1 2 rfl rfl
                  go_wp2_with fail
                  refine (lowest_any _ u _ ⟨_, _, rfl, HU1.out.below S.out.bel, HU2.out.below S.out.bel⟩).mono ?_
                  rintro e w7 ⟨vlo, rfl, hl, hb⟩
                  rw [(endsP_zero HOP.out).1] at hl ⊢
                  obtain ⟨Alo, clo, rfl, -, -, -⟩ := id hl.open_
                  have Hlo := Lib.hid hl
                  clear hl
                  replace S := Lib.hid (S.out.call hb)
                  clear hb
                  clear q_w0 q_w1 q_w2
                  have q_w0 := S.out.get 1 0 rfl rfl
                  have q_w1 := S.out.get 1 1 rfl rfl
                  have q_w2 := S.out.get 1 2 rfl rfl
                  go_wp2_with fail
                  refine (highest_any _ u _ ⟨_, _, rfl, HU1.out.below S.out.bel, HU2.out.below S.out.bel⟩).mono ?_
                  rintro e w8 ⟨vhi, rfl, hl, hb⟩
                  rw [(endsP_zero HOP.out).2] at hl ⊢
                  obtain ⟨Ahi, chi, rfl, -, -, -⟩ := id hl.open_
                  have Hhi := Lib.hid hl
                  clear hl
                  replace Hlo := Lib.hid (Hlo.out.below hb)
                  replace S := Lib.hid (S.out.call hb)
                  clear hb
                  clear q_w0 q_w1 q_w2
                  have q_t0 := S.out.get 2 0 rfl rfl
                  have q_t1 := S.out.get 2 1 rfl rfl
                  have q_t2 := S.out.get 2 2 rfl rfl
                  have q_x0 := S.out.get 0 0 rfl rfl
                  have q_x1 := S.out.get 0 1 rfl rfl
                  go_wp2_with fail
                  refine (filled_any _ _ t (lowL u) ft _ ⟨_, _, _, rfl, HT1.out.below S.out.bel, HT2.out.below S.out.bel, HT3.out.below S.out.bel⟩ Hlo.out HL1.out (by have := (bVal_spec HVT.out).1; omega) (by have := (bVal_spec HVT.out).2.1; omega) (by have := HY12.out; omega) HR1.out (inR_iff.1 HFT.out).1 (inR_iff.1 HFT.out).2).mono ?_
                  rintro e w9 ⟨vfa, rfl, hv, hb⟩
                  obtain ⟨x1, x2, x3, rfl, k1, k2, k3⟩ := id hv
                  obtain ⟨Bfa1, bfa1, rfl, -, -, -⟩ := id k1.open_
                  obtain ⟨Bfa2, bfa2, rfl, -, -, -⟩ := id k2.open_
                  obtain ⟨Bfa3, bfa3, rfl, -, -, -⟩ := id k3.open_
                  have Hfa := Lib.hid hv
                  clear hv k1 k2 k3
                  replace Hlo := Lib.hid (Hlo.out.below hb)
                  replace Hhi := Lib.hid (Hhi.out.below hb)
                  replace S := Lib.hid (S.out.call hb)
                  clear hb
                  clear q_t0 q_t1 q_t2 q_x0 q_x1
                  replace Hlo := Lib.hid (Hlo.out.below ((Below.refl _ _).alloc (Nat.le_refl _) (.cells #[.slice Bfa1 (fillT t (lowL u) ft).hs.length bfa1, .slice Bfa2 (fillT t (lowL u) ft).ws.length bfa2, .slice Bfa3 (fillT t (lowL u) ft).ys.length bfa3] 62)))
                  replace Hhi := Lib.hid (Hhi.out.below ((Below.refl _ _).alloc (Nat.le_refl _) (.cells #[.slice Bfa1 (fillT t (lowL u) ft).hs.length bfa1, .slice Bfa2 (fillT t (lowL u) ft).ws.length bfa2, .slice Bfa3 (fillT t (lowL u) ft).ys.length bfa3] 62)))
                  replace Hfa := Lib.hid (Hfa.out.below ((Below.refl _ _).alloc (Nat.le_refl _) (.cells #[.slice Bfa1 (fillT t (lowL u) ft).hs.length bfa1, .slice Bfa2 (fillT t (lowL u) ft).ws.length bfa2, .slice Bfa3 (fillT t (lowL u) ft).ys.length bfa3] 62)))
                  replace S := Lib.hid (S.out.alloc [.slice Bfa1 (fillT t (lowL u) ft).hs.length bfa1, .slice Bfa2 (fillT t (lowL u) ft).ws.length bfa2, .slice Bfa3 (fillT t (lowL u) ft).ys.length bfa3] 62)
                  have q_t0 := S.out.get 3 0 rfl rfl
                  have q_t1 := S.out.get 3 1 rfl rfl
                  have q_t2 := S.out.get 3 2 rfl rfl
                  have q_x0 := S.out.get 1 0 rfl rfl
                  have q_x1 := S.out.get 1 1 rfl rfl
                  go_wp2_with fail
                  have Htr := Lib.hid (HL.out.below S.out.bel)
                  refine (filled_any _ _ t l ft _ ⟨_, _, _, rfl, HT1.out.below S.out.bel, HT2.out.below S.out.bel, HT3.out.below S.out.bel⟩ Htr.out HL0.out (by have := (bVal_spec HVT.out).1; omega) (by have := (bVal_spec HVT.out).2.1; omega) (by have := HY12.out; omega) HR0.out (inR_iff.1 HFT.out).1 (inR_iff.1 HFT.out).2).mono ?_
                  rintro e w10 ⟨vfb, rfl, hv, hb⟩
                  obtain ⟨x1, x2, x3, rfl, k1, k2, k3⟩ := id hv
                  obtain ⟨Bfb1, bfb1, rfl, -, -, -⟩ := id k1.open_
                  obtain ⟨Bfb2, bfb2, rfl, -, -, -⟩ := id k2.open_
                  obtain ⟨Bfb3, bfb3, rfl, -, -, -⟩ := id k3.open_
                  have Hfb := Lib.hid hv
                  clear hv k1 k2 k3
                  replace Hlo := Lib.hid (Hlo.out.below hb)
                  replace Hhi := Lib.hid (Hhi.out.below hb)
                  replace Hfa := Lib.hid (Hfa.out.below hb)
                  replace S := Lib.hid (S.out.call hb)
                  clear hb
                  clear q_t0 q_t1 q_t2 q_x0 q_x1
                  replace Hlo := Lib.hid (Hlo.out.below ((Below.refl _ _).alloc (Nat.le_refl _) (.cells #[.slice Bfb1 (fillT t l ft).hs.length bfb1, .slice Bfb2 (fillT t l ft).ws.length bfb2, .slice Bfb3 (fillT t l ft).ys.length bfb3] 62)))
                  replace Hhi := Lib.hid (Hhi.out.below ((Below.refl _ _).alloc (Nat.le_refl _) (.cells #[.slice Bfb1 (fillT t l ft).hs.length bfb1, .slice Bfb2 (fillT t l ft).ws.length bfb2, .slice Bfb3 (fillT t l ft).ys.length bfb3] 62)))
                  replace Hfa := Lib.hid (Hfa.out.below ((Below.refl _ _).alloc (Nat.le_refl _) (.cells #[.slice Bfb1 (fillT t l ft).hs.length bfb1, .slice Bfb2 (fillT t l ft).ws.length bfb2, .slice Bfb3 (fillT t l ft).ys.length bfb3] 62)))
                  replace Hfb := Lib.hid (Hfb.out.below ((Below.refl _ _).alloc (Nat.le_refl _) (.cells #[.slice Bfb1 (fillT t l ft).hs.length bfb1, .slice Bfb2 (fillT t l ft).ws.length bfb2, .slice Bfb3 (fillT t l ft).ys.length bfb3] 62)))
                  replace S := Lib.hid (S.out.alloc [.slice Bfb1 (fillT t l ft).hs.length bfb1, .slice Bfb2 (fillT t l ft).ws.length bfb2, .slice Bfb3 (fillT t l ft).ys.length bfb3] 62)
                  clear Htr
                  have q_t0 := S.out.get 4 0 rfl rfl
                  have q_t1 := S.out.get 4 1 rfl rfl
                  have q_t2 := S.out.get 4 2 rfl rfl
                  have q_x0 := S.out.get 2 0 rfl rfl
                  have q_x1 := S.out.get 2 1 rfl rfl
                  go_wp2_with fail
                  refine (filled_any _ _ t (highL u) ft _ ⟨_, _, _, rfl, HT1.out.below S.out.bel, HT2.out.below S.out.bel, HT3.out.below S.out.bel⟩ Hhi.out HL2.out (by have := (bVal_spec HVT.out).1; omega) (by have := (bVal_spec HVT.out).2.1; omega) (by have := HY12.out; omega) HR2.out (inR_iff.1 HFT.out).1 (inR_iff.1 HFT.out).2).mono ?_
                  rintro e w11 ⟨vfc, rfl, hv, hb⟩
                  obtain ⟨x1, x2, x3, rfl, k1, k2, k3⟩ := id hv
                  obtain ⟨Bfc1, bfc1, rfl, -, -, -⟩ := id k1.open_
                  obtain ⟨Bfc2, bfc2, rfl, -, -, -⟩ := id k2.open_
                  obtain ⟨Bfc3, bfc3, rfl, -, -, -⟩ := id k3.open_
                  have Hfc := Lib.hid hv
                  clear hv k1 k2 k3
                  replace Hlo := Lib.hid (Hlo.out.below hb)
                  replace Hhi := Lib.hid (Hhi.out.below hb)
                  replace Hfa := Lib.hid (Hfa.out.below hb)
                  replace Hfb := Lib.hid (Hfb.out.below hb)
                  replace S := Lib.hid (S.out.call hb)
                  clear hb
                  clear q_t0 q_t1 q_t2 q_x0 q_x1
                  replace Hlo := Lib.hid (Hlo.out.below ((Below.refl _ _).alloc (Nat.le_refl _) (.cells #[.slice Bfc1 (fillT t (highL u) ft).hs.length bfc1, .slice Bfc2 (fillT t (highL u) ft).ws.length bfc2, .slice Bfc3 (fillT t (highL u) ft).ys.length bfc3] 62)))
                  replace Hhi := Lib.hid (Hhi.out.below ((Below.refl _ _).alloc (Nat.le_refl _) (.cells #[.slice Bfc1 (fillT t (highL u) ft).hs.length bfc1, .slice Bfc2 (fillT t (highL u) ft).ws.length bfc2, .slice Bfc3 (fillT t (highL u) ft).ys.length bfc3] 62)))
                  replace Hfa := Lib.hid (Hfa.out.below ((Below.refl _ _).alloc (Nat.le_refl _) (.cells #[.slice Bfc1 (fillT t (highL u) ft).hs.length bfc1, .slice Bfc2 (fillT t (highL u) ft).ws.length bfc2, .slice Bfc3 (fillT t (highL u) ft).ys.length bfc3] 62)))
                  replace Hfb := Lib.hid (Hfb.out.below ((Below.refl _ _).alloc (Nat.le_refl _) (.cells #[.slice Bfc1 (fillT t (highL u) ft).hs.length bfc1, .slice Bfc2 (fillT t (highL u) ft).ws.length bfc2, .slice Bfc3 (fillT t (highL u) ft).ys.length bfc3] 62)))
                  replace Hfc := Lib.hid (Hfc.out.below ((Below.refl _ _).alloc (Nat.le_refl _) (.cells #[.slice Bfc1 (fillT t (highL u) ft).hs.length bfc1, .slice Bfc2 (fillT t (highL u) ft).ws.length bfc2, .slice Bfc3 (fillT t (highL u) ft).ys.length bfc3] 62)))
                  replace S := Lib.hid (S.out.alloc [.slice Bfc1 (fillT t (highL u) ft).hs.length bfc1, .slice Bfc2 (fillT t (highL u) ft).ws.length bfc2, .slice Bfc3 (fillT t (highL u) ft).ys.length bfc3] 62)
                  have q_c0 := S.out.get 0 0 rfl rfl
                  have q_c1 := S.out.get 0 1 rfl rfl
                  have q_c2 := S.out.get 0 2 rfl rfl
                  go_wp2_with fail
                  refine (far3_any _ (fillT t (highL u) ft) _ Hfc.out).mono ?_
                  rintro e w12 ⟨rfl | ⟨hfc, rfl⟩, hb⟩
                  · replace Hlo := Lib.hid (Hlo.out.below hb)
                    replace Hhi := Lib.hid (Hhi.out.below hb)
                    replace Hfa := Lib.hid (Hfa.out.below hb)
                    replace Hfb := Lib.hid (Hfb.out.below hb)
                    replace Hfc := Lib.hid (Hfc.out.below hb)
                    replace S := Lib.hid (S.out.call hb)
                    clear hb
                    clear q_c0 q_c1 q_c2
                    go_wp2_with fail
                    refine (drawn_any _ (HN.out.below S.out.bel)).mono ?_
                    rintro e w13 ⟨rfl, hb⟩
                    replace Hlo := Lib.hid (Hlo.out.below hb)
                    replace Hhi := Lib.hid (Hhi.out.below hb)
                    replace Hfa := Lib.hid (Hfa.out.below hb)
                    replace Hfb := Lib.hid (Hfb.out.below hb)
                    replace Hfc := Lib.hid (Hfc.out.below hb)
                    replace S := Lib.hid (S.out.call hb)
                    clear hb
                    go_wp2_with fail
                    go_ret
                    exact ⟨rfl, S.out.bel⟩
                  · replace Hlo := Lib.hid (Hlo.out.below hb)
                    replace Hhi := Lib.hid (Hhi.out.below hb)
                    replace Hfa := Lib.hid (Hfa.out.below hb)
                    replace Hfb := Lib.hid (Hfb.out.below hb)
                    replace Hfc := Lib.hid (Hfc.out.below hb)
                    replace S := Lib.hid (S.out.call hb)
                    clear hb
                    clear q_c0 q_c1 q_c2
                    have HFC := Lib.hid hfc
                    clear hfc
                    have q_a0 := S.out.get 2 0 rfl rfl
                    have q_a1 := S.out.get 2 1 rfl rfl
                    have q_a2 := S.out.get 2 2 rfl rfl
                    go_wp2_with fail
                    refine (lacksK_any _ (fillT t (lowL u) ft) _ Hfa.out (HN.out.below S.out.bel) (fill_val HVT.out HL1.out HR1.out (inR_iff.1 HFT.out).1) (by show t.ys.length ≤ 12; exact HY12.out)).mono ?_
                    rintro e w13 ⟨vka, dka, rfl, ho, hd, hb⟩
                    obtain ⟨kka, hk⟩ : ∃ x, descL (Bk.lacksL (fillT t (lowL u) ft).bt dka) = x := ⟨_, rfl⟩
                    have hkl : kka.length = t.hs.length := by rw [← hk, descL_len]; simp [Bk.lacksL]; rfl
                    rw [hk] at ho
                    replace ho : w13.ownsRow _ 3 1 vka t.hs.length (kka.map I) := ho
                    obtain ⟨Aka, cka, rfl⟩ := own_shape ho
                    have HEka := Lib.hid hk
                    have HBka := Lib.hid hd
                    have HKka := Lib.hid hkl
                    replace Hlo := Lib.hid (Hlo.out.below hb)
                    replace Hhi := Lib.hid (Hhi.out.below hb)
                    replace Hfa := Lib.hid (Hfa.out.below hb)
                    replace Hfb := Lib.hid (Hfb.out.below hb)
                    replace Hfc := Lib.hid (Hfc.out.below hb)
                    replace S := Lib.hid (S.out.take hb ho)
                    clear hk hkl hd hb ho
                    clear q_a0 q_a1 q_a2
                    have q_b0 := S.out.get 2 0 rfl rfl
                    have q_b1 := S.out.get 2 1 rfl rfl
                    have q_b2 := S.out.get 2 2 rfl rfl
                    go_wp2_with fail
                    refine (lacksK_any _ (fillT t l ft) _ Hfb.out (HN.out.below S.out.bel) (fill_val HVT.out HL0.out HR0.out (inR_iff.1 HFT.out).1) (by show t.ys.length ≤ 12; exact HY12.out)).mono ?_
                    rintro e w14 ⟨vkb, dkb, rfl, ho, hd, hb⟩
                    obtain ⟨kkb, hk⟩ : ∃ x, descL (Bk.lacksL (fillT t l ft).bt dkb) = x := ⟨_, rfl⟩
                    have hkl : kkb.length = t.hs.length := by rw [← hk, descL_len]; simp [Bk.lacksL]; rfl
                    rw [hk] at ho
                    replace ho : w14.ownsRow _ 3 1 vkb t.hs.length (kkb.map I) := ho
                    obtain ⟨Akb, ckb, rfl⟩ := own_shape ho
                    have HEkb := Lib.hid hk
                    have HBkb := Lib.hid hd
                    have HKkb := Lib.hid hkl
                    replace Hlo := Lib.hid (Hlo.out.below hb)
                    replace Hhi := Lib.hid (Hhi.out.below hb)
                    replace Hfa := Lib.hid (Hfa.out.below hb)
                    replace Hfb := Lib.hid (Hfb.out.below hb)
                    replace Hfc := Lib.hid (Hfc.out.below hb)
                    replace S := Lib.hid (S.out.take hb ho)
                    clear hk hkl hd hb ho
                    clear q_b0 q_b1 q_b2
                    have q_c0 := S.out.get 2 0 rfl rfl
                    have q_c1 := S.out.get 2 1 rfl rfl
                    have q_c2 := S.out.get 2 2 rfl rfl
                    go_wp2_with fail
                    refine (lacksK_any _ (fillT t (highL u) ft) _ Hfc.out (HN.out.below S.out.bel) (fill_val HVT.out HL2.out HR2.out (inR_iff.1 HFT.out).1) (by show t.ys.length ≤ 12; exact HY12.out)).mono ?_
                    rintro e w15 ⟨vkc, dkc, rfl, ho, hd, hb⟩
                    obtain ⟨kkc, hk⟩ : ∃ x, descL (Bk.lacksL (fillT t (highL u) ft).bt dkc) = x := ⟨_, rfl⟩
                    have hkl : kkc.length = t.hs.length := by rw [← hk, descL_len]; simp [Bk.lacksL]; rfl
                    rw [hk] at ho
                    replace ho : w15.ownsRow _ 3 1 vkc t.hs.length (kkc.map I) := ho
                    obtain ⟨Akc, ckc, rfl⟩ := own_shape ho
                    have HEkc := Lib.hid hk
                    have HBkc := Lib.hid hd
                    have HKkc := Lib.hid hkl
                    replace Hlo := Lib.hid (Hlo.out.below hb)
                    replace Hhi := Lib.hid (Hhi.out.below hb)
                    replace Hfa := Lib.hid (Hfa.out.below hb)
                    replace Hfb := Lib.hid (Hfb.out.below hb)
                    replace Hfc := Lib.hid (Hfc.out.below hb)
                    replace S := Lib.hid (S.out.take hb ho)
                    clear hk hkl hd hb ho
                    clear q_c0 q_c1 q_c2
                    have q_t0 := S.out.get 8 0 rfl rfl
                    go_wp2_with fail
                    refine (earlier_any _ _ kka kkb _ (S.out.ints 2 rfl) (S.out.ints 1 rfl) (by have := HKka.out; have := (bVal_spec HVT.out).1; omega) (by have := HKkb.out; have := (bVal_spec HVT.out).1; omega)).mono ?_
                    rintro e w16 ⟨rfl, hb⟩
                    rw [show earlierL kka kkb = false from by rw [← HEka.out, ← HEkb.out]; exact drawn_said HVT.out HL1.out HL0.out (inR_iff.1 HFT.out).1 (fun x hx => (HR1.out x hx).1) HW1.out HBka.out HBkb.out]
                    replace Hlo := Lib.hid (Hlo.out.below hb)
                    replace Hhi := Lib.hid (Hhi.out.below hb)
                    replace Hfa := Lib.hid (Hfa.out.below hb)
                    replace Hfb := Lib.hid (Hfb.out.below hb)
                    replace Hfc := Lib.hid (Hfc.out.below hb)
                    replace S := Lib.hid (S.out.call hb)
                    clear hb
                    clear q_t0
                    go_wp2_with fail
                    refine (earlier_any _ _ kkb kkc _ (S.out.ints 1 rfl) (S.out.ints 0 rfl) (by have := HKkb.out; have := (bVal_spec HVT.out).1; omega) (by have := HKkc.out; have := (bVal_spec HVT.out).1; omega)).mono ?_
                    rintro e w17 ⟨rfl, hb⟩
                    rw [show earlierL kkb kkc = false from by rw [← HEkb.out, ← HEkc.out]; exact drawn_said HVT.out HL0.out HL2.out (inR_iff.1 HFT.out).1 (fun x hx => (HR0.out x hx).1) HW2.out HBkb.out HBkc.out]
                    replace Hlo := Lib.hid (Hlo.out.below hb)
                    replace Hhi := Lib.hid (Hhi.out.below hb)
                    replace Hfa := Lib.hid (Hfa.out.below hb)
                    replace Hfb := Lib.hid (Hfb.out.below hb)
                    replace Hfc := Lib.hid (Hfc.out.below hb)
                    replace S := Lib.hid (S.out.call hb)
                    clear hb
                    have q_w0 := S.out.get 7 0 rfl rfl
                    have q_w1 := S.out.get 7 1 rfl rfl
                    have q_w2 := S.out.get 7 2 rfl rfl
                    have q_x2 := S.out.get 6 2 rfl rfl
                    have q_x3 := S.out.get 6 3 rfl rfl
                    have q_x4 := S.out.get 6 4 rfl rfl
                    go_wp2_with fail
                    refine (sounded_any _ u s _ ⟨_, _, rfl, HU1.out.below S.out.bel, HU2.out.below S.out.bel⟩ (by have := (farB_false HFU.out).1; omega) (by have := (farB_false HFU.out).2.1; omega)).mono ?_
                    rintro e w18 ⟨vm, rfl, ⟨rvm, svm, rfl, hm1, hm2⟩, hb⟩
                    obtain ⟨Am1, cm1, rfl⟩ := own_shape hm1
                    obtain ⟨Am2, cm2, rfl⟩ := own_shape hm2
                    replace Hlo := Lib.hid (Hlo.out.below hb)
                    replace Hhi := Lib.hid (Hhi.out.below hb)
                    replace Hfa := Lib.hid (Hfa.out.below hb)
                    replace Hfb := Lib.hid (Hfb.out.below hb)
                    replace Hfc := Lib.hid (Hfc.out.below hb)
                    replace S := Lib.hid (S.out.take2 hb hm1 hm2 (by decide))
                    clear hb hm1 hm2
                    clear q_w0 q_w1 q_w2 q_x2 q_x3 q_x4
                    replace Hlo := Lib.hid (Hlo.out.below ((Below.refl _ _).alloc (Nat.le_refl _) (.cells #[I (addS u s).wells, .slice Am1 (addS u s).snd.length cm1, .slice Am2 (addS u s).slp.length cm2] 25)))
                    replace Hhi := Lib.hid (Hhi.out.below ((Below.refl _ _).alloc (Nat.le_refl _) (.cells #[I (addS u s).wells, .slice Am1 (addS u s).snd.length cm1, .slice Am2 (addS u s).slp.length cm2] 25)))
                    replace Hfa := Lib.hid (Hfa.out.below ((Below.refl _ _).alloc (Nat.le_refl _) (.cells #[I (addS u s).wells, .slice Am1 (addS u s).snd.length cm1, .slice Am2 (addS u s).slp.length cm2] 25)))
                    replace Hfb := Lib.hid (Hfb.out.below ((Below.refl _ _).alloc (Nat.le_refl _) (.cells #[I (addS u s).wells, .slice Am1 (addS u s).snd.length cm1, .slice Am2 (addS u s).slp.length cm2] 25)))
                    replace Hfc := Lib.hid (Hfc.out.below ((Below.refl _ _).alloc (Nat.le_refl _) (.cells #[I (addS u s).wells, .slice Am1 (addS u s).snd.length cm1, .slice Am2 (addS u s).slp.length cm2] 25)))
                    replace S := Lib.hid (S.out.alloc [I (addS u s).wells, .slice Am1 (addS u s).snd.length cm1, .slice Am2 (addS u s).slp.length cm2] 25)
                    have q_m0 := S.out.get 0 0 rfl rfl
                    have q_m1 := S.out.get 0 1 rfl rfl
                    have q_m2 := S.out.get 0 2 rfl rfl
                    go_wp2_with fail
                    refine (far_any _ (addS u s) _ ⟨_, _, rfl, S.out.row 1 rfl, S.out.row 2 rfl⟩).mono ?_
                    rintro e w19 ⟨rfl, hb⟩
                    replace Hlo := Lib.hid (Hlo.out.below hb)
                    replace Hhi := Lib.hid (Hhi.out.below hb)
                    replace Hfa := Lib.hid (Hfa.out.below hb)
                    replace Hfb := Lib.hid (Hfb.out.below hb)
                    replace Hfc := Lib.hid (Hfc.out.below hb)
                    replace S := Lib.hid (S.out.call hb)
                    clear hb
                    clear q_m0 q_m1 q_m2
                    cases hfm : farB (addS u s)
                    · have q_m0 := S.out.get 0 0 rfl rfl
                      have q_m1 := S.out.get 0 1 rfl rfl
                      have q_m2 := S.out.get 0 2 rfl rfl
                      go_wp2_with fail
                      have HFM := Lib.hid hfm
                      clear hfm
                      refine (rCheck_any _ (addS u s) _ ⟨_, _, rfl, S.out.row 1 rfl, S.out.row 2 rfl⟩).mono ?_
                      rintro e w20 ⟨rfl, hb⟩
                      replace Hlo := Lib.hid (Hlo.out.below hb)
                      replace Hhi := Lib.hid (Hhi.out.below hb)
                      replace Hfa := Lib.hid (Hfa.out.below hb)
                      replace Hfb := Lib.hid (Hfb.out.below hb)
                      replace Hfc := Lib.hid (Hfc.out.below hb)
                      replace S := Lib.hid (S.out.call hb)
                      clear hb
                      clear q_m0 q_m1 q_m2
                      cases hvm : valid (addS u s)
                      · rw [show chk (addS u s) = 10 from by simp [chk, hvm]]
                        go_wp2_with fail
                        refine (drawn_any _ (HN.out.below S.out.bel)).mono ?_
                        rintro e w21 ⟨rfl, hb⟩
                        replace Hlo := Lib.hid (Hlo.out.below hb)
                        replace Hhi := Lib.hid (Hhi.out.below hb)
                        replace Hfa := Lib.hid (Hfa.out.below hb)
                        replace Hfb := Lib.hid (Hfb.out.below hb)
                        replace Hfc := Lib.hid (Hfc.out.below hb)
                        replace S := Lib.hid (S.out.call hb)
                        clear hb
                        go_wp2_with fail
                        go_ret
                        exact ⟨rfl, S.out.bel⟩
                      · rw [show chk (addS u s) = 0 from by simp [chk, hvm]]
                        have q_m0 := S.out.get 0 0 rfl rfl
                        have q_m1 := S.out.get 0 1 rfl rfl
                        have q_m2 := S.out.get 0 2 rfl rfl
                        go_wp2_with fail
                        have HVM := Lib.hid hvm
                        clear hvm
                        refine (isOne_any _ (addS u s) _ ⟨_, _, rfl, S.out.row 1 rfl, S.out.row 2 rfl⟩ (valid_vl HVM.out) (by have := (farB_false HFM.out).1; omega) (by have := (farB_false HFM.out).2.1; omega)).mono ?_
                        rintro e w21 ⟨rfl, hb⟩
                        replace Hlo := Lib.hid (Hlo.out.below hb)
                        replace Hhi := Lib.hid (Hhi.out.below hb)
                        replace Hfa := Lib.hid (Hfa.out.below hb)
                        replace Hfb := Lib.hid (Hfb.out.below hb)
                        replace Hfc := Lib.hid (Hfc.out.below hb)
                        replace S := Lib.hid (S.out.call hb)
                        clear hb
                        clear q_m0 q_m1 q_m2
                        cases hdm : diagOk (closeM (baseM (addS u s)))
                        · go_wp2_with fail
                          refine (drawn_any _ (HN.out.below S.out.bel)).mono ?_
                          rintro e w22 ⟨rfl, hb⟩
                          replace Hlo := Lib.hid (Hlo.out.below hb)
                          replace Hhi := Lib.hid (Hhi.out.below hb)
                          replace Hfa := Lib.hid (Hfa.out.below hb)
                          replace Hfb := Lib.hid (Hfb.out.below hb)
                          replace Hfc := Lib.hid (Hfc.out.below hb)
                          replace S := Lib.hid (S.out.call hb)
                          clear hb
                          go_wp2_with fail
                          go_ret
                          exact ⟨rfl, S.out.bel⟩
                        · have hom := more_open3 HVM.out hdm
                          have HOM := Lib.hid hom
                          have HRM := Lib.hid (tr_range (ends_true hom).1).2
                          have HLM := Lib.hid (show (lowL (addS u s)).length = t.ws.length by have := (tr_range (ends_true hom).1).1; have := HWL.out; have : (addS u s).wells = u.wells := rfl; omega)
                          have HWM := Lib.hid (show ∀ i, i < t.ws.length → (lowL u).getD i 0 ≤ (lowL (addS u s)).getD i 0 from fun i hi => low_more HOP.out hom (by have := HWL.out; omega))
                          clear hom
                          have q_m0 := S.out.get 0 0 rfl rfl
                          have q_m1 := S.out.get 0 1 rfl rfl
                          have q_m2 := S.out.get 0 2 rfl rfl
                          go_wp2_with fail
                          refine (lowest_any _ (addS u s) _ ⟨_, _, rfl, S.out.row 1 rfl, S.out.row 2 rfl⟩).mono ?_
                          rintro e w22 ⟨vlm, rfl, hl, hb⟩
                          rw [(endsP_zero HOM.out).1] at hl ⊢
                          obtain ⟨Alm, clm, rfl, -, -, -⟩ := id hl.open_
                          have Hlm := Lib.hid hl
                          clear hl
                          replace Hlo := Lib.hid (Hlo.out.below hb)
                          replace Hhi := Lib.hid (Hhi.out.below hb)
                          replace Hfa := Lib.hid (Hfa.out.below hb)
                          replace Hfb := Lib.hid (Hfb.out.below hb)
                          replace Hfc := Lib.hid (Hfc.out.below hb)
                          replace S := Lib.hid (S.out.call hb)
                          clear hb
                          clear q_m0 q_m1 q_m2
                          have q_t0 := S.out.get 11 0 rfl rfl
                          have q_t1 := S.out.get 11 1 rfl rfl
                          have q_t2 := S.out.get 11 2 rfl rfl
                          have q_x0 := S.out.get 9 0 rfl rfl
                          have q_x1 := S.out.get 9 1 rfl rfl
                          go_wp2_with fail
                          clear hdm
                          refine (filled_any _ _ t (lowL (addS u s)) ft _ ⟨_, _, _, rfl, HT1.out.below S.out.bel, HT2.out.below S.out.bel, HT3.out.below S.out.bel⟩ Hlm.out HLM.out (by have := (bVal_spec HVT.out).1; omega) (by have := (bVal_spec HVT.out).2.1; omega) (by have := HY12.out; omega) HRM.out (inR_iff.1 HFT.out).1 (inR_iff.1 HFT.out).2).mono ?_
                          rintro e w23 ⟨vfd, rfl, hv, hb⟩
                          obtain ⟨x1, x2, x3, rfl, k1, k2, k3⟩ := id hv
                          obtain ⟨Bfd1, bfd1, rfl, -, -, -⟩ := id k1.open_
                          obtain ⟨Bfd2, bfd2, rfl, -, -, -⟩ := id k2.open_
                          obtain ⟨Bfd3, bfd3, rfl, -, -, -⟩ := id k3.open_
                          have Hfd := Lib.hid hv
                          clear hv k1 k2 k3
                          replace Hlo := Lib.hid (Hlo.out.below hb)
                          replace Hhi := Lib.hid (Hhi.out.below hb)
                          replace Hfa := Lib.hid (Hfa.out.below hb)
                          replace Hfb := Lib.hid (Hfb.out.below hb)
                          replace Hfc := Lib.hid (Hfc.out.below hb)
                          replace Hlm := Lib.hid (Hlm.out.below hb)
                          replace S := Lib.hid (S.out.call hb)
                          clear hb
                          clear q_t0 q_t1 q_t2 q_x0 q_x1
                          replace Hlo := Lib.hid (Hlo.out.below ((Below.refl _ _).alloc (Nat.le_refl _) (.cells #[.slice Bfd1 (fillT t (lowL (addS u s)) ft).hs.length bfd1, .slice Bfd2 (fillT t (lowL (addS u s)) ft).ws.length bfd2, .slice Bfd3 (fillT t (lowL (addS u s)) ft).ys.length bfd3] 62)))
                          replace Hhi := Lib.hid (Hhi.out.below ((Below.refl _ _).alloc (Nat.le_refl _) (.cells #[.slice Bfd1 (fillT t (lowL (addS u s)) ft).hs.length bfd1, .slice Bfd2 (fillT t (lowL (addS u s)) ft).ws.length bfd2, .slice Bfd3 (fillT t (lowL (addS u s)) ft).ys.length bfd3] 62)))
                          replace Hfa := Lib.hid (Hfa.out.below ((Below.refl _ _).alloc (Nat.le_refl _) (.cells #[.slice Bfd1 (fillT t (lowL (addS u s)) ft).hs.length bfd1, .slice Bfd2 (fillT t (lowL (addS u s)) ft).ws.length bfd2, .slice Bfd3 (fillT t (lowL (addS u s)) ft).ys.length bfd3] 62)))
                          replace Hfb := Lib.hid (Hfb.out.below ((Below.refl _ _).alloc (Nat.le_refl _) (.cells #[.slice Bfd1 (fillT t (lowL (addS u s)) ft).hs.length bfd1, .slice Bfd2 (fillT t (lowL (addS u s)) ft).ws.length bfd2, .slice Bfd3 (fillT t (lowL (addS u s)) ft).ys.length bfd3] 62)))
                          replace Hfc := Lib.hid (Hfc.out.below ((Below.refl _ _).alloc (Nat.le_refl _) (.cells #[.slice Bfd1 (fillT t (lowL (addS u s)) ft).hs.length bfd1, .slice Bfd2 (fillT t (lowL (addS u s)) ft).ws.length bfd2, .slice Bfd3 (fillT t (lowL (addS u s)) ft).ys.length bfd3] 62)))
                          replace Hlm := Lib.hid (Hlm.out.below ((Below.refl _ _).alloc (Nat.le_refl _) (.cells #[.slice Bfd1 (fillT t (lowL (addS u s)) ft).hs.length bfd1, .slice Bfd2 (fillT t (lowL (addS u s)) ft).ws.length bfd2, .slice Bfd3 (fillT t (lowL (addS u s)) ft).ys.length bfd3] 62)))
                          replace Hfd := Lib.hid (Hfd.out.below ((Below.refl _ _).alloc (Nat.le_refl _) (.cells #[.slice Bfd1 (fillT t (lowL (addS u s)) ft).hs.length bfd1, .slice Bfd2 (fillT t (lowL (addS u s)) ft).ws.length bfd2, .slice Bfd3 (fillT t (lowL (addS u s)) ft).ys.length bfd3] 62)))
                          replace S := Lib.hid (S.out.alloc [.slice Bfd1 (fillT t (lowL (addS u s)) ft).hs.length bfd1, .slice Bfd2 (fillT t (lowL (addS u s)) ft).ws.length bfd2, .slice Bfd3 (fillT t (lowL (addS u s)) ft).ys.length bfd3] 62)
                          have q_d0 := S.out.get 0 0 rfl rfl
                          have q_d1 := S.out.get 0 1 rfl rfl
                          have q_d2 := S.out.get 0 2 rfl rfl
                          go_wp2_with fail
                          refine (far3_any _ (fillT t (lowL (addS u s)) ft) _ Hfd.out).mono ?_
                          rintro e w24 ⟨rfl | ⟨hfd, rfl⟩, hb⟩
                          · replace Hlo := Lib.hid (Hlo.out.below hb)
                            replace Hhi := Lib.hid (Hhi.out.below hb)
                            replace Hfa := Lib.hid (Hfa.out.below hb)
                            replace Hfb := Lib.hid (Hfb.out.below hb)
                            replace Hfc := Lib.hid (Hfc.out.below hb)
                            replace Hlm := Lib.hid (Hlm.out.below hb)
                            replace Hfd := Lib.hid (Hfd.out.below hb)
                            replace S := Lib.hid (S.out.call hb)
                            clear hb
                            clear q_d0 q_d1 q_d2
                            go_wp2_with fail
                            refine (drawn_any _ (HN.out.below S.out.bel)).mono ?_
                            rintro e w25 ⟨rfl, hb⟩
                            replace Hlo := Lib.hid (Hlo.out.below hb)
                            replace Hhi := Lib.hid (Hhi.out.below hb)
                            replace Hfa := Lib.hid (Hfa.out.below hb)
                            replace Hfb := Lib.hid (Hfb.out.below hb)
                            replace Hfc := Lib.hid (Hfc.out.below hb)
                            replace Hlm := Lib.hid (Hlm.out.below hb)
                            replace Hfd := Lib.hid (Hfd.out.below hb)
                            replace S := Lib.hid (S.out.call hb)
                            clear hb
                            go_wp2_with fail
                            go_ret
                            exact ⟨rfl, S.out.bel⟩
                          · replace Hlo := Lib.hid (Hlo.out.below hb)
                            replace Hhi := Lib.hid (Hhi.out.below hb)
                            replace Hfa := Lib.hid (Hfa.out.below hb)
                            replace Hfb := Lib.hid (Hfb.out.below hb)
                            replace Hfc := Lib.hid (Hfc.out.below hb)
                            replace Hlm := Lib.hid (Hlm.out.below hb)
                            replace Hfd := Lib.hid (Hfd.out.below hb)
                            replace S := Lib.hid (S.out.call hb)
                            clear hb
                            clear q_d0 q_d1 q_d2
                            have HFD := Lib.hid hfd
                            clear hfd
                            have q_d0 := S.out.get 0 0 rfl rfl
                            have q_d1 := S.out.get 0 1 rfl rfl
                            have q_d2 := S.out.get 0 2 rfl rfl
                            go_wp2_with fail
                            refine (lacksK_any _ (fillT t (lowL (addS u s)) ft) _ Hfd.out (HN.out.below S.out.bel) (fill_val HVT.out HLM.out HRM.out (inR_iff.1 HFT.out).1) (by show t.ys.length ≤ 12; exact HY12.out)).mono ?_
                            rintro e w25 ⟨vkd, dkd, rfl, ho, hd, hb⟩
                            obtain ⟨kkd, hk⟩ : ∃ x, descL (Bk.lacksL (fillT t (lowL (addS u s)) ft).bt dkd) = x := ⟨_, rfl⟩
                            have hkl : kkd.length = t.hs.length := by rw [← hk, descL_len]; simp [Bk.lacksL]; rfl
                            rw [hk] at ho
                            replace ho : w25.ownsRow _ 3 1 vkd t.hs.length (kkd.map I) := ho
                            obtain ⟨Akd, ckd, rfl⟩ := own_shape ho
                            have HEkd := Lib.hid hk
                            have HBkd := Lib.hid hd
                            have HKkd := Lib.hid hkl
                            replace Hlo := Lib.hid (Hlo.out.below hb)
                            replace Hhi := Lib.hid (Hhi.out.below hb)
                            replace Hfa := Lib.hid (Hfa.out.below hb)
                            replace Hfb := Lib.hid (Hfb.out.below hb)
                            replace Hfc := Lib.hid (Hfc.out.below hb)
                            replace Hlm := Lib.hid (Hlm.out.below hb)
                            replace Hfd := Lib.hid (Hfd.out.below hb)
                            replace S := Lib.hid (S.out.take hb ho)
                            clear hk hkl hd hb ho
                            clear q_d0 q_d1 q_d2
                            go_wp2_with fail
                            refine (earlier_any _ _ kka kkd _ (S.out.ints 7 rfl) (S.out.ints 0 rfl) (by have := HKka.out; have := (bVal_spec HVT.out).1; omega) (by have := HKkd.out; have := (bVal_spec HVT.out).1; omega)).mono ?_
                            rintro e w26 ⟨rfl, hb⟩
                            rw [show earlierL kka kkd = false from by rw [← HEka.out, ← HEkd.out]; exact drawn_said HVT.out HL1.out HLM.out (inR_iff.1 HFT.out).1 (fun x hx => (HR1.out x hx).1) HWM.out HBka.out HBkd.out]
                            replace Hlo := Lib.hid (Hlo.out.below hb)
                            replace Hhi := Lib.hid (Hhi.out.below hb)
                            replace Hfa := Lib.hid (Hfa.out.below hb)
                            replace Hfb := Lib.hid (Hfb.out.below hb)
                            replace Hfc := Lib.hid (Hfc.out.below hb)
                            replace Hlm := Lib.hid (Hlm.out.below hb)
                            replace Hfd := Lib.hid (Hfd.out.below hb)
                            replace S := Lib.hid (S.out.call hb)
                            clear hb
                            go_wp2_with fail
                            refine (drawn_any _ (HN.out.below S.out.bel)).mono ?_
                            rintro e w27 ⟨rfl, hb⟩
                            replace Hlo := Lib.hid (Hlo.out.below hb)
                            replace Hhi := Lib.hid (Hhi.out.below hb)
                            replace Hfa := Lib.hid (Hfa.out.below hb)
                            replace Hfb := Lib.hid (Hfb.out.below hb)
                            replace Hfc := Lib.hid (Hfc.out.below hb)
                            replace Hlm := Lib.hid (Hlm.out.below hb)
                            replace Hfd := Lib.hid (Hfd.out.below hb)
                            replace S := Lib.hid (S.out.call hb)
                            clear hb
                            go_wp2_with fail
                            go_ret
                            exact ⟨rfl, S.out.bel⟩
                    · go_wp2_with fail
                      refine (drawn_any _ (HN.out.below S.out.bel)).mono ?_
                      rintro e w20 ⟨rfl, hb⟩
                      replace Hlo := Lib.hid (Hlo.out.below hb)
                      replace Hhi := Lib.hid (Hhi.out.below hb)
                      replace Hfa := Lib.hid (Hfa.out.below hb)
                      replace Hfb := Lib.hid (Hfb.out.below hb)
                      replace Hfc := Lib.hid (Hfc.out.below hb)
                      replace S := Lib.hid (S.out.call hb)
                      clear hb
                      go_wp2_with fail
                      go_ret
                      exact ⟨rfl, S.out.bel⟩
              · have hln' : (40 : Int) < (l.length : Int) := by omega
                clear hln
                have q_x0 := S.out.get 0 0 rfl rfl
                go_wp2_with fail
                refine (drawn_any _ (HN.out.below S.out.bel)).mono ?_
                rintro e w6 ⟨rfl, hb⟩
                replace S := Lib.hid (S.out.call hb)
                clear hb
                clear q_x0
                go_wp2_with fail
                go_ret
                exact ⟨rfl, S.out.bel⟩
          · have q_w0 := S.out.get 1 0 rfl rfl
            have q_t1 := S.out.get 2 1 rfl rfl
            go_wp2_with fail
            refine (drawn_any _ (HN.out.below S.out.bel)).mono ?_
            rintro e w5 ⟨rfl, hb⟩
            replace S := Lib.hid (S.out.call hb)
            clear hb
            clear q_w0 q_t1
            go_wp2_with fail
            go_ret
            exact ⟨rfl, S.out.bel⟩
      · go_wp2_with fail
        refine (drawn_any _ (HN.out.below S.out.bel)).mono ?_
        rintro e w4 ⟨rfl, hb⟩
        replace S := Lib.hid (S.out.call hb)
        clear hb
        go_wp2_with fail
        go_ret
        exact ⟨rfl, S.out.bel⟩

end Go.Proofs.YtldcehhhndlhdaaDoor
