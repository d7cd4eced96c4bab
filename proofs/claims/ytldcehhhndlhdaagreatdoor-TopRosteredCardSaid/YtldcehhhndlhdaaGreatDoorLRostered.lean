/- The law TopRostered walked. -/
import Derived.Test.YtldcehhhndlhdaaGreatDoorC30
import Derived.Test.YtldcehhhndlhdaaGreatDoorC31
import Derived.Test.YtldcehhhndlhdaaGreatDoorC32
import Derived.Test.YtldcehhhndlhdaaGreatDoorC17
namespace Go.Proofs.YtldcehhhndlhdaaGreatDoor
open Go.RowKit Go.Sort Go.Shelf

set_option maxRecDepth 20000 in
set_option maxHeartbeats 8000000 in
theorem topRostered_any (v : Value) (r : Hr.Ros) (w : World) (hv : Hr.RosAt w v r) (hN : NnAt w) (hT : TzAt w) :
    Calls Tryz.prog 3 #[v] w fun e w' => e = .returned (.bool true) ∧ Below w.heap.size w w' := by
  obtain ⟨rv, sv, rfl, hr1, hr2⟩ := hv
  obtain ⟨A1, c1, rfl, -, -, hcr⟩ := hr1.open_
  obtain ⟨A2, c2, rfl, -, -, -⟩ := id hr2.open_
  have HR1 := Lib.hid hr1
  have HR2 := Lib.hid hr2
  have HCR := Lib.hid hcr
  have HN := Lib.hid hN
  have HT := Lib.hid hT
  clear hr1 hr2 hcr hN hT
  have S := Lib.hid ((St.init w).alloc [.slice A1 r.room.length c1, .slice A2 r.strs.length c2] 25)
  go_enter Tryz.func3, Tryz.ntmps3
  have q_r0 := S.out.get 0 0 rfl rfl
  have q_r1 := S.out.get 0 1 rfl rfl
  go_wp2_with fail
  refine (Hr.lFar_any _ r _ ⟨_, _, rfl, HR1.out.below S.out.bel, HR2.out.below S.out.bel⟩).mono ?_
  rintro e w1 ⟨⟨b, rfl, -⟩, hb⟩
  replace S := Lib.hid (S.out.call hb)
  clear hb
  cases b
  · clear q_r0 q_r1
    have q_r0 := S.out.get 0 0 rfl rfl
    have q_r1 := S.out.get 0 1 rfl rfl
    go_wp2_with fail
    refine (Hr.rCheck_any _ r _ ⟨_, _, rfl, HR1.out.below S.out.bel, HR2.out.below S.out.bel⟩).mono ?_
    rintro e w2 ⟨rfl, hb⟩
    replace S := Lib.hid (S.out.call hb)
    clear hb
    clear q_r0 q_r1
    cases hvr : Hr.valid r
    · rw [show Hr.chk r = 80 from by simp [Hr.chk, hvr]]
      go_wp2_with fail
      refine (rostered_any _ (HT.out.below S.out.bel)).mono ?_
      rintro e w3 ⟨rfl, hb⟩
      replace S := Lib.hid (S.out.call hb)
      clear hb
      go_wp2_with fail
      go_ret
      exact ⟨rfl, S.out.bel⟩
    · rw [show Hr.chk r = 0 from by simp [Hr.chk, hvr]]
      have hro := Hr.valid_iff.1 hvr
      have HRO := Lib.hid hro
      clear hro hvr
      have q_r0 := S.out.get 0 0 rfl rfl
      have q_r1 := S.out.get 0 1 rfl rfl
      go_wp2_with fail
      refine (streets_any _ r _ ⟨_, _, rfl, HR1.out.below S.out.bel, HR2.out.below S.out.bel⟩ HRO.out).mono ?_
      rintro e w3 ⟨v', rfl, hbt, hb⟩
      obtain ⟨x1, x2, x3, rfl, k1, k2, k3⟩ := id hbt
      obtain ⟨B1, d1, rfl, -, -, -⟩ := id k1.open_
      obtain ⟨B2, d2, rfl, -, -, -⟩ := id k2.open_
      obtain ⟨B3, d3, rfl, -, -, -⟩ := id k3.open_
      have HBT := Lib.hid hbt
      clear hbt k1 k2 k3
      replace S := Lib.hid (S.out.call hb)
      clear hb
      clear q_r0 q_r1
      replace HBT := Lib.hid (HBT.out.below ((Below.refl _ _).alloc (Nat.le_refl _) (.cells #[.slice B1 (streetsT r).hs.length d1, .slice B2 (streetsT r).ws.length d2, .slice B3 (streetsT r).ys.length d3] 32)))
      replace S := Lib.hid (S.out.alloc [.slice B1 (streetsT r).hs.length d1, .slice B2 (streetsT r).ws.length d2, .slice B3 (streetsT r).ys.length d3] 32)
      have q_t0 := S.out.get 0 0 rfl rfl
      have q_t1 := S.out.get 0 1 rfl rfl
      have q_t2 := S.out.get 0 2 rfl rfl
      go_wp2_with fail
      refine (rCheck3_any _ (streetsT r) _ HBT.out).mono ?_
      rintro e w4 ⟨rfl, hb⟩
      replace HBT := Lib.hid (HBT.out.below hb)
      replace S := Lib.hid (S.out.call hb)
      clear hb
      clear q_t0 q_t1 q_t2
      cases hvt : bValid (streetsT r)
      · rw [show bChk (streetsT r) = 30 from by simp [bChk, hvt]]
        go_wp2_with fail
        refine (rostered_any _ (HT.out.below S.out.bel)).mono ?_
        rintro e w5 ⟨rfl, hb⟩
        replace HBT := Lib.hid (HBT.out.below hb)
        replace S := Lib.hid (S.out.call hb)
        clear hb
        go_wp2_with fail
        go_ret
        exact ⟨rfl, S.out.bel⟩
      · rw [show bChk (streetsT r) = 0 from by simp [bChk, hvt]]
        have HVT := Lib.hid (bValid_spec hvt).2
        have HY12 := Lib.hid (bValid_spec hvt).1
        clear hvt
        have q_t0 := S.out.get 0 0 rfl rfl
        have q_t1 := S.out.get 0 1 rfl rfl
        have q_t2 := S.out.get 0 2 rfl rfl
        go_wp2_with fail
        refine (far3_any _ (streetsT r) _ HBT.out).mono ?_
        rintro e w5 ⟨rfl | ⟨hf3, rfl⟩, hb⟩
        · replace HBT := Lib.hid (HBT.out.below hb)
          replace S := Lib.hid (S.out.call hb)
          clear hb
          clear q_t0 q_t1 q_t2
          go_wp2_with fail
          refine (rostered_any _ (HT.out.below S.out.bel)).mono ?_
          rintro e w6 ⟨rfl, hb⟩
          replace HBT := Lib.hid (HBT.out.below hb)
          replace S := Lib.hid (S.out.call hb)
          clear hb
          go_wp2_with fail
          go_ret
          exact ⟨rfl, S.out.bel⟩
        · clear hf3
          replace HBT := Lib.hid (HBT.out.below hb)
          replace S := Lib.hid (S.out.call hb)
          clear hb
          clear q_t0 q_t1 q_t2
          have q_r0 := S.out.get 1 0 rfl rfl
          have q_r1 := S.out.get 1 1 rfl rfl
          go_wp2_with fail
          cases hs : Hr.someR r
          · have hns := (Hr.none_said HRO.out hs).1
            refine (Hr.pRoster_any _ r _ ⟨_, _, rfl, HR1.out.below S.out.bel, HR2.out.below S.out.bel⟩).mono ?_
            rintro e w6 ⟨v', rfl, ho, hb⟩
            rw [hns] at ho ⊢
            obtain ⟨Al, cl, rfl⟩ := own_shape ho
            replace HBT := Lib.hid (HBT.out.below hb)
            replace S := Lib.hid (S.out.take hb ho)
            clear hb ho
            clear q_r0 q_r1
            clear hns
            have HS := Lib.hid hs
            clear hs
            have q_t0 := S.out.get 1 0 rfl rfl
            have q_t1 := S.out.get 1 1 rfl rfl
            have q_t2 := S.out.get 1 2 rfl rfl
            go_wp2_with fail
            refine (worst_any _ (streetsT r) _ HBT.out (HN.out.below S.out.bel) HVT.out HY12.out).mono ?_
            rintro e w7 ⟨d, rfl, hd, hb⟩
            obtain ⟨wn, hwn⟩ : ∃ x, (descL (Bk.lacksL (streetsT r).bt d)).getD 0 0 = x := ⟨_, rfl⟩
            have hw0 : (wn == 0) = false := by
              rw [beq_eq_false_iff_ne]
              intro h0
              have := (worst_iff HRO.out HVT.out hd).1 (by rw [hwn]; exact h0)
              rw [HS.out] at this
              exact absurd this (by simp)
            rw [hwn]
            clear hwn hd
            replace HBT := Lib.hid (HBT.out.below hb)
            replace S := Lib.hid (S.out.call hb)
            clear hb
            clear q_t0 q_t1 q_t2
            have q_t0 := S.out.get 1 0 rfl rfl
            have q_t1 := S.out.get 1 1 rfl rfl
            have q_t2 := S.out.get 1 2 rfl rfl
            go_wp2_with fail
            refine (short_any _ (streetsT r) _ HBT.out HVT.out HY12.out (HT.out.below S.out.bel)).mono ?_
            rintro e w8 hrs
            obtain ⟨bg, hbg⟩ : ∃ b, bestTo (streetsT r) (2 ^ (streetsT r).hs.length) = some b := by
              cases hx : bestTo (streetsT r) (2 ^ (streetsT r).hs.length) with
              | some b => exact ⟨b, rfl⟩
              | none =>
                have := (short_iff HRO.out HVT.out).1 hx
                rw [HS.out] at this
                exact absurd this (by simp)
            rw [hbg] at hrs
            obtain ⟨⟨v, rfl, -, Bg, cg, rfl, -⟩, hb⟩ := hrs
            clear hbg
            replace HBT := Lib.hid (HBT.out.below hb)
            replace S := Lib.hid (S.out.call hb)
            clear hb
            clear q_t0 q_t1 q_t2
            have q_r0 := S.out.get 2 0 rfl rfl
            have q_r1 := S.out.get 2 1 rfl rfl
            go_wp2_with fail
            refine (Hr.lack_any _ r _ ⟨_, _, rfl, HR1.out.below S.out.bel, HR2.out.below S.out.bel⟩).mono ?_
            rintro e w9 ⟨⟨⟨⟨x1, x2⟩, z⟩, hres, rfl⟩, hb⟩
            have hz := lack_code HRO.out hres
            rw [HS.out] at hz
            replace hz : z = 0 := hz
            subst hz
            clear hres
            replace HBT := Lib.hid (HBT.out.below hb)
            replace S := Lib.hid (S.out.call hb)
            clear hb
            clear q_r0 q_r1
            replace HBT := Lib.hid (HBT.out.below ((Below.refl _ _).alloc (Nat.le_refl _) (.cells #[I x1, I x2] 42)))
            replace S := Lib.hid (S.out.alloc [I x1, I x2] 42)
            have q_t0 := S.out.get 2 0 rfl rfl
            have q_t1 := S.out.get 2 1 rfl rfl
            have q_t2 := S.out.get 2 2 rfl rfl
            go_wp2_with fail
            refine (helps_any _ (streetsT r) _ HBT.out (HN.out.below S.out.bel) HVT.out HY12.out (fun x hx => by have := (HRO.out.rm x hx).2; omega)).mono ?_
            rintro e w10 ⟨v', L, rfl, hi, ⟨hlen, hmem⟩, hb⟩
            obtain ⟨AL, cL, rfl, -, -, -⟩ := id hi.open_
            have HLI := Lib.hid hi
            have HMEM := Lib.hid hmem
            have hgt : ((streetsT r).ws.length < L.length) = False := eq_false (by omega)
            replace HBT := Lib.hid (HBT.out.below hb)
            replace S := Lib.hid (S.out.call hb)
            clear hb hi hmem hlen
            clear q_t0 q_t1 q_t2
            have q_t1 := S.out.get 2 1 rfl rfl
            go_wp2_with fail
            clear q_t1
            clear hgt
            have HBW := Lib.hid S.out.bel
            have HX0 := Lib.hid (S.out.get 3 0 rfl rfl)
            have HX1 := Lib.hid (S.out.get 3 1 rfl rfl)
            clear S
            have hrl := HRO.out.rl
            have hsl := HRO.out.sl
            go_loopw [20] (fun i wr => ∃ k : Nat, k ≤ r.room.length ∧ i = I k ∧ Hid (Below w10.heap.size w10 wr)) (fun i _ => r.room.length - (intOf i).toNat)
            case atStart => exact ⟨0, by omega, rfl, Lib.hid (Below.refl _ _)⟩
            case round =>
              obtain ⟨k, hk, rfl, HB⟩ := hrel
              have q0 := keep_cell HB.out HX0.out
              have q1 := keep_cell HB.out HX1.out
              by_cases hlt : k < r.room.length
              · have hki : (k : Int) < (r.room.length : Int) := by omega
                obtain ⟨b, o, rfl, hbl, hcell⟩ := HCR.out (by omega)
                have x0 := keep_cell (bto HBW.out HB.out) (hcell k hlt)
                have h06 := HRO.out.rm _ (List.getElem_mem hlt)
                obtain ⟨y, hy⟩ : ∃ y, r.room[k] = y := ⟨_, rfl⟩
                rw [hy] at x0 h06
                have HY := Lib.hid hy
                clear hcell hbl hy
                by_cases h6 : y = 6
                · have h6b : (y == 6) = true := by simp [h6]
                  go_wp2_with fail
                  go_roundw
                  case rel => exact ⟨k + 1, by omega, by go_num, HB⟩
                  case measure => first | (simp [intOf]; done) | (simp [intOf]; omega)
                · have h6b : (y == 6) = false := by rw [beq_eq_false_iff_ne]; exact h6
                  have H6 := Lib.hid (show r.room[k] ≠ 6 by rw [HY.out]; exact h6)
                  clear h6
                  go_wp2_with fail
                  refine (Hr.roomier_any _ r k 1 _ ⟨_, _, rfl, HR1.out.below (bto HBW.out HB.out), HR2.out.below (bto HBW.out HB.out)⟩ (by omega) (by omega) hlt (by omega) (fun x hx => by have := HRO.out.rm x hx; omega)).mono ?_
                  rintro e wa ⟨v', rfl, hown, hb⟩
                  have hros := hown.ros
                  obtain ⟨rv', sv', rfl, o1, o2⟩ := hown
                  obtain ⟨E1, g1, rfl⟩ := own_shape o1
                  obtain ⟨E2, g2, rfl⟩ := own_shape o2
                  replace HB := Lib.hid (bto HB.out hb)
                  clear hb o1 o2 q0 q1 x0
                  have hro2 := Hr.roomier_ok HRO.out hlt H6.out
                  have hcode := roster_code hro2
                  go_wp2_with fail
                  refine (Hr.pRoster_any _ (Hr.roomier r k 1) _ hros).mono ?_
                  rintro e wb ⟨v2, rfl, ho, hb⟩
                  obtain ⟨E3, g3, rfl⟩ := own_shape ho
                  replace HB := Lib.hid (bto HB.out hb)
                  clear hb ho hros hro2
                  cases hs2 : Hr.someR (Hr.roomier r k 1)
                  · rw [hs2] at hcode
                    replace hcode : (Hr.rosterR (Hr.roomier r k 1)).2 = 3 := hcode
                    rw [hcode]
                    clear hcode hs2
                    go_wp2_with fail
                    go_roundw
                    case rel => exact ⟨k + 1, by omega, by go_num, HB⟩
                    case measure => first | (simp [intOf]; done) | (simp [intOf]; omega)
                  · rw [hs2] at hcode
                    replace hcode : (Hr.rosterR (Hr.roomier r k 1)).2 = 0 := hcode
                    rw [hcode]
                    have hin : (k : Int) ∈ L := HMEM.out k hlt (fun d e' hd he => helps_said HRO.out HVT.out HS.out hlt H6.out hs2 hd he)
                    have HIN := Lib.hid hin
                    clear hcode hs2 hin
                    go_wp2_with fail
                    refine (in_any _ L (k : Int) _ (HLI.out.below HB.out)).mono ?_
                    rintro e wc ⟨rfl, hb⟩
                    rw [decide_eq_true HIN.out]
                    replace HB := Lib.hid (bto HB.out hb)
                    clear hb
                    go_wp2_with fail
                    go_roundw
                    case rel => exact ⟨k + 1, by omega, by go_num, HB⟩
                    case measure => first | (simp [intOf]; done) | (simp [intOf]; omega)
              · obtain rfl : k = r.room.length := by omega
                have hki : ¬ ((r.room.length : Int) < (r.room.length : Int)) := by omega
                clear hlt
                go_wp2_with fail
                refine (rostered_any _ (HT.out.below (bto HBW.out HB.out))).mono ?_
                rintro e wz ⟨rfl, hb⟩
                go_wp2_with fail
                go_ret
                exact ⟨rfl, bto (bto HBW.out HB.out) hb⟩
          · obtain ⟨l, hl, hln, -⟩ := Hr.roster_said HRO.out hs
            have HL := Lib.hid hln
            clear hln
            refine (Hr.pRoster_any _ r _ ⟨_, _, rfl, HR1.out.below S.out.bel, HR2.out.below S.out.bel⟩).mono ?_
            rintro e w6 ⟨v', rfl, ho, hb⟩
            rw [hl] at ho ⊢
            obtain ⟨Al, cl, rfl⟩ := own_shape ho
            replace HBT := Lib.hid (HBT.out.below hb)
            replace S := Lib.hid (S.out.take hb ho)
            clear hb ho
            clear q_r0 q_r1
            clear hl
            have HS := Lib.hid hs
            clear hs
            have q_t0 := S.out.get 1 0 rfl rfl
            have q_t1 := S.out.get 1 1 rfl rfl
            have q_t2 := S.out.get 1 2 rfl rfl
            go_wp2_with fail
            refine (worst_any _ (streetsT r) _ HBT.out (HN.out.below S.out.bel) HVT.out HY12.out).mono ?_
            rintro e w7 ⟨d, rfl, hd, hb⟩
            rw [(worst_iff HRO.out HVT.out hd).2 HS.out]
            clear hd
            replace HBT := Lib.hid (HBT.out.below hb)
            replace S := Lib.hid (S.out.call hb)
            clear hb
            clear q_t0 q_t1 q_t2
            have q_t0 := S.out.get 1 0 rfl rfl
            have q_t1 := S.out.get 1 1 rfl rfl
            have q_t2 := S.out.get 1 2 rfl rfl
            go_wp2_with fail
            refine (short_any _ (streetsT r) _ HBT.out HVT.out HY12.out (HT.out.below S.out.bel)).mono ?_
            rintro e w8 hrs
            rw [(short_iff HRO.out HVT.out).2 HS.out] at hrs
            obtain ⟨⟨v, rfl, hvv⟩, hb⟩ := hrs
            obtain rfl : v = .slice none 0 0 := hvv
            replace HBT := Lib.hid (HBT.out.below hb)
            replace S := Lib.hid (S.out.call hb)
            clear hb
            clear q_t0 q_t1 q_t2
            have q_r0 := S.out.get 2 0 rfl rfl
            have q_r1 := S.out.get 2 1 rfl rfl
            go_wp2_with fail
            refine (Hr.lack_any _ r _ ⟨_, _, rfl, HR1.out.below S.out.bel, HR2.out.below S.out.bel⟩).mono ?_
            rintro e w9 ⟨⟨⟨⟨x1, x2⟩, z⟩, hres, rfl⟩, hb⟩
            have hz := lack_code HRO.out hres
            rw [HS.out] at hz
            replace hz : z = 3 := hz
            subst hz
            clear hres
            replace HBT := Lib.hid (HBT.out.below hb)
            replace S := Lib.hid (S.out.call hb)
            clear hb
            clear q_r0 q_r1
            replace HBT := Lib.hid (HBT.out.below ((Below.refl _ _).alloc (Nat.le_refl _) (.cells #[I x1, I x2] 42)))
            replace S := Lib.hid (S.out.alloc [I x1, I x2] 42)
            have q_r0 := S.out.get 3 0 rfl rfl
            have q_r1 := S.out.get 3 1 rfl rfl
            go_wp2_with fail
            refine (Hr.isNew_any _ _ r l _ ⟨_, _, rfl, HR1.out.below S.out.bel, HR2.out.below S.out.bel⟩ HRO.out (S.out.ints 1 rfl) (by have := (Hr.fit_iff.1 ((Hr.new_iff HRO.out).1 HL.out).1).1; have := HRO.out.sl; omega)).mono ?_
            rintro e w10 ⟨rfl, hb⟩
            rw [HL.out]
            replace HBT := Lib.hid (HBT.out.below hb)
            replace S := Lib.hid (S.out.call hb)
            clear hb
            clear q_r0 q_r1
            go_wp2_with fail
            obtain ⟨hfl, hfr⟩ := Hr.fit_iff.1 ((Hr.new_iff HRO.out).1 HL.out).1
            have HFL := Lib.hid hfl
            have hys12 := HY12.out
            have hsl := HRO.out.sl
            clear hfl hfr
            obtain ⟨i0, hi, hz0, hz1, hz2⟩ := info_parts Tryz.info3
            have h02 : 0 < 1 := by decide
            have HBW := Lib.hid S.out.bel
            have HLI := Lib.hid (S.out.ints 1 rfl)
            have HX0 := Lib.hid (S.out.get 2 0 rfl rfl)
            have HX1 := Lib.hid (S.out.get 2 1 rfl rfl)
            have HX2 := Lib.hid (S.out.get 2 2 rfl rfl)
            obtain ⟨_, _, el, -, -, hcl⟩ := HLI.out.open_
            injection el with ela elb elc
            subst ela
            have HCL := Lib.hid hcl
            have hsps : Sps w10 (.slice B3 (streetsT r).ys.length d3) (streetsT r).ys := by
              obtain ⟨y1, y2, y3, ey, k1, k2, k3⟩ := HBT.out
              injection ey with ey
              have e2 := congrArg (·[2]?) ey
              simp at e2
              rw [e2]
              exact k3
            obtain ⟨_, _, e3, -, -, hcy⟩ := hsps.open_
            injection e3 with e3a e3b e3c
            subst e3a
            have HCY := Lib.hid hcy
            clear hcy hcl elb elc e3b e3c hsps
            clear S
            have S := Lib.hid ((St.init w10).nil 3 1)
            go_loopw [12, 13] (fun u i wr => ∃ (k : Nat) (A : Option Addr) (c : Nat), k ≤ (streetsT r).ys.length ∧ i = I k ∧ u = .slice A k c ∧ Hid (St w10 wr wr.heap.size [.own 3 1 (.slice A k c) k ((Bk.rowF k (Bk.pickD (streetsT r).bt l)).map I)])) (fun _ i _ => (streetsT r).ys.length - (intOf i).toNat)
            case atStart => exact ⟨0, none, 0, by omega, rfl, rfl, Lib.hid S.out.fix⟩
            case round =>
              clear S
              obtain ⟨k, A, c, hk, rfl, rfl, S⟩ := hrel
              by_cases hlt : k < (streetsT r).ys.length
              · have hki : (k : Int) < ((streetsT r).ys.length : Int) := by omega
                obtain ⟨a, x, hac, ha, hc⟩ := okY_nat HVT.out hlt
                have hpk := pick_at (l := l) HVT.out hlt
                rw [hac] at hpk
                dsimp only at hpk
                rw [Int.toNat_natCast] at hpk
                have hal : a < l.length := by
                  have h1 : a < (List.replicate r.strs.length (1 : Int)).length := ha
                  rw [List.length_replicate] at h1
                  have := HFL.out
                  omega
                have hai : (a : Int) < (l.length : Int) := by omega
                rw [List.getD_eq_getElem?_getD, List.getElem?_eq_getElem hal, Option.getD_some] at hpk
                obtain ⟨bl, ol, hBl, hbl, hcl⟩ := HCL.out (by omega)
                subst hBl
                obtain ⟨b3, o3, hB3, hb3, hcy⟩ := HCY.out (by omega)
                subst hB3
                have z0 := keep_cell S.out.bel (hcy k hlt).1
                have z1 := keep_cell S.out.bel (hcy k hlt).2
                rw [hac] at z0 z1
                dsimp only at z0 z1
                have y0 := keep_cell S.out.bel (hcl a hal)
                obtain ⟨la, hla⟩ : ∃ z, l[a] = z := ⟨_, rfl⟩
                rw [hla] at y0 hpk
                have q2 := keep_cell S.out.bel HX2.out
                clear hcy hb3 hac ha hc hla hcl hbl
                have HRF := Lib.hid (show Bk.rowF (k + 1) (Bk.pickD (streetsT r).bt l) = Bk.rowF k (Bk.pickD (streetsT r).bt l) ++ [(Bk.pickD (streetsT r).bt l) k] by unfold Bk.rowF; rw [List.range_succ, List.map_append]; rfl)
                have h63 : k + 1 ≤ maxLen := by simp only [maxLen]; omega
                have hby : (k + 1) * 8 ≤ 140737488355328 := by omega
                go_wp2_with fail
                have q2 := cell_regrown q2
                have y0 := cell_regrown y0
                have z0 := cell_regrown z0
                have z1 := cell_regrown z1
                refine wp_region_ext (by kernel_rfl) (by kernel_rfl) ?_
                repeat (first | go_big_quiet_step (fail) | quiet_step (fail))
                refine wpQuiet_nil ?_
                clear q2 y0 z0 z1
                intro wq hbq
                replace S := Lib.hid (S.out.call hbq)
                clear hbq
                by_cases hx : la = (x : Int)
                · have hxb : (la == (x : Int)) = true := by rw [hx]; simp
                  have HE := Lib.hid (show (Bk.pickD (streetsT r).bt l) k = 1 from by rw [hpk]; exact if_pos hx)
                  clear hpk
                  have T := Lib.hid (S.out.alloc [I 1] 3)
                  go_wp2_with (at_builtin; refine wpList_append_St T.out 1 rfl _ _ 22 rfl 3 i0 (.int .i64 0) 1 8 Tryz.underlying22 hi hz0 hz1 hz2 rfl h02 rfl rfl _ 1 [I 1] rfl (reads_box1 (T.out.get 0 0 rfl rfl)) (ints_one [(1 : Int)]) h63 hby ?_; intro v5 w5 hS5; obtain ⟨A', c', rfl⟩ := own_shape (hS5.own 1 rfl); have S := Lib.hid (hS5.fix.tail); clear hS5 T)
                  go_roundw
                  case rel => exact ⟨k + 1, A', c', by omega, by go_num, rfl, Lib.hid (by rw [HRF.out, HE.out, List.map_append]; exact S.out.fix)⟩
                  case measure => first | (simp [intOf]; done) | (simp [intOf]; omega)
                · have hxb : (la == (x : Int)) = false := by rw [beq_eq_false_iff_ne]; exact hx
                  have HE := Lib.hid (show (Bk.pickD (streetsT r).bt l) k = 0 from by rw [hpk]; exact if_neg hx)
                  clear hpk
                  have T := Lib.hid (S.out.alloc [I 0] 3)
                  go_wp2_with (at_builtin; refine wpList_append_St T.out 1 rfl _ _ 22 rfl 3 i0 (.int .i64 0) 1 8 Tryz.underlying22 hi hz0 hz1 hz2 rfl h02 rfl rfl _ 1 [I 0] rfl (reads_box1 (T.out.get 0 0 rfl rfl)) (ints_one [(0 : Int)]) h63 hby ?_; intro v5 w5 hS5; obtain ⟨A', c', rfl⟩ := own_shape (hS5.own 1 rfl); have S := Lib.hid (hS5.fix.tail); clear hS5 T)
                  go_roundw
                  case rel => exact ⟨k + 1, A', c', by omega, by go_num, rfl, Lib.hid (by rw [HRF.out, HE.out, List.map_append]; exact S.out.fix)⟩
                  case measure => first | (simp [intOf]; done) | (simp [intOf]; omega)
              · obtain rfl : k = (streetsT r).ys.length := by omega
                have hlt' : ¬ (((streetsT r).ys.length : Int) < ((streetsT r).ys.length : Int)) := by omega
                clear hlt
                have q0 := keep_cell S.out.bel HX0.out
                have q1 := keep_cell S.out.bel HX1.out
                have q2 := keep_cell S.out.bel HX2.out
                go_wp2_with fail
                obtain ⟨hdiv, hz⟩ := Bk.pick_div HRO.out (streets_rb HRO.out HVT.out) HL.out
                refine (good_any _ _ (streetsT r) (Bk.pickD (streetsT r).bt l) _ (HBT.out.below S.out.bel) HVT.out HY12.out hdiv (S.out.ints 0 rfl)).mono ?_
                rintro e wg ⟨v', rfl, ho, hb⟩
                have hz0 := (lacks_zero hdiv).2 hz
                have hzl := lacks_len (t := (streetsT r)) (d := (Bk.pickD (streetsT r).bt l))
                obtain ⟨gl, hgl⟩ : ∃ x, descL (Bk.lacksL (streetsT r).bt (Bk.pickD (streetsT r).bt l)) = x := ⟨_, rfl⟩
                rw [hgl] at ho hz0 hzl
                obtain ⟨Ag, cg, rfl⟩ := own_shape ho
                replace S := Lib.hid (S.out.take hb ho)
                clear hdiv hz hgl ho hb q0 q1 q2
                have q0 := keep_cell S.out.bel HX0.out
                by_cases hn0 : (streetsT r).hs.length = 0
                · have hnb : ((((streetsT r).hs.length : Int)) == 0) = true := by simp [hn0]
                  clear hn0 hz0 hzl
                  go_wp2_with fail
                  refine (rostered_any _ (HT.out.below (bto HBW.out S.out.bel))).mono ?_
                  rintro e wz ⟨rfl, hb⟩
                  go_wp2_with fail
                  go_ret
                  exact ⟨by simp, bto (bto HBW.out S.out.bel) hb⟩
                · have hnb : ((((streetsT r).hs.length : Int)) == 0) = false := by rw [beq_eq_false_iff_ne]; omega
                  obtain ⟨gg, hgg⟩ := own_some (S.out.own 0 rfl) (show 0 < (streetsT r).hs.length by omega)
                  subst hgg
                  have hg0 : 0 < gl.length := by omega
                  have y0 := own_cell (S.out.own 0 rfl) 0 0 (by
                    rw [List.getElem?_eq_getElem hg0]
                    rw [List.getD_eq_getElem?_getD, List.getElem?_eq_getElem hg0, Option.getD_some] at hz0
                    rw [hz0])
                  have hp0 : (0 : Int) < ((streetsT r).hs.length : Int) := by omega
                  clear hn0 hz0 hzl hg0
                  go_wp2_with fail
                  refine (rostered_any _ (HT.out.below (bto HBW.out S.out.bel))).mono ?_
                  rintro e wz ⟨rfl, hb⟩
                  go_wp2_with fail
                  go_ret
                  exact ⟨by simp, bto (bto HBW.out S.out.bel) hb⟩
  · clear q_r0 q_r1
    go_wp2_with fail
    refine (rostered_any _ (HT.out.below S.out.bel)).mono ?_
    rintro e w2 ⟨rfl, hb⟩
    replace S := Lib.hid (S.out.call hb)
    clear hb
    go_wp2_with fail
    go_ret
    exact ⟨rfl, S.out.bel⟩

end Go.Proofs.YtldcehhhndlhdaaGreatDoor
