/- HoursGive: the law walked. -/
import Derived.Test.YtokendenofbnhaaW22
import Derived.Test.YtokendenofbnhaaW25
import Derived.Test.YtokendenofbnhaaW26
import Derived.Test.YtokendenofbnhaaW20
import Derived.Test.YtokendenofbnhaaPlain13
namespace Go.Proofs.Ytokendenofbnhaa
open Go.RowKit Go.Sort

theorem count_take (l : List Int) (k : Nat) (g : Int) (h : k < l.length) : (l.take (k + 1)).count g = (l.take k).count g + if l[k] = g then 1 else 0 := by
  rw [List.take_succ_eq_append_getElem h, List.count_append, List.count_singleton]
  by_cases e : l[k] = g
  · simp [e]
  · simp [e]

set_option maxRecDepth 20000 in
set_option maxHeartbeats 4000000 in
theorem lawGive_any (v : Value) (r : Ros) (h : Int) (v2 : Value) (l : List Int) (w : World) (hv : RosAt w v r) (hl : Ints w v2 l) :
    Calls Try.prog 6 #[v, I h, v2] w fun e w' => e = .returned (.bool true) ∧ Below w.heap.size w w' := by
  obtain ⟨rv, sv, rfl, hr, hs⟩ := hv
  obtain ⟨A1, c1, rfl, hr1, hr2, -⟩ := hr.open_
  obtain ⟨A2, c2, rfl, hs1, hs2, -⟩ := hs.open_
  have HR := Lib.hid hr
  have HS := Lib.hid hs
  clear hr hs
  have S := Lib.hid (show St w (w.alloc (.cells #[.slice A1 r.room.length c1, .slice A2 r.strs.length c2] 25)) (w.heap.size + 1) [.box w.heap.size [.slice A1 r.room.length c1, .slice A2 r.strs.length c2]] from (St.init w).alloc [.slice A1 r.room.length c1, .slice A2 r.strs.length c2] 25)
  obtain ⟨Al, cl, rfl, hl1, hl2, hlc⟩ := id hl.open_
  have HL := Lib.hid hl
  have HLC := Lib.hid hlc
  clear hl hlc
  obtain ⟨_, _, e, _, _, hrc⟩ := HR.out.open_
  injection e with e1 e2 e3
  subst e1
  have HRC := Lib.hid hrc
  clear e2 e3 hrc
  have q0 := S.out.get 0 0 rfl rfl
  have q1 := S.out.get 0 1 rfl rfl
  go_enter Try.func6, Try.ntmps6
  go_wp2_with fail
  clear q0 q1
  refine (ready_any _ r _ ⟨_, _, rfl, HR.out.below S.out.bel, HS.out.below S.out.bel⟩).mono ?_
  rintro e w1 ⟨⟨b, rfl, hok⟩, hb⟩
  have S := Lib.hid (S.out.call hb)
  clear hb
  cases b
  · clear hok
    go_wp2_with fail
    refine (works_any _).mono ?_
    rintro e w2 ⟨rfl, hb⟩
    have S := Lib.hid (S.out.call hb)
    clear hb
    go_wp2_with fail
    go_ret
    exact ⟨rfl, S.out.bel⟩
  · have hvd := hok rfl
    have HVD := Lib.hid hvd
    clear hok
    have q0 := S.out.get 0 0 rfl rfl
    have q1 := S.out.get 0 1 rfl rfl
    by_cases hl40 : 40 < l.length
    · have hl40' : (40 : Int) < (l.length : Int) := by omega
      clear q0 q1
      go_wp2_with fail
      refine (works_any _).mono ?_
      rintro e w2 ⟨rfl, hb⟩
      have S := Lib.hid (S.out.call hb)
      clear hb
      go_wp2_with fail
      go_ret
      exact ⟨rfl, S.out.bel⟩
    · have hl40' : ¬ (40 : Int) < (l.length : Int) := by omega
      have hlen : l.length ≤ 1000 := by omega
      cases hh : isHour r h
      · have HH := Lib.hid hh
        clear hh
        go_wp2_with fail
        clear q0 q1
        refine (rIsHour_any _ r _ _ ⟨_, _, rfl, HR.out.below S.out.bel, HS.out.below S.out.bel⟩).mono ?_
        rintro e w3 ⟨rfl, hb⟩
        rw [HH.out]
        have S := Lib.hid (S.out.call hb)
        clear hb
        go_wp2_with fail
        refine (works_any _).mono ?_
        rintro e w4 ⟨rfl, hb⟩
        have S := Lib.hid (S.out.call hb)
        clear hb
        go_wp2_with fail
        go_ret
        exact ⟨rfl, S.out.bel⟩
      · go_wp2_with fail
        clear q0 q1
        refine (rIsHour_any _ r _ _ ⟨_, _, rfl, HR.out.below S.out.bel, HS.out.below S.out.bel⟩).mono ?_
        rintro e w3 ⟨rfl, hb⟩
        rw [hh]
        have S := Lib.hid (S.out.call hb)
        clear hb
        obtain ⟨hN, rfl⟩ := Int.eq_ofNat_of_zero_le (isHour_spec hh).1
        have hhl : hN < r.room.length := by have := (isHour_spec hh).2; omega
        have hhi : (hN : Int) < (r.room.length : Int) := by omega
        obtain ⟨b1, o1, e, hb1, hcr⟩ := HRC.out (by omega)
        subst e
        have y0 := hcr hN hhl
        obtain ⟨x, hx⟩ : ∃ x, r.room[hN] = x := ⟨_, rfl⟩
        rw [hx] at y0
        have HX0 := Lib.hid y0
        have HXE := Lib.hid hx
        have HH := Lib.hid hh
        clear hcr hb1 y0 hx
        have q0 := S.out.get 0 0 rfl rfl
        have q1 := S.out.get 0 1 rfl rfl
        go_wp2_with fail
        clear q0 q1
        refine (give_any _ r _ _ ⟨_, _, rfl, HR.out.below S.out.bel, HS.out.below S.out.bel⟩).mono ?_
        rintro e w4 ⟨rfl, hb⟩
        by_cases h6 : x = 6
        · have h6q : (x == 6) = true := by simp [h6]
          have HGV := Lib.hid (show giveR r (hN : Int) = (0, 2) by
            have e0 : askE r (isHour r (hN : Int)) = 0 := askE_zero.2 ⟨valid_iff.2 HVD.out, HH.out⟩
            unfold giveR
            rw [if_pos e0, Int.toNat_natCast, if_pos (by rw [List.getD_eq_getElem?_getD, List.getElem?_eq_getElem hhl, HXE.out]; exact h6)])
          rw [HGV.out]
          have S := Lib.hid (S.out.call hb)
          clear hb
          have y0 := keep_cell S.out.bel HX0.out
          have q0 := S.out.get 0 0 rfl rfl
          have q1 := S.out.get 0 1 rfl rfl
          go_wp2_with fail
          clear y0 q0 q1
          refine (works_any _).mono ?_
          rintro e w5 ⟨rfl, hb⟩
          have S := Lib.hid (S.out.call hb)
          clear hb
          go_wp2_with fail
          go_ret
          exact ⟨rfl, S.out.bel⟩
        · have h6q : (x == 6) = false := by simp [h6]
          cases hs : someR r
          · obtain ⟨b, b', hL2⟩ : ∃ b b' : Int, leastR (roomier r hN 1) = (b, b') := ⟨_, _, rfl⟩
            have HL1 := Lib.hid (show leastR r = (0, 3) by rw [least_val HVD.out, if_neg (by simp [hs])])
            have HL2 := Lib.hid hL2
            have HGV := Lib.hid (show giveR r (hN : Int) = (0, 3) by
              have e0 : askE r (isHour r (hN : Int)) = 0 := askE_zero.2 ⟨valid_iff.2 HVD.out, HH.out⟩
              unfold giveR
              rw [if_pos e0, Int.toNat_natCast, HL1.out, if_neg (by rw [List.getD_eq_getElem?_getD, List.getElem?_eq_getElem hhl, HXE.out]; exact h6)]
              rfl)
            clear hs hL2
            rw [HGV.out]
            have S := Lib.hid (S.out.call hb)
            clear hb
            have y0 := keep_cell S.out.bel HX0.out
            have q0 := S.out.get 0 0 rfl rfl
            have q1 := S.out.get 0 1 rfl rfl
            go_wp2_with fail
            clear y0 q0 q1
            refine (least_any _ r _ ⟨_, _, rfl, HR.out.below S.out.bel, HS.out.below S.out.bel⟩).mono ?_
            rintro e w5 ⟨rfl, hb⟩
            rw [HL1.out]
            have S := Lib.hid (S.out.call hb)
            clear hb
            have q0 := S.out.get 0 0 rfl rfl
            have q1 := S.out.get 0 1 rfl rfl
            go_wp2_with fail
            clear q0 q1
            refine (roomier_any _ r hN 1 _ ⟨_, _, rfl, HR.out.below S.out.bel, HS.out.below S.out.bel⟩ (by have := HVD.out.rl; omega) (by have := HVD.out.sl; omega) hhl (by omega) (fun x hx => by have := HVD.out.rm x hx; omega)).mono ?_
            rintro e w10 ⟨v', rfl, ⟨rv', sv', rfl, ho1, ho2⟩, hb⟩
            obtain ⟨Ax, cx, rfl⟩ := own_shape ho1
            obtain ⟨Ay, cy, rfl⟩ := own_shape ho2
            have S := Lib.hid (S.out.take2 hb ho1 ho2 (by decide))
            clear hb ho1 ho2
            go_wp2_with fail
            refine (least_any _ (roomier r hN 1) _ ⟨_, _, rfl, S.out.ints 0 rfl, S.out.row 1 rfl⟩).mono ?_
            rintro e w11 ⟨rfl, hb⟩
            rw [HL2.out]
            have S := Lib.hid (S.out.call hb)
            clear hb
            have S := Lib.hid S.out.tail.tail
            go_wp2_with fail
            refine (works_any _).mono ?_
            rintro e w12 ⟨rfl, hb⟩
            have S := Lib.hid (S.out.call hb)
            clear hb
            go_wp2_with fail
            go_ret
            exact ⟨rfl, S.out.bel⟩
          · obtain ⟨h1, h2, h3, h4⟩ := give_said HVD.out hhl (by rw [HXE.out]; exact h6) hs
            have hb1 := (least_pos HVD.out hs).2
            have HFL := Lib.hid h4
            obtain ⟨a, ha⟩ : ∃ y, (bestR stepsI r).1 = y := ⟨_, rfl⟩
            obtain ⟨b, hb2⟩ : ∃ y, (bestR stepsI (roomier r hN 1)).1 = y := ⟨_, rfl⟩
            rw [ha, hb2] at HFL
            rw [hb2] at h2
            rw [ha, hb2] at h3
            rw [ha] at hb1
            have HL1 := Lib.hid (show leastR r = (a, 0) by rw [least_val HVD.out, if_pos hs, ha])
            have HL2 := Lib.hid (show leastR (roomier r hN 1) = (b, 0) by rw [least_val (roomier_ok HVD.out hhl (by rw [HXE.out]; exact h6)), if_pos h1, hb2])
            have HGV := Lib.hid (show giveR r (hN : Int) = (a - b, 0) by
              have e0 : askE r (isHour r (hN : Int)) = 0 := askE_zero.2 ⟨valid_iff.2 HVD.out, HH.out⟩
              unfold giveR
              rw [if_pos e0, Int.toNat_natCast, HL1.out, HL2.out, if_neg (by rw [List.getD_eq_getElem?_getD, List.getElem?_eq_getElem hhl, HXE.out]; exact h6)]
              rfl)
            have HMI := Lib.hid (least_real HVD.out hs).2.2
            rw [ha] at HMI
            clear ha hb2 h4 hs h1
            have ew : IntKind.i64.wrap (a - b) = a - b := IntWalk.i64_in _ (by omega)
            rw [HGV.out]
            have S := Lib.hid (S.out.call hb)
            clear hb
            have y0 := keep_cell S.out.bel HX0.out
            have q0 := S.out.get 0 0 rfl rfl
            have q1 := S.out.get 0 1 rfl rfl
            go_wp2_with fail
            clear y0 q0 q1
            refine (least_any _ r _ ⟨_, _, rfl, HR.out.below S.out.bel, HS.out.below S.out.bel⟩).mono ?_
            rintro e w5 ⟨rfl, hb⟩
            rw [HL1.out]
            have S := Lib.hid (S.out.call hb)
            clear hb
            have q0 := S.out.get 0 0 rfl rfl
            have q1 := S.out.get 0 1 rfl rfl
            go_wp2_with fail
            clear q0 q1
            refine (roomier_any _ r hN 1 _ ⟨_, _, rfl, HR.out.below S.out.bel, HS.out.below S.out.bel⟩ (by have := HVD.out.rl; omega) (by have := HVD.out.sl; omega) hhl (by omega) (fun x hx => by have := HVD.out.rm x hx; omega)).mono ?_
            rintro e w10 ⟨v', rfl, ⟨rv', sv', rfl, ho1, ho2⟩, hb⟩
            obtain ⟨Ax, cx, rfl⟩ := own_shape ho1
            obtain ⟨Ay, cy, rfl⟩ := own_shape ho2
            have S := Lib.hid (S.out.take2 hb ho1 ho2 (by decide))
            clear hb ho1 ho2
            go_wp2_with fail
            refine (least_any _ (roomier r hN 1) _ ⟨_, _, rfl, S.out.ints 0 rfl, S.out.row 1 rfl⟩).mono ?_
            rintro e w11 ⟨rfl, hb⟩
            rw [HL2.out]
            have S := Lib.hid (S.out.call hb)
            clear hb
            have S := Lib.hid S.out.tail.tail
            by_cases hn : a - b = 0
            · have hnq : (a - b == 0) = true := by simp [hn]
              go_wp2_with fail
              refine (works_any _).mono ?_
              rintro e w12 ⟨rfl, hb⟩
              have S := Lib.hid (S.out.call hb)
              clear hb
              go_wp2_with fail
              go_ret
              exact ⟨rfl, S.out.bel⟩
            · have hnq : (a - b == 0) = false := by simp [hn]
              have q0 := S.out.get 0 0 rfl rfl
              have q1 := S.out.get 0 1 rfl rfl
              go_wp2_with fail
              clear q0 q1
              refine (isNew_any _ _ r l _ ⟨_, _, rfl, HR.out.below S.out.bel, HS.out.below S.out.bel⟩ HVD.out (HL.out.below S.out.bel) hlen).mono ?_
              rintro e w12 ⟨rfl, hb⟩
              cases hnw : newB r l
              · have S := Lib.hid (S.out.call hb)
                clear hb
                go_wp2_with fail
                refine (works_any _).mono ?_
                rintro e w13 ⟨rfl, hb⟩
                have S := Lib.hid (S.out.call hb)
                clear hb
                go_wp2_with fail
                go_ret
                exact ⟨rfl, S.out.bel⟩
              · have HNW := Lib.hid hnw
                have HIN := Lib.hid (InL.of_new hnw)
                have S := Lib.hid (S.out.call hb)
                clear hb
                have q0 := S.out.get 0 0 rfl rfl
                have q1 := S.out.get 0 1 rfl rfl
                go_wp2_with fail
                clear q0 q1
                refine (costOf_any _ _ r l _ ⟨_, _, rfl, HR.out.below S.out.bel, HS.out.below S.out.bel⟩ HVD.out (HL.out.below S.out.bel) HIN.out).mono ?_
                rintro e w14 ⟨rfl, hb⟩
                obtain ⟨co, hco⟩ : ∃ y, costL r.strs l = y := ⟨_, rfl⟩
                rw [hco]
                have S := Lib.hid (S.out.call hb)
                clear hb
                by_cases hca : co = a
                · have hcq : (co == a) = true := by simp [hca]
                  have HFULL := Lib.hid (HFL.out l HNW.out (by rw [hco, hca]) (by omega))
                  rw [HXE.out] at HFULL
                  clear hco
                  go_wp2_with fail
                  go_loopw [13, 14] (fun u i wr => ∃ k : Nat, k ≤ l.length ∧ i = I k ∧ u = I ((l.take k).count (hN : Int) : Nat) ∧ Hid (St w wr wr.heap.size [.box w.heap.size [.slice (some ⟨b1, o1, none⟩) r.room.length c1, .slice A2 r.strs.length c2]])) (fun _ i _ => l.length - (intOf i).toNat)
                  case atStart => exact ⟨0, by omega, rfl, rfl, Lib.hid S.out.fix⟩
                  case round =>
                    clear S
                    obtain ⟨k, hk, rfl, rfl, S⟩ := hrel
                    by_cases hlt : k < l.length
                    · have hki : (k : Int) < (l.length : Int) := by omega
                      obtain ⟨bl, ol, e, hbl, hcl⟩ := HLC.out (by omega)
                      have y0 := hcl k hlt
                      subst e
                      clear hcl hbl
                      obtain ⟨x, hx⟩ : ∃ x, l[k] = x := ⟨_, rfl⟩
                      rw [hx] at y0
                      have hct := count_take l k (hN : Int) hlt
                      rw [hx] at hct
                      obtain ⟨c0, hc0⟩ : ∃ x, (l.take k).count (hN : Int) = x := ⟨_, rfl⟩
                      rw [hc0] at hct
                      have hcb : c0 ≤ 1000 := by have := List.count_le_length (a := (hN : Int)) (l := l.take k); rw [hc0, List.length_take] at this; omega
                      rw [hc0]
                      have HC := Lib.hid hct
                      clear hc0 hx hct
                      have y0 := keep_cell S.out.bel y0
                      by_cases hxe : x = (hN : Int)
                      · have hxq : (x == (hN : Int)) = true := by simp [hxe]
                        go_wp2_with fail
                        go_roundw
                        case rel => exact ⟨k + 1, by omega, by go_num, by rw [HC.out, if_pos hxe]; go_num, S⟩
                        case measure => first | (simp [intOf]; done) | (simp [intOf]; omega)
                      · have hxq : (x == (hN : Int)) = false := by simp [hxe]
                        go_wp2_with fail
                        go_roundw
                        case rel => exact ⟨k + 1, by omega, by go_num, by rw [HC.out, if_neg hxe, Nat.add_zero], S⟩
                        case measure => first | (simp [intOf]; done) | (simp [intOf]; omega)
                    · obtain rfl : k = l.length := by omega
                      rw [List.take_length]
                      have hf := HFULL.out
                      obtain ⟨c0, hc0⟩ : ∃ x, l.count (hN : Int) = x := ⟨_, rfl⟩
                      rw [hc0] at hf ⊢
                      have hq : ((c0 : Int) == x) = true := by simp [hf]
                      have y0 := keep_cell S.out.bel HX0.out
                      have q0 := S.out.get 0 0 rfl rfl
                      have q1 := S.out.get 0 1 rfl rfl
                      go_wp2_with fail
                      clear q0 q1 y0
                      refine (works_any _).mono ?_
                      rintro e w20 ⟨rfl, hb⟩
                      have S := Lib.hid (S.out.call hb)
                      clear hb
                      go_wp2_with fail
                      go_ret
                      exact ⟨rfl, S.out.bel⟩
                · have hcq : (co == a) = false := by simp [hca]
                  clear hco
                  go_wp2_with fail
                  refine (works_any _).mono ?_
                  rintro e w15 ⟨rfl, hb⟩
                  have S := Lib.hid (S.out.call hb)
                  clear hb
                  go_wp2_with fail
                  go_ret
                  exact ⟨rfl, S.out.bel⟩

end Go.Proofs.Ytokendenofbnhaa
