/- Walks: the reference's within, IsHour, IsStreet, Check; Huge, Far, ready. -/
import Derived.Test.YtldcehhhndlhdaaGreatDoorC29
import Derived.Test.YtldcehhhndlhdaaGreatDoorC3
namespace Go.Proofs.YtldcehhhndlhdaaGreatDoor.Hr
open Go.RowKit Go.Sort

set_option maxRecDepth 20000 in
set_option maxHeartbeats 400000 in
theorem rWithin1_any (n lo hi : Int) (w : World) :
    Calls Tryz.prog 46 #[I n, I lo, I hi] w fun e w' => e = .returned (.bool (inR n lo hi)) ∧ w = w' := by
  by_cases h1 : lo ≤ n
  · by_cases h2 : n ≤ hi
    · go_enter Tryz.func46, Tryz.ntmps46
      go_wp2
      go_ret
      exact ⟨by simp [inR, *], rfl⟩
    · go_enter Tryz.func46, Tryz.ntmps46
      go_wp2
      go_ret
      exact ⟨by simp [inR, *], rfl⟩
  · go_enter Tryz.func46, Tryz.ntmps46
    go_wp2
    go_ret
    exact ⟨by simp [inR]; omega, rfl⟩

set_option maxRecDepth 20000 in
set_option maxHeartbeats 400000 in
theorem rWithin_any (n lo hi : Int) (w : World) :
    Calls Tryz.prog 20 #[I n, I lo, I hi] w fun e w' => e = .returned (.bool (inR n lo hi)) ∧ w = w' := by
  go_enter Tryz.func20, Tryz.ntmps20
  go_wp2_with (go_at_call 46; refine (rWithin1_any _ _ _ _).mono ?_; rintro e w' ⟨rfl, rfl⟩)
  go_ret
  exact ⟨rfl, rfl⟩

set_option maxRecDepth 20000 in
set_option maxHeartbeats 1000000 in
theorem rIsHour_any (v : Value) (r : Ros) (n : Int) (w : World) (hv : RosAt w v r) :
    Calls Tryz.prog 21 #[v, I n] w fun e w' => e = .returned (.bool (isHour r n)) ∧ Below w.heap.size w w' := by
  obtain ⟨rv, sv, rfl, hr, hs⟩ := hv
  obtain ⟨A, c, rfl, h1, h2, -⟩ := hr.open_
  obtain ⟨A', c', rfl, h3, h4, -⟩ := hs.open_
  clear hr hs
  go_enter Tryz.func21, Tryz.ntmps21
  go_wp2_with (go_at_call 20; refine (rWithin_any _ _ _ _).mono ?_; rintro e w' ⟨rfl, rfl⟩)
  go_ret
  exact ⟨rfl, (Below.refl _ _).alloc (Nat.le_refl _) _⟩

set_option maxRecDepth 20000 in
set_option maxHeartbeats 8000000 in
theorem rCheck_any (v : Value) (r : Ros) (w : World) (hv : RosAt w v r) :
    Calls Tryz.prog 5 #[v] w fun e w' => e = .returned (I (chk r)) ∧ Below w.heap.size w w' := by
  obtain ⟨rv, sv, rfl, hr, hs⟩ := hv
  obtain ⟨A1, c1, rfl, hr1, hr2, -⟩ := hr.open_
  obtain ⟨A2, c2, rfl, hs1, hs2, -⟩ := hs.open_
  have HR := Lib.hid hr
  have HS := Lib.hid hs
  clear hr hs
  have S := Lib.hid (show St w (w.alloc (.cells #[.slice A1 r.room.length c1, .slice A2 r.strs.length c2] 25)) (w.heap.size + 1) [.box w.heap.size [.slice A1 r.room.length c1, .slice A2 r.strs.length c2]] from (St.init w).alloc [.slice A1 r.room.length c1, .slice A2 r.strs.length c2] 25)
  obtain ⟨_, _, e, _, _, hsc⟩ := HS.out.open_
  injection e with e1 e2 e3
  subst e1
  obtain ⟨_, _, e, _, _, hrc⟩ := HR.out.open_
  injection e with e4 e5 e6
  subst e4
  have HSC := Lib.hid hsc
  have HRC := Lib.hid hrc
  clear e2 e3 e5 e6 hsc hrc
  have q0 := S.out.get 0 0 rfl rfl
  have q1 := S.out.get 0 1 rfl rfl
  by_cases g1 : 8 < r.room.length
  · have HE := Lib.hid (show chk r = 80 by simp [chk, valid]; omega)
    go_enter Tryz.func5, Tryz.ntmps5
    go_wp2_with fail
    go_ret
    exact ⟨by rw [HE.out]; rfl, S.out.bel⟩
  · by_cases g2 : 6 < r.strs.length
    · have HE := Lib.hid (show chk r = 80 by simp [chk, valid]; omega)
      go_enter Tryz.func5, Tryz.ntmps5
      go_wp2_with fail
      go_ret
      exact ⟨by rw [HE.out]; rfl, S.out.bel⟩
    · go_enter Tryz.func5, Tryz.ntmps5
      go_wp2_with fail
      clear q0 q1
      go_loopw [3] (fun i wr => ∃ k : Nat, k ≤ r.room.length ∧ i = I k ∧ Hid (r.room.any badRoom = (r.room.drop k).any badRoom) ∧ Hid (St w wr wr.heap.size [.box w.heap.size [.slice A1 r.room.length c1, .slice A2 r.strs.length c2]])) (fun i _ => r.room.length - (intOf i).toNat)
      case atStart => exact ⟨0, by omega, rfl, Lib.hid rfl, Lib.hid S.out.fix⟩
      case round =>
        clear S
        obtain ⟨k, hk, rfl, HD, S⟩ := hrel
        have q0 := S.out.get 0 0 rfl rfl
        by_cases hlt : k < r.room.length
        · have hki : (k : Int) < (r.room.length : Int) := by omega
          obtain ⟨b1, o1, rfl, hb1, hcell⟩ := HRC.out (by omega)
          have y0 := keep_cell S.out.bel (hcell k hlt)
          obtain ⟨x, hx⟩ : ∃ x, r.room[k] = x := ⟨_, rfl⟩
          rw [hx] at y0
          have HX := Lib.hid hx
          clear hcell hx
          cases hin : inR x 0 6
          · have HB := Lib.hid (show badRoom x = true by unfold badRoom; rw [hin]; rfl)
            go_wp2_with (go_at_call 20; refine (rWithin_any _ _ _ _).mono ?_; rintro e w' ⟨rfl, rfl⟩)
            go_ret
            have ha : r.room.any badRoom = true := by rw [HD.out, List.drop_eq_getElem_cons hlt, List.any_cons, HX.out, HB.out]; rfl
            exact ⟨by rw [show chk r = 80 by unfold chk valid; rw [ha]; simp]; rfl, S.out.bel⟩
          · have HB := Lib.hid (show badRoom x = false by unfold badRoom; rw [hin]; rfl)
            go_wp2_with (go_at_call 20; refine (rWithin_any _ _ _ _).mono ?_; rintro e w' ⟨rfl, rfl⟩)
            clear y0 q0
            go_roundw
            case rel => exact ⟨k + 1, by omega, by go_num, Lib.hid (by rw [HD.out, List.drop_eq_getElem_cons hlt, List.any_cons, HX.out, HB.out, Bool.false_or]), S⟩
            case measure => first | (simp [intOf]; done) | (simp [intOf]; omega)
        · have HNR := Lib.hid (show r.room.any badRoom = false by rw [HD.out, List.drop_eq_nil_of_le (by omega)]; rfl)
          go_wp2_with fail
          clear q0 HD
          obtain ⟨wo, rfl⟩ : ∃ wo : World, wo = wr := ⟨_, rfl⟩
          go_loopw [4] (fun i wr => ∃ k : Nat, k ≤ r.strs.length ∧ i = I k ∧ Hid (r.strs.any (badStr r) = (r.strs.drop k).any (badStr r)) ∧ Hid (St w wr wr.heap.size [.box w.heap.size [.slice A1 r.room.length c1, .slice A2 r.strs.length c2]])) (fun i _ => r.strs.length - (intOf i).toNat)
          case atStart => exact ⟨0, by omega, rfl, Lib.hid rfl, S⟩
          case round =>
            clear S hlt hk
            obtain ⟨k, hk, rfl, HD, S⟩ := hrel
            have q1 := S.out.get 0 1 rfl rfl
            by_cases hlt : k < r.strs.length
            · have hki : (k : Int) < (r.strs.length : Int) := by omega
              obtain ⟨b2, o2, rfl, hb2, hcell⟩ := HSC.out (by omega)
              obtain ⟨z0, z1, z2, z3⟩ := hcell k hlt
              obtain ⟨s, hs⟩ : ∃ s, r.strs[k] = s := ⟨_, rfl⟩
              rw [hs] at z0 z1 z2 z3
              have HSE := Lib.hid hs
              have z0 := keep_cell S.out.bel z0
              have z1 := keep_cell S.out.bel z1
              have z2 := keep_cell S.out.bel z2
              have z3 := keep_cell S.out.bel z3
              have S := Lib.hid (S.out.alloc [I s.has, I s.frm, I s.to, I s.cost] 53)
              clear hcell hs
              have x0 := S.out.get 0 0 rfl rfl
              have x1 := S.out.get 0 1 rfl rfl
              have x2 := S.out.get 0 2 rfl rfl
              have x3 := S.out.get 0 3 rfl rfl
              have k0 := S.out.get 1 0 rfl rfl
              have k1 := S.out.get 1 1 rfl rfl
              by_cases h1 : s.has = -1
              · have h1' : (s.has != -1) = false := by simp [h1]
                have H1 := Lib.hid h1
                clear h1
                cases h3 : isHour r s.frm
                · go_wp2_with (first | (go_at_call 21; refine (rIsHour_any _ r _ _ ⟨_, _, rfl, HR.out.below S.out.bel, HS.out.below S.out.bel⟩).mono ?_; rintro e w1 ⟨rfl, hb⟩; have S := Lib.hid (S.out.call hb); clear hb x0 x1 x2 x3 k0 k1; have x0 := S.out.get 0 0 rfl rfl; have x1 := S.out.get 0 1 rfl rfl; have x2 := S.out.get 0 2 rfl rfl; have x3 := S.out.get 0 3 rfl rfl; have k0 := S.out.get 1 0 rfl rfl; have k1 := S.out.get 1 1 rfl rfl) | (go_at_call 20; refine (rWithin_any _ _ _ _).mono ?_; rintro e w' ⟨rfl, rfl⟩))
                  go_ret
                  have hh := H1.out
                  have hb : badStr r s = true := by simp [badStr, *]
                  have ha : r.strs.any (badStr r) = true := by rw [HD.out, List.drop_eq_getElem_cons hlt, List.any_cons, HSE.out, hb]; rfl
                  exact ⟨by rw [show chk r = 80 by unfold chk valid; rw [ha]; simp]; rfl, S.out.bel⟩
                · cases h4 : isHour r s.to
                  · go_wp2_with (first | (go_at_call 21; refine (rIsHour_any _ r _ _ ⟨_, _, rfl, HR.out.below S.out.bel, HS.out.below S.out.bel⟩).mono ?_; rintro e w1 ⟨rfl, hb⟩; have S := Lib.hid (S.out.call hb); clear hb x0 x1 x2 x3 k0 k1; have x0 := S.out.get 0 0 rfl rfl; have x1 := S.out.get 0 1 rfl rfl; have x2 := S.out.get 0 2 rfl rfl; have x3 := S.out.get 0 3 rfl rfl; have k0 := S.out.get 1 0 rfl rfl; have k1 := S.out.get 1 1 rfl rfl) | (go_at_call 20; refine (rWithin_any _ _ _ _).mono ?_; rintro e w' ⟨rfl, rfl⟩))
                    go_ret
                    have hh := H1.out
                    have hb : badStr r s = true := by simp [badStr, *]
                    have ha : r.strs.any (badStr r) = true := by rw [HD.out, List.drop_eq_getElem_cons hlt, List.any_cons, HSE.out, hb]; rfl
                    exact ⟨by rw [show chk r = 80 by unfold chk valid; rw [ha]; simp]; rfl, S.out.bel⟩
                  · cases h5 : decide (s.to < s.frm)
                    · cases h6 : inR s.cost 0 9
                      · go_wp2_with (first | (go_at_call 21; refine (rIsHour_any _ r _ _ ⟨_, _, rfl, HR.out.below S.out.bel, HS.out.below S.out.bel⟩).mono ?_; rintro e w1 ⟨rfl, hb⟩; have S := Lib.hid (S.out.call hb); clear hb x0 x1 x2 x3 k0 k1; have x0 := S.out.get 0 0 rfl rfl; have x1 := S.out.get 0 1 rfl rfl; have x2 := S.out.get 0 2 rfl rfl; have x3 := S.out.get 0 3 rfl rfl; have k0 := S.out.get 1 0 rfl rfl; have k1 := S.out.get 1 1 rfl rfl) | (go_at_call 20; refine (rWithin_any _ _ _ _).mono ?_; rintro e w' ⟨rfl, rfl⟩))
                        go_ret
                        have hh := H1.out
                        have hb : badStr r s = true := by simp [badStr, *]
                        have ha : r.strs.any (badStr r) = true := by rw [HD.out, List.drop_eq_getElem_cons hlt, List.any_cons, HSE.out, hb]; rfl
                        exact ⟨by rw [show chk r = 80 by unfold chk valid; rw [ha]; simp]; rfl, S.out.bel⟩
                      · go_wp2_with (first | (go_at_call 21; refine (rIsHour_any _ r _ _ ⟨_, _, rfl, HR.out.below S.out.bel, HS.out.below S.out.bel⟩).mono ?_; rintro e w1 ⟨rfl, hb⟩; have S := Lib.hid (S.out.call hb); clear hb x0 x1 x2 x3 k0 k1; have x0 := S.out.get 0 0 rfl rfl; have x1 := S.out.get 0 1 rfl rfl; have x2 := S.out.get 0 2 rfl rfl; have x3 := S.out.get 0 3 rfl rfl; have k0 := S.out.get 1 0 rfl rfl; have k1 := S.out.get 1 1 rfl rfl) | (go_at_call 20; refine (rWithin_any _ _ _ _).mono ?_; rintro e w' ⟨rfl, rfl⟩))
                        go_roundw
                        case rel => exact ⟨k + 1, by omega, by go_num, Lib.hid (by
                          have hh := H1.out
                          rw [HD.out, List.drop_eq_getElem_cons hlt, List.any_cons, HSE.out]
                          have hb : badStr r s = false := by simp [badStr, *]
                          rw [hb, Bool.false_or]), Lib.hid S.out.tail⟩
                        case measure => first | (simp [intOf]; done) | (simp [intOf]; omega)
                    · go_wp2_with (first | (go_at_call 21; refine (rIsHour_any _ r _ _ ⟨_, _, rfl, HR.out.below S.out.bel, HS.out.below S.out.bel⟩).mono ?_; rintro e w1 ⟨rfl, hb⟩; have S := Lib.hid (S.out.call hb); clear hb x0 x1 x2 x3 k0 k1; have x0 := S.out.get 0 0 rfl rfl; have x1 := S.out.get 0 1 rfl rfl; have x2 := S.out.get 0 2 rfl rfl; have x3 := S.out.get 0 3 rfl rfl; have k0 := S.out.get 1 0 rfl rfl; have k1 := S.out.get 1 1 rfl rfl) | (go_at_call 20; refine (rWithin_any _ _ _ _).mono ?_; rintro e w' ⟨rfl, rfl⟩))
                      go_ret
                      have hh := H1.out
                      have hb : badStr r s = true := by simp [badStr, *]
                      have ha : r.strs.any (badStr r) = true := by rw [HD.out, List.drop_eq_getElem_cons hlt, List.any_cons, HSE.out, hb]; rfl
                      exact ⟨by rw [show chk r = 80 by unfold chk valid; rw [ha]; simp]; rfl, S.out.bel⟩
              · have h1' : (s.has != -1) = true := by simp [h1]
                have H1 := Lib.hid h1
                clear h1
                cases h2 : isHour r s.has
                · go_wp2_with (first | (go_at_call 21; refine (rIsHour_any _ r _ _ ⟨_, _, rfl, HR.out.below S.out.bel, HS.out.below S.out.bel⟩).mono ?_; rintro e w1 ⟨rfl, hb⟩; have S := Lib.hid (S.out.call hb); clear hb x0 x1 x2 x3 k0 k1; have x0 := S.out.get 0 0 rfl rfl; have x1 := S.out.get 0 1 rfl rfl; have x2 := S.out.get 0 2 rfl rfl; have x3 := S.out.get 0 3 rfl rfl; have k0 := S.out.get 1 0 rfl rfl; have k1 := S.out.get 1 1 rfl rfl) | (go_at_call 20; refine (rWithin_any _ _ _ _).mono ?_; rintro e w' ⟨rfl, rfl⟩))
                  go_ret
                  have hh := H1.out
                  have hb : badStr r s = true := by simp [badStr, *]
                  have ha : r.strs.any (badStr r) = true := by rw [HD.out, List.drop_eq_getElem_cons hlt, List.any_cons, HSE.out, hb]; rfl
                  exact ⟨by rw [show chk r = 80 by unfold chk valid; rw [ha]; simp]; rfl, S.out.bel⟩
                · cases h3 : isHour r s.frm
                  · go_wp2_with (first | (go_at_call 21; refine (rIsHour_any _ r _ _ ⟨_, _, rfl, HR.out.below S.out.bel, HS.out.below S.out.bel⟩).mono ?_; rintro e w1 ⟨rfl, hb⟩; have S := Lib.hid (S.out.call hb); clear hb x0 x1 x2 x3 k0 k1; have x0 := S.out.get 0 0 rfl rfl; have x1 := S.out.get 0 1 rfl rfl; have x2 := S.out.get 0 2 rfl rfl; have x3 := S.out.get 0 3 rfl rfl; have k0 := S.out.get 1 0 rfl rfl; have k1 := S.out.get 1 1 rfl rfl) | (go_at_call 20; refine (rWithin_any _ _ _ _).mono ?_; rintro e w' ⟨rfl, rfl⟩))
                    go_ret
                    have hh := H1.out
                    have hb : badStr r s = true := by simp [badStr, *]
                    have ha : r.strs.any (badStr r) = true := by rw [HD.out, List.drop_eq_getElem_cons hlt, List.any_cons, HSE.out, hb]; rfl
                    exact ⟨by rw [show chk r = 80 by unfold chk valid; rw [ha]; simp]; rfl, S.out.bel⟩
                  · cases h4 : isHour r s.to
                    · go_wp2_with (first | (go_at_call 21; refine (rIsHour_any _ r _ _ ⟨_, _, rfl, HR.out.below S.out.bel, HS.out.below S.out.bel⟩).mono ?_; rintro e w1 ⟨rfl, hb⟩; have S := Lib.hid (S.out.call hb); clear hb x0 x1 x2 x3 k0 k1; have x0 := S.out.get 0 0 rfl rfl; have x1 := S.out.get 0 1 rfl rfl; have x2 := S.out.get 0 2 rfl rfl; have x3 := S.out.get 0 3 rfl rfl; have k0 := S.out.get 1 0 rfl rfl; have k1 := S.out.get 1 1 rfl rfl) | (go_at_call 20; refine (rWithin_any _ _ _ _).mono ?_; rintro e w' ⟨rfl, rfl⟩))
                      go_ret
                      have hh := H1.out
                      have hb : badStr r s = true := by simp [badStr, *]
                      have ha : r.strs.any (badStr r) = true := by rw [HD.out, List.drop_eq_getElem_cons hlt, List.any_cons, HSE.out, hb]; rfl
                      exact ⟨by rw [show chk r = 80 by unfold chk valid; rw [ha]; simp]; rfl, S.out.bel⟩
                    · cases h5 : decide (s.to < s.frm)
                      · cases h6 : inR s.cost 0 9
                        · go_wp2_with (first | (go_at_call 21; refine (rIsHour_any _ r _ _ ⟨_, _, rfl, HR.out.below S.out.bel, HS.out.below S.out.bel⟩).mono ?_; rintro e w1 ⟨rfl, hb⟩; have S := Lib.hid (S.out.call hb); clear hb x0 x1 x2 x3 k0 k1; have x0 := S.out.get 0 0 rfl rfl; have x1 := S.out.get 0 1 rfl rfl; have x2 := S.out.get 0 2 rfl rfl; have x3 := S.out.get 0 3 rfl rfl; have k0 := S.out.get 1 0 rfl rfl; have k1 := S.out.get 1 1 rfl rfl) | (go_at_call 20; refine (rWithin_any _ _ _ _).mono ?_; rintro e w' ⟨rfl, rfl⟩))
                          go_ret
                          have hh := H1.out
                          have hb : badStr r s = true := by simp [badStr, *]
                          have ha : r.strs.any (badStr r) = true := by rw [HD.out, List.drop_eq_getElem_cons hlt, List.any_cons, HSE.out, hb]; rfl
                          exact ⟨by rw [show chk r = 80 by unfold chk valid; rw [ha]; simp]; rfl, S.out.bel⟩
                        · go_wp2_with (first | (go_at_call 21; refine (rIsHour_any _ r _ _ ⟨_, _, rfl, HR.out.below S.out.bel, HS.out.below S.out.bel⟩).mono ?_; rintro e w1 ⟨rfl, hb⟩; have S := Lib.hid (S.out.call hb); clear hb x0 x1 x2 x3 k0 k1; have x0 := S.out.get 0 0 rfl rfl; have x1 := S.out.get 0 1 rfl rfl; have x2 := S.out.get 0 2 rfl rfl; have x3 := S.out.get 0 3 rfl rfl; have k0 := S.out.get 1 0 rfl rfl; have k1 := S.out.get 1 1 rfl rfl) | (go_at_call 20; refine (rWithin_any _ _ _ _).mono ?_; rintro e w' ⟨rfl, rfl⟩))
                          go_roundw
                          case rel => exact ⟨k + 1, by omega, by go_num, Lib.hid (by
                            have hh := H1.out
                            rw [HD.out, List.drop_eq_getElem_cons hlt, List.any_cons, HSE.out]
                            have hb : badStr r s = false := by simp [badStr, *]
                            rw [hb, Bool.false_or]), Lib.hid S.out.tail⟩
                          case measure => first | (simp [intOf]; done) | (simp [intOf]; omega)
                      · go_wp2_with (first | (go_at_call 21; refine (rIsHour_any _ r _ _ ⟨_, _, rfl, HR.out.below S.out.bel, HS.out.below S.out.bel⟩).mono ?_; rintro e w1 ⟨rfl, hb⟩; have S := Lib.hid (S.out.call hb); clear hb x0 x1 x2 x3 k0 k1; have x0 := S.out.get 0 0 rfl rfl; have x1 := S.out.get 0 1 rfl rfl; have x2 := S.out.get 0 2 rfl rfl; have x3 := S.out.get 0 3 rfl rfl; have k0 := S.out.get 1 0 rfl rfl; have k1 := S.out.get 1 1 rfl rfl) | (go_at_call 20; refine (rWithin_any _ _ _ _).mono ?_; rintro e w' ⟨rfl, rfl⟩))
                        go_ret
                        have hh := H1.out
                        have hb : badStr r s = true := by simp [badStr, *]
                        have ha : r.strs.any (badStr r) = true := by rw [HD.out, List.drop_eq_getElem_cons hlt, List.any_cons, HSE.out, hb]; rfl
                        exact ⟨by rw [show chk r = 80 by unfold chk valid; rw [ha]; simp]; rfl, S.out.bel⟩
            · have HE := Lib.hid (show chk r = 0 by
                have h1 := HNR.out
                have h2 := HD.out
                rw [List.drop_eq_nil_of_le (show r.strs.length ≤ k by omega)] at h2
                unfold chk valid
                rw [h1, h2]
                simp; omega)
              go_wp2_with fail
              go_ret
              exact ⟨by rw [HE.out]; rfl, S.out.bel⟩

end Go.Proofs.YtldcehhhndlhdaaGreatDoor.Hr
/- Walks: Huge, Far, ready. -/
namespace Go.Proofs.YtldcehhhndlhdaaGreatDoor.Hr
open Go.RowKit Go.Sort

def hugeB (r : Ros) (l : List Int) : Bool := decide ((40 : Int) < (r.room.length : Int)) || decide ((40 : Int) < (r.strs.length : Int)) || decide ((40 : Int) < (l.length : Int))
set_option maxRecDepth 20000 in
set_option maxHeartbeats 2000000 in
theorem huge_any (v v2 : Value) (r : Ros) (l : List Int) (w : World) (hv : RosAt w v r) (hl : Ints w v2 l) :
    Calls Tryz.prog 19 #[v, v2] w fun e w' => e = .returned (.bool (hugeB r l)) ∧ Below w.heap.size w w' := by
  obtain ⟨rv, sv, rfl, hr, hs⟩ := hv
  obtain ⟨A1, c1, rfl, hr1, hr2, -⟩ := hr.open_
  obtain ⟨A2, c2, rfl, hs1, hs2, -⟩ := hs.open_
  have HR := Lib.hid hr
  have HS := Lib.hid hs
  clear hr hs
  have S := Lib.hid (show St w (w.alloc (.cells #[.slice A1 r.room.length c1, .slice A2 r.strs.length c2] 25)) (w.heap.size + 1) [.box w.heap.size [.slice A1 r.room.length c1, .slice A2 r.strs.length c2]] from (St.init w).alloc [.slice A1 r.room.length c1, .slice A2 r.strs.length c2] 25)
  obtain ⟨Al, cl, rfl, hl1, hl2, -⟩ := hl.open_
  clear hl
  have q0 := S.out.get 0 0 rfl rfl
  have q1 := S.out.get 0 1 rfl rfl
  by_cases g1 : 40 < r.room.length
  · have HE := Lib.hid (show hugeB r l = true by simp [hugeB]; omega)
    go_enter Tryz.func19, Tryz.ntmps19
    go_wp2_with fail
    all_goals
      go_ret
      refine ⟨?_, S.out.bel⟩
      rw [HE.out]
      first | rfl | (simp; done) | (simp; omega)
  · by_cases g2 : 40 < r.strs.length
    · have HE := Lib.hid (show hugeB r l = true by simp [hugeB]; omega)
      go_enter Tryz.func19, Tryz.ntmps19
      go_wp2_with fail
      all_goals
        go_ret
        refine ⟨?_, S.out.bel⟩
        rw [HE.out]
        first | rfl | (simp; done) | (simp; omega)
    · by_cases g3 : 40 < l.length
      · have HE := Lib.hid (show hugeB r l = true by simp [hugeB]; omega)
        go_enter Tryz.func19, Tryz.ntmps19
        go_wp2_with fail
        all_goals
          go_ret
          refine ⟨?_, S.out.bel⟩
          rw [HE.out]
          first | rfl | (simp; done) | (simp; omega)
      · have HE := Lib.hid (show hugeB r l = false by simp [hugeB]; omega)
        go_enter Tryz.func19, Tryz.ntmps19
        go_wp2_with fail
        all_goals
          go_ret
          refine ⟨?_, S.out.bel⟩
          rw [HE.out]
          first | rfl | (simp; done) | (simp; omega)

set_option maxRecDepth 20000 in
set_option maxHeartbeats 4000000 in
theorem lFar_any (v : Value) (r : Ros) (w : World) (hv : RosAt w v r) :
    Calls Tryz.prog 4 #[v] w fun e w' => (∃ b, e = .returned (.bool b) ∧ (b = false → r.room.length ≤ 40 ∧ r.strs.length ≤ 40)) ∧ Below w.heap.size w w' := by
  obtain ⟨rv, sv, rfl, hr, hs⟩ := hv
  obtain ⟨A1, c1, rfl, hr1, hr2, -⟩ := hr.open_
  obtain ⟨A2, c2, rfl, hs1, hs2, -⟩ := hs.open_
  have HR := Lib.hid hr
  have HS := Lib.hid hs
  clear hr hs
  have S := Lib.hid (show St w (w.alloc (.cells #[.slice A1 r.room.length c1, .slice A2 r.strs.length c2] 25)) (w.heap.size + 1) [.box w.heap.size [.slice A1 r.room.length c1, .slice A2 r.strs.length c2]] from (St.init w).alloc [.slice A1 r.room.length c1, .slice A2 r.strs.length c2] 25)
  have q0 := S.out.get 0 0 rfl rfl
  have q1 := S.out.get 0 1 rfl rfl
  cases hh : hugeB r []
  · have HH := Lib.hid hh
    have hl1 : r.room.length ≤ 40 ∧ r.strs.length ≤ 40 := by simp [hugeB] at hh; omega
    clear hh
    cases hv : valid r
    · have HC := Lib.hid (show chk r = 80 by simp [chk, hv])
      clear hv
      go_enter Tryz.func4, Tryz.ntmps4
      go_wp2_with fail
      refine (huge_any _ _ r [] _ ⟨_, _, rfl, HR.out.below S.out.bel, HS.out.below S.out.bel⟩ ⟨rfl, none, 0, rfl, by simp, by omega, fun h => absurd h (by simp)⟩).mono ?_
      rintro e w1 ⟨rfl, hb⟩
      rw [HH.out]
      have S := Lib.hid (S.out.call hb)
      clear hb q0 q1
      have q0 := S.out.get 0 0 rfl rfl
      have q1 := S.out.get 0 1 rfl rfl
      go_wp2_with fail
      refine (rCheck_any _ r _ ⟨_, _, rfl, HR.out.below S.out.bel, HS.out.below S.out.bel⟩).mono ?_
      rintro e w2 ⟨rfl, hb⟩
      rw [HC.out]
      have S := Lib.hid (S.out.call hb)
      clear hb q0 q1
      go_wp2_with fail
      go_ret
      exact ⟨⟨false, rfl, fun _ => hl1⟩, S.out.bel⟩
    · have HC := Lib.hid (show chk r = 0 by simp [chk, hv])
      clear hv
      obtain ⟨_, _, e, _, _, hsc⟩ := HS.out.open_
      injection e with e1 e2 e3
      subst e1
      have HSC := Lib.hid hsc
      clear e2 e3 hsc
      go_enter Tryz.func4, Tryz.ntmps4
      go_wp2_with fail
      refine (huge_any _ _ r [] _ ⟨_, _, rfl, HR.out.below S.out.bel, HS.out.below S.out.bel⟩ ⟨rfl, none, 0, rfl, by simp, by omega, fun h => absurd h (by simp)⟩).mono ?_
      rintro e w1 ⟨rfl, hb⟩
      rw [HH.out]
      have S := Lib.hid (S.out.call hb)
      clear hb q0 q1
      have q0 := S.out.get 0 0 rfl rfl
      have q1 := S.out.get 0 1 rfl rfl
      go_wp2_with fail
      refine (rCheck_any _ r _ ⟨_, _, rfl, HR.out.below S.out.bel, HS.out.below S.out.bel⟩).mono ?_
      rintro e w2 ⟨rfl, hb⟩
      rw [HC.out]
      have S := Lib.hid (S.out.call hb)
      clear hb q0 q1
      go_wp2_with fail
      go_loopw [3, 4] (fun u i wr => ∃ (k : Nat) (x : Int), k ≤ r.strs.length ∧ i = I k ∧ u = I x ∧ Hid (St w wr wr.heap.size [.box w.heap.size [.slice A1 r.room.length c1, .slice A2 r.strs.length c2]])) (fun _ i _ => r.strs.length - (intOf i).toNat)
      case atStart => exact ⟨0, 1, by omega, rfl, rfl, Lib.hid S.out.fix⟩
      case round =>
        clear S
        obtain ⟨k, x, hk, rfl, rfl, S⟩ := hrel
        have q1 := S.out.get 0 1 rfl rfl
        by_cases hlt : k < r.strs.length
        · have hki : (k : Int) < (r.strs.length : Int) := by omega
          obtain ⟨b2, o2, rfl, hb2, hcell⟩ := HSC.out (by omega)
          obtain ⟨-, z1, z2, -⟩ := hcell k hlt
          have Z1 := Lib.hid z1
          have Z2 := Lib.hid z2
          clear z1 z2 hcell
          go_wp2_with fail
          clear q1
          refine wp_region_seg [] [0, 1, 2, 3, 4, 5, 6, 7, 8, 9, 10, 11, 12, 13, 14, 15, 16] [] 17 (by kernel_rfl) (by kernel_rfl) ?_
          intro KQ hKQ w3 hb
          have S := Lib.hid (S.out.call hb)
          clear hb
          have q0_1 := cell_regrown (S.out.get 0 1 rfl rfl)
          have y1 := cell_regrown (keep_cell S.out.bel Z1.out)
          have y2 := cell_regrown (keep_cell S.out.bel Z2.out)
          refine seg_last ?_
          simp only [opsAt, List.filterMap_cons, List.filterMap_nil, List.getElem?_toArray, List.getElem?_cons_succ, List.getElem?_cons_zero]
          repeat (first | go_big_quiet_step (fail) | quiet_step (fail))
          refine wpQuiet_nil ?_
          clear q0_1 y1 y2
          go_wp2_with fail
          go_roundw
          case rel => exact ⟨k + 1, _, by omega, by go_num, rfl, S⟩
          case measure => first | (simp [intOf]; done) | (simp [intOf]; omega)
        · go_wp2_with fail
          go_ret
          exact ⟨⟨_, rfl, fun _ => hl1⟩, S.out.bel⟩
  · have HH := Lib.hid hh
    clear hh
    go_enter Tryz.func4, Tryz.ntmps4
    go_wp2_with fail
    refine (huge_any _ _ r [] _ ⟨_, _, rfl, HR.out.below S.out.bel, HS.out.below S.out.bel⟩ ⟨rfl, none, 0, rfl, by simp, by omega, fun h => absurd h (by simp)⟩).mono ?_
    rintro e w1 ⟨rfl, hb⟩
    rw [HH.out]
    have S := Lib.hid (S.out.call hb)
    clear hb q0 q1
    have q0 := S.out.get 0 0 rfl rfl
    have q1 := S.out.get 0 1 rfl rfl
    go_wp2_with fail
    go_ret
    exact ⟨⟨true, rfl, fun h => by cases h⟩, S.out.bel⟩

end Go.Proofs.YtldcehhhndlhdaaGreatDoor.Hr
