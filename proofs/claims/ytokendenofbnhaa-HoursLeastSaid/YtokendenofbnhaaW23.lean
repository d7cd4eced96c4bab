/- Walks: the reference's within, IsHour, IsStreet, Check; Huge, Far, ready. -/
import Derived.Test.YtokendenofbnhaaW14
import Derived.Test.YtokendenofbnhaaPlain5
namespace Go.Proofs.Ytokendenofbnhaa
open Go.RowKit Go.Sort

set_option maxRecDepth 20000 in
set_option maxHeartbeats 400000 in
theorem rWithin1_any (n lo hi : Int) (w : World) :
    Calls Try.prog 39 #[I n, I lo, I hi] w fun e w' => e = .returned (.bool (inR n lo hi)) ∧ w = w' := by
  by_cases h1 : lo ≤ n
  · by_cases h2 : n ≤ hi
    · go_enter Try.func39, Try.ntmps39
      go_wp2
      go_ret
      exact ⟨by simp [inR, *], rfl⟩
    · go_enter Try.func39, Try.ntmps39
      go_wp2
      go_ret
      exact ⟨by simp [inR, *], rfl⟩
  · go_enter Try.func39, Try.ntmps39
    go_wp2
    go_ret
    exact ⟨by simp [inR]; omega, rfl⟩

set_option maxRecDepth 20000 in
set_option maxHeartbeats 400000 in
theorem rWithin_any (n lo hi : Int) (w : World) :
    Calls Try.prog 62 #[I n, I lo, I hi] w fun e w' => e = .returned (.bool (inR n lo hi)) ∧ w = w' := by
  go_enter Try.func62, Try.ntmps62
  go_wp2_with (go_at_call 39; refine (rWithin1_any _ _ _ _).mono ?_; rintro e w' ⟨rfl, rfl⟩)
  go_ret
  exact ⟨rfl, rfl⟩

set_option maxRecDepth 20000 in
set_option maxHeartbeats 1000000 in
theorem rIsHour_any (v : Value) (r : Ros) (n : Int) (w : World) (hv : RosAt w v r) :
    Calls Try.prog 29 #[v, I n] w fun e w' => e = .returned (.bool (isHour r n)) ∧ Below w.heap.size w w' := by
  obtain ⟨rv, sv, rfl, hr, hs⟩ := hv
  obtain ⟨A, c, rfl, h1, h2, -⟩ := hr.open_
  obtain ⟨A', c', rfl, h3, h4, -⟩ := hs.open_
  clear hr hs
  go_enter Try.func29, Try.ntmps29
  go_wp2_with (go_at_call 62; refine (rWithin_any _ _ _ _).mono ?_; rintro e w' ⟨rfl, rfl⟩)
  go_ret
  exact ⟨rfl, (Below.refl _ _).alloc (Nat.le_refl _) _⟩

set_option maxRecDepth 20000 in
set_option maxHeartbeats 1000000 in
theorem rIsStreet_any (v : Value) (r : Ros) (n : Int) (w : World) (hv : RosAt w v r) :
    Calls Try.prog 20 #[v, I n] w fun e w' => e = .returned (.bool (isStreet r n)) ∧ Below w.heap.size w w' := by
  obtain ⟨rv, sv, rfl, hr, hs⟩ := hv
  obtain ⟨A, c, rfl, h1, h2, -⟩ := hr.open_
  obtain ⟨A', c', rfl, h3, h4, -⟩ := hs.open_
  clear hr hs
  go_enter Try.func20, Try.ntmps20
  go_wp2_with (go_at_call 62; refine (rWithin_any _ _ _ _).mono ?_; rintro e w' ⟨rfl, rfl⟩)
  go_ret
  exact ⟨rfl, (Below.refl _ _).alloc (Nat.le_refl _) _⟩

set_option maxRecDepth 20000 in
set_option maxHeartbeats 8000000 in
theorem rCheck_any (v : Value) (r : Ros) (w : World) (hv : RosAt w v r) :
    Calls Try.prog 53 #[v] w fun e w' => e = .returned (I (chk r)) ∧ Below w.heap.size w w' := by
  obtain ⟨rv, sv, rfl, hr, hs⟩ := hv
  obtain ⟨A1, c1, rfl, hr1, hr2, -⟩ := hr.open_
  obtain ⟨A2, c2, rfl, hs1, hs2, -⟩ := hs.open_
  have HR := Lib.hid hr
  have HS := Lib.hid hs
  clear hr hs
  have S := Lib.hid (show St w (w.alloc (.cells #[.slice A1 r.room.length c1, .slice A2 r.strs.length c2] 25)) (w.heap.size + 1) [.box w.heap.size [.slice A1 r.room.length c1, .slice A2 r.strs.length c2]] from (St.init w).alloc [.slice A1 r.room.length c1, .slice A2 r.strs.length c2] 25)
  obtain ⟨_, _, e, _, _, hsc⟩ := HS.out.open_
  injection e with e1 e2 e3
  subst e1
  obtain ⟨_, _, e, _, _, hrc⟩ := HR.out.open_
  injection e with e4 e5 e6
  subst e4
  have HSC := Lib.hid hsc
  have HRC := Lib.hid hrc
  clear e2 e3 e5 e6 hsc hrc
  have q0 := S.out.get 0 0 rfl rfl
  have q1 := S.out.get 0 1 rfl rfl
  by_cases g1 : 8 < r.room.length
  · have HE := Lib.hid (show chk r = 80 by simp [chk, valid]; omega)
    go_enter Try.func53, Try.ntmps53
    go_wp2_with fail
    go_ret
    exact ⟨by rw [HE.out]; rfl, S.out.bel⟩
  · by_cases g2 : 6 < r.strs.length
    · have HE := Lib.hid (show chk r = 80 by simp [chk, valid]; omega)
      go_enter Try.func53, Try.ntmps53
      go_wp2_with fail
      go_ret
      exact ⟨by rw [HE.out]; rfl, S.out.bel⟩
    · go_enter Try.func53, Try.ntmps53
      go_wp2_with fail
      clear q0 q1
      go_loopw [3] (fun i wr => ∃ k : Nat, k ≤ r.room.length ∧ i = I k ∧ Hid (r.room.any badRoom = (r.room.drop k).any badRoom) ∧ Hid (St w wr wr.heap.size [.box w.heap.size [.slice A1 r.room.length c1, .slice A2 r.strs.length c2]])) (fun i _ => r.room.length - (intOf i).toNat)
      case atStart => exact ⟨0, by omega, rfl, Lib.hid rfl, Lib.hid S.out.fix⟩
      case round =>
        clear S
        obtain ⟨k, hk, rfl, HD, S⟩ := hrel
        have q0 := S.out.get 0 0 rfl rfl
        by_cases hlt : k < r.room.length
        · have hki : (k : Int) < (r.room.length : Int) := by omega
          obtain ⟨b1, o1, rfl, hb1, hcell⟩ := HRC.out (by omega)
          have y0 := keep_cell S.out.bel (hcell k hlt)
          obtain ⟨x, hx⟩ : ∃ x, r.room[k] = x := ⟨_, rfl⟩
          rw [hx] at y0
          have HX := Lib.hid hx
          clear hcell hx
          cases hin : inR x 0 6
          · have HB := Lib.hid (show badRoom x = true by unfold badRoom; rw [hin]; rfl)
            go_wp2_with (go_at_call 62; refine (rWithin_any _ _ _ _).mono ?_; rintro e w' ⟨rfl, rfl⟩)
            go_ret
            have ha : r.room.any badRoom = true := by rw [HD.out, List.drop_eq_getElem_cons hlt, List.any_cons, HX.out, HB.out]; rfl
            exact ⟨by rw [show chk r = 80 by unfold chk valid; rw [ha]; simp]; rfl, S.out.bel⟩
          · have HB := Lib.hid (show badRoom x = false by unfold badRoom; rw [hin]; rfl)
            go_wp2_with (go_at_call 62; refine (rWithin_any _ _ _ _).mono ?_; rintro e w' ⟨rfl, rfl⟩)
            clear y0 q0
            go_roundw
            case rel => exact ⟨k + 1, by omega, by go_num, Lib.hid (by rw [HD.out, List.drop_eq_getElem_cons hlt, List.any_cons, HX.out, HB.out, Bool.false_or]), S⟩
            case measure => first | (simp [intOf]; done) | (simp [intOf]; omega)
        · have HNR := Lib.hid (show r.room.any badRoom = false by rw [HD.out, List.drop_eq_nil_of_le (by omega)]; rfl)
          go_wp2_with fail
          clear q0 HD
          obtain ⟨wo, rfl⟩ : ∃ wo : World, wo = wr := ⟨_, rfl⟩
          go_loopw [4] (fun i wr => ∃ k : Nat, k ≤ r.strs.length ∧ i = I k ∧ Hid (r.strs.any (badStr r) = (r.strs.drop k).any (badStr r)) ∧ Hid (St w wr wr.heap.size [.box w.heap.size [.slice A1 r.room.length c1, .slice A2 r.strs.length c2]])) (fun i _ => r.strs.length - (intOf i).toNat)
          case atStart => exact ⟨0, by omega, rfl, Lib.hid rfl, S⟩
          case round =>
            clear S hlt hk
            obtain ⟨k, hk, rfl, HD, S⟩ := hrel
            have q1 := S.out.get 0 1 rfl rfl
            by_cases hlt : k < r.strs.length
            · have hki : (k : Int) < (r.strs.length : Int) := by omega
              obtain ⟨b2, o2, rfl, hb2, hcell⟩ := HSC.out (by omega)
              obtain ⟨z0, z1, z2, z3⟩ := hcell k hlt
              obtain ⟨s, hs⟩ : ∃ s, r.strs[k] = s := ⟨_, rfl⟩
              rw [hs] at z0 z1 z2 z3
              have HSE := Lib.hid hs
              have z0 := keep_cell S.out.bel z0
              have z1 := keep_cell S.out.bel z1
              have z2 := keep_cell S.out.bel z2
              have z3 := keep_cell S.out.bel z3
              have S := Lib.hid (S.out.alloc [I s.has, I s.frm, I s.to, I s.cost] 33)
              clear hcell hs
              have x0 := S.out.get 0 0 rfl rfl
              have x1 := S.out.get 0 1 rfl rfl
              have x2 := S.out.get 0 2 rfl rfl
              have x3 := S.out.get 0 3 rfl rfl
              have k0 := S.out.get 1 0 rfl rfl
              have k1 := S.out.get 1 1 rfl rfl
              by_cases h1 : s.has = -1
              · have h1' : (s.has != -1) = false := by simp [h1]
                have H1 := Lib.hid h1
                clear h1
                cases h3 : isHour r s.frm
                · go_wp2_with (first | (go_at_call 29; refine (rIsHour_any _ r _ _ ⟨_, _, rfl, HR.out.below S.out.bel, HS.out.below S.out.bel⟩).mono ?_; rintro e w1 ⟨rfl, hb⟩; have S := Lib.hid (S.out.call hb); clear hb x0 x1 x2 x3 k0 k1; have x0 := S.out.get 0 0 rfl rfl; have x1 := S.out.get 0 1 rfl rfl; have x2 := S.out.get 0 2 rfl rfl; have x3 := S.out.get 0 3 rfl rfl; have k0 := S.out.get 1 0 rfl rfl; have k1 := S.out.get 1 1 rfl rfl) | (go_at_call 62; refine (rWithin_any _ _ _ _).mono ?_; rintro e w' ⟨rfl, rfl⟩))
                  go_ret
                  have hh := H1.out
                  have hb : badStr r s = true := by simp [badStr, *]
                  have ha : r.strs.any (badStr r) = true := by rw [HD.out, List.drop_eq_getElem_cons hlt, List.any_cons, HSE.out, hb]; rfl
                  exact ⟨by rw [show chk r = 80 by unfold chk valid; rw [ha]; simp]; rfl, S.out.bel⟩
                · cases h4 : isHour r s.to
                  · go_wp2_with (first | (go_at_call 29; refine (rIsHour_any _ r _ _ ⟨_, _, rfl, HR.out.below S.out.bel, HS.out.below S.out.bel⟩).mono ?_; rintro e w1 ⟨rfl, hb⟩; have S := Lib.hid (S.out.call hb); clear hb x0 x1 x2 x3 k0 k1; have x0 := S.out.get 0 0 rfl rfl; have x1 := S.out.get 0 1 rfl rfl; have x2 := S.out.get 0 2 rfl rfl; have x3 := S.out.get 0 3 rfl rfl; have k0 := S.out.get 1 0 rfl rfl; have k1 := S.out.get 1 1 rfl rfl) | (go_at_call 62; refine (rWithin_any _ _ _ _).mono ?_; rintro e w' ⟨rfl, rfl⟩))
                    go_ret
                    have hh := H1.out
                    have hb : badStr r s = true := by simp [badStr, *]
                    have ha : r.strs.any (badStr r) = true := by rw [HD.out, List.drop_eq_getElem_cons hlt, List.any_cons, HSE.out, hb]; rfl
                    exact ⟨by rw [show chk r = 80 by unfold chk valid; rw [ha]; simp]; rfl, S.out.bel⟩
                  · cases h5 : decide (s.to < s.frm)
                    · cases h6 : inR s.cost 0 9
                      · go_wp2_with (first | (go_at_call 29; refine (rIsHour_any _ r _ _ ⟨_, _, rfl, HR.out.below S.out.bel, HS.out.below S.out.bel⟩).mono ?_; rintro e w1 ⟨rfl, hb⟩; have S := Lib.hid (S.out.call hb); clear hb x0 x1 x2 x3 k0 k1; have x0 := S.out.get 0 0 rfl rfl; have x1 := S.out.get 0 1 rfl rfl; have x2 := S.out.get 0 2 rfl rfl; have x3 := S.out.get 0 3 rfl rfl; have k0 := S.out.get 1 0 rfl rfl; have k1 := S.out.get 1 1 rfl rfl) | (go_at_call 62; refine (rWithin_any _ _ _ _).mono ?_; rintro e w' ⟨rfl, rfl⟩))
                        go_ret
                        have hh := H1.out
                        have hb : badStr r s = true := by simp [badStr, *]
                        have ha : r.strs.any (badStr r) = true := by rw [HD.out, List.drop_eq_getElem_cons hlt, List.any_cons, HSE.out, hb]; rfl
                        exact ⟨by rw [show chk r = 80 by unfold chk valid; rw [ha]; simp]; rfl, S.out.bel⟩
                      · go_wp2_with (first | (go_at_call 29; refine (rIsHour_any _ r _ _ ⟨_, _, rfl, HR.out.below S.out.bel, HS.out.below S.out.bel⟩).mono ?_; rintro e w1 ⟨rfl, hb⟩; have S := Lib.hid (S.out.call hb); clear hb x0 x1 x2 x3 k0 k1; have x0 := S.out.get 0 0 rfl rfl; have x1 := S.out.get 0 1 rfl rfl; have x2 := S.out.get 0 2 rfl rfl; have x3 := S.out.get 0 3 rfl rfl; have k0 := S.out.get 1 0 rfl rfl; have k1 := S.out.get 1 1 rfl rfl) | (go_at_call 62; refine (rWithin_any _ _ _ _).mono ?_; rintro e w' ⟨rfl, rfl⟩))
                        go_roundw
                        case rel => exact ⟨k + 1, by omega, by go_num, Lib.hid (by
                          have hh := H1.out
                          rw [HD.out, List.drop_eq_getElem_cons hlt, List.any_cons, HSE.out]
                          have hb : badStr r s = false := by simp [badStr, *]
                          rw [hb, Bool.false_or]), Lib.hid S.out.tail⟩
                        case measure => first | (simp [intOf]; done) | (simp [intOf]; omega)
                    · go_wp2_with (first | (go_at_call 29; refine (rIsHour_any _ r _ _ ⟨_, _, rfl, HR.out.below S.out.bel, HS.out.below S.out.bel⟩).mono ?_; rintro e w1 ⟨rfl, hb⟩; have S := Lib.hid (S.out.call hb); clear hb x0 x1 x2 x3 k0 k1; have x0 := S.out.get 0 0 rfl rfl; have x1 := S.out.get 0 1 rfl rfl; have x2 := S.out.get 0 2 rfl rfl; have x3 := S.out.get 0 3 rfl rfl; have k0 := S.out.get 1 0 rfl rfl; have k1 := S.out.get 1 1 rfl rfl) | (go_at_call 62; refine (rWithin_any _ _ _ _).mono ?_; rintro e w' ⟨rfl, rfl⟩))
                      go_ret
                      have hh := H1.out
                      have hb : badStr r s = true := by simp [badStr, *]
                      have ha : r.strs.any (badStr r) = true := by rw [HD.out, List.drop_eq_getElem_cons hlt, List.any_cons, HSE.out, hb]; rfl
                      exact ⟨by rw [show chk r = 80 by unfold chk valid; rw [ha]; simp]; rfl, S.out.bel⟩
              · have h1' : (s.has != -1) = true := by simp [h1]
                have H1 := Lib.hid h1
                clear h1
                cases h2 : isHour r s.has
                · go_wp2_with (first | (go_at_call 29; refine (rIsHour_any _ r _ _ ⟨_, _, rfl, HR.out.below S.out.bel, HS.out.below S.out.bel⟩).mono ?_; rintro e w1 ⟨rfl, hb⟩; have S := Lib.hid (S.out.call hb); clear hb x0 x1 x2 x3 k0 k1; have x0 := S.out.get 0 0 rfl rfl; have x1 := S.out.get 0 1 rfl rfl; have x2 := S.out.get 0 2 rfl rfl; have x3 := S.out.get 0 3 rfl rfl; have k0 := S.out.get 1 0 rfl rfl; have k1 := S.out.get 1 1 rfl rfl) | (go_at_call 62; refine (rWithin_any _ _ _ _).mono ?_; rintro e w' ⟨rfl, rfl⟩))
                  go_ret
                  have hh := H1.out
                  have hb : badStr r s = true := by simp [badStr, *]
                  have ha : r.strs.any (badStr r) = true := by rw [HD.out, List.drop_eq_getElem_cons hlt, List.any_cons, HSE.out, hb]; rfl
                  exact ⟨by rw [show chk r = 80 by unfold chk valid; rw [ha]; simp]; rfl, S.out.bel⟩
                · cases h3 : isHour r s.frm
                  · go_wp2_with (first | (go_at_call 29; refine (rIsHour_any _ r _ _ ⟨_, _, rfl, HR.out.below S.out.bel, HS.out.below S.out.bel⟩).mono ?_; rintro e w1 ⟨rfl, hb⟩; have S := Lib.hid (S.out.call hb); clear hb x0 x1 x2 x3 k0 k1; have x0 := S.out.get 0 0 rfl rfl; have x1 := S.out.get 0 1 rfl rfl; have x2 := S.out.get 0 2 rfl rfl; have x3 := S.out.get 0 3 rfl rfl; have k0 := S.out.get 1 0 rfl rfl; have k1 := S.out.get 1 1 rfl rfl) | (go_at_call 62; refine (rWithin_any _ _ _ _).mono ?_; rintro e w' ⟨rfl, rfl⟩))
                    go_ret
                    have hh := H1.out
                    have hb : badStr r s = true := by simp [badStr, *]
                    have ha : r.strs.any (badStr r) = true := by rw [HD.out, List.drop_eq_getElem_cons hlt, List.any_cons, HSE.out, hb]; rfl
                    exact ⟨by rw [show chk r = 80 by unfold chk valid; rw [ha]; simp]; rfl, S.out.bel⟩
                  · cases h4 : isHour r s.to
                    · go_wp2_with (first | (go_at_call 29; refine (rIsHour_any _ r _ _ ⟨_, _, rfl, HR.out.below S.out.bel, HS.out.below S.out.bel⟩).mono ?_; rintro e w1 ⟨rfl, hb⟩; have S := Lib.hid (S.out.call hb); clear hb x0 x1 x2 x3 k0 k1; have x0 := S.out.get 0 0 rfl rfl; have x1 := S.out.get 0 1 rfl rfl; have x2 := S.out.get 0 2 rfl rfl; have x3 := S.out.get 0 3 rfl rfl; have k0 := S.out.get 1 0 rfl rfl; have k1 := S.out.get 1 1 rfl rfl) | (go_at_call 62; refine (rWithin_any _ _ _ _).mono ?_; rintro e w' ⟨rfl, rfl⟩))
                      go_ret
                      have hh := H1.out
                      have hb : badStr r s = true := by simp [badStr, *]
                      have ha : r.strs.any (badStr r) = true := by rw [HD.out, List.drop_eq_getElem_cons hlt, List.any_cons, HSE.out, hb]; rfl
                      exact ⟨by rw [show chk r = 80 by unfold chk valid; rw [ha]; simp]; rfl, S.out.bel⟩
                    · cases h5 : decide (s.to < s.frm)
                      · cases h6 : inR s.cost 0 9
                        · go_wp2_with (first | (go_at_call 29; refine (rIsHour_any _ r _ _ ⟨_, _, rfl, HR.out.below S.out.bel, HS.out.below S.out.bel⟩).mono ?_; rintro e w1 ⟨rfl, hb⟩; have S := Lib.hid (S.out.call hb); clear hb x0 x1 x2 x3 k0 k1; have x0 := S.out.get 0 0 rfl rfl; have x1 := S.out.get 0 1 rfl rfl; have x2 := S.out.get 0 2 rfl rfl; have x3 := S.out.get 0 3 rfl rfl; have k0 := S.out.get 1 0 rfl rfl; have k1 := S.out.get 1 1 rfl rfl) | (go_at_call 62; refine (rWithin_any _ _ _ _).mono ?_; rintro e w' ⟨rfl, rfl⟩))
                          go_ret
                          have hh := H1.out
                          have hb : badStr r s = true := by simp [badStr, *]
                          have ha : r.strs.any (badStr r) = true := by rw [HD.out, List.drop_eq_getElem_cons hlt, List.any_cons, HSE.out, hb]; rfl
                          exact ⟨by rw [show chk r = 80 by unfold chk valid; rw [ha]; simp]; rfl, S.out.bel⟩
                        · go_wp2_with (first | (go_at_call 29; refine (rIsHour_any _ r _ _ ⟨_, _, rfl, HR.out.below S.out.bel, HS.out.below S.out.bel⟩).mono ?_; rintro e w1 ⟨rfl, hb⟩; have S := Lib.hid (S.out.call hb); clear hb x0 x1 x2 x3 k0 k1; have x0 := S.out.get 0 0 rfl rfl; have x1 := S.out.get 0 1 rfl rfl; have x2 := S.out.get 0 2 rfl rfl; have x3 := S.out.get 0 3 rfl rfl; have k0 := S.out.get 1 0 rfl rfl; have k1 := S.out.get 1 1 rfl rfl) | (go_at_call 62; refine (rWithin_any _ _ _ _).mono ?_; rintro e w' ⟨rfl, rfl⟩))
                          go_roundw
                          case rel => exact ⟨k + 1, by omega, by go_num, Lib.hid (by
                            have hh := H1.out
                            rw [HD.out, List.drop_eq_getElem_cons hlt, List.any_cons, HSE.out]
                            have hb : badStr r s = false := by simp [badStr, *]
                            rw [hb, Bool.false_or]), Lib.hid S.out.tail⟩
                          case measure => first | (simp [intOf]; done) | (simp [intOf]; omega)
                      · go_wp2_with (first | (go_at_call 29; refine (rIsHour_any _ r _ _ ⟨_, _, rfl, HR.out.below S.out.bel, HS.out.below S.out.bel⟩).mono ?_; rintro e w1 ⟨rfl, hb⟩; have S := Lib.hid (S.out.call hb); clear hb x0 x1 x2 x3 k0 k1; have x0 := S.out.get 0 0 rfl rfl; have x1 := S.out.get 0 1 rfl rfl; have x2 := S.out.get 0 2 rfl rfl; have x3 := S.out.get 0 3 rfl rfl; have k0 := S.out.get 1 0 rfl rfl; have k1 := S.out.get 1 1 rfl rfl) | (go_at_call 62; refine (rWithin_any _ _ _ _).mono ?_; rintro e w' ⟨rfl, rfl⟩))
                        go_ret
                        have hh := H1.out
                        have hb : badStr r s = true := by simp [badStr, *]
                        have ha : r.strs.any (badStr r) = true := by rw [HD.out, List.drop_eq_getElem_cons hlt, List.any_cons, HSE.out, hb]; rfl
                        exact ⟨by rw [show chk r = 80 by unfold chk valid; rw [ha]; simp]; rfl, S.out.bel⟩
            · have HE := Lib.hid (show chk r = 0 by
                have h1 := HNR.out
                have h2 := HD.out
                rw [List.drop_eq_nil_of_le (show r.strs.length ≤ k by omega)] at h2
                unfold chk valid
                rw [h1, h2]
                simp; omega)
              go_wp2_with fail
              go_ret
              exact ⟨by rw [HE.out]; rfl, S.out.bel⟩

end Go.Proofs.Ytokendenofbnhaa
