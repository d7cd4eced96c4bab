/- HoursMore: the law walked. -/
import Derived.Test.YtokendenofbnhaaW22
import Derived.Test.YtokendenofbnhaaW25
import Derived.Test.YtokendenofbnhaaW26
import Derived.Test.YtokendenofbnhaaW20
import Derived.Test.YtokendenofbnhaaPlain11
namespace Go.Proofs.Ytokendenofbnhaa
open Go.RowKit Go.Sort

theorem strCells_set4 : ∀ (ss : List Str) (i : Nat) (s : Str), i < ss.length → ((((strCells ss).set (i * 4) (I s.has)).set (i * 4 + 1) (I s.frm)).set (i * 4 + 2) (I s.to)).set (i * 4 + 3) (I s.cost) = strCells (ss.set i s)
  | [], i, _, h => absurd h (by simp)
  | s :: ss, 0, x, _ => rfl
  | s :: ss, i + 1, x, h => by
    have := strCells_set4 ss i x (by simpa using h)
    have e : strCells (s :: ss) = I s.has :: I s.frm :: I s.to :: I s.cost :: strCells ss := rfl
    rw [e, show (i + 1) * 4 = i * 4 + 4 from by omega, show i * 4 + 4 + 1 = i * 4 + 1 + 4 from by omega, show i * 4 + 4 + 2 = i * 4 + 2 + 4 from by omega, show i * 4 + 4 + 3 = i * 4 + 3 + 4 from by omega]
    simp only [List.set_cons_succ, this]
    rfl

set_option maxRecDepth 20000 in
set_option maxHeartbeats 8000000 in
theorem lawMore_any (v : Value) (r : Ros) (v2 : Value) (l : List Int) (h m z : Int) (p q : Bool) (w : World) (hv : RosAt w v r) (hl : Ints w v2 l) :
    Calls Try.prog 8 #[v, v2, .agg #[I h, I m, I z, .bool p, .bool q]] w fun e w' => e = .returned (.bool true) ∧ Below w.heap.size w w' := by
  obtain ⟨rv, sv, rfl, hr, hs⟩ := hv
  obtain ⟨A1, c1, rfl, hr1, hr2, -⟩ := hr.open_
  obtain ⟨A2, c2, rfl, hs1, hs2, -⟩ := hs.open_
  have HR := Lib.hid hr
  have HS := Lib.hid hs
  clear hr hs
  have S := Lib.hid (show St w (w.alloc (.cells #[.slice A1 r.room.length c1, .slice A2 r.strs.length c2] 25)) (w.heap.size + 1) [.box w.heap.size [.slice A1 r.room.length c1, .slice A2 r.strs.length c2]] from (St.init w).alloc [.slice A1 r.room.length c1, .slice A2 r.strs.length c2] 25)
  obtain ⟨Al, cl, rfl, hl1, hl2, -⟩ := id hl.open_
  have HL := Lib.hid hl
  clear hl
  have S := Lib.hid (S.out.alloc [I h, I m, I z, .bool p, .bool q] 55)
  have q0 := S.out.get 1 0 rfl rfl
  have q1 := S.out.get 1 1 rfl rfl
  go_enter Try.func8, Try.ntmps8
  go_wp2_with fail
  clear q0 q1
  refine (ready_any _ r _ ⟨_, _, rfl, HR.out.below S.out.bel, HS.out.below S.out.bel⟩).mono ?_
  rintro e w1 ⟨⟨b, rfl, hok⟩, hb⟩
  have S := Lib.hid (S.out.call hb)
  clear hb
  cases b
  · clear hok
    go_wp2_with fail
    refine (works_any _).mono ?_
    rintro e w2 ⟨rfl, hb⟩
    have S := Lib.hid (S.out.call hb)
    clear hb
    go_wp2_with fail
    go_ret
    exact ⟨rfl, S.out.bel⟩
  · have hvd := hok rfl
    have HVD := Lib.hid hvd
    clear hok
    have q0 := S.out.get 1 0 rfl rfl
    have q1 := S.out.get 1 1 rfl rfl
    have x0 := S.out.get 0 0 rfl rfl
    by_cases hl40 : 40 < l.length
    · have hl40' : (40 : Int) < (l.length : Int) := by omega
      clear q0 q1 x0
      go_wp2_with fail
      refine (works_any _).mono ?_
      rintro e w2 ⟨rfl, hb⟩
      have S := Lib.hid (S.out.call hb)
      clear hb
      go_wp2_with fail
      go_ret
      exact ⟨rfl, S.out.bel⟩
    · have hl40' : ¬ (40 : Int) < (l.length : Int) := by omega
      have hlen : l.length ≤ 1000 := by omega
      cases hh : isHour r h
      · have HH := Lib.hid hh
        clear hh
        go_wp2_with fail
        clear q0 q1 x0
        refine (rIsHour_any _ r _ _ ⟨_, _, rfl, HR.out.below S.out.bel, HS.out.below S.out.bel⟩).mono ?_
        rintro e w3 ⟨rfl, hb⟩
        rw [HH.out]
        have S := Lib.hid (S.out.call hb)
        clear hb
        go_wp2_with fail
        refine (works_any _).mono ?_
        rintro e w4 ⟨rfl, hb⟩
        have S := Lib.hid (S.out.call hb)
        clear hb
        go_wp2_with fail
        go_ret
        exact ⟨rfl, S.out.bel⟩
      · have HH := Lib.hid hh
        go_wp2_with fail
        clear q0 q1 x0
        refine (rIsHour_any _ r _ _ ⟨_, _, rfl, HR.out.below S.out.bel, HS.out.below S.out.bel⟩).mono ?_
        rintro e w3 ⟨rfl, hb⟩
        rw [HH.out]
        have S := Lib.hid (S.out.call hb)
        clear hb
        have x1 := S.out.get 0 1 rfl rfl
        go_wp2_with fail
        clear x1
        refine (rWithin1_any _ _ _ _).mono ?_
        rintro e w4 ⟨rfl, rfl⟩
        cases hm : inR m 0 6
        · go_wp2_with fail
          refine (works_any _).mono ?_
          rintro e w5 ⟨rfl, hb⟩
          have S := Lib.hid (S.out.call hb)
          clear hb
          go_wp2_with fail
          go_ret
          exact ⟨rfl, S.out.bel⟩
        · obtain ⟨hN, rfl⟩ := Int.eq_ofNat_of_zero_le (isHour_spec hh).1
          have hhl : hN < r.room.length := by have := (isHour_spec hh).2; omega
          have hm := inR_iff.1 hm
          obtain ⟨rm, hrm⟩ : ∃ x, (roomier r hN m).room = x := ⟨_, rfl⟩
          have hle := roomier_le hvd hN hm.1
          rw [hrm] at hle
          have HLE := Lib.hid hle
          clear hle
          have q0 := S.out.get 1 0 rfl rfl
          have q1 := S.out.get 1 1 rfl rfl
          have x0 := S.out.get 0 0 rfl rfl
          have x1 := S.out.get 0 1 rfl rfl
          go_wp2_with fail
          clear q0 q1 x0 x1
          refine (roomier_any _ r hN m _ ⟨_, _, rfl, HR.out.below S.out.bel, HS.out.below S.out.bel⟩ (by have := hvd.rl; omega) (by have := hvd.sl; omega) hhl (by omega) (fun x hx => by have := hvd.rm x hx; omega)).mono ?_
          rintro e w10 ⟨v', rfl, ⟨rv', sv', rfl, ho1, ho2⟩, hb⟩
          rw [hrm] at ho1
          rw [roomier_strs] at ho2
          obtain ⟨Ax, cx, rfl⟩ := own_shape ho1
          obtain ⟨Ay, cy, rfl⟩ := own_shape ho2
          have S := Lib.hid ((S.out.take2 hb ho1 ho2 (by decide)).alloc [.slice Ax rm.length cx, .slice Ay r.strs.length cy] 25)
          clear hb ho1 ho2 hrm
          cases hst : isStreet r z
          · have HST := Lib.hid hst
            clear hst
            have HWD := Lib.hid (WdL.refl r.strs)
            have x2 := S.out.get 3 2 rfl rfl
            have q0 := S.out.get 4 0 rfl rfl
            have q1 := S.out.get 4 1 rfl rfl
            go_wp2_with fail
            clear q0 q1
            refine (rIsStreet_any _ r _ _ ⟨_, _, rfl, HR.out.below S.out.bel, HS.out.below S.out.bel⟩).mono ?_
            rintro e w11 ⟨rfl, hb⟩
            rw [HST.out]
            have S := Lib.hid (S.out.call hb)
            clear hb
            have p0 := S.out.get 0 0 rfl rfl
            have p1 := S.out.get 0 1 rfl rfl
            go_wp2_with fail
            clear p0 p1 x2
            refine (ready_any _ ⟨rm, r.strs⟩ _ ⟨_, _, rfl, S.out.ints 1 rfl, S.out.row 2 rfl⟩).mono ?_
            rintro e w20 ⟨⟨bb, rfl, hok2⟩, hb⟩
            have S := Lib.hid (S.out.call hb)
            clear hb
            cases bb
            · clear hok2
              go_wp2_with fail
              refine (works_any _).mono ?_
              rintro e w21 ⟨rfl, hb⟩
              have S := Lib.hid (S.out.call hb)
              clear hb
              go_wp2_with fail
              go_ret
              exact ⟨rfl, S.out.bel⟩
            · have HOD := Lib.hid (hok2 rfl)
              clear hok2
              have q0 := S.out.get 4 0 rfl rfl
              have q1 := S.out.get 4 1 rfl rfl
              go_wp2_with fail
              clear q0 q1
              refine (three_any _ r _ ⟨_, _, rfl, HR.out.below S.out.bel, HS.out.below S.out.bel⟩ HVD.out).mono ?_
              rintro e w22 ⟨rfl, hb⟩
              have S := Lib.hid (S.out.call hb)
              clear hb
              have p0 := S.out.get 0 0 rfl rfl
              have p1 := S.out.get 0 1 rfl rfl
              cases hs : someR r
              · rw [if_neg (by simp)]
                go_wp2_with fail
                clear p0 p1
                refine (three_any _ ⟨rm, r.strs⟩ _ ⟨_, _, rfl, S.out.ints 1 rfl, S.out.row 2 rfl⟩ HOD.out).mono ?_
                rintro e w23 ⟨rfl, hb⟩
                clear hs
                have S := Lib.hid (S.out.call hb)
                clear hb
                obtain ⟨d, e, f, so, he⟩ : ∃ (d e f : Int) (so : Bool), (if someR ⟨rm, r.strs⟩ = true then Value.tuple #[I (bestR stepsI ⟨rm, r.strs⟩).1, I (farN ⟨rm, r.strs⟩ : Int), I (bestR onceI ⟨rm, r.strs⟩).1, .bool true, .bool false] else .tuple #[I 0, I 0, I 0, .bool false, .bool false]) = .tuple #[I d, I e, I f, .bool so, .bool false] := by
                  split
                  · exact ⟨_, _, _, _, rfl⟩
                  · exact ⟨_, _, _, _, rfl⟩
                rw [he]
                clear he
                go_wp2_with fail
                obtain ⟨g1, hg1⟩ : ∃ x, newB r l = x := ⟨_, rfl⟩
                obtain ⟨g2, hg2⟩ : ∃ x, newB ⟨rm, r.strs⟩ l = x := ⟨_, rfl⟩
                have HG1 := Lib.hid (show pGoodR r l = (g1, 0) by unfold pGoodR; rw [if_pos (valid_iff.2 HVD.out), hg1])
                have HG2 := Lib.hid (show pGoodR ⟨rm, r.strs⟩ l = (g2, 0) by unfold pGoodR; rw [if_pos (valid_iff.2 HOD.out), hg2])
                have HGG := Lib.hid (show g1 = true → g2 = true by intro e; rw [← hg2]; exact more_new (r := r) (o := ⟨rm, r.strs⟩) HLE.out HWD.out (by rw [hg1, e]))
                have HN1 := Lib.hid hg1
                clear hg1 hg2
                refine wp_region_seg [([0, 1], 2), ([], 3)] [4, 5, 6, 7, 8] [] 9 (by kernel_rfl) (by kernel_rfl) ?_
                intro KQ hKQ w30 hb
                have S := Lib.hid (S.out.call hb)
                clear hb
                have q0 := cell_regrown (S.out.get 4 0 rfl rfl)
                have q1 := cell_regrown (S.out.get 4 1 rfl rfl)
                refine seg_next ?_
                simp only [opsAt, List.filterMap_cons, List.filterMap_nil, List.getElem?_toArray, List.getElem?_cons_succ, List.getElem?_cons_zero]
                repeat (first | go_big_quiet_step (fail) | quiet_step (fail))
                refine wpQuiet_nil ?_
                intro K hK
                refine loud_op rfl rfl ?_
                go_simp
                refine (copied_any _ l _ (HL.out.below S.out.bel) hlen).mono ?_
                rintro e w31 ⟨vc, rfl, hown, hb⟩
                obtain ⟨Ac, cc, rfl⟩ := own_shape hown
                have S := Lib.hid (S.out.take hb hown)
                refine hK _ _ hb ?_
                clear hK K hb hown
                refine seg_next ?_
                simp only [opsAt, List.filterMap_nil]
                refine wpQuiet_nil ?_
                intro K hK
                refine loud_op rfl rfl ?_
                go_simp
                refine (pGood_any _ _ r l _ ⟨_, _, rfl, HR.out.below S.out.bel, HS.out.below S.out.bel⟩ (S.out.ints 0 rfl) hlen).mono ?_
                rintro e w32 ⟨rfl, hb⟩
                rw [HG1.out]
                have S := Lib.hid (S.out.call hb)
                refine hK _ _ hb ?_
                clear hK K hb
                refine seg_last ?_
                simp only [opsAt, List.filterMap_cons, List.filterMap_nil, List.getElem?_toArray, List.getElem?_cons_succ, List.getElem?_cons_zero]
                repeat (first | go_big_quiet_step (fail) | quiet_step (fail))
                refine wpQuiet_nil ?_
                have S := Lib.hid S.out.tail
                clear q0 q1
                go_wp2_with fail
                refine wp_region_seg [([0, 1], 2), ([], 3)] [4, 5, 6, 7, 8] [] 9 (by kernel_rfl) (by kernel_rfl) ?_
                intro KQ hKQ w40 hb
                have S := Lib.hid (S.out.call hb)
                clear hb
                have p0 := cell_regrown (S.out.get 0 0 rfl rfl)
                have p1 := cell_regrown (S.out.get 0 1 rfl rfl)
                refine seg_next ?_
                simp only [opsAt, List.filterMap_cons, List.filterMap_nil, List.getElem?_toArray, List.getElem?_cons_succ, List.getElem?_cons_zero]
                repeat (first | go_big_quiet_step (fail) | quiet_step (fail))
                refine wpQuiet_nil ?_
                intro K hK
                refine loud_op rfl rfl ?_
                go_simp
                refine (copied_any _ l _ (HL.out.below S.out.bel) hlen).mono ?_
                rintro e w41 ⟨vc, rfl, hown, hb⟩
                obtain ⟨Ac, cc, rfl⟩ := own_shape hown
                have S := Lib.hid (S.out.take hb hown)
                refine hK _ _ hb ?_
                clear hK K hb hown
                refine seg_next ?_
                simp only [opsAt, List.filterMap_nil]
                refine wpQuiet_nil ?_
                intro K hK
                refine loud_op rfl rfl ?_
                go_simp
                refine (pGood_any _ _ ⟨rm, r.strs⟩ l _ ⟨_, _, rfl, S.out.ints 2 rfl, S.out.row 3 rfl⟩ (S.out.ints 0 rfl) hlen).mono ?_
                rintro e w42 ⟨rfl, hb⟩
                rw [HG2.out]
                have S := Lib.hid (S.out.call hb)
                refine hK _ _ hb ?_
                clear hK K hb
                refine seg_last ?_
                simp only [opsAt, List.filterMap_cons, List.filterMap_nil, List.getElem?_toArray, List.getElem?_cons_succ, List.getElem?_cons_zero]
                repeat (first | go_big_quiet_step (fail) | quiet_step (fail))
                refine wpQuiet_nil ?_
                have S := Lib.hid S.out.tail
                clear p0 p1
                have q0 := S.out.get 4 0 rfl rfl
                have q1 := S.out.get 4 1 rfl rfl
                cases g1
                · go_wp2_with fail
                  clear q0 q1
                  refine (isNew_any _ _ r l _ ⟨_, _, rfl, HR.out.below S.out.bel, HS.out.below S.out.bel⟩ HVD.out (HL.out.below S.out.bel) hlen).mono ?_
                  rintro e w50 ⟨rfl, hb⟩
                  rw [HN1.out]
                  have S := Lib.hid (S.out.call hb)
                  clear hb
                  go_wp2_with fail
                  refine (works_any _).mono ?_
                  rintro e w51 ⟨rfl, hb⟩
                  have S := Lib.hid (S.out.call hb)
                  clear hb
                  go_wp2_with fail
                  go_ret
                  exact ⟨rfl, S.out.bel⟩
                · obtain rfl := HGG.out rfl
                  go_wp2_with fail
                  clear q0 q1
                  refine (isNew_any _ _ r l _ ⟨_, _, rfl, HR.out.below S.out.bel, HS.out.below S.out.bel⟩ HVD.out (HL.out.below S.out.bel) hlen).mono ?_
                  rintro e w50 ⟨rfl, hb⟩
                  rw [HN1.out]
                  have S := Lib.hid (S.out.call hb)
                  clear hb
                  go_wp2_with fail
                  refine (works_any _).mono ?_
                  rintro e w51 ⟨rfl, hb⟩
                  have S := Lib.hid (S.out.call hb)
                  clear hb
                  go_wp2_with fail
                  go_ret
                  exact ⟨rfl, S.out.bel⟩
              · rw [if_pos rfl]
                obtain ⟨hso, h1, h2, h3⟩ := more_said (r := r) (o := ⟨rm, r.strs⟩) HVD.out HOD.out HLE.out HWD.out hs
                clear hs
                obtain ⟨a, ha⟩ : ∃ x, (bestR stepsI r).1 = x := ⟨_, rfl⟩
                obtain ⟨b, hb1⟩ : ∃ x, (farN r : Int) = x := ⟨_, rfl⟩
                obtain ⟨c, hc⟩ : ∃ x, (bestR onceI r).1 = x := ⟨_, rfl⟩
                obtain ⟨d, hd⟩ : ∃ x, (bestR stepsI ⟨rm, r.strs⟩).1 = x := ⟨_, rfl⟩
                obtain ⟨e, he⟩ : ∃ x, (farN ⟨rm, r.strs⟩ : Int) = x := ⟨_, rfl⟩
                obtain ⟨f, hf⟩ : ∃ x, (bestR onceI ⟨rm, r.strs⟩).1 = x := ⟨_, rfl⟩
                rw [ha, hb1, hc]
                rw [ha, hd] at h1
                rw [hb1, he] at h2
                rw [hc, hf] at h3
                have HSO := Lib.hid hso
                have HD := Lib.hid (And.intro hd (And.intro he hf))
                clear hso ha hb1 hc hd he hf
                go_wp2_with fail
                clear p0 p1
                refine (three_any _ ⟨rm, r.strs⟩ _ ⟨_, _, rfl, S.out.ints 1 rfl, S.out.row 2 rfl⟩ HOD.out).mono ?_
                rintro e w23 ⟨rfl, hb⟩
                rw [if_pos HSO.out, HD.out.1, HD.out.2.1, HD.out.2.2]
                have S := Lib.hid (S.out.call hb)
                clear hb
                go_wp2_with fail
                obtain ⟨g1, hg1⟩ : ∃ x, newB r l = x := ⟨_, rfl⟩
                obtain ⟨g2, hg2⟩ : ∃ x, newB ⟨rm, r.strs⟩ l = x := ⟨_, rfl⟩
                have HG1 := Lib.hid (show pGoodR r l = (g1, 0) by unfold pGoodR; rw [if_pos (valid_iff.2 HVD.out), hg1])
                have HG2 := Lib.hid (show pGoodR ⟨rm, r.strs⟩ l = (g2, 0) by unfold pGoodR; rw [if_pos (valid_iff.2 HOD.out), hg2])
                have HGG := Lib.hid (show g1 = true → g2 = true by intro e; rw [← hg2]; exact more_new (r := r) (o := ⟨rm, r.strs⟩) HLE.out HWD.out (by rw [hg1, e]))
                have HN1 := Lib.hid hg1
                clear hg1 hg2
                refine wp_region_seg [([0, 1], 2), ([], 3)] [4, 5, 6, 7, 8] [] 9 (by kernel_rfl) (by kernel_rfl) ?_
                intro KQ hKQ w30 hb
                have S := Lib.hid (S.out.call hb)
                clear hb
                have q0 := cell_regrown (S.out.get 4 0 rfl rfl)
                have q1 := cell_regrown (S.out.get 4 1 rfl rfl)
                refine seg_next ?_
                simp only [opsAt, List.filterMap_cons, List.filterMap_nil, List.getElem?_toArray, List.getElem?_cons_succ, List.getElem?_cons_zero]
                repeat (first | go_big_quiet_step (fail) | quiet_step (fail))
                refine wpQuiet_nil ?_
                intro K hK
                refine loud_op rfl rfl ?_
                go_simp
                refine (copied_any _ l _ (HL.out.below S.out.bel) hlen).mono ?_
                rintro e w31 ⟨vc, rfl, hown, hb⟩
                obtain ⟨Ac, cc, rfl⟩ := own_shape hown
                have S := Lib.hid (S.out.take hb hown)
                refine hK _ _ hb ?_
                clear hK K hb hown
                refine seg_next ?_
                simp only [opsAt, List.filterMap_nil]
                refine wpQuiet_nil ?_
                intro K hK
                refine loud_op rfl rfl ?_
                go_simp
                refine (pGood_any _ _ r l _ ⟨_, _, rfl, HR.out.below S.out.bel, HS.out.below S.out.bel⟩ (S.out.ints 0 rfl) hlen).mono ?_
                rintro e w32 ⟨rfl, hb⟩
                rw [HG1.out]
                have S := Lib.hid (S.out.call hb)
                refine hK _ _ hb ?_
                clear hK K hb
                refine seg_last ?_
                simp only [opsAt, List.filterMap_cons, List.filterMap_nil, List.getElem?_toArray, List.getElem?_cons_succ, List.getElem?_cons_zero]
                repeat (first | go_big_quiet_step (fail) | quiet_step (fail))
                refine wpQuiet_nil ?_
                have S := Lib.hid S.out.tail
                clear q0 q1
                go_wp2_with fail
                refine wp_region_seg [([0, 1], 2), ([], 3)] [4, 5, 6, 7, 8] [] 9 (by kernel_rfl) (by kernel_rfl) ?_
                intro KQ hKQ w40 hb
                have S := Lib.hid (S.out.call hb)
                clear hb
                have p0 := cell_regrown (S.out.get 0 0 rfl rfl)
                have p1 := cell_regrown (S.out.get 0 1 rfl rfl)
                refine seg_next ?_
                simp only [opsAt, List.filterMap_cons, List.filterMap_nil, List.getElem?_toArray, List.getElem?_cons_succ, List.getElem?_cons_zero]
                repeat (first | go_big_quiet_step (fail) | quiet_step (fail))
                refine wpQuiet_nil ?_
                intro K hK
                refine loud_op rfl rfl ?_
                go_simp
                refine (copied_any _ l _ (HL.out.below S.out.bel) hlen).mono ?_
                rintro e w41 ⟨vc, rfl, hown, hb⟩
                obtain ⟨Ac, cc, rfl⟩ := own_shape hown
                have S := Lib.hid (S.out.take hb hown)
                refine hK _ _ hb ?_
                clear hK K hb hown
                refine seg_next ?_
                simp only [opsAt, List.filterMap_nil]
                refine wpQuiet_nil ?_
                intro K hK
                refine loud_op rfl rfl ?_
                go_simp
                refine (pGood_any _ _ ⟨rm, r.strs⟩ l _ ⟨_, _, rfl, S.out.ints 2 rfl, S.out.row 3 rfl⟩ (S.out.ints 0 rfl) hlen).mono ?_
                rintro e w42 ⟨rfl, hb⟩
                rw [HG2.out]
                have S := Lib.hid (S.out.call hb)
                refine hK _ _ hb ?_
                clear hK K hb
                refine seg_last ?_
                simp only [opsAt, List.filterMap_cons, List.filterMap_nil, List.getElem?_toArray, List.getElem?_cons_succ, List.getElem?_cons_zero]
                repeat (first | go_big_quiet_step (fail) | quiet_step (fail))
                refine wpQuiet_nil ?_
                have S := Lib.hid S.out.tail
                clear p0 p1
                have q0 := S.out.get 4 0 rfl rfl
                have q1 := S.out.get 4 1 rfl rfl
                cases g1
                · go_wp2_with fail
                  clear q0 q1
                  refine (isNew_any _ _ r l _ ⟨_, _, rfl, HR.out.below S.out.bel, HS.out.below S.out.bel⟩ HVD.out (HL.out.below S.out.bel) hlen).mono ?_
                  rintro e w50 ⟨rfl, hb⟩
                  rw [HN1.out]
                  have S := Lib.hid (S.out.call hb)
                  clear hb
                  go_wp2_with fail
                  refine (works_any _).mono ?_
                  rintro e w51 ⟨rfl, hb⟩
                  have S := Lib.hid (S.out.call hb)
                  clear hb
                  go_wp2_with fail
                  go_ret
                  exact ⟨rfl, S.out.bel⟩
                · obtain rfl := HGG.out rfl
                  go_wp2_with fail
                  clear q0 q1
                  refine (isNew_any _ _ r l _ ⟨_, _, rfl, HR.out.below S.out.bel, HS.out.below S.out.bel⟩ HVD.out (HL.out.below S.out.bel) hlen).mono ?_
                  rintro e w50 ⟨rfl, hb⟩
                  rw [HN1.out]
                  have S := Lib.hid (S.out.call hb)
                  clear hb
                  go_wp2_with fail
                  refine (works_any _).mono ?_
                  rintro e w51 ⟨rfl, hb⟩
                  have S := Lib.hid (S.out.call hb)
                  clear hb
                  go_wp2_with fail
                  go_ret
                  exact ⟨rfl, S.out.bel⟩
          · obtain ⟨k, rfl⟩ := Int.eq_ofNat_of_zero_le (isStreet_spec hst).1
            have hk : k < r.strs.length := by have := (isStreet_spec hst).2; omega
            have hki : (k : Int) < (r.strs.length : Int) := by omega
            have hY := strCells_at r.strs k hk
            obtain ⟨s, hse⟩ : ∃ s, r.strs[k] = s := ⟨_, rfl⟩
            rw [hse] at hY
            have hso : StrOk s := (hvd.so s (by rw [← hse]; exact List.getElem_mem hk)).1
            have i1 : IntKind.i64.wrap (s.frm - 1) = s.frm - 1 := IntWalk.i64_in _ (by have := hso.frm0; have := hso.ft; have := hso.to1; omega)
            have i2 : IntKind.i64.wrap (s.to + 1) = s.to + 1 := IntWalk.i64_in _ (by have := hso.frm0; have := hso.ft; have := hso.to1; omega)
            have HY := Lib.hid hY
            have HSE := Lib.hid hse
            have HST := Lib.hid hst
            clear hst hY hse hso
            have x2 := S.out.get 3 2 rfl rfl
            have q0 := S.out.get 4 0 rfl rfl
            have q1 := S.out.get 4 1 rfl rfl
            go_wp2_with fail
            clear q0 q1
            refine (rIsStreet_any _ r _ _ ⟨_, _, rfl, HR.out.below S.out.bel, HS.out.below S.out.bel⟩).mono ?_
            rintro e w11 ⟨rfl, hb⟩
            rw [HST.out]
            have S := Lib.hid (S.out.call hb)
            clear hb
            clear x2
            obtain ⟨g, cg, e, hg1, hg2⟩ := own_shape_pos (S.out.own 2 rfl) (by omega)
            injection e with e1 e2 e3
            subst e1
            subst e3
            clear e2 hg1 hg2
            cases p
            · cases q
              · have x2 := S.out.get 3 2 rfl rfl
                have p1 := S.out.get 0 1 rfl rfl
                have y0 := (S.out.own 2 rfl).cells (g := g) rfl (k * 4) (I s.has) HY.out.1
                have y1 := (S.out.own 2 rfl).cells (g := g) rfl (k * 4 + 1) (I s.frm) HY.out.2.1
                have y2 := (S.out.own 2 rfl).cells (g := g) rfl (k * 4 + 2) (I s.to) HY.out.2.2.1
                have y3 := (S.out.own 2 rfl).cells (g := g) rfl (k * 4 + 3) (I s.cost) HY.out.2.2.2
                rw [add_plain, Nat.zero_add] at y0 y1 y2 y3
                have S0 := S.out.alloc [I s.has, I s.frm, I s.to, I s.cost] 33
                have x3 := S0.get 4 3 rfl rfl
                have x4 := S0.get 4 4 rfl rfl
                have d0 := S0.get 0 0 rfl rfl
                have d1 := S0.get 0 1 rfl rfl
                have d2 := S0.get 0 2 rfl rfl
                have d3 := S0.get 0 3 rfl rfl
                have p2 := S0.get 1 1 rfl rfl
                have x5 := S0.get 4 2 rfl rfl
                have z0 := (S0.own 3 rfl).cells (g := g) rfl (k * 4) (I s.has) HY.out.1
                have z1 := (S0.own 3 rfl).cells (g := g) rfl (k * 4 + 1) (I s.frm) HY.out.2.1
                have z2 := (S0.own 3 rfl).cells (g := g) rfl (k * 4 + 2) (I s.to) HY.out.2.2.1
                have z3 := (S0.own 3 rfl).cells (g := g) rfl (k * 4 + 3) (I s.cost) HY.out.2.2.2
                rw [add_plain, Nat.zero_add] at z0 z1 z2 z3
                have f0 := (S0.own 3 rfl).frozenAt (k * 4)
                have f1 := (S0.own 3 rfl).frozenAt (k * 4 + 1)
                have f2 := (S0.own 3 rfl).frozenAt (k * 4 + 2)
                have f3 := (S0.own 3 rfl).frozenAt (k * 4 + 3)
                have S4 := (((S0.put 3 (k * 4) (I s.has) rfl).put 3 (k * 4 + 1) (I (s.frm)) rfl).put 3 (k * 4 + 2) (I (s.to)) rfl).put 3 (k * 4 + 3) (I s.cost) rfl
                have b0 := S4.get 1 0 rfl rfl
                have b1 := S4.get 1 1 rfl rfl
                go_wp2_with fail
                clear x2 p1 y0 y1 y2 y3 x3 x4 x5 d0 d1 d2 d3 p2 z0 z1 z2 z3 f0 f1 f2 f3 b0 b1 
                have HSL := Lib.hid (show (r.strs.set k ⟨s.has, s.frm, s.to, s.cost⟩).length = r.strs.length from List.length_set)
                have HSC := Lib.hid (strCells_set4 r.strs k ⟨s.has, s.frm, s.to, s.cost⟩ hk)
                have HWD := Lib.hid (WdL.set r.strs k ⟨s.has, s.frm, s.to, s.cost⟩ hk (by rw [HSE.out]; exact wideS_wd s false false))
                obtain ⟨ss, hss⟩ : ∃ x, r.strs.set k ⟨s.has, s.frm, s.to, s.cost⟩ = x := ⟨_, rfl⟩
                rw [hss] at HSL HSC HWD
                have S := Lib.hid (show St w _ _ [.box w10.heap.size [.slice Ax rm.length cx, .slice (some ⟨g, 0, none⟩) r.strs.length cy], .own 3 1 (.slice Ax rm.length cx) rm.length (rm.map I), .own 33 4 (.slice (some ⟨g, 0, none⟩) r.strs.length cy) ss.length (strCells ss), .box (w.heap.size + 1) [I (hN : Int), I m, I (k : Int), .bool false, .bool false], .box w.heap.size [.slice A1 r.room.length c1, .slice A2 r.strs.length c2]] from (by
                  rw [HSL.out, ← HSC.out]
                  exact S4.tail))
                clear S4 S0 hss
                refine (ready_any _ ⟨rm, ss⟩ _ ⟨_, _, rfl, S.out.ints 1 rfl, S.out.row 2 rfl⟩).mono ?_
                rintro e w20 ⟨⟨bb, rfl, hok2⟩, hb⟩
                have S := Lib.hid (S.out.call hb)
                clear hb
                cases bb
                · clear hok2
                  go_wp2_with fail
                  refine (works_any _).mono ?_
                  rintro e w21 ⟨rfl, hb⟩
                  have S := Lib.hid (S.out.call hb)
                  clear hb
                  go_wp2_with fail
                  go_ret
                  exact ⟨rfl, S.out.bel⟩
                · have HOD := Lib.hid (hok2 rfl)
                  clear hok2
                  have q0 := S.out.get 4 0 rfl rfl
                  have q1 := S.out.get 4 1 rfl rfl
                  go_wp2_with fail
                  clear q0 q1
                  refine (three_any _ r _ ⟨_, _, rfl, HR.out.below S.out.bel, HS.out.below S.out.bel⟩ HVD.out).mono ?_
                  rintro e w22 ⟨rfl, hb⟩
                  have S := Lib.hid (S.out.call hb)
                  clear hb
                  have p0 := S.out.get 0 0 rfl rfl
                  have p1 := S.out.get 0 1 rfl rfl
                  cases hs : someR r
                  · rw [if_neg (by simp)]
                    go_wp2_with fail
                    clear p0 p1
                    refine (three_any _ ⟨rm, ss⟩ _ ⟨_, _, rfl, S.out.ints 1 rfl, S.out.row 2 rfl⟩ HOD.out).mono ?_
                    rintro e w23 ⟨rfl, hb⟩
                    clear hs
                    have S := Lib.hid (S.out.call hb)
                    clear hb
                    obtain ⟨d, e, f, so, he⟩ : ∃ (d e f : Int) (so : Bool), (if someR ⟨rm, ss⟩ = true then Value.tuple #[I (bestR stepsI ⟨rm, ss⟩).1, I (farN ⟨rm, ss⟩ : Int), I (bestR onceI ⟨rm, ss⟩).1, .bool true, .bool false] else .tuple #[I 0, I 0, I 0, .bool false, .bool false]) = .tuple #[I d, I e, I f, .bool so, .bool false] := by
                      split
                      · exact ⟨_, _, _, _, rfl⟩
                      · exact ⟨_, _, _, _, rfl⟩
                    rw [he]
                    clear he
                    go_wp2_with fail
                    obtain ⟨g1, hg1⟩ : ∃ x, newB r l = x := ⟨_, rfl⟩
                    obtain ⟨g2, hg2⟩ : ∃ x, newB ⟨rm, ss⟩ l = x := ⟨_, rfl⟩
                    have HG1 := Lib.hid (show pGoodR r l = (g1, 0) by unfold pGoodR; rw [if_pos (valid_iff.2 HVD.out), hg1])
                    have HG2 := Lib.hid (show pGoodR ⟨rm, ss⟩ l = (g2, 0) by unfold pGoodR; rw [if_pos (valid_iff.2 HOD.out), hg2])
                    have HGG := Lib.hid (show g1 = true → g2 = true by intro e; rw [← hg2]; exact more_new (r := r) (o := ⟨rm, ss⟩) HLE.out HWD.out (by rw [hg1, e]))
                    have HN1 := Lib.hid hg1
                    clear hg1 hg2
                    refine wp_region_seg [([0, 1], 2), ([], 3)] [4, 5, 6, 7, 8] [] 9 (by kernel_rfl) (by kernel_rfl) ?_
                    intro KQ hKQ w30 hb
                    have S := Lib.hid (S.out.call hb)
                    clear hb
                    have q0 := cell_regrown (S.out.get 4 0 rfl rfl)
                    have q1 := cell_regrown (S.out.get 4 1 rfl rfl)
                    refine seg_next ?_
                    simp only [opsAt, List.filterMap_cons, List.filterMap_nil, List.getElem?_toArray, List.getElem?_cons_succ, List.getElem?_cons_zero]
                    repeat (first | go_big_quiet_step (fail) | quiet_step (fail))
                    refine wpQuiet_nil ?_
                    intro K hK
                    refine loud_op rfl rfl ?_
                    go_simp
                    refine (copied_any _ l _ (HL.out.below S.out.bel) hlen).mono ?_
                    rintro e w31 ⟨vc, rfl, hown, hb⟩
                    obtain ⟨Ac, cc, rfl⟩ := own_shape hown
                    have S := Lib.hid (S.out.take hb hown)
                    refine hK _ _ hb ?_
                    clear hK K hb hown
                    refine seg_next ?_
                    simp only [opsAt, List.filterMap_nil]
                    refine wpQuiet_nil ?_
                    intro K hK
                    refine loud_op rfl rfl ?_
                    go_simp
                    refine (pGood_any _ _ r l _ ⟨_, _, rfl, HR.out.below S.out.bel, HS.out.below S.out.bel⟩ (S.out.ints 0 rfl) hlen).mono ?_
                    rintro e w32 ⟨rfl, hb⟩
                    rw [HG1.out]
                    have S := Lib.hid (S.out.call hb)
                    refine hK _ _ hb ?_
                    clear hK K hb
                    refine seg_last ?_
                    simp only [opsAt, List.filterMap_cons, List.filterMap_nil, List.getElem?_toArray, List.getElem?_cons_succ, List.getElem?_cons_zero]
                    repeat (first | go_big_quiet_step (fail) | quiet_step (fail))
                    refine wpQuiet_nil ?_
                    have S := Lib.hid S.out.tail
                    clear q0 q1
                    go_wp2_with fail
                    refine wp_region_seg [([0, 1], 2), ([], 3)] [4, 5, 6, 7, 8] [] 9 (by kernel_rfl) (by kernel_rfl) ?_
                    intro KQ hKQ w40 hb
                    have S := Lib.hid (S.out.call hb)
                    clear hb
                    have p0 := cell_regrown (S.out.get 0 0 rfl rfl)
                    have p1 := cell_regrown (S.out.get 0 1 rfl rfl)
                    refine seg_next ?_
                    simp only [opsAt, List.filterMap_cons, List.filterMap_nil, List.getElem?_toArray, List.getElem?_cons_succ, List.getElem?_cons_zero]
                    repeat (first | go_big_quiet_step (fail) | quiet_step (fail))
                    refine wpQuiet_nil ?_
                    intro K hK
                    refine loud_op rfl rfl ?_
                    go_simp
                    refine (copied_any _ l _ (HL.out.below S.out.bel) hlen).mono ?_
                    rintro e w41 ⟨vc, rfl, hown, hb⟩
                    obtain ⟨Ac, cc, rfl⟩ := own_shape hown
                    have S := Lib.hid (S.out.take hb hown)
                    refine hK _ _ hb ?_
                    clear hK K hb hown
                    refine seg_next ?_
                    simp only [opsAt, List.filterMap_nil]
                    refine wpQuiet_nil ?_
                    intro K hK
                    refine loud_op rfl rfl ?_
                    go_simp
                    refine (pGood_any _ _ ⟨rm, ss⟩ l _ ⟨_, _, rfl, S.out.ints 2 rfl, S.out.row 3 rfl⟩ (S.out.ints 0 rfl) hlen).mono ?_
                    rintro e w42 ⟨rfl, hb⟩
                    rw [HG2.out]
                    have S := Lib.hid (S.out.call hb)
                    refine hK _ _ hb ?_
                    clear hK K hb
                    refine seg_last ?_
                    simp only [opsAt, List.filterMap_cons, List.filterMap_nil, List.getElem?_toArray, List.getElem?_cons_succ, List.getElem?_cons_zero]
                    repeat (first | go_big_quiet_step (fail) | quiet_step (fail))
                    refine wpQuiet_nil ?_
                    have S := Lib.hid S.out.tail
                    clear p0 p1
                    have q0 := S.out.get 4 0 rfl rfl
                    have q1 := S.out.get 4 1 rfl rfl
                    cases g1
                    · go_wp2_with fail
                      clear q0 q1
                      refine (isNew_any _ _ r l _ ⟨_, _, rfl, HR.out.below S.out.bel, HS.out.below S.out.bel⟩ HVD.out (HL.out.below S.out.bel) hlen).mono ?_
                      rintro e w50 ⟨rfl, hb⟩
                      rw [HN1.out]
                      have S := Lib.hid (S.out.call hb)
                      clear hb
                      go_wp2_with fail
                      refine (works_any _).mono ?_
                      rintro e w51 ⟨rfl, hb⟩
                      have S := Lib.hid (S.out.call hb)
                      clear hb
                      go_wp2_with fail
                      go_ret
                      exact ⟨rfl, S.out.bel⟩
                    · obtain rfl := HGG.out rfl
                      go_wp2_with fail
                      clear q0 q1
                      refine (isNew_any _ _ r l _ ⟨_, _, rfl, HR.out.below S.out.bel, HS.out.below S.out.bel⟩ HVD.out (HL.out.below S.out.bel) hlen).mono ?_
                      rintro e w50 ⟨rfl, hb⟩
                      rw [HN1.out]
                      have S := Lib.hid (S.out.call hb)
                      clear hb
                      go_wp2_with fail
                      refine (works_any _).mono ?_
                      rintro e w51 ⟨rfl, hb⟩
                      have S := Lib.hid (S.out.call hb)
                      clear hb
                      go_wp2_with fail
                      go_ret
                      exact ⟨rfl, S.out.bel⟩
                  · rw [if_pos rfl]
                    obtain ⟨hso, h1, h2, h3⟩ := more_said (r := r) (o := ⟨rm, ss⟩) HVD.out HOD.out HLE.out HWD.out hs
                    clear hs
                    obtain ⟨a, ha⟩ : ∃ x, (bestR stepsI r).1 = x := ⟨_, rfl⟩
                    obtain ⟨b, hb1⟩ : ∃ x, (farN r : Int) = x := ⟨_, rfl⟩
                    obtain ⟨c, hc⟩ : ∃ x, (bestR onceI r).1 = x := ⟨_, rfl⟩
                    obtain ⟨d, hd⟩ : ∃ x, (bestR stepsI ⟨rm, ss⟩).1 = x := ⟨_, rfl⟩
                    obtain ⟨e, he⟩ : ∃ x, (farN ⟨rm, ss⟩ : Int) = x := ⟨_, rfl⟩
                    obtain ⟨f, hf⟩ : ∃ x, (bestR onceI ⟨rm, ss⟩).1 = x := ⟨_, rfl⟩
                    rw [ha, hb1, hc]
                    rw [ha, hd] at h1
                    rw [hb1, he] at h2
                    rw [hc, hf] at h3
                    have HSO := Lib.hid hso
                    have HD := Lib.hid (And.intro hd (And.intro he hf))
                    clear hso ha hb1 hc hd he hf
                    go_wp2_with fail
                    clear p0 p1
                    refine (three_any _ ⟨rm, ss⟩ _ ⟨_, _, rfl, S.out.ints 1 rfl, S.out.row 2 rfl⟩ HOD.out).mono ?_
                    rintro e w23 ⟨rfl, hb⟩
                    rw [if_pos HSO.out, HD.out.1, HD.out.2.1, HD.out.2.2]
                    have S := Lib.hid (S.out.call hb)
                    clear hb
                    go_wp2_with fail
                    obtain ⟨g1, hg1⟩ : ∃ x, newB r l = x := ⟨_, rfl⟩
                    obtain ⟨g2, hg2⟩ : ∃ x, newB ⟨rm, ss⟩ l = x := ⟨_, rfl⟩
                    have HG1 := Lib.hid (show pGoodR r l = (g1, 0) by unfold pGoodR; rw [if_pos (valid_iff.2 HVD.out), hg1])
                    have HG2 := Lib.hid (show pGoodR ⟨rm, ss⟩ l = (g2, 0) by unfold pGoodR; rw [if_pos (valid_iff.2 HOD.out), hg2])
                    have HGG := Lib.hid (show g1 = true → g2 = true by intro e; rw [← hg2]; exact more_new (r := r) (o := ⟨rm, ss⟩) HLE.out HWD.out (by rw [hg1, e]))
                    have HN1 := Lib.hid hg1
                    clear hg1 hg2
                    refine wp_region_seg [([0, 1], 2), ([], 3)] [4, 5, 6, 7, 8] [] 9 (by kernel_rfl) (by kernel_rfl) ?_
                    intro KQ hKQ w30 hb
                    have S := Lib.hid (S.out.call hb)
                    clear hb
                    have q0 := cell_regrown (S.out.get 4 0 rfl rfl)
                    have q1 := cell_regrown (S.out.get 4 1 rfl rfl)
                    refine seg_next ?_
                    simp only [opsAt, List.filterMap_cons, List.filterMap_nil, List.getElem?_toArray, List.getElem?_cons_succ, List.getElem?_cons_zero]
                    repeat (first | go_big_quiet_step (fail) | quiet_step (fail))
                    refine wpQuiet_nil ?_
                    intro K hK
                    refine loud_op rfl rfl ?_
                    go_simp
                    refine (copied_any _ l _ (HL.out.below S.out.bel) hlen).mono ?_
                    rintro e w31 ⟨vc, rfl, hown, hb⟩
                    obtain ⟨Ac, cc, rfl⟩ := own_shape hown
                    have S := Lib.hid (S.out.take hb hown)
                    refine hK _ _ hb ?_
                    clear hK K hb hown
                    refine seg_next ?_
                    simp only [opsAt, List.filterMap_nil]
                    refine wpQuiet_nil ?_
                    intro K hK
                    refine loud_op rfl rfl ?_
                    go_simp
                    refine (pGood_any _ _ r l _ ⟨_, _, rfl, HR.out.below S.out.bel, HS.out.below S.out.bel⟩ (S.out.ints 0 rfl) hlen).mono ?_
                    rintro e w32 ⟨rfl, hb⟩
                    rw [HG1.out]
                    have S := Lib.hid (S.out.call hb)
                    refine hK _ _ hb ?_
                    clear hK K hb
                    refine seg_last ?_
                    simp only [opsAt, List.filterMap_cons, List.filterMap_nil, List.getElem?_toArray, List.getElem?_cons_succ, List.getElem?_cons_zero]
                    repeat (first | go_big_quiet_step (fail) | quiet_step (fail))
                    refine wpQuiet_nil ?_
                    have S := Lib.hid S.out.tail
                    clear q0 q1
                    go_wp2_with fail
                    refine wp_region_seg [([0, 1], 2), ([], 3)] [4, 5, 6, 7, 8] [] 9 (by kernel_rfl) (by kernel_rfl) ?_
                    intro KQ hKQ w40 hb
                    have S := Lib.hid (S.out.call hb)
                    clear hb
                    have p0 := cell_regrown (S.out.get 0 0 rfl rfl)
                    have p1 := cell_regrown (S.out.get 0 1 rfl rfl)
                    refine seg_next ?_
                    simp only [opsAt, List.filterMap_cons, List.filterMap_nil, List.getElem?_toArray, List.getElem?_cons_succ, List.getElem?_cons_zero]
                    repeat (first | go_big_quiet_step (fail) | quiet_step (fail))
                    refine wpQuiet_nil ?_
                    intro K hK
                    refine loud_op rfl rfl ?_
                    go_simp
                    refine (copied_any _ l _ (HL.out.below S.out.bel) hlen).mono ?_
                    rintro e w41 ⟨vc, rfl, hown, hb⟩
                    obtain ⟨Ac, cc, rfl⟩ := own_shape hown
                    have S := Lib.hid (S.out.take hb hown)
                    refine hK _ _ hb ?_
                    clear hK K hb hown
                    refine seg_next ?_
                    simp only [opsAt, List.filterMap_nil]
                    refine wpQuiet_nil ?_
                    intro K hK
                    refine loud_op rfl rfl ?_
                    go_simp
                    refine (pGood_any _ _ ⟨rm, ss⟩ l _ ⟨_, _, rfl, S.out.ints 2 rfl, S.out.row 3 rfl⟩ (S.out.ints 0 rfl) hlen).mono ?_
                    rintro e w42 ⟨rfl, hb⟩
                    rw [HG2.out]
                    have S := Lib.hid (S.out.call hb)
                    refine hK _ _ hb ?_
                    clear hK K hb
                    refine seg_last ?_
                    simp only [opsAt, List.filterMap_cons, List.filterMap_nil, List.getElem?_toArray, List.getElem?_cons_succ, List.getElem?_cons_zero]
                    repeat (first | go_big_quiet_step (fail) | quiet_step (fail))
                    refine wpQuiet_nil ?_
                    have S := Lib.hid S.out.tail
                    clear p0 p1
                    have q0 := S.out.get 4 0 rfl rfl
                    have q1 := S.out.get 4 1 rfl rfl
                    cases g1
                    · go_wp2_with fail
                      clear q0 q1
                      refine (isNew_any _ _ r l _ ⟨_, _, rfl, HR.out.below S.out.bel, HS.out.below S.out.bel⟩ HVD.out (HL.out.below S.out.bel) hlen).mono ?_
                      rintro e w50 ⟨rfl, hb⟩
                      rw [HN1.out]
                      have S := Lib.hid (S.out.call hb)
                      clear hb
                      go_wp2_with fail
                      refine (works_any _).mono ?_
                      rintro e w51 ⟨rfl, hb⟩
                      have S := Lib.hid (S.out.call hb)
                      clear hb
                      go_wp2_with fail
                      go_ret
                      exact ⟨rfl, S.out.bel⟩
                    · obtain rfl := HGG.out rfl
                      go_wp2_with fail
                      clear q0 q1
                      refine (isNew_any _ _ r l _ ⟨_, _, rfl, HR.out.below S.out.bel, HS.out.below S.out.bel⟩ HVD.out (HL.out.below S.out.bel) hlen).mono ?_
                      rintro e w50 ⟨rfl, hb⟩
                      rw [HN1.out]
                      have S := Lib.hid (S.out.call hb)
                      clear hb
                      go_wp2_with fail
                      refine (works_any _).mono ?_
                      rintro e w51 ⟨rfl, hb⟩
                      have S := Lib.hid (S.out.call hb)
                      clear hb
                      go_wp2_with fail
                      go_ret
                      exact ⟨rfl, S.out.bel⟩
              · have x2 := S.out.get 3 2 rfl rfl
                have p1 := S.out.get 0 1 rfl rfl
                have y0 := (S.out.own 2 rfl).cells (g := g) rfl (k * 4) (I s.has) HY.out.1
                have y1 := (S.out.own 2 rfl).cells (g := g) rfl (k * 4 + 1) (I s.frm) HY.out.2.1
                have y2 := (S.out.own 2 rfl).cells (g := g) rfl (k * 4 + 2) (I s.to) HY.out.2.2.1
                have y3 := (S.out.own 2 rfl).cells (g := g) rfl (k * 4 + 3) (I s.cost) HY.out.2.2.2
                rw [add_plain, Nat.zero_add] at y0 y1 y2 y3
                have S0 := S.out.alloc [I s.has, I s.frm, I s.to, I s.cost] 33
                have x3 := S0.get 4 3 rfl rfl
                have x4 := S0.get 4 4 rfl rfl
                have v3 := S0.get 0 2 rfl rfl
                have v4 := S0.free 0 2 rfl
                have S2 := S.out.alloc [I s.has, I (s.frm), I (s.to + 1), I s.cost] 33
                have d0 := S2.get 0 0 rfl rfl
                have d1 := S2.get 0 1 rfl rfl
                have d2 := S2.get 0 2 rfl rfl
                have d3 := S2.get 0 3 rfl rfl
                have p2 := S2.get 1 1 rfl rfl
                have x5 := S2.get 4 2 rfl rfl
                have z0 := (S2.own 3 rfl).cells (g := g) rfl (k * 4) (I s.has) HY.out.1
                have z1 := (S2.own 3 rfl).cells (g := g) rfl (k * 4 + 1) (I s.frm) HY.out.2.1
                have z2 := (S2.own 3 rfl).cells (g := g) rfl (k * 4 + 2) (I s.to) HY.out.2.2.1
                have z3 := (S2.own 3 rfl).cells (g := g) rfl (k * 4 + 3) (I s.cost) HY.out.2.2.2
                rw [add_plain, Nat.zero_add] at z0 z1 z2 z3
                have f0 := (S2.own 3 rfl).frozenAt (k * 4)
                have f1 := (S2.own 3 rfl).frozenAt (k * 4 + 1)
                have f2 := (S2.own 3 rfl).frozenAt (k * 4 + 2)
                have f3 := (S2.own 3 rfl).frozenAt (k * 4 + 3)
                have S4 := (((S2.put 3 (k * 4) (I s.has) rfl).put 3 (k * 4 + 1) (I (s.frm)) rfl).put 3 (k * 4 + 2) (I (s.to + 1)) rfl).put 3 (k * 4 + 3) (I s.cost) rfl
                have b0 := S4.get 1 0 rfl rfl
                have b1 := S4.get 1 1 rfl rfl
                go_wp2_with fail
                clear x2 p1 y0 y1 y2 y3 x3 x4 x5 d0 d1 d2 d3 p2 z0 z1 z2 z3 f0 f1 f2 f3 b0 b1 v3 v4
                have HSL := Lib.hid (show (r.strs.set k ⟨s.has, s.frm, s.to + 1, s.cost⟩).length = r.strs.length from List.length_set)
                have HSC := Lib.hid (strCells_set4 r.strs k ⟨s.has, s.frm, s.to + 1, s.cost⟩ hk)
                have HWD := Lib.hid (WdL.set r.strs k ⟨s.has, s.frm, s.to + 1, s.cost⟩ hk (by rw [HSE.out]; exact wideS_wd s false true))
                obtain ⟨ss, hss⟩ : ∃ x, r.strs.set k ⟨s.has, s.frm, s.to + 1, s.cost⟩ = x := ⟨_, rfl⟩
                rw [hss] at HSL HSC HWD
                have S := Lib.hid (show St w _ _ [.box w10.heap.size [.slice Ax rm.length cx, .slice (some ⟨g, 0, none⟩) r.strs.length cy], .own 3 1 (.slice Ax rm.length cx) rm.length (rm.map I), .own 33 4 (.slice (some ⟨g, 0, none⟩) r.strs.length cy) ss.length (strCells ss), .box (w.heap.size + 1) [I (hN : Int), I m, I (k : Int), .bool false, .bool true], .box w.heap.size [.slice A1 r.room.length c1, .slice A2 r.strs.length c2]] from (by
                  rw [HSL.out, ← HSC.out]
                  exact S4.tail))
                clear S4 S0 hss S2
                refine (ready_any _ ⟨rm, ss⟩ _ ⟨_, _, rfl, S.out.ints 1 rfl, S.out.row 2 rfl⟩).mono ?_
                rintro e w20 ⟨⟨bb, rfl, hok2⟩, hb⟩
                have S := Lib.hid (S.out.call hb)
                clear hb
                cases bb
                · clear hok2
                  go_wp2_with fail
                  refine (works_any _).mono ?_
                  rintro e w21 ⟨rfl, hb⟩
                  have S := Lib.hid (S.out.call hb)
                  clear hb
                  go_wp2_with fail
                  go_ret
                  exact ⟨rfl, S.out.bel⟩
                · have HOD := Lib.hid (hok2 rfl)
                  clear hok2
                  have q0 := S.out.get 4 0 rfl rfl
                  have q1 := S.out.get 4 1 rfl rfl
                  go_wp2_with fail
                  clear q0 q1
                  refine (three_any _ r _ ⟨_, _, rfl, HR.out.below S.out.bel, HS.out.below S.out.bel⟩ HVD.out).mono ?_
                  rintro e w22 ⟨rfl, hb⟩
                  have S := Lib.hid (S.out.call hb)
                  clear hb
                  have p0 := S.out.get 0 0 rfl rfl
                  have p1 := S.out.get 0 1 rfl rfl
                  cases hs : someR r
                  · rw [if_neg (by simp)]
                    go_wp2_with fail
                    clear p0 p1
                    refine (three_any _ ⟨rm, ss⟩ _ ⟨_, _, rfl, S.out.ints 1 rfl, S.out.row 2 rfl⟩ HOD.out).mono ?_
                    rintro e w23 ⟨rfl, hb⟩
                    clear hs
                    have S := Lib.hid (S.out.call hb)
                    clear hb
                    obtain ⟨d, e, f, so, he⟩ : ∃ (d e f : Int) (so : Bool), (if someR ⟨rm, ss⟩ = true then Value.tuple #[I (bestR stepsI ⟨rm, ss⟩).1, I (farN ⟨rm, ss⟩ : Int), I (bestR onceI ⟨rm, ss⟩).1, .bool true, .bool false] else .tuple #[I 0, I 0, I 0, .bool false, .bool false]) = .tuple #[I d, I e, I f, .bool so, .bool false] := by
                      split
                      · exact ⟨_, _, _, _, rfl⟩
                      · exact ⟨_, _, _, _, rfl⟩
                    rw [he]
                    clear he
                    go_wp2_with fail
                    obtain ⟨g1, hg1⟩ : ∃ x, newB r l = x := ⟨_, rfl⟩
                    obtain ⟨g2, hg2⟩ : ∃ x, newB ⟨rm, ss⟩ l = x := ⟨_, rfl⟩
                    have HG1 := Lib.hid (show pGoodR r l = (g1, 0) by unfold pGoodR; rw [if_pos (valid_iff.2 HVD.out), hg1])
                    have HG2 := Lib.hid (show pGoodR ⟨rm, ss⟩ l = (g2, 0) by unfold pGoodR; rw [if_pos (valid_iff.2 HOD.out), hg2])
                    have HGG := Lib.hid (show g1 = true → g2 = true by intro e; rw [← hg2]; exact more_new (r := r) (o := ⟨rm, ss⟩) HLE.out HWD.out (by rw [hg1, e]))
                    have HN1 := Lib.hid hg1
                    clear hg1 hg2
                    refine wp_region_seg [([0, 1], 2), ([], 3)] [4, 5, 6, 7, 8] [] 9 (by kernel_rfl) (by kernel_rfl) ?_
                    intro KQ hKQ w30 hb
                    have S := Lib.hid (S.out.call hb)
                    clear hb
                    have q0 := cell_regrown (S.out.get 4 0 rfl rfl)
                    have q1 := cell_regrown (S.out.get 4 1 rfl rfl)
                    refine seg_next ?_
                    simp only [opsAt, List.filterMap_cons, List.filterMap_nil, List.getElem?_toArray, List.getElem?_cons_succ, List.getElem?_cons_zero]
                    repeat (first | go_big_quiet_step (fail) | quiet_step (fail))
                    refine wpQuiet_nil ?_
                    intro K hK
                    refine loud_op rfl rfl ?_
                    go_simp
                    refine (copied_any _ l _ (HL.out.below S.out.bel) hlen).mono ?_
                    rintro e w31 ⟨vc, rfl, hown, hb⟩
                    obtain ⟨Ac, cc, rfl⟩ := own_shape hown
                    have S := Lib.hid (S.out.take hb hown)
                    refine hK _ _ hb ?_
                    clear hK K hb hown
                    refine seg_next ?_
                    simp only [opsAt, List.filterMap_nil]
                    refine wpQuiet_nil ?_
                    intro K hK
                    refine loud_op rfl rfl ?_
                    go_simp
                    refine (pGood_any _ _ r l _ ⟨_, _, rfl, HR.out.below S.out.bel, HS.out.below S.out.bel⟩ (S.out.ints 0 rfl) hlen).mono ?_
                    rintro e w32 ⟨rfl, hb⟩
                    rw [HG1.out]
                    have S := Lib.hid (S.out.call hb)
                    refine hK _ _ hb ?_
                    clear hK K hb
                    refine seg_last ?_
                    simp only [opsAt, List.filterMap_cons, List.filterMap_nil, List.getElem?_toArray, List.getElem?_cons_succ, List.getElem?_cons_zero]
                    repeat (first | go_big_quiet_step (fail) | quiet_step (fail))
                    refine wpQuiet_nil ?_
                    have S := Lib.hid S.out.tail
                    clear q0 q1
                    go_wp2_with fail
                    refine wp_region_seg [([0, 1], 2), ([], 3)] [4, 5, 6, 7, 8] [] 9 (by kernel_rfl) (by kernel_rfl) ?_
                    intro KQ hKQ w40 hb
                    have S := Lib.hid (S.out.call hb)
                    clear hb
                    have p0 := cell_regrown (S.out.get 0 0 rfl rfl)
                    have p1 := cell_regrown (S.out.get 0 1 rfl rfl)
                    refine seg_next ?_
                    simp only [opsAt, List.filterMap_cons, List.filterMap_nil, List.getElem?_toArray, List.getElem?_cons_succ, List.getElem?_cons_zero]
                    repeat (first | go_big_quiet_step (fail) | quiet_step (fail))
                    refine wpQuiet_nil ?_
                    intro K hK
                    refine loud_op rfl rfl ?_
                    go_simp
                    refine (copied_any _ l _ (HL.out.below S.out.bel) hlen).mono ?_
                    rintro e w41 ⟨vc, rfl, hown, hb⟩
                    obtain ⟨Ac, cc, rfl⟩ := own_shape hown
                    have S := Lib.hid (S.out.take hb hown)
                    refine hK _ _ hb ?_
                    clear hK K hb hown
                    refine seg_next ?_
                    simp only [opsAt, List.filterMap_nil]
                    refine wpQuiet_nil ?_
                    intro K hK
                    refine loud_op rfl rfl ?_
                    go_simp
                    refine (pGood_any _ _ ⟨rm, ss⟩ l _ ⟨_, _, rfl, S.out.ints 2 rfl, S.out.row 3 rfl⟩ (S.out.ints 0 rfl) hlen).mono ?_
                    rintro e w42 ⟨rfl, hb⟩
                    rw [HG2.out]
                    have S := Lib.hid (S.out.call hb)
                    refine hK _ _ hb ?_
                    clear hK K hb
                    refine seg_last ?_
                    simp only [opsAt, List.filterMap_cons, List.filterMap_nil, List.getElem?_toArray, List.getElem?_cons_succ, List.getElem?_cons_zero]
                    repeat (first | go_big_quiet_step (fail) | quiet_step (fail))
                    refine wpQuiet_nil ?_
                    have S := Lib.hid S.out.tail
                    clear p0 p1
                    have q0 := S.out.get 4 0 rfl rfl
                    have q1 := S.out.get 4 1 rfl rfl
                    cases g1
                    · go_wp2_with fail
                      clear q0 q1
                      refine (isNew_any _ _ r l _ ⟨_, _, rfl, HR.out.below S.out.bel, HS.out.below S.out.bel⟩ HVD.out (HL.out.below S.out.bel) hlen).mono ?_
                      rintro e w50 ⟨rfl, hb⟩
                      rw [HN1.out]
                      have S := Lib.hid (S.out.call hb)
                      clear hb
                      go_wp2_with fail
                      refine (works_any _).mono ?_
                      rintro e w51 ⟨rfl, hb⟩
                      have S := Lib.hid (S.out.call hb)
                      clear hb
                      go_wp2_with fail
                      go_ret
                      exact ⟨rfl, S.out.bel⟩
                    · obtain rfl := HGG.out rfl
                      go_wp2_with fail
                      clear q0 q1
                      refine (isNew_any _ _ r l _ ⟨_, _, rfl, HR.out.below S.out.bel, HS.out.below S.out.bel⟩ HVD.out (HL.out.below S.out.bel) hlen).mono ?_
                      rintro e w50 ⟨rfl, hb⟩
                      rw [HN1.out]
                      have S := Lib.hid (S.out.call hb)
                      clear hb
                      go_wp2_with fail
                      refine (works_any _).mono ?_
                      rintro e w51 ⟨rfl, hb⟩
                      have S := Lib.hid (S.out.call hb)
                      clear hb
                      go_wp2_with fail
                      go_ret
                      exact ⟨rfl, S.out.bel⟩
                  · rw [if_pos rfl]
                    obtain ⟨hso, h1, h2, h3⟩ := more_said (r := r) (o := ⟨rm, ss⟩) HVD.out HOD.out HLE.out HWD.out hs
                    clear hs
                    obtain ⟨a, ha⟩ : ∃ x, (bestR stepsI r).1 = x := ⟨_, rfl⟩
                    obtain ⟨b, hb1⟩ : ∃ x, (farN r : Int) = x := ⟨_, rfl⟩
                    obtain ⟨c, hc⟩ : ∃ x, (bestR onceI r).1 = x := ⟨_, rfl⟩
                    obtain ⟨d, hd⟩ : ∃ x, (bestR stepsI ⟨rm, ss⟩).1 = x := ⟨_, rfl⟩
                    obtain ⟨e, he⟩ : ∃ x, (farN ⟨rm, ss⟩ : Int) = x := ⟨_, rfl⟩
                    obtain ⟨f, hf⟩ : ∃ x, (bestR onceI ⟨rm, ss⟩).1 = x := ⟨_, rfl⟩
                    rw [ha, hb1, hc]
                    rw [ha, hd] at h1
                    rw [hb1, he] at h2
                    rw [hc, hf] at h3
                    have HSO := Lib.hid hso
                    have HD := Lib.hid (And.intro hd (And.intro he hf))
                    clear hso ha hb1 hc hd he hf
                    go_wp2_with fail
                    clear p0 p1
                    refine (three_any _ ⟨rm, ss⟩ _ ⟨_, _, rfl, S.out.ints 1 rfl, S.out.row 2 rfl⟩ HOD.out).mono ?_
                    rintro e w23 ⟨rfl, hb⟩
                    rw [if_pos HSO.out, HD.out.1, HD.out.2.1, HD.out.2.2]
                    have S := Lib.hid (S.out.call hb)
                    clear hb
                    go_wp2_with fail
                    obtain ⟨g1, hg1⟩ : ∃ x, newB r l = x := ⟨_, rfl⟩
                    obtain ⟨g2, hg2⟩ : ∃ x, newB ⟨rm, ss⟩ l = x := ⟨_, rfl⟩
                    have HG1 := Lib.hid (show pGoodR r l = (g1, 0) by unfold pGoodR; rw [if_pos (valid_iff.2 HVD.out), hg1])
                    have HG2 := Lib.hid (show pGoodR ⟨rm, ss⟩ l = (g2, 0) by unfold pGoodR; rw [if_pos (valid_iff.2 HOD.out), hg2])
                    have HGG := Lib.hid (show g1 = true → g2 = true by intro e; rw [← hg2]; exact more_new (r := r) (o := ⟨rm, ss⟩) HLE.out HWD.out (by rw [hg1, e]))
                    have HN1 := Lib.hid hg1
                    clear hg1 hg2
                    refine wp_region_seg [([0, 1], 2), ([], 3)] [4, 5, 6, 7, 8] [] 9 (by kernel_rfl) (by kernel_rfl) ?_
                    intro KQ hKQ w30 hb
                    have S := Lib.hid (S.out.call hb)
                    clear hb
                    have q0 := cell_regrown (S.out.get 4 0 rfl rfl)
                    have q1 := cell_regrown (S.out.get 4 1 rfl rfl)
                    refine seg_next ?_
                    simp only [opsAt, List.filterMap_cons, List.filterMap_nil, List.getElem?_toArray, List.getElem?_cons_succ, List.getElem?_cons_zero]
                    repeat (first | go_big_quiet_step (fail) | quiet_step (fail))
                    refine wpQuiet_nil ?_
                    intro K hK
                    refine loud_op rfl rfl ?_
                    go_simp
                    refine (copied_any _ l _ (HL.out.below S.out.bel) hlen).mono ?_
                    rintro e w31 ⟨vc, rfl, hown, hb⟩
                    obtain ⟨Ac, cc, rfl⟩ := own_shape hown
                    have S := Lib.hid (S.out.take hb hown)
                    refine hK _ _ hb ?_
                    clear hK K hb hown
                    refine seg_next ?_
                    simp only [opsAt, List.filterMap_nil]
                    refine wpQuiet_nil ?_
                    intro K hK
                    refine loud_op rfl rfl ?_
                    go_simp
                    refine (pGood_any _ _ r l _ ⟨_, _, rfl, HR.out.below S.out.bel, HS.out.below S.out.bel⟩ (S.out.ints 0 rfl) hlen).mono ?_
                    rintro e w32 ⟨rfl, hb⟩
                    rw [HG1.out]
                    have S := Lib.hid (S.out.call hb)
                    refine hK _ _ hb ?_
                    clear hK K hb
                    refine seg_last ?_
                    simp only [opsAt, List.filterMap_cons, List.filterMap_nil, List.getElem?_toArray, List.getElem?_cons_succ, List.getElem?_cons_zero]
                    repeat (first | go_big_quiet_step (fail) | quiet_step (fail))
                    refine wpQuiet_nil ?_
                    have S := Lib.hid S.out.tail
                    clear q0 q1
                    go_wp2_with fail
                    refine wp_region_seg [([0, 1], 2), ([], 3)] [4, 5, 6, 7, 8] [] 9 (by kernel_rfl) (by kernel_rfl) ?_
                    intro KQ hKQ w40 hb
                    have S := Lib.hid (S.out.call hb)
                    clear hb
                    have p0 := cell_regrown (S.out.get 0 0 rfl rfl)
                    have p1 := cell_regrown (S.out.get 0 1 rfl rfl)
                    refine seg_next ?_
                    simp only [opsAt, List.filterMap_cons, List.filterMap_nil, List.getElem?_toArray, List.getElem?_cons_succ, List.getElem?_cons_zero]
                    repeat (first | go_big_quiet_step (fail) | quiet_step (fail))
                    refine wpQuiet_nil ?_
                    intro K hK
                    refine loud_op rfl rfl ?_
                    go_simp
                    refine (copied_any _ l _ (HL.out.below S.out.bel) hlen).mono ?_
                    rintro e w41 ⟨vc, rfl, hown, hb⟩
                    obtain ⟨Ac, cc, rfl⟩ := own_shape hown
                    have S := Lib.hid (S.out.take hb hown)
                    refine hK _ _ hb ?_
                    clear hK K hb hown
                    refine seg_next ?_
                    simp only [opsAt, List.filterMap_nil]
                    refine wpQuiet_nil ?_
                    intro K hK
                    refine loud_op rfl rfl ?_
                    go_simp
                    refine (pGood_any _ _ ⟨rm, ss⟩ l _ ⟨_, _, rfl, S.out.ints 2 rfl, S.out.row 3 rfl⟩ (S.out.ints 0 rfl) hlen).mono ?_
                    rintro e w42 ⟨rfl, hb⟩
                    rw [HG2.out]
                    have S := Lib.hid (S.out.call hb)
                    refine hK _ _ hb ?_
                    clear hK K hb
                    refine seg_last ?_
                    simp only [opsAt, List.filterMap_cons, List.filterMap_nil, List.getElem?_toArray, List.getElem?_cons_succ, List.getElem?_cons_zero]
                    repeat (first | go_big_quiet_step (fail) | quiet_step (fail))
                    refine wpQuiet_nil ?_
                    have S := Lib.hid S.out.tail
                    clear p0 p1
                    have q0 := S.out.get 4 0 rfl rfl
                    have q1 := S.out.get 4 1 rfl rfl
                    cases g1
                    · go_wp2_with fail
                      clear q0 q1
                      refine (isNew_any _ _ r l _ ⟨_, _, rfl, HR.out.below S.out.bel, HS.out.below S.out.bel⟩ HVD.out (HL.out.below S.out.bel) hlen).mono ?_
                      rintro e w50 ⟨rfl, hb⟩
                      rw [HN1.out]
                      have S := Lib.hid (S.out.call hb)
                      clear hb
                      go_wp2_with fail
                      refine (works_any _).mono ?_
                      rintro e w51 ⟨rfl, hb⟩
                      have S := Lib.hid (S.out.call hb)
                      clear hb
                      go_wp2_with fail
                      go_ret
                      exact ⟨rfl, S.out.bel⟩
                    · obtain rfl := HGG.out rfl
                      go_wp2_with fail
                      clear q0 q1
                      refine (isNew_any _ _ r l _ ⟨_, _, rfl, HR.out.below S.out.bel, HS.out.below S.out.bel⟩ HVD.out (HL.out.below S.out.bel) hlen).mono ?_
                      rintro e w50 ⟨rfl, hb⟩
                      rw [HN1.out]
                      have S := Lib.hid (S.out.call hb)
                      clear hb
                      go_wp2_with fail
                      refine (works_any _).mono ?_
                      rintro e w51 ⟨rfl, hb⟩
                      have S := Lib.hid (S.out.call hb)
                      clear hb
                      go_wp2_with fail
                      go_ret
                      exact ⟨rfl, S.out.bel⟩
            · cases q
              · have x2 := S.out.get 3 2 rfl rfl
                have p1 := S.out.get 0 1 rfl rfl
                have y0 := (S.out.own 2 rfl).cells (g := g) rfl (k * 4) (I s.has) HY.out.1
                have y1 := (S.out.own 2 rfl).cells (g := g) rfl (k * 4 + 1) (I s.frm) HY.out.2.1
                have y2 := (S.out.own 2 rfl).cells (g := g) rfl (k * 4 + 2) (I s.to) HY.out.2.2.1
                have y3 := (S.out.own 2 rfl).cells (g := g) rfl (k * 4 + 3) (I s.cost) HY.out.2.2.2
                rw [add_plain, Nat.zero_add] at y0 y1 y2 y3
                have S0 := S.out.alloc [I s.has, I s.frm, I s.to, I s.cost] 33
                have x3 := S0.get 4 3 rfl rfl
                have v1 := S0.get 0 1 rfl rfl
                have v2 := S0.free 0 1 rfl
                have S1 := S.out.alloc [I s.has, I (s.frm - 1), I s.to, I s.cost] 33
                have x4 := S1.get 4 4 rfl rfl
                have d0 := S1.get 0 0 rfl rfl
                have d1 := S1.get 0 1 rfl rfl
                have d2 := S1.get 0 2 rfl rfl
                have d3 := S1.get 0 3 rfl rfl
                have p2 := S1.get 1 1 rfl rfl
                have x5 := S1.get 4 2 rfl rfl
                have z0 := (S1.own 3 rfl).cells (g := g) rfl (k * 4) (I s.has) HY.out.1
                have z1 := (S1.own 3 rfl).cells (g := g) rfl (k * 4 + 1) (I s.frm) HY.out.2.1
                have z2 := (S1.own 3 rfl).cells (g := g) rfl (k * 4 + 2) (I s.to) HY.out.2.2.1
                have z3 := (S1.own 3 rfl).cells (g := g) rfl (k * 4 + 3) (I s.cost) HY.out.2.2.2
                rw [add_plain, Nat.zero_add] at z0 z1 z2 z3
                have f0 := (S1.own 3 rfl).frozenAt (k * 4)
                have f1 := (S1.own 3 rfl).frozenAt (k * 4 + 1)
                have f2 := (S1.own 3 rfl).frozenAt (k * 4 + 2)
                have f3 := (S1.own 3 rfl).frozenAt (k * 4 + 3)
                have S4 := (((S1.put 3 (k * 4) (I s.has) rfl).put 3 (k * 4 + 1) (I (s.frm - 1)) rfl).put 3 (k * 4 + 2) (I (s.to)) rfl).put 3 (k * 4 + 3) (I s.cost) rfl
                have b0 := S4.get 1 0 rfl rfl
                have b1 := S4.get 1 1 rfl rfl
                go_wp2_with fail
                clear x2 p1 y0 y1 y2 y3 x3 x4 x5 d0 d1 d2 d3 p2 z0 z1 z2 z3 f0 f1 f2 f3 b0 b1 v1 v2 
                have HSL := Lib.hid (show (r.strs.set k ⟨s.has, s.frm - 1, s.to, s.cost⟩).length = r.strs.length from List.length_set)
                have HSC := Lib.hid (strCells_set4 r.strs k ⟨s.has, s.frm - 1, s.to, s.cost⟩ hk)
                have HWD := Lib.hid (WdL.set r.strs k ⟨s.has, s.frm - 1, s.to, s.cost⟩ hk (by rw [HSE.out]; exact wideS_wd s true false))
                obtain ⟨ss, hss⟩ : ∃ x, r.strs.set k ⟨s.has, s.frm - 1, s.to, s.cost⟩ = x := ⟨_, rfl⟩
                rw [hss] at HSL HSC HWD
                have S := Lib.hid (show St w _ _ [.box w10.heap.size [.slice Ax rm.length cx, .slice (some ⟨g, 0, none⟩) r.strs.length cy], .own 3 1 (.slice Ax rm.length cx) rm.length (rm.map I), .own 33 4 (.slice (some ⟨g, 0, none⟩) r.strs.length cy) ss.length (strCells ss), .box (w.heap.size + 1) [I (hN : Int), I m, I (k : Int), .bool true, .bool false], .box w.heap.size [.slice A1 r.room.length c1, .slice A2 r.strs.length c2]] from (by
                  rw [HSL.out, ← HSC.out]
                  exact S4.tail))
                clear S4 S0 hss S1
                refine (ready_any _ ⟨rm, ss⟩ _ ⟨_, _, rfl, S.out.ints 1 rfl, S.out.row 2 rfl⟩).mono ?_
                rintro e w20 ⟨⟨bb, rfl, hok2⟩, hb⟩
                have S := Lib.hid (S.out.call hb)
                clear hb
                cases bb
                · clear hok2
                  go_wp2_with fail
                  refine (works_any _).mono ?_
                  rintro e w21 ⟨rfl, hb⟩
                  have S := Lib.hid (S.out.call hb)
                  clear hb
                  go_wp2_with fail
                  go_ret
                  exact ⟨rfl, S.out.bel⟩
                · have HOD := Lib.hid (hok2 rfl)
                  clear hok2
                  have q0 := S.out.get 4 0 rfl rfl
                  have q1 := S.out.get 4 1 rfl rfl
                  go_wp2_with fail
                  clear q0 q1
                  refine (three_any _ r _ ⟨_, _, rfl, HR.out.below S.out.bel, HS.out.below S.out.bel⟩ HVD.out).mono ?_
                  rintro e w22 ⟨rfl, hb⟩
                  have S := Lib.hid (S.out.call hb)
                  clear hb
                  have p0 := S.out.get 0 0 rfl rfl
                  have p1 := S.out.get 0 1 rfl rfl
                  cases hs : someR r
                  · rw [if_neg (by simp)]
                    go_wp2_with fail
                    clear p0 p1
                    refine (three_any _ ⟨rm, ss⟩ _ ⟨_, _, rfl, S.out.ints 1 rfl, S.out.row 2 rfl⟩ HOD.out).mono ?_
                    rintro e w23 ⟨rfl, hb⟩
                    clear hs
                    have S := Lib.hid (S.out.call hb)
                    clear hb
                    obtain ⟨d, e, f, so, he⟩ : ∃ (d e f : Int) (so : Bool), (if someR ⟨rm, ss⟩ = true then Value.tuple #[I (bestR stepsI ⟨rm, ss⟩).1, I (farN ⟨rm, ss⟩ : Int), I (bestR onceI ⟨rm, ss⟩).1, .bool true, .bool false] else .tuple #[I 0, I 0, I 0, .bool false, .bool false]) = .tuple #[I d, I e, I f, .bool so, .bool false] := by
                      split
                      · exact ⟨_, _, _, _, rfl⟩
                      · exact ⟨_, _, _, _, rfl⟩
                    rw [he]
                    clear he
                    go_wp2_with fail
                    obtain ⟨g1, hg1⟩ : ∃ x, newB r l = x := ⟨_, rfl⟩
                    obtain ⟨g2, hg2⟩ : ∃ x, newB ⟨rm, ss⟩ l = x := ⟨_, rfl⟩
                    have HG1 := Lib.hid (show pGoodR r l = (g1, 0) by unfold pGoodR; rw [if_pos (valid_iff.2 HVD.out), hg1])
                    have HG2 := Lib.hid (show pGoodR ⟨rm, ss⟩ l = (g2, 0) by unfold pGoodR; rw [if_pos (valid_iff.2 HOD.out), hg2])
                    have HGG := Lib.hid (show g1 = true → g2 = true by intro e; rw [← hg2]; exact more_new (r := r) (o := ⟨rm, ss⟩) HLE.out HWD.out (by rw [hg1, e]))
                    have HN1 := Lib.hid hg1
                    clear hg1 hg2
                    refine wp_region_seg [([0, 1], 2), ([], 3)] [4, 5, 6, 7, 8] [] 9 (by kernel_rfl) (by kernel_rfl) ?_
                    intro KQ hKQ w30 hb
                    have S := Lib.hid (S.out.call hb)
                    clear hb
                    have q0 := cell_regrown (S.out.get 4 0 rfl rfl)
                    have q1 := cell_regrown (S.out.get 4 1 rfl rfl)
                    refine seg_next ?_
                    simp only [opsAt, List.filterMap_cons, List.filterMap_nil, List.getElem?_toArray, List.getElem?_cons_succ, List.getElem?_cons_zero]
                    repeat (first | go_big_quiet_step (fail) | quiet_step (fail))
                    refine wpQuiet_nil ?_
                    intro K hK
                    refine loud_op rfl rfl ?_
                    go_simp
                    refine (copied_any _ l _ (HL.out.below S.out.bel) hlen).mono ?_
                    rintro e w31 ⟨vc, rfl, hown, hb⟩
                    obtain ⟨Ac, cc, rfl⟩ := own_shape hown
                    have S := Lib.hid (S.out.take hb hown)
                    refine hK _ _ hb ?_
                    clear hK K hb hown
                    refine seg_next ?_
                    simp only [opsAt, List.filterMap_nil]
                    refine wpQuiet_nil ?_
                    intro K hK
                    refine loud_op rfl rfl ?_
                    go_simp
                    refine (pGood_any _ _ r l _ ⟨_, _, rfl, HR.out.below S.out.bel, HS.out.below S.out.bel⟩ (S.out.ints 0 rfl) hlen).mono ?_
                    rintro e w32 ⟨rfl, hb⟩
                    rw [HG1.out]
                    have S := Lib.hid (S.out.call hb)
                    refine hK _ _ hb ?_
                    clear hK K hb
                    refine seg_last ?_
                    simp only [opsAt, List.filterMap_cons, List.filterMap_nil, List.getElem?_toArray, List.getElem?_cons_succ, List.getElem?_cons_zero]
                    repeat (first | go_big_quiet_step (fail) | quiet_step (fail))
                    refine wpQuiet_nil ?_
                    have S := Lib.hid S.out.tail
                    clear q0 q1
                    go_wp2_with fail
                    refine wp_region_seg [([0, 1], 2), ([], 3)] [4, 5, 6, 7, 8] [] 9 (by kernel_rfl) (by kernel_rfl) ?_
                    intro KQ hKQ w40 hb
                    have S := Lib.hid (S.out.call hb)
                    clear hb
                    have p0 := cell_regrown (S.out.get 0 0 rfl rfl)
                    have p1 := cell_regrown (S.out.get 0 1 rfl rfl)
                    refine seg_next ?_
                    simp only [opsAt, List.filterMap_cons, List.filterMap_nil, List.getElem?_toArray, List.getElem?_cons_succ, List.getElem?_cons_zero]
                    repeat (first | go_big_quiet_step (fail) | quiet_step (fail))
                    refine wpQuiet_nil ?_
                    intro K hK
                    refine loud_op rfl rfl ?_
                    go_simp
                    refine (copied_any _ l _ (HL.out.below S.out.bel) hlen).mono ?_
                    rintro e w41 ⟨vc, rfl, hown, hb⟩
                    obtain ⟨Ac, cc, rfl⟩ := own_shape hown
                    have S := Lib.hid (S.out.take hb hown)
                    refine hK _ _ hb ?_
                    clear hK K hb hown
                    refine seg_next ?_
                    simp only [opsAt, List.filterMap_nil]
                    refine wpQuiet_nil ?_
                    intro K hK
                    refine loud_op rfl rfl ?_
                    go_simp
                    refine (pGood_any _ _ ⟨rm, ss⟩ l _ ⟨_, _, rfl, S.out.ints 2 rfl, S.out.row 3 rfl⟩ (S.out.ints 0 rfl) hlen).mono ?_
                    rintro e w42 ⟨rfl, hb⟩
                    rw [HG2.out]
                    have S := Lib.hid (S.out.call hb)
                    refine hK _ _ hb ?_
                    clear hK K hb
                    refine seg_last ?_
                    simp only [opsAt, List.filterMap_cons, List.filterMap_nil, List.getElem?_toArray, List.getElem?_cons_succ, List.getElem?_cons_zero]
                    repeat (first | go_big_quiet_step (fail) | quiet_step (fail))
                    refine wpQuiet_nil ?_
                    have S := Lib.hid S.out.tail
                    clear p0 p1
                    have q0 := S.out.get 4 0 rfl rfl
                    have q1 := S.out.get 4 1 rfl rfl
                    cases g1
                    · go_wp2_with fail
                      clear q0 q1
                      refine (isNew_any _ _ r l _ ⟨_, _, rfl, HR.out.below S.out.bel, HS.out.below S.out.bel⟩ HVD.out (HL.out.below S.out.bel) hlen).mono ?_
                      rintro e w50 ⟨rfl, hb⟩
                      rw [HN1.out]
                      have S := Lib.hid (S.out.call hb)
                      clear hb
                      go_wp2_with fail
                      refine (works_any _).mono ?_
                      rintro e w51 ⟨rfl, hb⟩
                      have S := Lib.hid (S.out.call hb)
                      clear hb
                      go_wp2_with fail
                      go_ret
                      exact ⟨rfl, S.out.bel⟩
                    · obtain rfl := HGG.out rfl
                      go_wp2_with fail
                      clear q0 q1
                      refine (isNew_any _ _ r l _ ⟨_, _, rfl, HR.out.below S.out.bel, HS.out.below S.out.bel⟩ HVD.out (HL.out.below S.out.bel) hlen).mono ?_
                      rintro e w50 ⟨rfl, hb⟩
                      rw [HN1.out]
                      have S := Lib.hid (S.out.call hb)
                      clear hb
                      go_wp2_with fail
                      refine (works_any _).mono ?_
                      rintro e w51 ⟨rfl, hb⟩
                      have S := Lib.hid (S.out.call hb)
                      clear hb
                      go_wp2_with fail
                      go_ret
                      exact ⟨rfl, S.out.bel⟩
                  · rw [if_pos rfl]
                    obtain ⟨hso, h1, h2, h3⟩ := more_said (r := r) (o := ⟨rm, ss⟩) HVD.out HOD.out HLE.out HWD.out hs
                    clear hs
                    obtain ⟨a, ha⟩ : ∃ x, (bestR stepsI r).1 = x := ⟨_, rfl⟩
                    obtain ⟨b, hb1⟩ : ∃ x, (farN r : Int) = x := ⟨_, rfl⟩
                    obtain ⟨c, hc⟩ : ∃ x, (bestR onceI r).1 = x := ⟨_, rfl⟩
                    obtain ⟨d, hd⟩ : ∃ x, (bestR stepsI ⟨rm, ss⟩).1 = x := ⟨_, rfl⟩
                    obtain ⟨e, he⟩ : ∃ x, (farN ⟨rm, ss⟩ : Int) = x := ⟨_, rfl⟩
                    obtain ⟨f, hf⟩ : ∃ x, (bestR onceI ⟨rm, ss⟩).1 = x := ⟨_, rfl⟩
                    rw [ha, hb1, hc]
                    rw [ha, hd] at h1
                    rw [hb1, he] at h2
                    rw [hc, hf] at h3
                    have HSO := Lib.hid hso
                    have HD := Lib.hid (And.intro hd (And.intro he hf))
                    clear hso ha hb1 hc hd he hf
                    go_wp2_with fail
                    clear p0 p1
                    refine (three_any _ ⟨rm, ss⟩ _ ⟨_, _, rfl, S.out.ints 1 rfl, S.out.row 2 rfl⟩ HOD.out).mono ?_
                    rintro e w23 ⟨rfl, hb⟩
                    rw [if_pos HSO.out, HD.out.1, HD.out.2.1, HD.out.2.2]
                    have S := Lib.hid (S.out.call hb)
                    clear hb
                    go_wp2_with fail
                    obtain ⟨g1, hg1⟩ : ∃ x, newB r l = x := ⟨_, rfl⟩
                    obtain ⟨g2, hg2⟩ : ∃ x, newB ⟨rm, ss⟩ l = x := ⟨_, rfl⟩
                    have HG1 := Lib.hid (show pGoodR r l = (g1, 0) by unfold pGoodR; rw [if_pos (valid_iff.2 HVD.out), hg1])
                    have HG2 := Lib.hid (show pGoodR ⟨rm, ss⟩ l = (g2, 0) by unfold pGoodR; rw [if_pos (valid_iff.2 HOD.out), hg2])
                    have HGG := Lib.hid (show g1 = true → g2 = true by intro e; rw [← hg2]; exact more_new (r := r) (o := ⟨rm, ss⟩) HLE.out HWD.out (by rw [hg1, e]))
                    have HN1 := Lib.hid hg1
                    clear hg1 hg2
                    refine wp_region_seg [([0, 1], 2), ([], 3)] [4, 5, 6, 7, 8] [] 9 (by kernel_rfl) (by kernel_rfl) ?_
                    intro KQ hKQ w30 hb
                    have S := Lib.hid (S.out.call hb)
                    clear hb
                    have q0 := cell_regrown (S.out.get 4 0 rfl rfl)
                    have q1 := cell_regrown (S.out.get 4 1 rfl rfl)
                    refine seg_next ?_
                    simp only [opsAt, List.filterMap_cons, List.filterMap_nil, List.getElem?_toArray, List.getElem?_cons_succ, List.getElem?_cons_zero]
                    repeat (first | go_big_quiet_step (fail) | quiet_step (fail))
                    refine wpQuiet_nil ?_
                    intro K hK
                    refine loud_op rfl rfl ?_
                    go_simp
                    refine (copied_any _ l _ (HL.out.below S.out.bel) hlen).mono ?_
                    rintro e w31 ⟨vc, rfl, hown, hb⟩
                    obtain ⟨Ac, cc, rfl⟩ := own_shape hown
                    have S := Lib.hid (S.out.take hb hown)
                    refine hK _ _ hb ?_
                    clear hK K hb hown
                    refine seg_next ?_
                    simp only [opsAt, List.filterMap_nil]
                    refine wpQuiet_nil ?_
                    intro K hK
                    refine loud_op rfl rfl ?_
                    go_simp
                    refine (pGood_any _ _ r l _ ⟨_, _, rfl, HR.out.below S.out.bel, HS.out.below S.out.bel⟩ (S.out.ints 0 rfl) hlen).mono ?_
                    rintro e w32 ⟨rfl, hb⟩
                    rw [HG1.out]
                    have S := Lib.hid (S.out.call hb)
                    refine hK _ _ hb ?_
                    clear hK K hb
                    refine seg_last ?_
                    simp only [opsAt, List.filterMap_cons, List.filterMap_nil, List.getElem?_toArray, List.getElem?_cons_succ, List.getElem?_cons_zero]
                    repeat (first | go_big_quiet_step (fail) | quiet_step (fail))
                    refine wpQuiet_nil ?_
                    have S := Lib.hid S.out.tail
                    clear q0 q1
                    go_wp2_with fail
                    refine wp_region_seg [([0, 1], 2), ([], 3)] [4, 5, 6, 7, 8] [] 9 (by kernel_rfl) (by kernel_rfl) ?_
                    intro KQ hKQ w40 hb
                    have S := Lib.hid (S.out.call hb)
                    clear hb
                    have p0 := cell_regrown (S.out.get 0 0 rfl rfl)
                    have p1 := cell_regrown (S.out.get 0 1 rfl rfl)
                    refine seg_next ?_
                    simp only [opsAt, List.filterMap_cons, List.filterMap_nil, List.getElem?_toArray, List.getElem?_cons_succ, List.getElem?_cons_zero]
                    repeat (first | go_big_quiet_step (fail) | quiet_step (fail))
                    refine wpQuiet_nil ?_
                    intro K hK
                    refine loud_op rfl rfl ?_
                    go_simp
                    refine (copied_any _ l _ (HL.out.below S.out.bel) hlen).mono ?_
                    rintro e w41 ⟨vc, rfl, hown, hb⟩
                    obtain ⟨Ac, cc, rfl⟩ := own_shape hown
                    have S := Lib.hid (S.out.take hb hown)
                    refine hK _ _ hb ?_
                    clear hK K hb hown
                    refine seg_next ?_
                    simp only [opsAt, List.filterMap_nil]
                    refine wpQuiet_nil ?_
                    intro K hK
                    refine loud_op rfl rfl ?_
                    go_simp
                    refine (pGood_any _ _ ⟨rm, ss⟩ l _ ⟨_, _, rfl, S.out.ints 2 rfl, S.out.row 3 rfl⟩ (S.out.ints 0 rfl) hlen).mono ?_
                    rintro e w42 ⟨rfl, hb⟩
                    rw [HG2.out]
                    have S := Lib.hid (S.out.call hb)
                    refine hK _ _ hb ?_
                    clear hK K hb
                    refine seg_last ?_
                    simp only [opsAt, List.filterMap_cons, List.filterMap_nil, List.getElem?_toArray, List.getElem?_cons_succ, List.getElem?_cons_zero]
                    repeat (first | go_big_quiet_step (fail) | quiet_step (fail))
                    refine wpQuiet_nil ?_
                    have S := Lib.hid S.out.tail
                    clear p0 p1
                    have q0 := S.out.get 4 0 rfl rfl
                    have q1 := S.out.get 4 1 rfl rfl
                    cases g1
                    · go_wp2_with fail
                      clear q0 q1
                      refine (isNew_any _ _ r l _ ⟨_, _, rfl, HR.out.below S.out.bel, HS.out.below S.out.bel⟩ HVD.out (HL.out.below S.out.bel) hlen).mono ?_
                      rintro e w50 ⟨rfl, hb⟩
                      rw [HN1.out]
                      have S := Lib.hid (S.out.call hb)
                      clear hb
                      go_wp2_with fail
                      refine (works_any _).mono ?_
                      rintro e w51 ⟨rfl, hb⟩
                      have S := Lib.hid (S.out.call hb)
                      clear hb
                      go_wp2_with fail
                      go_ret
                      exact ⟨rfl, S.out.bel⟩
                    · obtain rfl := HGG.out rfl
                      go_wp2_with fail
                      clear q0 q1
                      refine (isNew_any _ _ r l _ ⟨_, _, rfl, HR.out.below S.out.bel, HS.out.below S.out.bel⟩ HVD.out (HL.out.below S.out.bel) hlen).mono ?_
                      rintro e w50 ⟨rfl, hb⟩
                      rw [HN1.out]
                      have S := Lib.hid (S.out.call hb)
                      clear hb
                      go_wp2_with fail
                      refine (works_any _).mono ?_
                      rintro e w51 ⟨rfl, hb⟩
                      have S := Lib.hid (S.out.call hb)
                      clear hb
                      go_wp2_with fail
                      go_ret
                      exact ⟨rfl, S.out.bel⟩
              · have x2 := S.out.get 3 2 rfl rfl
                have p1 := S.out.get 0 1 rfl rfl
                have y0 := (S.out.own 2 rfl).cells (g := g) rfl (k * 4) (I s.has) HY.out.1
                have y1 := (S.out.own 2 rfl).cells (g := g) rfl (k * 4 + 1) (I s.frm) HY.out.2.1
                have y2 := (S.out.own 2 rfl).cells (g := g) rfl (k * 4 + 2) (I s.to) HY.out.2.2.1
                have y3 := (S.out.own 2 rfl).cells (g := g) rfl (k * 4 + 3) (I s.cost) HY.out.2.2.2
                rw [add_plain, Nat.zero_add] at y0 y1 y2 y3
                have S0 := S.out.alloc [I s.has, I s.frm, I s.to, I s.cost] 33
                have x3 := S0.get 4 3 rfl rfl
                have v1 := S0.get 0 1 rfl rfl
                have v2 := S0.free 0 1 rfl
                have S1 := S.out.alloc [I s.has, I (s.frm - 1), I s.to, I s.cost] 33
                have x4 := S1.get 4 4 rfl rfl
                have v3 := S1.get 0 2 rfl rfl
                have v4 := S1.free 0 2 rfl
                have S2 := S.out.alloc [I s.has, I (s.frm - 1), I (s.to + 1), I s.cost] 33
                have d0 := S2.get 0 0 rfl rfl
                have d1 := S2.get 0 1 rfl rfl
                have d2 := S2.get 0 2 rfl rfl
                have d3 := S2.get 0 3 rfl rfl
                have p2 := S2.get 1 1 rfl rfl
                have x5 := S2.get 4 2 rfl rfl
                have z0 := (S2.own 3 rfl).cells (g := g) rfl (k * 4) (I s.has) HY.out.1
                have z1 := (S2.own 3 rfl).cells (g := g) rfl (k * 4 + 1) (I s.frm) HY.out.2.1
                have z2 := (S2.own 3 rfl).cells (g := g) rfl (k * 4 + 2) (I s.to) HY.out.2.2.1
                have z3 := (S2.own 3 rfl).cells (g := g) rfl (k * 4 + 3) (I s.cost) HY.out.2.2.2
                rw [add_plain, Nat.zero_add] at z0 z1 z2 z3
                have f0 := (S2.own 3 rfl).frozenAt (k * 4)
                have f1 := (S2.own 3 rfl).frozenAt (k * 4 + 1)
                have f2 := (S2.own 3 rfl).frozenAt (k * 4 + 2)
                have f3 := (S2.own 3 rfl).frozenAt (k * 4 + 3)
                have S4 := (((S2.put 3 (k * 4) (I s.has) rfl).put 3 (k * 4 + 1) (I (s.frm - 1)) rfl).put 3 (k * 4 + 2) (I (s.to + 1)) rfl).put 3 (k * 4 + 3) (I s.cost) rfl
                have b0 := S4.get 1 0 rfl rfl
                have b1 := S4.get 1 1 rfl rfl
                go_wp2_with fail
                clear x2 p1 y0 y1 y2 y3 x3 x4 x5 d0 d1 d2 d3 p2 z0 z1 z2 z3 f0 f1 f2 f3 b0 b1 v1 v2 v3 v4
                have HSL := Lib.hid (show (r.strs.set k ⟨s.has, s.frm - 1, s.to + 1, s.cost⟩).length = r.strs.length from List.length_set)
                have HSC := Lib.hid (strCells_set4 r.strs k ⟨s.has, s.frm - 1, s.to + 1, s.cost⟩ hk)
                have HWD := Lib.hid (WdL.set r.strs k ⟨s.has, s.frm - 1, s.to + 1, s.cost⟩ hk (by rw [HSE.out]; exact wideS_wd s true true))
                obtain ⟨ss, hss⟩ : ∃ x, r.strs.set k ⟨s.has, s.frm - 1, s.to + 1, s.cost⟩ = x := ⟨_, rfl⟩
                rw [hss] at HSL HSC HWD
                have S := Lib.hid (show St w _ _ [.box w10.heap.size [.slice Ax rm.length cx, .slice (some ⟨g, 0, none⟩) r.strs.length cy], .own 3 1 (.slice Ax rm.length cx) rm.length (rm.map I), .own 33 4 (.slice (some ⟨g, 0, none⟩) r.strs.length cy) ss.length (strCells ss), .box (w.heap.size + 1) [I (hN : Int), I m, I (k : Int), .bool true, .bool true], .box w.heap.size [.slice A1 r.room.length c1, .slice A2 r.strs.length c2]] from (by
                  rw [HSL.out, ← HSC.out]
                  exact S4.tail))
                clear S4 S0 hss S1 S2
                refine (ready_any _ ⟨rm, ss⟩ _ ⟨_, _, rfl, S.out.ints 1 rfl, S.out.row 2 rfl⟩).mono ?_
                rintro e w20 ⟨⟨bb, rfl, hok2⟩, hb⟩
                have S := Lib.hid (S.out.call hb)
                clear hb
                cases bb
                · clear hok2
                  go_wp2_with fail
                  refine (works_any _).mono ?_
                  rintro e w21 ⟨rfl, hb⟩
                  have S := Lib.hid (S.out.call hb)
                  clear hb
                  go_wp2_with fail
                  go_ret
                  exact ⟨rfl, S.out.bel⟩
                · have HOD := Lib.hid (hok2 rfl)
                  clear hok2
                  have q0 := S.out.get 4 0 rfl rfl
                  have q1 := S.out.get 4 1 rfl rfl
                  go_wp2_with fail
                  clear q0 q1
                  refine (three_any _ r _ ⟨_, _, rfl, HR.out.below S.out.bel, HS.out.below S.out.bel⟩ HVD.out).mono ?_
                  rintro e w22 ⟨rfl, hb⟩
                  have S := Lib.hid (S.out.call hb)
                  clear hb
                  have p0 := S.out.get 0 0 rfl rfl
                  have p1 := S.out.get 0 1 rfl rfl
                  cases hs : someR r
                  · rw [if_neg (by simp)]
                    go_wp2_with fail
                    clear p0 p1
                    refine (three_any _ ⟨rm, ss⟩ _ ⟨_, _, rfl, S.out.ints 1 rfl, S.out.row 2 rfl⟩ HOD.out).mono ?_
                    rintro e w23 ⟨rfl, hb⟩
                    clear hs
                    have S := Lib.hid (S.out.call hb)
                    clear hb
                    obtain ⟨d, e, f, so, he⟩ : ∃ (d e f : Int) (so : Bool), (if someR ⟨rm, ss⟩ = true then Value.tuple #[I (bestR stepsI ⟨rm, ss⟩).1, I (farN ⟨rm, ss⟩ : Int), I (bestR onceI ⟨rm, ss⟩).1, .bool true, .bool false] else .tuple #[I 0, I 0, I 0, .bool false, .bool false]) = .tuple #[I d, I e, I f, .bool so, .bool false] := by
                      split
                      · exact ⟨_, _, _, _, rfl⟩
                      · exact ⟨_, _, _, _, rfl⟩
                    rw [he]
                    clear he
                    go_wp2_with fail
                    obtain ⟨g1, hg1⟩ : ∃ x, newB r l = x := ⟨_, rfl⟩
                    obtain ⟨g2, hg2⟩ : ∃ x, newB ⟨rm, ss⟩ l = x := ⟨_, rfl⟩
                    have HG1 := Lib.hid (show pGoodR r l = (g1, 0) by unfold pGoodR; rw [if_pos (valid_iff.2 HVD.out), hg1])
                    have HG2 := Lib.hid (show pGoodR ⟨rm, ss⟩ l = (g2, 0) by unfold pGoodR; rw [if_pos (valid_iff.2 HOD.out), hg2])
                    have HGG := Lib.hid (show g1 = true → g2 = true by intro e; rw [← hg2]; exact more_new (r := r) (o := ⟨rm, ss⟩) HLE.out HWD.out (by rw [hg1, e]))
                    have HN1 := Lib.hid hg1
                    clear hg1 hg2
                    refine wp_region_seg [([0, 1], 2), ([], 3)] [4, 5, 6, 7, 8] [] 9 (by kernel_rfl) (by kernel_rfl) ?_
                    intro KQ hKQ w30 hb
                    have S := Lib.hid (S.out.call hb)
                    clear hb
                    have q0 := cell_regrown (S.out.get 4 0 rfl rfl)
                    have q1 := cell_regrown (S.out.get 4 1 rfl rfl)
                    refine seg_next ?_
                    simp only [opsAt, List.filterMap_cons, List.filterMap_nil, List.getElem?_toArray, List.getElem?_cons_succ, List.getElem?_cons_zero]
                    repeat (first | go_big_quiet_step (fail) | quiet_step (fail))
                    refine wpQuiet_nil ?_
                    intro K hK
                    refine loud_op rfl rfl ?_
                    go_simp
                    refine (copied_any _ l _ (HL.out.below S.out.bel) hlen).mono ?_
                    rintro e w31 ⟨vc, rfl, hown, hb⟩
                    obtain ⟨Ac, cc, rfl⟩ := own_shape hown
                    have S := Lib.hid (S.out.take hb hown)
                    refine hK _ _ hb ?_
                    clear hK K hb hown
                    refine seg_next ?_
                    simp only [opsAt, List.filterMap_nil]
                    refine wpQuiet_nil ?_
                    intro K hK
                    refine loud_op rfl rfl ?_
                    go_simp
                    refine (pGood_any _ _ r l _ ⟨_, _, rfl, HR.out.below S.out.bel, HS.out.below S.out.bel⟩ (S.out.ints 0 rfl) hlen).mono ?_
                    rintro e w32 ⟨rfl, hb⟩
                    rw [HG1.out]
                    have S := Lib.hid (S.out.call hb)
                    refine hK _ _ hb ?_
                    clear hK K hb
                    refine seg_last ?_
                    simp only [opsAt, List.filterMap_cons, List.filterMap_nil, List.getElem?_toArray, List.getElem?_cons_succ, List.getElem?_cons_zero]
                    repeat (first | go_big_quiet_step (fail) | quiet_step (fail))
                    refine wpQuiet_nil ?_
                    have S := Lib.hid S.out.tail
                    clear q0 q1
                    go_wp2_with fail
                    refine wp_region_seg [([0, 1], 2), ([], 3)] [4, 5, 6, 7, 8] [] 9 (by kernel_rfl) (by kernel_rfl) ?_
                    intro KQ hKQ w40 hb
                    have S := Lib.hid (S.out.call hb)
                    clear hb
                    have p0 := cell_regrown (S.out.get 0 0 rfl rfl)
                    have p1 := cell_regrown (S.out.get 0 1 rfl rfl)
                    refine seg_next ?_
                    simp only [opsAt, List.filterMap_cons, List.filterMap_nil, List.getElem?_toArray, List.getElem?_cons_succ, List.getElem?_cons_zero]
                    repeat (first | go_big_quiet_step (fail) | quiet_step (fail))
                    refine wpQuiet_nil ?_
                    intro K hK
                    refine loud_op rfl rfl ?_
                    go_simp
                    refine (copied_any _ l _ (HL.out.below S.out.bel) hlen).mono ?_
                    rintro e w41 ⟨vc, rfl, hown, hb⟩
                    obtain ⟨Ac, cc, rfl⟩ := own_shape hown
                    have S := Lib.hid (S.out.take hb hown)
                    refine hK _ _ hb ?_
                    clear hK K hb hown
                    refine seg_next ?_
                    simp only [opsAt, List.filterMap_nil]
                    refine wpQuiet_nil ?_
                    intro K hK
                    refine loud_op rfl rfl ?_
                    go_simp
                    refine (pGood_any _ _ ⟨rm, ss⟩ l _ ⟨_, _, rfl, S.out.ints 2 rfl, S.out.row 3 rfl⟩ (S.out.ints 0 rfl) hlen).mono ?_
                    rintro e w42 ⟨rfl, hb⟩
                    rw [HG2.out]
                    have S := Lib.hid (S.out.call hb)
                    refine hK _ _ hb ?_
                    clear hK K hb
                    refine seg_last ?_
                    simp only [opsAt, List.filterMap_cons, List.filterMap_nil, List.getElem?_toArray, List.getElem?_cons_succ, List.getElem?_cons_zero]
                    repeat (first | go_big_quiet_step (fail) | quiet_step (fail))
                    refine wpQuiet_nil ?_
                    have S := Lib.hid S.out.tail
                    clear p0 p1
                    have q0 := S.out.get 4 0 rfl rfl
                    have q1 := S.out.get 4 1 rfl rfl
                    cases g1
                    · go_wp2_with fail
                      clear q0 q1
                      refine (isNew_any _ _ r l _ ⟨_, _, rfl, HR.out.below S.out.bel, HS.out.below S.out.bel⟩ HVD.out (HL.out.below S.out.bel) hlen).mono ?_
                      rintro e w50 ⟨rfl, hb⟩
                      rw [HN1.out]
                      have S := Lib.hid (S.out.call hb)
                      clear hb
                      go_wp2_with fail
                      refine (works_any _).mono ?_
                      rintro e w51 ⟨rfl, hb⟩
                      have S := Lib.hid (S.out.call hb)
                      clear hb
                      go_wp2_with fail
                      go_ret
                      exact ⟨rfl, S.out.bel⟩
                    · obtain rfl := HGG.out rfl
                      go_wp2_with fail
                      clear q0 q1
                      refine (isNew_any _ _ r l _ ⟨_, _, rfl, HR.out.below S.out.bel, HS.out.below S.out.bel⟩ HVD.out (HL.out.below S.out.bel) hlen).mono ?_
                      rintro e w50 ⟨rfl, hb⟩
                      rw [HN1.out]
                      have S := Lib.hid (S.out.call hb)
                      clear hb
                      go_wp2_with fail
                      refine (works_any _).mono ?_
                      rintro e w51 ⟨rfl, hb⟩
                      have S := Lib.hid (S.out.call hb)
                      clear hb
                      go_wp2_with fail
                      go_ret
                      exact ⟨rfl, S.out.bel⟩
                  · rw [if_pos rfl]
                    obtain ⟨hso, h1, h2, h3⟩ := more_said (r := r) (o := ⟨rm, ss⟩) HVD.out HOD.out HLE.out HWD.out hs
                    clear hs
                    obtain ⟨a, ha⟩ : ∃ x, (bestR stepsI r).1 = x := ⟨_, rfl⟩
                    obtain ⟨b, hb1⟩ : ∃ x, (farN r : Int) = x := ⟨_, rfl⟩
                    obtain ⟨c, hc⟩ : ∃ x, (bestR onceI r).1 = x := ⟨_, rfl⟩
                    obtain ⟨d, hd⟩ : ∃ x, (bestR stepsI ⟨rm, ss⟩).1 = x := ⟨_, rfl⟩
                    obtain ⟨e, he⟩ : ∃ x, (farN ⟨rm, ss⟩ : Int) = x := ⟨_, rfl⟩
                    obtain ⟨f, hf⟩ : ∃ x, (bestR onceI ⟨rm, ss⟩).1 = x := ⟨_, rfl⟩
                    rw [ha, hb1, hc]
                    rw [ha, hd] at h1
                    rw [hb1, he] at h2
                    rw [hc, hf] at h3
                    have HSO := Lib.hid hso
                    have HD := Lib.hid (And.intro hd (And.intro he hf))
                    clear hso ha hb1 hc hd he hf
                    go_wp2_with fail
                    clear p0 p1
                    refine (three_any _ ⟨rm, ss⟩ _ ⟨_, _, rfl, S.out.ints 1 rfl, S.out.row 2 rfl⟩ HOD.out).mono ?_
                    rintro e w23 ⟨rfl, hb⟩
                    rw [if_pos HSO.out, HD.out.1, HD.out.2.1, HD.out.2.2]
                    have S := Lib.hid (S.out.call hb)
                    clear hb
                    go_wp2_with fail
                    obtain ⟨g1, hg1⟩ : ∃ x, newB r l = x := ⟨_, rfl⟩
                    obtain ⟨g2, hg2⟩ : ∃ x, newB ⟨rm, ss⟩ l = x := ⟨_, rfl⟩
                    have HG1 := Lib.hid (show pGoodR r l = (g1, 0) by unfold pGoodR; rw [if_pos (valid_iff.2 HVD.out), hg1])
                    have HG2 := Lib.hid (show pGoodR ⟨rm, ss⟩ l = (g2, 0) by unfold pGoodR; rw [if_pos (valid_iff.2 HOD.out), hg2])
                    have HGG := Lib.hid (show g1 = true → g2 = true by intro e; rw [← hg2]; exact more_new (r := r) (o := ⟨rm, ss⟩) HLE.out HWD.out (by rw [hg1, e]))
                    have HN1 := Lib.hid hg1
                    clear hg1 hg2
                    refine wp_region_seg [([0, 1], 2), ([], 3)] [4, 5, 6, 7, 8] [] 9 (by kernel_rfl) (by kernel_rfl) ?_
                    intro KQ hKQ w30 hb
                    have S := Lib.hid (S.out.call hb)
                    clear hb
                    have q0 := cell_regrown (S.out.get 4 0 rfl rfl)
                    have q1 := cell_regrown (S.out.get 4 1 rfl rfl)
                    refine seg_next ?_
                    simp only [opsAt, List.filterMap_cons, List.filterMap_nil, List.getElem?_toArray, List.getElem?_cons_succ, List.getElem?_cons_zero]
                    repeat (first | go_big_quiet_step (fail) | quiet_step (fail))
                    refine wpQuiet_nil ?_
                    intro K hK
                    refine loud_op rfl rfl ?_
                    go_simp
                    refine (copied_any _ l _ (HL.out.below S.out.bel) hlen).mono ?_
                    rintro e w31 ⟨vc, rfl, hown, hb⟩
                    obtain ⟨Ac, cc, rfl⟩ := own_shape hown
                    have S := Lib.hid (S.out.take hb hown)
                    refine hK _ _ hb ?_
                    clear hK K hb hown
                    refine seg_next ?_
                    simp only [opsAt, List.filterMap_nil]
                    refine wpQuiet_nil ?_
                    intro K hK
                    refine loud_op rfl rfl ?_
                    go_simp
                    refine (pGood_any _ _ r l _ ⟨_, _, rfl, HR.out.below S.out.bel, HS.out.below S.out.bel⟩ (S.out.ints 0 rfl) hlen).mono ?_
                    rintro e w32 ⟨rfl, hb⟩
                    rw [HG1.out]
                    have S := Lib.hid (S.out.call hb)
                    refine hK _ _ hb ?_
                    clear hK K hb
                    refine seg_last ?_
                    simp only [opsAt, List.filterMap_cons, List.filterMap_nil, List.getElem?_toArray, List.getElem?_cons_succ, List.getElem?_cons_zero]
                    repeat (first | go_big_quiet_step (fail) | quiet_step (fail))
                    refine wpQuiet_nil ?_
                    have S := Lib.hid S.out.tail
                    clear q0 q1
                    go_wp2_with fail
                    refine wp_region_seg [([0, 1], 2), ([], 3)] [4, 5, 6, 7, 8] [] 9 (by kernel_rfl) (by kernel_rfl) ?_
                    intro KQ hKQ w40 hb
                    have S := Lib.hid (S.out.call hb)
                    clear hb
                    have p0 := cell_regrown (S.out.get 0 0 rfl rfl)
                    have p1 := cell_regrown (S.out.get 0 1 rfl rfl)
                    refine seg_next ?_
                    simp only [opsAt, List.filterMap_cons, List.filterMap_nil, List.getElem?_toArray, List.getElem?_cons_succ, List.getElem?_cons_zero]
                    repeat (first | go_big_quiet_step (fail) | quiet_step (fail))
                    refine wpQuiet_nil ?_
                    intro K hK
                    refine loud_op rfl rfl ?_
                    go_simp
                    refine (copied_any _ l _ (HL.out.below S.out.bel) hlen).mono ?_
                    rintro e w41 ⟨vc, rfl, hown, hb⟩
                    obtain ⟨Ac, cc, rfl⟩ := own_shape hown
                    have S := Lib.hid (S.out.take hb hown)
                    refine hK _ _ hb ?_
                    clear hK K hb hown
                    refine seg_next ?_
                    simp only [opsAt, List.filterMap_nil]
                    refine wpQuiet_nil ?_
                    intro K hK
                    refine loud_op rfl rfl ?_
                    go_simp
                    refine (pGood_any _ _ ⟨rm, ss⟩ l _ ⟨_, _, rfl, S.out.ints 2 rfl, S.out.row 3 rfl⟩ (S.out.ints 0 rfl) hlen).mono ?_
                    rintro e w42 ⟨rfl, hb⟩
                    rw [HG2.out]
                    have S := Lib.hid (S.out.call hb)
                    refine hK _ _ hb ?_
                    clear hK K hb
                    refine seg_last ?_
                    simp only [opsAt, List.filterMap_cons, List.filterMap_nil, List.getElem?_toArray, List.getElem?_cons_succ, List.getElem?_cons_zero]
                    repeat (first | go_big_quiet_step (fail) | quiet_step (fail))
                    refine wpQuiet_nil ?_
                    have S := Lib.hid S.out.tail
                    clear p0 p1
                    have q0 := S.out.get 4 0 rfl rfl
                    have q1 := S.out.get 4 1 rfl rfl
                    cases g1
                    · go_wp2_with fail
                      clear q0 q1
                      refine (isNew_any _ _ r l _ ⟨_, _, rfl, HR.out.below S.out.bel, HS.out.below S.out.bel⟩ HVD.out (HL.out.below S.out.bel) hlen).mono ?_
                      rintro e w50 ⟨rfl, hb⟩
                      rw [HN1.out]
                      have S := Lib.hid (S.out.call hb)
                      clear hb
                      go_wp2_with fail
                      refine (works_any _).mono ?_
                      rintro e w51 ⟨rfl, hb⟩
                      have S := Lib.hid (S.out.call hb)
                      clear hb
                      go_wp2_with fail
                      go_ret
                      exact ⟨rfl, S.out.bel⟩
                    · obtain rfl := HGG.out rfl
                      go_wp2_with fail
                      clear q0 q1
                      refine (isNew_any _ _ r l _ ⟨_, _, rfl, HR.out.below S.out.bel, HS.out.below S.out.bel⟩ HVD.out (HL.out.below S.out.bel) hlen).mono ?_
                      rintro e w50 ⟨rfl, hb⟩
                      rw [HN1.out]
                      have S := Lib.hid (S.out.call hb)
                      clear hb
                      go_wp2_with fail
                      refine (works_any _).mono ?_
                      rintro e w51 ⟨rfl, hb⟩
                      have S := Lib.hid (S.out.call hb)
                      clear hb
                      go_wp2_with fail
                      go_ret
                      exact ⟨rfl, S.out.bel⟩

end Go.Proofs.Ytokendenofbnhaa
