/- Walk of Swap. -/
import Derived.Test.YtokendenofbnhaaW15
import Derived.Test.YtokendenofbnhaaSegT
namespace Go.Proofs.Ytokendenofbnhaa
open Go.RowKit Go.Sort

/-- What Swap answers. -/
def swapR (r : Ros) (l : List Int) (res : (Int × Int) × Int) : Prop := if givenE r l = 0 then SwapIs r l res else res = ((0, 0), givenE r l)

set_option maxRecDepth 20000 in
set_option maxHeartbeats 8000000 in
theorem swap_any (v v2 : Value) (r : Ros) (l : List Int) (w : World) (hv : RosAt w v r) (hl : Ints w v2 l) (hlen : l.length ≤ 1000) :
    Calls Try.prog 24 #[v, v2] w fun e w' => (∃ res, swapR r l res ∧ e = .returned (.tuple #[.agg #[I res.1.1, I res.1.2], I res.2])) ∧ Below w.heap.size w w' := by
  obtain ⟨rv, sv, rfl, hr, hs⟩ := hv
  obtain ⟨A1, c1, rfl, hr1, hr2, -⟩ := hr.open_
  obtain ⟨A2, c2, rfl, hs1, hs2, -⟩ := hs.open_
  have HR := Lib.hid hr
  have HS := Lib.hid hs
  clear hr hs
  have S := Lib.hid (show St w (w.alloc (.cells #[.slice A1 r.room.length c1, .slice A2 r.strs.length c2] 25)) (w.heap.size + 1) [.box w.heap.size [.slice A1 r.room.length c1, .slice A2 r.strs.length c2]] from (St.init w).alloc [.slice A1 r.room.length c1, .slice A2 r.strs.length c2] 25)
  have HL := Lib.hid hl
  obtain ⟨Al, cl, rfl, hl1, hl2, hlc⟩ := id hl.open_
  have HLC := Lib.hid hlc
  clear hl hlc
  have S := Lib.hid (S.out.alloc [I 0, I 0] 41)
  have q0 := S.out.get 1 0 rfl rfl
  have q1 := S.out.get 1 1 rfl rfl
  by_cases hg : givenE r l = 0
  · have HG := Lib.hid hg
    have HVD := Lib.hid (valid_iff.1 (givenE_zero.1 hg).1)
    have HIN := Lib.hid (InL.of_new (givenE_zero.1 hg).2)
    have HSW := Lib.hid (show ∀ res, SwapIs r l res → swapR r l res from fun res h => by unfold swapR; rw [if_pos hg]; exact h)
    clear hg
    go_enter Try.func24, Try.ntmps24
    go_wp2_with fail
    clear q0 q1
    refine (given_any _ _ r l _ ⟨_, _, rfl, HR.out.below S.out.bel, HS.out.below S.out.bel⟩ (HL.out.below S.out.bel) hlen).mono ?_
    rintro e w1 ⟨rfl, hb⟩
    rw [HG.out]
    have S := Lib.hid (S.out.call hb)
    clear hb
    go_wp2_with fail
    go_loopw [19] (fun i wr => ∃ a : Nat, a ≤ l.length ∧ i = I a ∧ Hid (∀ a' b', a' < b' → b' < l.length → a' < a → swapB r l a' b' = false) ∧ Hid (St w wr wr.heap.size [.box (w.heap.size + 1) [I 0, I 0], .box w.heap.size [.slice A1 r.room.length c1, .slice A2 r.strs.length c2]])) (fun i _ => l.length - (intOf i).toNat)
    case atStart => exact ⟨0, by omega, rfl, Lib.hid (fun a' b' _ _ h => absurd h (by omega)), S⟩
    case round =>
      clear S
      obtain ⟨a, ha, rfl, HP, S⟩ := hrel
      by_cases hal : a < l.length
      · have hai : (a : Int) < (l.length : Int) := by omega
        go_wp2_with fail
        obtain ⟨wo, rfl⟩ : ∃ wo : World, wo = wr := ⟨_, rfl⟩
        go_loopw [8] (fun j wr => ∃ b : Nat, a < b ∧ b ≤ l.length ∧ j = I b ∧ Hid (∀ b', a < b' → b' < b → swapB r l a b' = false) ∧ Hid (St w wr wr.heap.size [.box (w.heap.size + 1) [I 0, I 0], .box w.heap.size [.slice A1 r.room.length c1, .slice A2 r.strs.length c2]])) (fun j _ => l.length - (intOf j).toNat)
        case atStart => exact ⟨a + 1, by omega, by omega, by go_num, Lib.hid (fun b' h1 h2 => absurd h1 (by omega)), S⟩
        case round =>
          clear S
          obtain ⟨b, hab, hb, rfl, HB, S⟩ := hrel
          by_cases hbl : b < l.length
          · have hbi : (b : Int) < (l.length : Int) := by omega
            go_wp2_with fail
            refine (cloneI_any _ l _ (HL.out.below S.out.bel) hlen).mono ?_
            rintro e w2 ⟨v', rfl, hown, hb2⟩
            have S := Lib.hid (S.out.take hb2 hown)
            clear hb2 hown
            obtain ⟨g, cap, rfl, hg1, hg2⟩ := own_shape_pos (S.out.own 0 rfl) (show 0 < l.length by omega)
            obtain ⟨la, hla⟩ : ∃ x, l[a] = x := ⟨_, rfl⟩
            obtain ⟨lb, hlb⟩ : ∃ x, l[b] = x := ⟨_, rfl⟩
            have ea : l[a]? = some la := by rw [List.getElem?_eq_getElem hal, hla]
            have eb : l[b]? = some lb := by rw [List.getElem?_eq_getElem hbl, hlb]
            have hex : exch l a b = (l.set a lb).set b la := by unfold exch; rw [List.getD_eq_getElem?_getD, List.getD_eq_getElem?_getD, ea, eb]; rfl
            have eb2 : (l.set a lb)[b]? = some lb := by rw [List.getElem?_set_ne (by omega)]; exact eb
            have HEX := Lib.hid hex
            have EA := Lib.hid ea
            have EB := Lib.hid eb
            have EB2 := Lib.hid eb2
            clear hla hlb ea eb hex eb2
            go_wp2_with fail
            refine wp_region_treeB (.last [0, 1, 2, 3, 4, 5, 6, 7, 8, 9, 10, 11, 12] [13, 14, 15]) 13 (by kernel_rfl) (by kernel_rfl) ?_
            intro KQ hKQ w3 hb
            have S := Lib.hid (S.out.call hb)
            clear hb
            have y0 := own_cell (S.out.own 0 rfl) a la EA.out
            have y1 := own_cell (S.out.own 0 rfl) b lb EB.out
            have z0 := cell_regrown y0
            have z1 := cell_regrown y1
            refine treeB_last ?_
            simp only [opsAt, List.filterMap_cons, List.filterMap_nil, List.getElem?_toArray, List.getElem?_cons_succ, List.getElem?_cons_zero]
            repeat (first | go_big_quiet_step (fail) | quiet_step (fail))
            refine wpQuiet_nil ?_
            clear z0 z1 y1
            have f0 := (S.out.own 0 rfl).frozenAt a
            have S1 := S.out.put 0 a (I lb) rfl
            have o1 := S1.own 0 rfl
            rw [← List.map_set] at o1
            have y2 := own_cell o1 b lb EB2.out
            have f1 := o1.frozenAt b
            have S2 := S1.put 0 b (I la) rfl
            have S2 := Lib.hid (show St w _ _ [.own 3 1 (.slice (some ⟨g, 0, none⟩) l.length cap) l.length ((exch l a b).map I), .box (w.heap.size + 1) [I 0, I 0], .box w.heap.size [.slice A1 r.room.length c1, .slice A2 r.strs.length c2]] from (by
              rw [HEX.out, List.map_set, List.map_set]
              exact S2))
            clear S1 o1
            go_wp2_with fail
            clear y0 y2 f0 f1
            have S2 := Lib.hid (show St w _ _ [.own 3 1 (.slice (some ⟨g, 0, none⟩) l.length cap) (exch l a b).length ((exch l a b).map I), .box (w.heap.size + 1) [I 0, I 0], .box w.heap.size [.slice A1 r.room.length c1, .slice A2 r.strs.length c2]] from (by rw [exch_len]; exact S2.out))
            have S := S2
            clear S2
            cases hnb : newB r (exch l a b)
            · have HNB := Lib.hid hnb
              have HF := Lib.hid (show swapB r l a b = false by unfold swapB; rw [hnb]; rfl)
              clear hnb
              refine wp_region_seg [([0, 1], 2), ([3, 4, 5, 7, 8], 6), ([], 9)] [10, 11] [] 12 (by kernel_rfl) (by kernel_rfl) ?_
              intro KQ hKQ w4 hb
              have S := Lib.hid (S.out.call hb)
              clear hb
              have q2_0 := cell_regrown (S.out.get 2 0 rfl rfl)
              have q2_1 := cell_regrown (S.out.get 2 1 rfl rfl)
              refine seg_next ?_
              simp only [opsAt, List.filterMap_cons, List.filterMap_nil, List.getElem?_toArray, List.getElem?_cons_succ, List.getElem?_cons_zero]
              repeat (first | go_big_quiet_step (fail) | quiet_step (fail))
              refine wpQuiet_nil ?_
              intro K hK
              refine loud_op rfl rfl ?_
              go_simp
              refine (good_any _ _ r (exch l a b) _ ⟨_, _, rfl, HR.out.below S.out.bel, HS.out.below S.out.bel⟩ HVD.out (S.out.ints 0 rfl) (by rw [exch_len]; exact hlen)).mono ?_
              rintro e w5 ⟨rfl, hb⟩
              rw [HNB.out]
              have S := Lib.hid (S.out.call hb)
              refine hK _ _ hb ?_
              clear hK K hb
              clear q2_0 q2_1
              have q2_0 := cell_regrown (S.out.get 2 0 rfl rfl)
              have q2_1 := cell_regrown (S.out.get 2 1 rfl rfl)
              refine seg_next ?_
              simp only [opsAt, List.filterMap_cons, List.filterMap_nil, List.getElem?_toArray, List.getElem?_cons_succ, List.getElem?_cons_zero]
              repeat (first | go_big_quiet_step (fail) | quiet_step (fail))
              refine wpQuiet_nil ?_
              intro K hK
              refine loud_skip rfl rfl ?_
              refine hK _ _ (Below.refl _ _) ?_
              clear hK K
              refine seg_next ?_
              simp only [opsAt, List.filterMap_nil]
              refine wpQuiet_nil ?_
              intro K hK
              refine loud_skip rfl rfl ?_
              refine hK _ _ (Below.refl _ _) ?_
              clear hK K
              clear q2_0 q2_1
              refine seg_last ?_
              simp only [opsAt, List.filterMap_cons, List.filterMap_nil, List.getElem?_toArray, List.getElem?_cons_succ, List.getElem?_cons_zero]
              repeat (first | go_big_quiet_step (fail) | quiet_step (fail))
              refine wpQuiet_nil ?_
              go_wp2_with fail
              go_roundw
              case rel => exact ⟨b + 1, by omega, by omega, by go_num, Lib.hid (fun b' h1 h2 => by
                rcases Nat.lt_or_ge b' b with h | h
                · exact HB.out b' h1 h
                · obtain rfl : b' = b := by omega
                  exact HF.out), Lib.hid S.out.tail⟩
              case measure => first | (simp [intOf]; done) | (simp [intOf]; omega)
            · have HNB := Lib.hid hnb
              clear hnb
              obtain ⟨k1, hk1⟩ : ∃ x, costL r.strs (exch l a b) = x := ⟨_, rfl⟩
              obtain ⟨k2, hk2⟩ : ∃ x, costL r.strs l = x := ⟨_, rfl⟩
              have HC1 := Lib.hid hk1
              have HC2 := Lib.hid hk2
              clear hk1 hk2
              by_cases hlt : k1 < k2
              · have hltb : decide (k1 < k2) = true := by simpa using hlt
                have HT := Lib.hid (show swapB r l a b = true by unfold swapB; rw [HNB.out, HC1.out, HC2.out]; simpa using hlt)
                clear hlt
                refine wp_region_seg [([0, 1], 2), ([3, 4, 5, 7, 8], 6), ([], 9)] [10, 11] [] 12 (by kernel_rfl) (by kernel_rfl) ?_
                intro KQ hKQ w4 hb
                have S := Lib.hid (S.out.call hb)
                clear hb
                have q2_0 := cell_regrown (S.out.get 2 0 rfl rfl)
                have q2_1 := cell_regrown (S.out.get 2 1 rfl rfl)
                refine seg_next ?_
                simp only [opsAt, List.filterMap_cons, List.filterMap_nil, List.getElem?_toArray, List.getElem?_cons_succ, List.getElem?_cons_zero]
                repeat (first | go_big_quiet_step (fail) | quiet_step (fail))
                refine wpQuiet_nil ?_
                intro K hK
                refine loud_op rfl rfl ?_
                go_simp
                refine (good_any _ _ r (exch l a b) _ ⟨_, _, rfl, HR.out.below S.out.bel, HS.out.below S.out.bel⟩ HVD.out (S.out.ints 0 rfl) (by rw [exch_len]; exact hlen)).mono ?_
                rintro e w5 ⟨rfl, hb⟩
                rw [HNB.out]
                have S := Lib.hid (S.out.call hb)
                refine hK _ _ hb ?_
                clear hK K hb
                clear q2_0 q2_1
                have q2_0 := cell_regrown (S.out.get 2 0 rfl rfl)
                have q2_1 := cell_regrown (S.out.get 2 1 rfl rfl)
                refine seg_next ?_
                simp only [opsAt, List.filterMap_cons, List.filterMap_nil, List.getElem?_toArray, List.getElem?_cons_succ, List.getElem?_cons_zero]
                repeat (first | go_big_quiet_step (fail) | quiet_step (fail))
                refine wpQuiet_nil ?_
                intro K hK
                refine loud_op rfl rfl ?_
                go_simp
                refine (cost_any _ _ r (exch l a b) _ ⟨_, _, rfl, HR.out.below S.out.bel, HS.out.below S.out.bel⟩ HVD.out (S.out.ints 0 rfl) (InL.of_new HNB.out)).mono ?_
                rintro e w6 ⟨rfl, hb⟩
                rw [HC1.out]
                have S := Lib.hid (S.out.call hb)
                refine hK _ _ hb ?_
                clear hK K hb
                refine seg_next ?_
                simp only [opsAt, List.filterMap_nil]
                refine wpQuiet_nil ?_
                intro K hK
                refine loud_op rfl rfl ?_
                go_simp
                refine (cost_any _ _ r l _ ⟨_, _, rfl, HR.out.below S.out.bel, HS.out.below S.out.bel⟩ HVD.out (HL.out.below S.out.bel) HIN.out).mono ?_
                rintro e w7 ⟨rfl, hb⟩
                rw [HC2.out]
                have S := Lib.hid (S.out.call hb)
                refine hK _ _ hb ?_
                clear hK K hb
                clear q2_0 q2_1
                refine seg_last ?_
                simp only [opsAt, List.filterMap_cons, List.filterMap_nil, List.getElem?_toArray, List.getElem?_cons_succ, List.getElem?_cons_zero]
                repeat (first | go_big_quiet_step (fail) | quiet_step (fail))
                refine wpQuiet_nil ?_
                have S2 := (S.out.set 1 0 (I (a : Int)) rfl).set 1 1 (I (b : Int)) rfl
                have u0 := S.out.get 1 0 rfl rfl
                have u1 := S.out.get 1 1 rfl rfl
                have u2 := S.out.free 1 0 rfl
                have u3 := S.out.free 1 1 rfl
                have r0 := S2.get 1 0 rfl rfl
                have r1 := S2.get 1 1 rfl rfl
                go_wp2_with fail
                refine bodyPost_ret (v := .tuple #[.agg #[I (a : Int), I (b : Int)], I (0)]) (by simp [results, Try.results24, go_sem, r0, r1]) rfl ⟨⟨(((a : Int), (b : Int)), 0), HSW.out _ (.inl ⟨a, b, hab, hbl, rfl, HT.out, fun a' b' h1 h2 h => by
                  rcases h with h | ⟨rfl, h⟩
                  · exact HP.out a' b' h1 h2 h
                  · exact HB.out b' h1 h⟩), rfl⟩, S2.bel⟩
              · have hltb : decide (k1 < k2) = false := by simpa using hlt
                have HF := Lib.hid (show swapB r l a b = false by unfold swapB; rw [HNB.out, HC1.out, HC2.out]; simpa using hlt)
                clear hlt
                refine wp_region_seg [([0, 1], 2), ([3, 4, 5, 7, 8], 6), ([], 9)] [10, 11] [] 12 (by kernel_rfl) (by kernel_rfl) ?_
                intro KQ hKQ w4 hb
                have S := Lib.hid (S.out.call hb)
                clear hb
                have q2_0 := cell_regrown (S.out.get 2 0 rfl rfl)
                have q2_1 := cell_regrown (S.out.get 2 1 rfl rfl)
                refine seg_next ?_
                simp only [opsAt, List.filterMap_cons, List.filterMap_nil, List.getElem?_toArray, List.getElem?_cons_succ, List.getElem?_cons_zero]
                repeat (first | go_big_quiet_step (fail) | quiet_step (fail))
                refine wpQuiet_nil ?_
                intro K hK
                refine loud_op rfl rfl ?_
                go_simp
                refine (good_any _ _ r (exch l a b) _ ⟨_, _, rfl, HR.out.below S.out.bel, HS.out.below S.out.bel⟩ HVD.out (S.out.ints 0 rfl) (by rw [exch_len]; exact hlen)).mono ?_
                rintro e w5 ⟨rfl, hb⟩
                rw [HNB.out]
                have S := Lib.hid (S.out.call hb)
                refine hK _ _ hb ?_
                clear hK K hb
                clear q2_0 q2_1
                have q2_0 := cell_regrown (S.out.get 2 0 rfl rfl)
                have q2_1 := cell_regrown (S.out.get 2 1 rfl rfl)
                refine seg_next ?_
                simp only [opsAt, List.filterMap_cons, List.filterMap_nil, List.getElem?_toArray, List.getElem?_cons_succ, List.getElem?_cons_zero]
                repeat (first | go_big_quiet_step (fail) | quiet_step (fail))
                refine wpQuiet_nil ?_
                intro K hK
                refine loud_op rfl rfl ?_
                go_simp
                refine (cost_any _ _ r (exch l a b) _ ⟨_, _, rfl, HR.out.below S.out.bel, HS.out.below S.out.bel⟩ HVD.out (S.out.ints 0 rfl) (InL.of_new HNB.out)).mono ?_
                rintro e w6 ⟨rfl, hb⟩
                rw [HC1.out]
                have S := Lib.hid (S.out.call hb)
                refine hK _ _ hb ?_
                clear hK K hb
                refine seg_next ?_
                simp only [opsAt, List.filterMap_nil]
                refine wpQuiet_nil ?_
                intro K hK
                refine loud_op rfl rfl ?_
                go_simp
                refine (cost_any _ _ r l _ ⟨_, _, rfl, HR.out.below S.out.bel, HS.out.below S.out.bel⟩ HVD.out (HL.out.below S.out.bel) HIN.out).mono ?_
                rintro e w7 ⟨rfl, hb⟩
                rw [HC2.out]
                have S := Lib.hid (S.out.call hb)
                refine hK _ _ hb ?_
                clear hK K hb
                clear q2_0 q2_1
                refine seg_last ?_
                simp only [opsAt, List.filterMap_cons, List.filterMap_nil, List.getElem?_toArray, List.getElem?_cons_succ, List.getElem?_cons_zero]
                repeat (first | go_big_quiet_step (fail) | quiet_step (fail))
                refine wpQuiet_nil ?_
                go_wp2_with fail
                go_roundw
                case rel => exact ⟨b + 1, by omega, by omega, by go_num, Lib.hid (fun b' h1 h2 => by
                  rcases Nat.lt_or_ge b' b with h | h
                  · exact HB.out b' h1 h
                  · obtain rfl : b' = b := by omega
                    exact HF.out), Lib.hid S.out.tail⟩
                case measure => first | (simp [intOf]; done) | (simp [intOf]; omega)
          · obtain rfl : b = l.length := by omega
            go_wp2_with fail
            go_roundw
            case rel => exact ⟨a + 1, by omega, by go_num, Lib.hid (fun a' b' h1 h2 h => by
              rcases Nat.lt_or_ge a' a with h3 | h3
              · exact HP.out a' b' h1 h2 h3
              · obtain rfl : a' = a := by omega
                exact HB.out b' h1 h2), S⟩
            case measure => first | (simp [intOf]; done) | (simp [intOf]; omega)
      · obtain rfl : a = l.length := by omega
        have S2 := (S.out.set 0 0 (I 0) rfl).set 0 1 (I 0) rfl
        have u0 := S.out.get 0 0 rfl rfl
        have u1 := S.out.get 0 1 rfl rfl
        have u2 := S.out.free 0 0 rfl
        have u3 := S.out.free 0 1 rfl
        have r0 := S2.get 0 0 rfl rfl
        have r1 := S2.get 0 1 rfl rfl
        go_wp2_with fail
        refine bodyPost_ret (v := .tuple #[.agg #[I 0, I 0], I (3)]) (by simp [results, Try.results24, go_sem, r0, r1]) rfl ⟨⟨((0, 0), 3), HSW.out _ (.inr ⟨rfl, fun a' b' h1 h2 => HP.out a' b' h1 h2 (by omega)⟩), rfl⟩, S2.bel⟩
  · have HGE := Lib.hid hg
    have HSW := Lib.hid (show swapR r l ((0, 0), givenE r l) by unfold swapR; rw [if_neg hg])
    obtain ⟨er, her⟩ : ∃ x, givenE r l = x := ⟨_, rfl⟩
    have hq : (er != 0) = true := by rw [← her]; simpa using hg
    have HG := Lib.hid her
    clear hg her
    go_enter Try.func24, Try.ntmps24
    go_wp2_with fail
    clear q0 q1
    refine (given_any _ _ r l _ ⟨_, _, rfl, HR.out.below S.out.bel, HS.out.below S.out.bel⟩ (HL.out.below S.out.bel) hlen).mono ?_
    rintro e w1 ⟨rfl, hb⟩
    rw [HG.out]
    have S := Lib.hid (S.out.call hb)
    clear hb
    have S2 := (S.out.set 0 0 (I 0) rfl).set 0 1 (I 0) rfl
    have u0 := S.out.get 0 0 rfl rfl
    have u1 := S.out.get 0 1 rfl rfl
    have u2 := S.out.free 0 0 rfl
    have u3 := S.out.free 0 1 rfl
    have r0 := S2.get 0 0 rfl rfl
    have r1 := S2.get 0 1 rfl rfl
    go_wp2_with fail
    refine bodyPost_ret (v := .tuple #[.agg #[I 0, I 0], I (er)]) (by simp [results, Try.results24, go_sem, r0, r1]) rfl ⟨⟨((0, 0), er), by rw [← HG.out]; exact HSW.out, rfl⟩, S2.bel⟩

end Go.Proofs.Ytokendenofbnhaa
