/- Walks: the reference's Lack, Swap, Give. -/
import Derived.Test.YtokendenofbnhaaW33
import Derived.Test.YtokendenofbnhaaW27
import Derived.Test.YtokendenofbnhaaW16
import Derived.Test.YtokendenofbnhaaW20
namespace Go.Proofs.Ytokendenofbnhaa
open Go.RowKit Go.Sort

set_option maxRecDepth 20000 in
set_option maxHeartbeats 4000000 in
theorem rLack_any (v : Value) (r : Ros) (w : World) (hv : RosAt w v r) :
    Calls Try.prog 48 #[v] w fun e w' => (∃ res, lackR r res ∧ e = .returned (.tuple #[.agg #[I res.1.1, I res.1.2], I res.2])) ∧ Below w.heap.size w w' := by
  obtain ⟨rv, sv, rfl, hr, hs⟩ := hv
  obtain ⟨A1, c1, rfl, hr1, hr2, -⟩ := hr.open_
  obtain ⟨A2, c2, rfl, hs1, hs2, -⟩ := hs.open_
  have HR := Lib.hid hr
  have HS := Lib.hid hs
  clear hr hs
  have S := Lib.hid (show St w (w.alloc (.cells #[.slice A1 r.room.length c1, .slice A2 r.strs.length c2] 25)) (w.heap.size + 1) [.box w.heap.size [.slice A1 r.room.length c1, .slice A2 r.strs.length c2]] from (St.init w).alloc [.slice A1 r.room.length c1, .slice A2 r.strs.length c2] 25)
  have S := Lib.hid (S.out.alloc [I 0, I 0] 61)
  have q0 := S.out.get 1 0 rfl rfl
  have q1 := S.out.get 1 1 rfl rfl
  go_enter Try.func48, Try.ntmps48
  go_wp2_with fail
  clear q0 q1
  refine (rCheck_any _ r _ ⟨_, _, rfl, HR.out.below S.out.bel, HS.out.below S.out.bel⟩).mono ?_
  rintro e w1 ⟨rfl, hb⟩
  have S := Lib.hid (S.out.call hb)
  clear hb
  by_cases hval : valid r = true
  · have hvd := valid_iff.1 hval
    have HVD := Lib.hid hvd
    have HLK := Lib.hid (show ∀ res, LackIs r res → lackR r res from fun res h => by unfold lackR; rw [if_pos hval]; exact h)
    rw [show chk r = 0 by unfold chk; rw [if_pos hval]]
    clear hval
    have hrl := hvd.rl
    go_wp2_with fail
    go_loopw [5] (fun i wr => ∃ hi : Nat, i = I hi ∧ hi ≤ r.room.length ∧ Hid (∀ y : Nat, y < hi → ∀ x : Nat, x ≤ y → lacksB r x y = false) ∧ Hid (St w wr wr.heap.size [.box (w.heap.size + 1) [I 0, I 0], .box w.heap.size [.slice A1 r.room.length c1, .slice A2 r.strs.length c2]])) (fun i _ => r.room.length - (intOf i).toNat)
    case atStart => exact ⟨0, rfl, by omega, Lib.hid (fun y h => absurd h (by omega)), Lib.hid S.out.fix⟩
    case round =>
      clear S
      obtain ⟨hi, rfl, hhi, HP, S⟩ := hrel
      have q0 := S.out.get 1 0 rfl rfl
      have q1 := S.out.get 1 1 rfl rfl
      by_cases hlt : hi < r.room.length
      · have hii : (hi : Int) < (r.room.length : Int) := by omega
        go_wp2_with fail
        clear q0 q1
        obtain ⟨wo, rfl⟩ : ∃ wo : World, wo = wr := ⟨_, rfl⟩
        go_loopw [6] (fun u wr => ∃ lo : Int, u = I lo ∧ -1 ≤ lo ∧ lo ≤ (hi : Int) ∧ Hid (∀ x : Nat, lo < (x : Int) → x ≤ hi → lacksB r x hi = false) ∧ Hid (St w wr wr.heap.size [.box (w.heap.size + 1) [I 0, I 0], .box w.heap.size [.slice A1 r.room.length c1, .slice A2 r.strs.length c2]])) (fun u _ => (intOf u + 1).toNat)
        case atStart => exact ⟨hi, rfl, by omega, by omega, Lib.hid (fun x h1 h2 => absurd h1 (by omega)), S⟩
        case round =>
          clear S
          obtain ⟨lo, rfl, hlo1, hlo2, HB, S⟩ := hrel
          by_cases hge : 0 ≤ lo
          · obtain ⟨lo, rfl⟩ := Int.eq_ofNat_of_zero_le hge
            have S := Lib.hid (S.out.alloc [I (lo : Int), I (hi : Int)] 61)
            have x0 := S.out.get 0 0 rfl rfl
            have x1 := S.out.get 0 1 rfl rfl
            have q0 := S.out.get 2 0 rfl rfl
            have q1 := S.out.get 2 1 rfl rfl
            have hle : lo ≤ hi := by omega
            go_wp2_with fail
            clear x0 x1 q0 q1
            refine (rLacks_any _ r lo hi _ ⟨_, _, rfl, HR.out.below S.out.bel, HS.out.below S.out.bel⟩ HVD.out hle hlt).mono ?_
            rintro e w4 ⟨rfl, hb⟩
            have S := Lib.hid (S.out.call hb)
            clear hb
            cases hl : lacksB r lo hi
            · have HL := Lib.hid hl
              clear hl
              go_wp2_with fail
              try go_frame
              go_roundw
              case rel => exact ⟨(lo : Int) - 1, by go_num, by omega, by omega, Lib.hid (fun x h1 h2 => by
                by_cases e : x = lo
                · subst e; exact HL.out
                · exact HB.out x (by omega) h2), Lib.hid S.out.tail.fix⟩
              case measure => first | (simp [intOf]; done) | (simp [intOf]; omega)
            · have HL := Lib.hid hl
              clear hl
              have x0 := S.out.get 0 0 rfl rfl
              have x1 := S.out.get 0 1 rfl rfl
              have S2 := (S.out.set 1 0 (I (lo : Int)) rfl).set 1 1 (I (hi : Int)) rfl
              have u0 := S.out.get 1 0 rfl rfl
              have u1 := S.out.get 1 1 rfl rfl
              have u2 := S.out.free 1 0 rfl
              have u3 := S.out.free 1 1 rfl
              have r0 := S2.get 1 0 rfl rfl
              have r1 := S2.get 1 1 rfl rfl
              go_wp2_with fail
              refine bodyPost_ret (v := .tuple #[.agg #[I (lo : Int), I (hi : Int)], I (0)]) (by simp [results, Try.results48, go_sem, r0, r1]) rfl ⟨⟨(((lo : Int), (hi : Int)), 0), HLK.out _ (.inl ⟨lo, hi, hle, hlt, rfl, HL.out, fun x h1 h2 => HB.out x (by omega) h2, HP.out⟩), rfl⟩, S2.bel⟩
          · go_wp2_with fail
            try go_frame
            go_roundw
            case rel => exact ⟨hi + 1, by go_num, by omega, Lib.hid (fun y h1 x h2 => by
              rcases Nat.lt_or_ge y hi with h | h
              · exact HP.out y h x h2
              · obtain rfl : y = hi := by omega
                exact HB.out x (by omega) h2), S⟩
            case measure => first | (simp [intOf]; done) | (simp [intOf]; omega)
      · obtain rfl : hi = r.room.length := by omega
        have S2 := (S.out.set 0 0 (I 0) rfl).set 0 1 (I 0) rfl
        have u0 := S.out.get 0 0 rfl rfl
        have u1 := S.out.get 0 1 rfl rfl
        have u2 := S.out.free 0 0 rfl
        have u3 := S.out.free 0 1 rfl
        have r0 := S2.get 0 0 rfl rfl
        have r1 := S2.get 0 1 rfl rfl
        go_wp2_with fail
        refine bodyPost_ret (v := .tuple #[.agg #[I 0, I 0], I (3)]) (by simp [results, Try.results48, go_sem, r0, r1]) rfl ⟨⟨((0, 0), 3), HLK.out _ (.inr ⟨rfl, HP.out⟩), rfl⟩, S2.bel⟩
  · have HLK := Lib.hid (show lackR r ((0, 0), 80) by unfold lackR; rw [if_neg hval])
    rw [show chk r = 80 by unfold chk; rw [if_neg hval]]
    have S2 := (S.out.set 0 0 (I 0) rfl).set 0 1 (I 0) rfl
    have u0 := S.out.get 0 0 rfl rfl
    have u1 := S.out.get 0 1 rfl rfl
    have u2 := S.out.free 0 0 rfl
    have u3 := S.out.free 0 1 rfl
    have r0 := S2.get 0 0 rfl rfl
    have r1 := S2.get 0 1 rfl rfl
    go_wp2_with fail
    refine bodyPost_ret (v := .tuple #[.agg #[I 0, I 0], I (80)]) (by simp [results, Try.results48, go_sem, r0, r1]) rfl ⟨⟨((0, 0), 80), HLK.out, rfl⟩, S2.bel⟩

set_option maxRecDepth 20000 in
set_option maxHeartbeats 4000000 in
theorem rSwap_any (v v2 : Value) (r : Ros) (l : List Int) (w : World) (hv : RosAt w v r) (hl : Ints w v2 l) (hlen : l.length ≤ 1000) :
    Calls Try.prog 49 #[v, v2] w fun e w' => (∃ res, swapR r l res ∧ e = .returned (.tuple #[.agg #[I res.1.1, I res.1.2], I res.2])) ∧ Below w.heap.size w w' := by
  obtain ⟨rv, sv, rfl, hr, hs⟩ := hv
  obtain ⟨A1, c1, rfl, hr1, hr2, -⟩ := hr.open_
  obtain ⟨A2, c2, rfl, hs1, hs2, -⟩ := hs.open_
  have HR := Lib.hid hr
  have HS := Lib.hid hs
  clear hr hs
  have S := Lib.hid (show St w (w.alloc (.cells #[.slice A1 r.room.length c1, .slice A2 r.strs.length c2] 25)) (w.heap.size + 1) [.box w.heap.size [.slice A1 r.room.length c1, .slice A2 r.strs.length c2]] from (St.init w).alloc [.slice A1 r.room.length c1, .slice A2 r.strs.length c2] 25)
  obtain ⟨Al, cl, rfl, hl1, hl2, -⟩ := id hl.open_
  have HL := Lib.hid hl
  clear hl
  have S := Lib.hid (S.out.alloc [I 0, I 0] 41)
  have q0 := S.out.get 1 0 rfl rfl
  have q1 := S.out.get 1 1 rfl rfl
  by_cases hg : givenE r l = 0
  · have HG := Lib.hid hg
    have HVD := Lib.hid (valid_iff.1 (givenE_zero.1 hg).1)
    have HIN := Lib.hid (InL.of_new (givenE_zero.1 hg).2)
    have HSW := Lib.hid (show ∀ res, SwapIs r l res → swapR r l res from fun res h => by unfold swapR; rw [if_pos hg]; exact h)
    clear hg
    go_enter Try.func49, Try.ntmps49
    go_wp2_with fail
    clear q0 q1
    refine (rGiven_any _ _ r l _ ⟨_, _, rfl, HR.out.below S.out.bel, HS.out.below S.out.bel⟩ (HL.out.below S.out.bel) hlen).mono ?_
    rintro e w1 ⟨rfl, hb⟩
    rw [HG.out]
    have S := Lib.hid (S.out.call hb)
    clear hb
    go_wp2_with fail
    go_loopw [7] (fun i wr => ∃ a : Nat, a ≤ l.length ∧ i = I a ∧ Hid (∀ a' b', a' < b' → b' < l.length → a' < a → swapB r l a' b' = false) ∧ Hid (St w wr wr.heap.size [.box (w.heap.size + 1) [I 0, I 0], .box w.heap.size [.slice A1 r.room.length c1, .slice A2 r.strs.length c2]])) (fun i _ => l.length - (intOf i).toNat)
    case atStart => exact ⟨0, by omega, rfl, Lib.hid (fun a' b' _ _ h => absurd h (by omega)), Lib.hid S.out.fix⟩
    case round =>
      clear S
      obtain ⟨a, ha, rfl, HP, S⟩ := hrel
      by_cases hal : a < l.length
      · have hai : (a : Int) < (l.length : Int) := by omega
        go_wp2_with fail
        obtain ⟨wo, rfl⟩ : ∃ wo : World, wo = wr := ⟨_, rfl⟩
        go_loopw [8] (fun j wr => ∃ b : Nat, a < b ∧ b ≤ l.length ∧ j = I b ∧ Hid (∀ b', a < b' → b' < b → swapB r l a b' = false) ∧ Hid (St w wr wr.heap.size [.box (w.heap.size + 1) [I 0, I 0], .box w.heap.size [.slice A1 r.room.length c1, .slice A2 r.strs.length c2]])) (fun j _ => l.length - (intOf j).toNat)
        case atStart => exact ⟨a + 1, by omega, by omega, by go_num, Lib.hid (fun b' h1 h2 => absurd h1 (by omega)), S⟩
        case round =>
          clear S
          obtain ⟨b, hab, hb, rfl, HB, S⟩ := hrel
          by_cases hbl : b < l.length
          · have hbi : (b : Int) < (l.length : Int) := by omega
            have S := Lib.hid (S.out.alloc [I (a : Int), I (b : Int)] 41)
            have x0 := S.out.get 0 0 rfl rfl
            have x1 := S.out.get 0 1 rfl rfl
            go_wp2_with fail
            clear x0 x1
            refine (exchanged_any _ l a b _ (HL.out.below S.out.bel) hlen hab hbl).mono ?_
            rintro e w3 ⟨v', rfl, hown, hb⟩
            obtain ⟨Ax, cx, rfl⟩ := own_shape hown
            have S := Lib.hid (S.out.take hb hown)
            clear hb hown
            cases hnb : newB r (exch l a b)
            · have HNB := Lib.hid hnb
              have HF := Lib.hid (show swapB r l a b = false by unfold swapB; rw [hnb]; rfl)
              clear hnb
              go_wp2_with fail
              refine wp_region_seg [([0, 1], 2), ([3, 4, 5, 7, 8], 6), ([], 9)] [10, 11] [] 12 (by kernel_rfl) (by kernel_rfl) ?_
              intro KQ hKQ w4 hb
              have S := Lib.hid (S.out.call hb)
              clear hb
              have q0 := cell_regrown (S.out.get 3 0 rfl rfl)
              have q1 := cell_regrown (S.out.get 3 1 rfl rfl)
              refine seg_next ?_
              simp only [opsAt, List.filterMap_cons, List.filterMap_nil, List.getElem?_toArray, List.getElem?_cons_succ, List.getElem?_cons_zero]
              repeat (first | go_big_quiet_step (fail) | quiet_step (fail))
              refine wpQuiet_nil ?_
              intro K hK
              refine loud_op rfl rfl ?_
              go_simp
              refine (isNew_any _ _ r (exch l a b) _ ⟨_, _, rfl, HR.out.below S.out.bel, HS.out.below S.out.bel⟩ HVD.out (S.out.ints 0 rfl) (by rw [exch_len]; exact hlen)).mono ?_
              rintro e w5 ⟨rfl, hb⟩
              rw [HNB.out]
              have S := Lib.hid (S.out.call hb)
              refine hK _ _ hb ?_
              clear hK K hb q0 q1
              have q0 := cell_regrown (S.out.get 3 0 rfl rfl)
              have q1 := cell_regrown (S.out.get 3 1 rfl rfl)
              refine seg_next ?_
              simp only [opsAt, List.filterMap_cons, List.filterMap_nil, List.getElem?_toArray, List.getElem?_cons_succ, List.getElem?_cons_zero]
              repeat (first | go_big_quiet_step (fail) | quiet_step (fail))
              refine wpQuiet_nil ?_
              intro K hK
              refine loud_skip rfl rfl ?_
              refine hK _ _ (Below.refl _ _) ?_
              clear hK K
              refine seg_next ?_
              simp only [opsAt, List.filterMap_nil]
              refine wpQuiet_nil ?_
              intro K hK
              refine loud_skip rfl rfl ?_
              refine hK _ _ (Below.refl _ _) ?_
              clear hK K
              clear q0 q1
              refine seg_last ?_
              simp only [opsAt, List.filterMap_cons, List.filterMap_nil, List.getElem?_toArray, List.getElem?_cons_succ, List.getElem?_cons_zero]
              repeat (first | go_big_quiet_step (fail) | quiet_step (fail))
              refine wpQuiet_nil ?_
              go_wp2_with fail
              try go_frame
              go_roundw
              case rel => exact ⟨b + 1, by omega, by omega, by go_num, Lib.hid (fun b' h1 h2 => by
                rcases Nat.lt_or_ge b' b with h | h
                · exact HB.out b' h1 h
                · obtain rfl : b' = b := by omega
                  exact HF.out), Lib.hid S.out.tail.tail.fix⟩
              case measure => first | (simp [intOf]; done) | (simp [intOf]; omega)
            · have HNB := Lib.hid hnb
              clear hnb
              obtain ⟨k1, hk1⟩ : ∃ x, costL r.strs (exch l a b) = x := ⟨_, rfl⟩
              obtain ⟨k2, hk2⟩ : ∃ x, costL r.strs l = x := ⟨_, rfl⟩
              have HC1 := Lib.hid hk1
              have HC2 := Lib.hid hk2
              clear hk1 hk2
              by_cases hlt : k1 < k2
              · have HT := Lib.hid (show swapB r l a b = true by unfold swapB; rw [HNB.out, HC1.out, HC2.out]; simpa using hlt)
                go_wp2_with fail
                refine wp_region_seg [([0, 1], 2), ([3, 4, 5, 7, 8], 6), ([], 9)] [10, 11] [] 12 (by kernel_rfl) (by kernel_rfl) ?_
                intro KQ hKQ w4 hb
                have S := Lib.hid (S.out.call hb)
                clear hb
                have q0 := cell_regrown (S.out.get 3 0 rfl rfl)
                have q1 := cell_regrown (S.out.get 3 1 rfl rfl)
                refine seg_next ?_
                simp only [opsAt, List.filterMap_cons, List.filterMap_nil, List.getElem?_toArray, List.getElem?_cons_succ, List.getElem?_cons_zero]
                repeat (first | go_big_quiet_step (fail) | quiet_step (fail))
                refine wpQuiet_nil ?_
                intro K hK
                refine loud_op rfl rfl ?_
                go_simp
                refine (isNew_any _ _ r (exch l a b) _ ⟨_, _, rfl, HR.out.below S.out.bel, HS.out.below S.out.bel⟩ HVD.out (S.out.ints 0 rfl) (by rw [exch_len]; exact hlen)).mono ?_
                rintro e w5 ⟨rfl, hb⟩
                rw [HNB.out]
                have S := Lib.hid (S.out.call hb)
                refine hK _ _ hb ?_
                clear hK K hb q0 q1
                have q0 := cell_regrown (S.out.get 3 0 rfl rfl)
                have q1 := cell_regrown (S.out.get 3 1 rfl rfl)
                refine seg_next ?_
                simp only [opsAt, List.filterMap_cons, List.filterMap_nil, List.getElem?_toArray, List.getElem?_cons_succ, List.getElem?_cons_zero]
                repeat (first | go_big_quiet_step (fail) | quiet_step (fail))
                refine wpQuiet_nil ?_
                intro K hK
                refine loud_op rfl rfl ?_
                go_simp
                refine (costOf_any _ _ r (exch l a b) _ ⟨_, _, rfl, HR.out.below S.out.bel, HS.out.below S.out.bel⟩ HVD.out (S.out.ints 0 rfl) (InL.of_new HNB.out)).mono ?_
                rintro e w6 ⟨rfl, hb⟩
                rw [HC1.out]
                have S := Lib.hid (S.out.call hb)
                refine hK _ _ hb ?_
                clear hK K hb
                refine seg_next ?_
                simp only [opsAt, List.filterMap_nil]
                refine wpQuiet_nil ?_
                intro K hK
                refine loud_op rfl rfl ?_
                go_simp
                refine (costOf_any _ _ r l _ ⟨_, _, rfl, HR.out.below S.out.bel, HS.out.below S.out.bel⟩ HVD.out (HL.out.below S.out.bel) HIN.out).mono ?_
                rintro e w7 ⟨rfl, hb⟩
                rw [HC2.out]
                have S := Lib.hid (S.out.call hb)
                refine hK _ _ hb ?_
                clear hK K hb
                clear q0 q1
                refine seg_last ?_
                simp only [opsAt, List.filterMap_cons, List.filterMap_nil, List.getElem?_toArray, List.getElem?_cons_succ, List.getElem?_cons_zero]
                repeat (first | go_big_quiet_step (fail) | quiet_step (fail))
                refine wpQuiet_nil ?_
                have x0 := S.out.get 1 0 rfl rfl
                have x1 := S.out.get 1 1 rfl rfl
                have S2 := (S.out.set 2 0 (I (a : Int)) rfl).set 2 1 (I (b : Int)) rfl
                have u0 := S.out.get 2 0 rfl rfl
                have u1 := S.out.get 2 1 rfl rfl
                have u2 := S.out.free 2 0 rfl
                have u3 := S.out.free 2 1 rfl
                have r0 := S2.get 2 0 rfl rfl
                have r1 := S2.get 2 1 rfl rfl
                go_wp2_with fail
                refine bodyPost_ret (v := .tuple #[.agg #[I (a : Int), I (b : Int)], I (0)]) (by simp [results, Try.results49, go_sem, r0, r1]) rfl ⟨⟨(((a : Int), (b : Int)), 0), HSW.out _ (.inl ⟨a, b, hab, hbl, rfl, HT.out, fun a' b' h1 h2 h => by
                  rcases h with h | ⟨rfl, h⟩
                  · exact HP.out a' b' h1 h2 h
                  · exact HB.out b' h1 h⟩), rfl⟩, S2.bel⟩
              · have HF := Lib.hid (show swapB r l a b = false by unfold swapB; rw [HNB.out, HC1.out, HC2.out]; simpa using hlt)
                go_wp2_with fail
                refine wp_region_seg [([0, 1], 2), ([3, 4, 5, 7, 8], 6), ([], 9)] [10, 11] [] 12 (by kernel_rfl) (by kernel_rfl) ?_
                intro KQ hKQ w4 hb
                have S := Lib.hid (S.out.call hb)
                clear hb
                have q0 := cell_regrown (S.out.get 3 0 rfl rfl)
                have q1 := cell_regrown (S.out.get 3 1 rfl rfl)
                refine seg_next ?_
                simp only [opsAt, List.filterMap_cons, List.filterMap_nil, List.getElem?_toArray, List.getElem?_cons_succ, List.getElem?_cons_zero]
                repeat (first | go_big_quiet_step (fail) | quiet_step (fail))
                refine wpQuiet_nil ?_
                intro K hK
                refine loud_op rfl rfl ?_
                go_simp
                refine (isNew_any _ _ r (exch l a b) _ ⟨_, _, rfl, HR.out.below S.out.bel, HS.out.below S.out.bel⟩ HVD.out (S.out.ints 0 rfl) (by rw [exch_len]; exact hlen)).mono ?_
                rintro e w5 ⟨rfl, hb⟩
                rw [HNB.out]
                have S := Lib.hid (S.out.call hb)
                refine hK _ _ hb ?_
                clear hK K hb q0 q1
                have q0 := cell_regrown (S.out.get 3 0 rfl rfl)
                have q1 := cell_regrown (S.out.get 3 1 rfl rfl)
                refine seg_next ?_
                simp only [opsAt, List.filterMap_cons, List.filterMap_nil, List.getElem?_toArray, List.getElem?_cons_succ, List.getElem?_cons_zero]
                repeat (first | go_big_quiet_step (fail) | quiet_step (fail))
                refine wpQuiet_nil ?_
                intro K hK
                refine loud_op rfl rfl ?_
                go_simp
                refine (costOf_any _ _ r (exch l a b) _ ⟨_, _, rfl, HR.out.below S.out.bel, HS.out.below S.out.bel⟩ HVD.out (S.out.ints 0 rfl) (InL.of_new HNB.out)).mono ?_
                rintro e w6 ⟨rfl, hb⟩
                rw [HC1.out]
                have S := Lib.hid (S.out.call hb)
                refine hK _ _ hb ?_
                clear hK K hb
                refine seg_next ?_
                simp only [opsAt, List.filterMap_nil]
                refine wpQuiet_nil ?_
                intro K hK
                refine loud_op rfl rfl ?_
                go_simp
                refine (costOf_any _ _ r l _ ⟨_, _, rfl, HR.out.below S.out.bel, HS.out.below S.out.bel⟩ HVD.out (HL.out.below S.out.bel) HIN.out).mono ?_
                rintro e w7 ⟨rfl, hb⟩
                rw [HC2.out]
                have S := Lib.hid (S.out.call hb)
                refine hK _ _ hb ?_
                clear hK K hb
                clear q0 q1
                refine seg_last ?_
                simp only [opsAt, List.filterMap_cons, List.filterMap_nil, List.getElem?_toArray, List.getElem?_cons_succ, List.getElem?_cons_zero]
                repeat (first | go_big_quiet_step (fail) | quiet_step (fail))
                refine wpQuiet_nil ?_
                go_wp2_with fail
                try go_frame
                go_roundw
                case rel => exact ⟨b + 1, by omega, by omega, by go_num, Lib.hid (fun b' h1 h2 => by
                  rcases Nat.lt_or_ge b' b with h | h
                  · exact HB.out b' h1 h
                  · obtain rfl : b' = b := by omega
                    exact HF.out), Lib.hid S.out.tail.tail.fix⟩
                case measure => first | (simp [intOf]; done) | (simp [intOf]; omega)
          · obtain rfl : b = l.length := by omega
            go_wp2_with fail
            try go_frame
            go_roundw
            case rel => exact ⟨a + 1, by omega, by go_num, Lib.hid (fun a' b' h1 h2 h => by
              rcases Nat.lt_or_ge a' a with h3 | h3
              · exact HP.out a' b' h1 h2 h3
              · obtain rfl : a' = a := by omega
                exact HB.out b' h1 h2), S⟩
            case measure => first | (simp [intOf]; done) | (simp [intOf]; omega)
      · obtain rfl : a = l.length := by omega
        have S2 := (S.out.set 0 0 (I 0) rfl).set 0 1 (I 0) rfl
        have u0 := S.out.get 0 0 rfl rfl
        have u1 := S.out.get 0 1 rfl rfl
        have u2 := S.out.free 0 0 rfl
        have u3 := S.out.free 0 1 rfl
        have r0 := S2.get 0 0 rfl rfl
        have r1 := S2.get 0 1 rfl rfl
        go_wp2_with fail
        refine bodyPost_ret (v := .tuple #[.agg #[I 0, I 0], I (3)]) (by simp [results, Try.results49, go_sem, r0, r1]) rfl ⟨⟨((0, 0), 3), HSW.out _ (.inr ⟨rfl, fun a' b' h1 h2 => HP.out a' b' h1 h2 (by omega)⟩), rfl⟩, S2.bel⟩
  · have HSW := Lib.hid (show swapR r l ((0, 0), givenE r l) by unfold swapR; rw [if_neg hg])
    obtain ⟨er, her⟩ : ∃ x, givenE r l = x := ⟨_, rfl⟩
    have hq : (er != 0) = true := by rw [← her]; simpa using hg
    have HG := Lib.hid her
    clear hg her
    go_enter Try.func49, Try.ntmps49
    go_wp2_with fail
    clear q0 q1
    refine (rGiven_any _ _ r l _ ⟨_, _, rfl, HR.out.below S.out.bel, HS.out.below S.out.bel⟩ (HL.out.below S.out.bel) hlen).mono ?_
    rintro e w1 ⟨rfl, hb⟩
    rw [HG.out]
    have S := Lib.hid (S.out.call hb)
    clear hb
    have S2 := (S.out.set 0 0 (I 0) rfl).set 0 1 (I 0) rfl
    have u0 := S.out.get 0 0 rfl rfl
    have u1 := S.out.get 0 1 rfl rfl
    have u2 := S.out.free 0 0 rfl
    have u3 := S.out.free 0 1 rfl
    have r0 := S2.get 0 0 rfl rfl
    have r1 := S2.get 0 1 rfl rfl
    go_wp2_with fail
    refine bodyPost_ret (v := .tuple #[.agg #[I 0, I 0], I (er)]) (by simp [results, Try.results49, go_sem, r0, r1]) rfl ⟨⟨((0, 0), er), by rw [← HG.out]; exact HSW.out, rfl⟩, S2.bel⟩

set_option maxRecDepth 20000 in
set_option maxHeartbeats 4000000 in
theorem rGive_any (v : Value) (r : Ros) (h : Int) (w : World) (hv : RosAt w v r) :
    Calls Try.prog 50 #[v, I h] w fun e w' => e = .returned (.tuple #[I (giveR r h).1, I (giveR r h).2]) ∧ Below w.heap.size w w' := by
  obtain ⟨rv, sv, rfl, hr, hs⟩ := hv
  obtain ⟨A1, c1, rfl, hr1, hr2, -⟩ := hr.open_
  obtain ⟨A2, c2, rfl, hs1, hs2, -⟩ := hs.open_
  have HR := Lib.hid hr
  have HS := Lib.hid hs
  clear hr hs
  have S := Lib.hid (show St w (w.alloc (.cells #[.slice A1 r.room.length c1, .slice A2 r.strs.length c2] 25)) (w.heap.size + 1) [.box w.heap.size [.slice A1 r.room.length c1, .slice A2 r.strs.length c2]] from (St.init w).alloc [.slice A1 r.room.length c1, .slice A2 r.strs.length c2] 25)
  go_enter Try.func50, Try.ntmps50
  by_cases ha : askE r (isHour r h) = 0
  · have HA := Lib.hid ha
    have hvd := valid_iff.1 (askE_zero.1 ha).1
    have HH := Lib.hid (askE_zero.1 ha).2
    have HVD := Lib.hid hvd
    have HGV := Lib.hid (show giveR r h = (if r.room.getD h.toNat 0 = 6 then (0, 2) else if (leastR r).2 = 0 then ((leastR r).1 - (leastR (roomier r h.toNat 1)).1, 0) else (0, (leastR r).2)) by unfold giveR; rw [if_pos ha])
    clear ha
    go_wp2_with fail
    refine wp_region_seg [([0, 1, 2], 3), ([], 4)] [5] [] 6 (by kernel_rfl) (by kernel_rfl) ?_
    intro KQ hKQ w4 hb
    have S := Lib.hid (S.out.call hb)
    clear hb
    have q0 := cell_regrown (S.out.get 0 0 rfl rfl)
    have q1 := cell_regrown (S.out.get 0 1 rfl rfl)
    refine seg_next ?_
    simp only [opsAt, List.filterMap_cons, List.filterMap_nil, List.getElem?_toArray, List.getElem?_cons_succ, List.getElem?_cons_zero]
    repeat (first | go_big_quiet_step (fail) | quiet_step (fail))
    refine wpQuiet_nil ?_
    intro K hK
    refine loud_op rfl rfl ?_
    go_simp
    refine (rIsHour_any _ r _ _ ⟨_, _, rfl, HR.out.below S.out.bel, HS.out.below S.out.bel⟩).mono ?_
    rintro e w5 ⟨rfl, hb⟩
    have S := Lib.hid (S.out.call hb)
    refine hK _ _ hb ?_
    clear hK K hb q0 q1
    refine seg_next ?_
    simp only [opsAt, List.filterMap_nil]
    refine wpQuiet_nil ?_
    intro K hK
    refine loud_op rfl rfl ?_
    go_simp
    refine (rAsk_any _ r (isHour r h) _ ⟨_, _, rfl, HR.out.below S.out.bel, HS.out.below S.out.bel⟩).mono ?_
    rintro e w6 ⟨rfl, hb⟩
    rw [HA.out]
    have S := Lib.hid (S.out.call hb)
    refine hK _ _ hb ?_
    clear hK K hb
    refine seg_last ?_
    simp only [opsAt, List.filterMap_cons, List.filterMap_nil, List.getElem?_toArray, List.getElem?_cons_succ, List.getElem?_cons_zero]
    repeat (first | go_big_quiet_step (fail) | quiet_step (fail))
    refine wpQuiet_nil ?_
    obtain ⟨hN, rfl⟩ := Int.eq_ofNat_of_zero_le (isHour_spec HH.out).1
    have hhl : hN < r.room.length := by have := (isHour_spec HH.out).2; omega
    have hhi : (hN : Int) < (r.room.length : Int) := by omega
    obtain ⟨_, _, e, _, _, hrc⟩ := HR.out.open_
    injection e with e1 e2 e3
    subst e1
    obtain ⟨b1, o1, e, hb1, hcr⟩ := hrc (by omega)
    subst e
    have y0 := hcr hN hhl
    obtain ⟨x, hx⟩ : ∃ x, r.room[hN] = x := ⟨_, rfl⟩
    rw [hx] at y0
    rw [Int.toNat_natCast, List.getD_eq_getElem?_getD, List.getElem?_eq_getElem hhl, hx] at HGV
    have HX0 := Lib.hid y0
    clear hcr hb1 y0 hx hrc e2 e3
    have y0 := keep_cell S.out.bel HX0.out
    have q0 := S.out.get 0 0 rfl rfl
    have q1 := S.out.get 0 1 rfl rfl
    by_cases h6 : x = 6
    · have h6q : (x == 6) = true := by simp [h6]
      have HG2 := Lib.hid (HGV.out.trans (if_pos h6))
      clear h6
      go_wp2_with fail
      go_ret2
      exact ⟨by rw [HG2.out]; rfl, S.out.bel⟩
    · have h6q : (x == 6) = false := by simp [h6]
      have HG2 := Lib.hid (HGV.out.trans (if_neg h6))
      clear h6
      go_wp2_with fail
      clear y0 q0 q1
      refine (rLeast_any _ r _ ⟨_, _, rfl, HR.out.below S.out.bel, HS.out.below S.out.bel⟩).mono ?_
      rintro e w7 ⟨rfl, hb⟩
      have S := Lib.hid (S.out.call hb)
      clear hb
      have hlb := leastR_bd r
      obtain ⟨⟨m, me⟩, hm⟩ : ∃ x, leastR r = x := ⟨_, rfl⟩
      rw [hm] at HG2 hlb ⊢
      simp only at hlb
      clear hm
      by_cases hme : me = 0
      · have hmq : (me != 0) = false := by simp [hme]
        have HG3 := Lib.hid (HG2.out.trans (if_pos hme))
        clear hme
        have q0 := S.out.get 0 0 rfl rfl
        have q1 := S.out.get 0 1 rfl rfl
        go_wp2_with fail
        clear q0 q1
        refine (roomier_any _ r hN 1 _ ⟨_, _, rfl, HR.out.below S.out.bel, HS.out.below S.out.bel⟩ (by have := HVD.out.rl; omega) (by have := HVD.out.sl; omega) hhl (by omega) (fun x hx => by have := HVD.out.rm x hx; omega)).mono ?_
        rintro e w10 ⟨v', rfl, ⟨rv', sv', rfl, ho1, ho2⟩, hb⟩
        obtain ⟨Ax, cx, rfl⟩ := own_shape ho1
        obtain ⟨Ay, cy, rfl⟩ := own_shape ho2
        have S := Lib.hid (S.out.take2 hb ho1 ho2 (by decide))
        clear hb ho1 ho2
        go_wp2_with fail
        refine (rLeast_any _ (roomier r hN 1) _ ⟨_, _, rfl, S.out.ints 0 rfl, S.out.row 1 rfl⟩).mono ?_
        rintro e w11 ⟨rfl, hb⟩
        have S := Lib.hid (S.out.call hb)
        clear hb
        have hlb2 := leastR_bd (roomier r hN 1)
        obtain ⟨⟨n, ne⟩, hn⟩ : ∃ x, leastR (roomier r hN 1) = x := ⟨_, rfl⟩
        rw [hn] at hlb2 HG3 ⊢
        simp only at hlb2
        clear hn
        have ew : IntKind.i64.wrap (m - n) = m - n := IntWalk.i64_in _ (by omega)
        go_wp2_with fail
        go_ret2
        exact ⟨by rw [HG3.out]; rfl, S.out.bel⟩
      · have hmq : (me != 0) = true := by simp [hme]
        have HG3 := Lib.hid (HG2.out.trans (if_neg hme))
        clear hme
        go_wp2_with fail
        go_ret2
        exact ⟨by rw [HG3.out]; rfl, S.out.bel⟩
  · have HGV := Lib.hid (show giveR r h = (0, askE r (isHour r h)) by unfold giveR; rw [if_neg ha])
    obtain ⟨er, her⟩ : ∃ x, askE r (isHour r h) = x := ⟨_, rfl⟩
    have hq : (er != 0) = true := by rw [← her]; simpa using ha
    have HA := Lib.hid her
    rw [her] at HGV
    clear ha her
    go_wp2_with fail
    refine wp_region_seg [([0, 1, 2], 3), ([], 4)] [5] [] 6 (by kernel_rfl) (by kernel_rfl) ?_
    intro KQ hKQ w4 hb
    have S := Lib.hid (S.out.call hb)
    clear hb
    have q0 := cell_regrown (S.out.get 0 0 rfl rfl)
    have q1 := cell_regrown (S.out.get 0 1 rfl rfl)
    refine seg_next ?_
    simp only [opsAt, List.filterMap_cons, List.filterMap_nil, List.getElem?_toArray, List.getElem?_cons_succ, List.getElem?_cons_zero]
    repeat (first | go_big_quiet_step (fail) | quiet_step (fail))
    refine wpQuiet_nil ?_
    intro K hK
    refine loud_op rfl rfl ?_
    go_simp
    refine (rIsHour_any _ r _ _ ⟨_, _, rfl, HR.out.below S.out.bel, HS.out.below S.out.bel⟩).mono ?_
    rintro e w5 ⟨rfl, hb⟩
    have S := Lib.hid (S.out.call hb)
    refine hK _ _ hb ?_
    clear hK K hb q0 q1
    refine seg_next ?_
    simp only [opsAt, List.filterMap_nil]
    refine wpQuiet_nil ?_
    intro K hK
    refine loud_op rfl rfl ?_
    go_simp
    refine (rAsk_any _ r (isHour r h) _ ⟨_, _, rfl, HR.out.below S.out.bel, HS.out.below S.out.bel⟩).mono ?_
    rintro e w6 ⟨rfl, hb⟩
    rw [HA.out]
    have S := Lib.hid (S.out.call hb)
    refine hK _ _ hb ?_
    clear hK K hb
    refine seg_last ?_
    simp only [opsAt, List.filterMap_cons, List.filterMap_nil, List.getElem?_toArray, List.getElem?_cons_succ, List.getElem?_cons_zero]
    repeat (first | go_big_quiet_step (fail) | quiet_step (fail))
    refine wpQuiet_nil ?_
    go_wp2_with fail
    go_ret2
    exact ⟨by rw [HGV.out]; rfl, S.out.bel⟩

end Go.Proofs.Ytokendenofbnhaa
