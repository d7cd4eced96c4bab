/- HoursCost: the law walked. -/
import Derived.Test.YtokendenofbnhaaW22
import Derived.Test.YtokendenofbnhaaW24
import Derived.Test.YtokendenofbnhaaW30
namespace Go.Proofs.Ytokendenofbnhaa
open Go.RowKit Go.Sort

set_option maxRecDepth 20000 in
set_option maxHeartbeats 4000000 in
theorem lawCost_any (v : Value) (r : Ros) (v2 : Value) (l : List Int) (w : World) (hv : RosAt w v r) (hl : Ints w v2 l) :
    Calls Try.prog 13 #[v, v2] w fun e w' => e = .returned (.bool true) ∧ Below w.heap.size w w' := by
  obtain ⟨i0, hi, hz0, hz1, hz2⟩ := info_parts Try.info3
  obtain ⟨rv, sv, rfl, hr, hs⟩ := hv
  obtain ⟨A1, c1, rfl, hr1, hr2, -⟩ := hr.open_
  obtain ⟨A2, c2, rfl, hs1, hs2, -⟩ := hs.open_
  have HR := Lib.hid hr
  have HS := Lib.hid hs
  clear hr hs
  have S := Lib.hid (show St w (w.alloc (.cells #[.slice A1 r.room.length c1, .slice A2 r.strs.length c2] 25)) (w.heap.size + 1) [.box w.heap.size [.slice A1 r.room.length c1, .slice A2 r.strs.length c2]] from (St.init w).alloc [.slice A1 r.room.length c1, .slice A2 r.strs.length c2] 25)
  obtain ⟨Al, cl, rfl, hl1, hl2, -⟩ := id hl.open_
  have HL := Lib.hid hl
  clear hl
  have q0 := S.out.get 0 0 rfl rfl
  have q1 := S.out.get 0 1 rfl rfl
  go_enter Try.func13, Try.ntmps13
  go_wp2_with fail
  clear q0 q1
  refine (huge_any _ _ r l _ ⟨_, _, rfl, HR.out.below S.out.bel, HS.out.below S.out.bel⟩ (HL.out.below S.out.bel)).mono ?_
  rintro e w1 ⟨rfl, hb⟩
  have S := Lib.hid (S.out.call hb)
  clear hb
  cases hh : hugeB r l
  · have hh2 := hh
    unfold hugeB at hh2
    simp only [Bool.or_eq_false_iff, decide_eq_false_iff_not] at hh2
    have hrl : r.room.length ≤ 40 := by omega
    have hsl : r.strs.length ≤ 40 := by omega
    have hlen : l.length ≤ 1000 := by omega
    clear hh2 hh
    have q0 := S.out.get 0 0 rfl rfl
    have q1 := S.out.get 0 1 rfl rfl
    have HGN := fun (wx : World) => heap_alloc_new wx (.cells #[] 3)
    have HGN := Lib.hid HGN
    go_wp2_with fail
    clear q0 q1
    refine (copy_any _ r _ ⟨_, _, rfl, HR.out.below S.out.bel, HS.out.below S.out.bel⟩ (by omega) (by omega)).mono ?_
    rintro e w3 ⟨v', rfl, ⟨rv', sv', rfl, ho1, ho2⟩, hb⟩
    obtain ⟨Ax, cx, rfl⟩ := own_shape ho1
    obtain ⟨Ay, cy, rfl⟩ := own_shape ho2
    have S := Lib.hid (S.out.take2 hb ho1 ho2 (by decide))
    clear hb ho1 ho2
    have HB := Lib.hid ((Below.refl w3.heap.size w3).alloc (Nat.le_refl _) (.cells #[] 3))
    go_wp2_with (at_builtin; refine wpList_plain rfl fun K hK => ?_; refine wp_append_fresh _ (.tmp 25) (.tmp 26) 22 rfl w3.heap.size 3 i0 (.int .i64 0) 1 8 Try.underlying22 hi hz0 hz1 hz2 rfl (by omega) w3.heap.size rfl (HGN.out w3) (Nat.le_refl _) _ l.length (l.map I) rfl (HL.out.below (bto S.out.bel HB.out)) (ints_one l) (by simp only [maxLen]; omega) (by omega) HB.out.size ?_; intro v1 w4 hown hb; have HB2 := Lib.hid (bto HB.out hb); obtain ⟨Al2, cl2, rfl⟩ := own_shape hown; have S := Lib.hid (S.out.take HB2.out hown); refine hK _ _ ?_; clear hb hown hK; have S := Lib.hid (S.out.alloc [.slice Ax r.room.length cx, .slice Ay r.strs.length cy] 25); have p0 := S.out.get 0 0 rfl rfl; have p1 := S.out.get 0 1 rfl rfl; have q0 := S.out.get 4 0 rfl rfl; have q1 := S.out.get 4 1 rfl rfl)
    clear p0 p1 q0 q1
    refine wp_region_seg [([0, 2], 1), ([], 3)] [4] [] 5 (by kernel_rfl) (by kernel_rfl) ?_
    intro KQ hKQ w5 hb
    have S := Lib.hid (S.out.call hb)
    clear hb
    have p0 := cell_regrown (S.out.get 0 0 rfl rfl)
    have p1 := cell_regrown (S.out.get 0 1 rfl rfl)
    have q0 := cell_regrown (S.out.get 4 0 rfl rfl)
    have q1 := cell_regrown (S.out.get 4 1 rfl rfl)
    obtain ⟨ch, hch⟩ : ∃ x, chk r = x := ⟨_, rfl⟩
    have HCH := Lib.hid hch
    clear hch
    refine seg_next ?_
    simp only [opsAt, List.filterMap_cons, List.filterMap_nil, List.getElem?_toArray, List.getElem?_cons_succ, List.getElem?_cons_zero]
    repeat (first | go_big_quiet_step (fail) | quiet_step (fail))
    refine wpQuiet_nil ?_
    intro K hK
    refine loud_op rfl rfl ?_
    go_simp
    refine (check_any _ r _ ⟨_, _, rfl, S.out.ints 2 rfl, S.out.row 3 rfl⟩).mono ?_
    rintro e w6 ⟨rfl, hb⟩
    rw [HCH.out]
    have S := Lib.hid (S.out.call hb)
    refine hK _ _ hb ?_
    clear hK K hb
    refine seg_next ?_
    simp only [opsAt, List.filterMap_nil]
    refine wpQuiet_nil ?_
    intro K hK
    refine loud_op rfl rfl ?_
    go_simp
    refine (rCheck_any _ r _ ⟨_, _, rfl, HR.out.below S.out.bel, HS.out.below S.out.bel⟩).mono ?_
    rintro e w7 ⟨rfl, hb⟩
    rw [HCH.out]
    have S := Lib.hid (S.out.call hb)
    refine hK _ _ hb ?_
    clear hK K hb p0 p1 q0 q1
    refine seg_last ?_
    simp only [opsAt, List.filterMap_cons, List.filterMap_nil, List.getElem?_toArray, List.getElem?_cons_succ, List.getElem?_cons_zero]
    repeat (first | go_big_quiet_step (fail) | quiet_step (fail))
    refine wpQuiet_nil ?_
    have p0 := S.out.get 0 0 rfl rfl
    have p1 := S.out.get 0 1 rfl rfl
    go_wp2_with fail
    clear p0 p1
    refine (pGood_any _ _ r l _ ⟨_, _, rfl, S.out.ints 2 rfl, S.out.row 3 rfl⟩ (S.out.ints 1 rfl) hlen).mono ?_
    rintro e w8 ⟨rfl, hb⟩
    obtain ⟨⟨g1, g2⟩, hg⟩ : ∃ x, pGoodR r l = x := ⟨_, rfl⟩
    rw [hg]
    have HG := Lib.hid hg
    clear hg
    have S := Lib.hid (S.out.call hb)
    clear hb
    have q0 := S.out.get 4 0 rfl rfl
    have q1 := S.out.get 4 1 rfl rfl
    go_wp2_with fail
    clear q0 q1
    refine (rGood_any _ _ r l _ ⟨_, _, rfl, HR.out.below S.out.bel, HS.out.below S.out.bel⟩ (HL.out.below S.out.bel) hlen).mono ?_
    rintro e w9 ⟨rfl, hb⟩
    rw [HG.out]
    have S := Lib.hid (S.out.call hb)
    clear hb
    have p0 := S.out.get 0 0 rfl rfl
    have p1 := S.out.get 0 1 rfl rfl
    go_wp2_with fail
    clear p0 p1
    refine (pCost_any _ _ r l _ ⟨_, _, rfl, S.out.ints 2 rfl, S.out.row 3 rfl⟩ (S.out.ints 1 rfl) hlen).mono ?_
    rintro e w10 ⟨rfl, hb⟩
    obtain ⟨⟨m1, m2⟩, hm⟩ : ∃ x, pCostR r l = x := ⟨_, rfl⟩
    rw [hm]
    have HM := Lib.hid hm
    clear hm
    have S := Lib.hid (S.out.call hb)
    clear hb
    have q0 := S.out.get 4 0 rfl rfl
    have q1 := S.out.get 4 1 rfl rfl
    go_wp2_with fail
    clear q0 q1
    refine (rCost_any _ _ r l _ ⟨_, _, rfl, HR.out.below S.out.bel, HS.out.below S.out.bel⟩ (HL.out.below S.out.bel) hlen).mono ?_
    rintro e w11 ⟨rfl, hb⟩
    rw [HM.out]
    have S := Lib.hid (S.out.call hb)
    clear hb
    have p0 := S.out.get 0 0 rfl rfl
    have p1 := S.out.get 0 1 rfl rfl
    go_wp2_with fail
    clear p0 p1
    have hmvl : (pMovedR r l).1.length ≤ 1000 := by
      unfold pMovedR
      split
      · have := movedTo_len r.strs l l.length
        show (movedTo r.strs l l.length).length ≤ 1000
        omega
      · simp
    refine (pMoved_any _ _ r l _ ⟨_, _, rfl, S.out.ints 2 rfl, S.out.row 3 rfl⟩ (S.out.ints 1 rfl) hlen).mono ?_
    rintro e w12 ⟨va, rfl, hown, hb⟩
    obtain ⟨⟨n1, n2⟩, hn⟩ : ∃ x, pMovedR r l = x := ⟨_, rfl⟩
    rw [hn] at hown hmvl
    rw [hn]
    have HN := Lib.hid hn
    clear hn
    obtain ⟨Aa, ca, rfl⟩ := own_shape hown
    have S := Lib.hid (S.out.take hb hown)
    clear hb hown
    have q0 := S.out.get 5 0 rfl rfl
    have q1 := S.out.get 5 1 rfl rfl
    go_wp2_with fail
    clear q0 q1
    refine (rMoved_any _ _ r l _ ⟨_, _, rfl, HR.out.below S.out.bel, HS.out.below S.out.bel⟩ (HL.out.below S.out.bel) hlen).mono ?_
    rintro e w13 ⟨vb, rfl, hown, hb⟩
    rw [HN.out] at hown
    rw [HN.out]
    obtain ⟨Ab, cb, rfl⟩ := own_shape hown
    have S := Lib.hid (S.out.take hb hown)
    clear hb hown
    go_wp2_with fail
    refine (same_any _ _ n1 n1 _ (S.out.ints 1 rfl) (S.out.ints 0 rfl) hmvl hmvl).mono ?_
    rintro e w14 ⟨rfl, hb⟩
    rw [show decide (n1 = n1) = true by simp]
    have S := Lib.hid (S.out.call hb)
    clear hb
    have p0 := S.out.get 2 0 rfl rfl
    have p1 := S.out.get 2 1 rfl rfl
    have q0 := S.out.get 6 0 rfl rfl
    have q1 := S.out.get 6 1 rfl rfl
    go_wp2_with fail
    clear p0 p1 q0 q1
    refine (sameR_any _ _ r _ ⟨_, _, rfl, S.out.ints 4 rfl, S.out.row 5 rfl⟩ ⟨_, _, rfl, HR.out.below S.out.bel, HS.out.below S.out.bel⟩ (by omega)).mono ?_
    rintro e w15 ⟨rfl, hb⟩
    have S := Lib.hid (S.out.call hb)
    clear hb
    go_wp2_with fail
    refine (same_any _ _ l l _ (S.out.ints 3 rfl) (HL.out.below S.out.bel) hlen hlen).mono ?_
    rintro e w16 ⟨rfl, hb⟩
    rw [show decide (l = l) = true by simp]
    have S := Lib.hid (S.out.call hb)
    clear hb
    go_wp2_with fail
    refine (works_any _).mono ?_
    rintro e w17 ⟨rfl, hb⟩
    have S := Lib.hid (S.out.call hb)
    clear hb
    go_wp2_with fail
    go_ret
    exact ⟨rfl, S.out.bel⟩
  · go_wp2_with fail
    refine (works_any _).mono ?_
    rintro e w2 ⟨rfl, hb⟩
    have S := Lib.hid (S.out.call hb)
    clear hb
    go_wp2_with fail
    go_ret
    exact ⟨rfl, S.out.bel⟩

end Go.Proofs.Ytokendenofbnhaa
