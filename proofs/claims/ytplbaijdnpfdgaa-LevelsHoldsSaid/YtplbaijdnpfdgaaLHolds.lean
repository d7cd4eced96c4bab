/- The law LevelsHolds walked. -/
import Derived.Test.YtplbaijdnpfdgaaW26
import Derived.Test.YtplbaijdnpfdgaaW27
namespace Go.Proofs.Ytplbaijdnpfdgaa
open Go.RowKit Go.Sort

set_option maxRecDepth 100000 in
set_option maxHeartbeats 8000000 in
theorem lawHolds_any (v : Value) (t : Twn) (lv : Value) (l : List Int) (w : World) (hv : TwnAt w v t) (hl : Ints w lv l) :
    Calls Try.prog 14 #[v, lv] w fun e w' => e = .returned (.bool true) ∧ Below w.heap.size w w' := by
  obtain ⟨i0, hi, hz0, hz1, hz2⟩ := info_parts Try.info3
  obtain ⟨sv, pv, rfl, hs, hp⟩ := hv
  have HSN := Lib.hid hs
  have HSP := Lib.hid hp
  obtain ⟨A1, c1, rfl, -, -, -⟩ := id hs.open_
  obtain ⟨A2, c2, rfl, -, -, -⟩ := id hp.open_
  clear hs hp
  have S := Lib.hid (show St w (w.alloc (.cells #[I t.wells, .slice A1 t.snd.length c1, .slice A2 t.slp.length c2] 25)) (w.heap.size + 1) [.box w.heap.size [I t.wells, .slice A1 t.snd.length c1, .slice A2 t.slp.length c2]] from (St.init w).alloc [I t.wells, .slice A1 t.snd.length c1, .slice A2 t.slp.length c2] 25)
  obtain ⟨Al, cl, rfl, hl1, hl2, -⟩ := id hl.open_
  have HL := Lib.hid hl
  clear hl
  cases hh : hugeB t
  · have HH := Lib.hid hh
    obtain ⟨ht1, ht2⟩ := hugeB_false hh
    clear hh
    by_cases hlen : 40 < l.length
    · have hlen' : (40 : Int) < (l.length : Int) := by omega
      go_enter Try.func14, Try.ntmps14
      have q_town0 := S.out.get 0 0 rfl rfl
      have q_town1 := S.out.get 0 1 rfl rfl
      have q_town2 := S.out.get 0 2 rfl rfl
      go_wp2_with fail
      refine (huge_any _ t _ ⟨_, _, rfl, HSN.out.below S.out.bel, HSP.out.below S.out.bel⟩).mono ?_
      rintro e w1 ⟨rfl, hb⟩
      rw [HH.out]
      have S := Lib.hid (S.out.call hb)
      clear hb
      clear q_town0 q_town1 q_town2
      have q_town0 := S.out.get 0 0 rfl rfl
      have q_town1 := S.out.get 0 1 rfl rfl
      have q_town2 := S.out.get 0 2 rfl rfl
      go_wp2_with fail
      refine (works_any _).mono ?_
      rintro e w2 ⟨rfl, hb⟩
      have S := Lib.hid (S.out.call hb)
      clear hb
      clear q_town0 q_town1 q_town2
      have q_town0 := S.out.get 0 0 rfl rfl
      have q_town1 := S.out.get 0 1 rfl rfl
      have q_town2 := S.out.get 0 2 rfl rfl
      go_wp2_with fail
      go_ret
      exact ⟨rfl, S.out.bel⟩
    · have hlen' : ¬ (40 : Int) < (l.length : Int) := by omega
      go_enter Try.func14, Try.ntmps14
      have q_town0 := S.out.get 0 0 rfl rfl
      have q_town1 := S.out.get 0 1 rfl rfl
      have q_town2 := S.out.get 0 2 rfl rfl
      go_wp2_with fail
      refine (huge_any _ t _ ⟨_, _, rfl, HSN.out.below S.out.bel, HSP.out.below S.out.bel⟩).mono ?_
      rintro e w1 ⟨rfl, hb⟩
      rw [HH.out]
      have S := Lib.hid (S.out.call hb)
      clear hb
      clear q_town0 q_town1 q_town2
      have q_town0 := S.out.get 0 0 rfl rfl
      have q_town1 := S.out.get 0 1 rfl rfl
      have q_town2 := S.out.get 0 2 rfl rfl
      go_wp2_with fail
      clear q_town0 q_town1 q_town2
      have HGN := fun (wx : World) => heap_alloc_new wx (.cells #[] 3)
      have HGN := Lib.hid HGN
      refine (copy_any _ t _ ⟨_, _, rfl, HSN.out.below S.out.bel, HSP.out.below S.out.bel⟩ (by omega) (by omega)).mono ?_
      rintro e wc ⟨v', rfl, ⟨rv', sv', rfl, ho1, ho2⟩, hb⟩
      obtain ⟨Ax, cx, rfl⟩ := own_shape ho1
      obtain ⟨Ay, cy, rfl⟩ := own_shape ho2
      have S := Lib.hid (S.out.take2 hb ho1 ho2 (by decide))
      clear hb ho1 ho2
      have HB := Lib.hid ((Below.refl wc.heap.size wc).alloc (Nat.le_refl _) (.cells #[] 3))
      go_wp2_with (at_builtin; refine wpList_plain rfl fun K hK => ?_; refine wp_append_fresh _ (.tmp 21) (.tmp 22) 29 rfl wc.heap.size 3 i0 (.int .i64 0) 1 8 Try.underlying29 hi hz0 hz1 hz2 rfl (by omega) wc.heap.size rfl (HGN.out wc) (Nat.le_refl _) _ l.length (l.map I) rfl (HL.out.below (bto S.out.bel HB.out)) (ints_one l) (by simp only [maxLen]; omega) (by omega) HB.out.size ?_; intro v1 w4 hown hb; have HB2 := Lib.hid (bto HB.out hb); obtain ⟨Al2, cl2, rfl⟩ := own_shape hown; have S := Lib.hid (S.out.take HB2.out hown); refine hK _ _ ?_; clear hb hown hK; have S := Lib.hid (S.out.alloc [I t.wells, .slice Ax t.snd.length cx, .slice Ay t.slp.length cy] 25); have p0 := S.out.get 0 0 rfl rfl; have p1 := S.out.get 0 1 rfl rfl; have p2 := S.out.get 0 2 rfl rfl; have q0 := S.out.get 4 0 rfl rfl; have q1 := S.out.get 4 1 rfl rfl; have q2 := S.out.get 4 2 rfl rfl)
      obtain ⟨⟨g1, g2⟩, hg⟩ : ∃ x, holdsP t l = x := ⟨_, rfl⟩
      have HG := Lib.hid hg
      clear hg
      refine (holds_any _ _ t l _ ⟨_, _, rfl, S.out.row 2 rfl, S.out.row 3 rfl⟩ (S.out.ints 1 rfl)).mono ?_
      rintro e w2 ⟨rfl, hb⟩
      rw [HG.out]
      have S := Lib.hid (S.out.call hb)
      clear hb
      clear p0 p1 p2 q0 q1 q2
      have q_copy0 := S.out.get 0 0 rfl rfl
      have q_copy1 := S.out.get 0 1 rfl rfl
      have q_copy2 := S.out.get 0 2 rfl rfl
      have q_town0 := S.out.get 4 0 rfl rfl
      have q_town1 := S.out.get 4 1 rfl rfl
      have q_town2 := S.out.get 4 2 rfl rfl
      go_wp2_with fail
      refine (rHolds_any _ _ t l _ ⟨_, _, rfl, HSN.out.below S.out.bel, HSP.out.below S.out.bel⟩ (HL.out.below S.out.bel) (by omega)).mono ?_
      rintro e w3 ⟨rfl, hb⟩
      rw [HG.out]
      have S := Lib.hid (S.out.call hb)
      clear hb
      clear q_copy0 q_copy1 q_copy2 q_town0 q_town1 q_town2
      have q_copy0 := S.out.get 0 0 rfl rfl
      have q_copy1 := S.out.get 0 1 rfl rfl
      have q_copy2 := S.out.get 0 2 rfl rfl
      have q_town0 := S.out.get 4 0 rfl rfl
      have q_town1 := S.out.get 4 1 rfl rfl
      have q_town2 := S.out.get 4 2 rfl rfl
      go_wp2_with fail
      clear q_copy0 q_copy1 q_copy2 q_town0 q_town1 q_town2
      refine wp_region_seg [([0, 2], 1), ([], 3), ([4, 5, 6, 7, 8, 9, 10, 11, 12, 13, 14, 15, 16, 17], 18), ([19, 20, 21, 22], 23), ([24, 25], 26)] [27, 28] [] 29 (by kernel_rfl) (by kernel_rfl) ?_
      intro KQ hKQ wr hb
      have S := Lib.hid (S.out.call hb)
      clear hb
      obtain ⟨ch, hch⟩ : ∃ x, chk t = x := ⟨_, rfl⟩
      have HCH := Lib.hid hch
      clear hch
      have p0 := cell_regrown (S.out.get 0 0 rfl rfl)
      have p1 := cell_regrown (S.out.get 0 1 rfl rfl)
      have p2 := cell_regrown (S.out.get 0 2 rfl rfl)
      have q0 := cell_regrown (S.out.get 4 0 rfl rfl)
      have q1 := cell_regrown (S.out.get 4 1 rfl rfl)
      have q2 := cell_regrown (S.out.get 4 2 rfl rfl)
      refine seg_next ?_
      simp only [opsAt, List.filterMap_cons, List.filterMap_nil, List.getElem?_toArray, List.getElem?_cons_succ, List.getElem?_cons_zero]
      repeat (first | go_big_quiet_step (fail) | quiet_step (fail))
      refine wpQuiet_nil ?_
      intro K hK
      refine loud_op rfl rfl ?_
      go_simp
      refine (check_any _ t _ ⟨_, _, rfl, S.out.row 2 rfl, S.out.row 3 rfl⟩).mono ?_
      rintro e wx1 ⟨rfl, hb⟩
      rw [HCH.out]
      have S := Lib.hid (S.out.call hb)
      refine hK _ _ hb ?_
      clear hK K hb p0 p1 p2 q0 q1 q2
      have p0 := cell_regrown (S.out.get 0 0 rfl rfl)
      have p1 := cell_regrown (S.out.get 0 1 rfl rfl)
      have p2 := cell_regrown (S.out.get 0 2 rfl rfl)
      have q0 := cell_regrown (S.out.get 4 0 rfl rfl)
      have q1 := cell_regrown (S.out.get 4 1 rfl rfl)
      have q2 := cell_regrown (S.out.get 4 2 rfl rfl)
      refine seg_next ?_
      simp only [opsAt, List.filterMap_nil]
      refine wpQuiet_nil ?_
      intro K hK
      refine loud_op rfl rfl ?_
      go_simp
      refine (rCheck_any _ t _ ⟨_, _, rfl, HSN.out.below S.out.bel, HSP.out.below S.out.bel⟩).mono ?_
      rintro e wx2 ⟨rfl, hb⟩
      rw [HCH.out]
      have S := Lib.hid (S.out.call hb)
      refine hK _ _ hb ?_
      clear hK K hb p0 p1 p2 q0 q1 q2
      have p0 := cell_regrown (S.out.get 0 0 rfl rfl)
      have p1 := cell_regrown (S.out.get 0 1 rfl rfl)
      have p2 := cell_regrown (S.out.get 0 2 rfl rfl)
      have q0 := cell_regrown (S.out.get 4 0 rfl rfl)
      have q1 := cell_regrown (S.out.get 4 1 rfl rfl)
      have q2 := cell_regrown (S.out.get 4 2 rfl rfl)
      refine seg_next ?_
      simp only [opsAt, List.filterMap_cons, List.filterMap_nil, List.getElem?_toArray, List.getElem?_cons_succ, List.getElem?_cons_zero]
      repeat (first | go_big_quiet_step (fail) | quiet_step (fail))
      refine wpQuiet_nil ?_
      intro K hK
      refine loud_op rfl rfl ?_
      go_simp
      refine (lSame_any _ _ t _ ⟨_, _, rfl, S.out.row 2 rfl, S.out.row 3 rfl⟩ ⟨_, _, rfl, HSN.out.below S.out.bel, HSP.out.below S.out.bel⟩).mono ?_
      rintro e wx3 ⟨rfl, hb⟩
      have S := Lib.hid (S.out.call hb)
      refine hK _ _ hb ?_
      clear hK K hb p0 p1 p2 q0 q1 q2
      have p0 := cell_regrown (S.out.get 0 0 rfl rfl)
      have p1 := cell_regrown (S.out.get 0 1 rfl rfl)
      have p2 := cell_regrown (S.out.get 0 2 rfl rfl)
      have q0 := cell_regrown (S.out.get 4 0 rfl rfl)
      have q1 := cell_regrown (S.out.get 4 1 rfl rfl)
      have q2 := cell_regrown (S.out.get 4 2 rfl rfl)
      refine seg_next ?_
      simp only [opsAt, List.filterMap_cons, List.filterMap_nil, List.getElem?_toArray, List.getElem?_cons_succ, List.getElem?_cons_zero]
      repeat (first | go_big_quiet_step (fail) | quiet_step (fail))
      refine wpQuiet_nil ?_
      intro K hK
      refine loud_op rfl rfl ?_
      go_simp
      refine (sameInts_any _ _ l l _ (S.out.ints 1 rfl) (HL.out.below S.out.bel) (by omega) (by omega)).mono ?_
      rintro e wx4 ⟨rfl, hb⟩
      rw [show decide (l = l) = true by simp]
      have S := Lib.hid (S.out.call hb)
      refine hK _ _ hb ?_
      clear hK K hb p0 p1 p2 q0 q1 q2
      have p0 := cell_regrown (S.out.get 0 0 rfl rfl)
      have p1 := cell_regrown (S.out.get 0 1 rfl rfl)
      have p2 := cell_regrown (S.out.get 0 2 rfl rfl)
      have q0 := cell_regrown (S.out.get 4 0 rfl rfl)
      have q1 := cell_regrown (S.out.get 4 1 rfl rfl)
      have q2 := cell_regrown (S.out.get 4 2 rfl rfl)
      refine seg_next ?_
      simp only [opsAt, List.filterMap_cons, List.filterMap_nil, List.getElem?_toArray, List.getElem?_cons_succ, List.getElem?_cons_zero]
      repeat (first | go_big_quiet_step (fail) | quiet_step (fail))
      refine wpQuiet_nil ?_
      intro K hK
      refine loud_op rfl rfl ?_
      go_simp
      refine (works_any _).mono ?_
      rintro e wx5 ⟨rfl, hb⟩
      have S := Lib.hid (S.out.call hb)
      refine hK _ _ hb ?_
      clear hK K hb p0 p1 p2 q0 q1 q2
      have p0 := cell_regrown (S.out.get 0 0 rfl rfl)
      have p1 := cell_regrown (S.out.get 0 1 rfl rfl)
      have p2 := cell_regrown (S.out.get 0 2 rfl rfl)
      have q0 := cell_regrown (S.out.get 4 0 rfl rfl)
      have q1 := cell_regrown (S.out.get 4 1 rfl rfl)
      have q2 := cell_regrown (S.out.get 4 2 rfl rfl)
      clear p0 p1 p2 q0 q1 q2
      refine seg_last ?_
      simp only [opsAt, List.filterMap_cons, List.filterMap_nil, List.getElem?_toArray, List.getElem?_cons_succ, List.getElem?_cons_zero]
      repeat (first | go_big_quiet_step (fail) | quiet_step (fail))
      refine wpQuiet_nil ?_
      go_wp2_with fail
      go_ret
      exact ⟨rfl, S.out.bel⟩
  · have HH := Lib.hid hh
    clear hh
    go_enter Try.func14, Try.ntmps14
    have q_town0 := S.out.get 0 0 rfl rfl
    have q_town1 := S.out.get 0 1 rfl rfl
    have q_town2 := S.out.get 0 2 rfl rfl
    go_wp2_with fail
    refine (huge_any _ t _ ⟨_, _, rfl, HSN.out.below S.out.bel, HSP.out.below S.out.bel⟩).mono ?_
    rintro e w1 ⟨rfl, hb⟩
    rw [HH.out]
    have S := Lib.hid (S.out.call hb)
    clear hb
    clear q_town0 q_town1 q_town2
    have q_town0 := S.out.get 0 0 rfl rfl
    have q_town1 := S.out.get 0 1 rfl rfl
    have q_town2 := S.out.get 0 2 rfl rfl
    go_wp2_with fail
    refine (works_any _).mono ?_
    rintro e w2 ⟨rfl, hb⟩
    have S := Lib.hid (S.out.call hb)
    clear hb
    clear q_town0 q_town1 q_town2
    have q_town0 := S.out.get 0 0 rfl rfl
    have q_town1 := S.out.get 0 1 rfl rfl
    have q_town2 := S.out.get 0 2 rfl rfl
    go_wp2_with fail
    go_ret
    exact ⟨rfl, S.out.bel⟩

end Go.Proofs.Ytplbaijdnpfdgaa
