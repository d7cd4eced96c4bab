/- Walks of the reference: Rising, Earlier. -/
import Derived.Test.YtplbaijdnpfdgaaV9
namespace Go.Proofs.Ytplbaijdnpfdgaa
open Go.RowKit Go.Sort

theorem up_not {l : List Int} {lo hi : Int} {k : Nat} (hk : k < l.length) (h : ¬ (inR (l.getD k 0) lo hi = true ∧ (0 < k → l.getD (k - 1) 0 < l.getD k 0))) : upB l lo hi = false := decide_eq_false fun H => h (H k hk)
set_option maxRecDepth 20000 in
set_option maxHeartbeats 1000000 in
theorem rising_any (v : Value) (l : List Int) (lo hi : Int) (w : World) (hr : Ints w v l) (hlen : l.length ≤ 1000) :
    Calls Try.prog 38 #[v, I lo, I hi] w fun e w' => e = .returned (.bool (upB l lo hi)) ∧ Below w.heap.size w w' := by
  obtain ⟨A, c, rfl, hnc, hcm, hc⟩ := id hr.open_
  obtain ⟨-, hc3⟩ := hr.at_get rfl
  have HC := Lib.hid hc3; clear hc hr hc3
  go_enter Try.func38, Try.ntmps38
  go_wp2_with fail
  go_loopw [7] (fun i wr => ∃ k : Nat, k ≤ l.length ∧ i = I k ∧ Hid (∀ i, i < k → inR (l.getD i 0) lo hi = true ∧ (0 < i → l.getD (i - 1) 0 < l.getD i 0)) ∧ Hid (Below w.heap.size w wr)) (fun i _ => l.length - (intOf i).toNat)
  case atStart => exact ⟨0, by omega, rfl, Lib.hid (fun i hi' => by omega), Lib.hid (Below.refl _ _)⟩
  case round =>
    obtain ⟨k, hk, rfl, hn, hw⟩ := hrel
    by_cases hlt : k < l.length
    · obtain ⟨b, o, rfl, hbl, hcell⟩ := HC.out (by omega)
      have hx0 := hcell k hlt
      obtain ⟨x, hx⟩ : ∃ x, l.getD k 0 = x := ⟨_, rfl⟩
      rw [hx] at hx0
      have HX0 := Lib.hid hx0
      clear hx0
      cases h1 : inR x lo hi
      · clear hcell
        have HI := Lib.hid h1
        have HN := Lib.hid (show upB l lo hi = false from up_not hlt fun H => by rw [hx, h1] at H; cases H.1)
        clear h1 hx
        go_wp2_with fail
        refine wp_region_treeB (.node [0, 1, 2, 3, 4, 5] [6] (fun _ => .last [7, 8, 9, 10, 11, 12, 13, 14, 15, 16, 17, 18, 19, 20, 21, 22, 23] [])) 24 (by kernel_rfl) (by kernel_rfl) ?_
        intro KQ hKQ wq hb
        have x0 := cell_regrown (keep_cell (bto hw.out hb) HX0.out)
        refine treeB_node ?_
        simp only [opsAt, List.filterMap_cons, List.filterMap_nil, List.getElem?_toArray, List.getElem?_cons_succ, List.getElem?_cons_zero]
        repeat (first | go_big_quiet_step (fail) | quiet_step (fail))
        refine wpQuiet_nil ?_
        refine all_one ?_
        intro K hK
        refine loud_op rfl rfl ?_
        go_simp
        refine (rWithin_any _ _ _ _).mono ?_
        rintro e w' ⟨rfl, rfl⟩
        rw [HI.out]
        refine hK _ _ (Below.refl _ _) ?_
        clear hK K
        refine treeB_last ?_
        simp only [opsAt, List.filterMap_cons, List.filterMap_nil, List.getElem?_toArray, List.getElem?_cons_succ, List.getElem?_cons_zero]
        refine (show wpQuiet _ _ _ _ [_, _, _, _, _, _, _, _, _, _, _, _, _, _, _, _, _] _ from ?_)
        repeat (go_big_quiet_step (fail))
        refine wpQuiet_nil ?_
        go_wp2_with fail
        go_ret
        exact ⟨by rw [HN.out]; rfl, bto hw.out hb⟩
      · by_cases hk0 : k = 0
        · clear hcell
          have HI := Lib.hid h1
          have HN := Lib.hid (show ∀ i, i < k + 1 → inR (l.getD i 0) lo hi = true ∧ (0 < i → l.getD (i - 1) 0 < l.getD i 0) from fun i hi' => by
            obtain rfl : i = k := by omega
            exact ⟨by rw [hx]; exact h1, fun h => by omega⟩)
          have k0n : ¬ 0 < k := by omega
          clear h1 hx hk0
          go_wp2_with fail
          refine wp_region_treeB (.node [0, 1, 2, 3, 4, 5] [6] (fun _ => .last [7, 8, 9, 10, 11, 12, 13, 14, 15, 16, 17, 18, 19, 20, 21, 22, 23] [])) 24 (by kernel_rfl) (by kernel_rfl) ?_
          intro KQ hKQ wq hb
          have x0 := cell_regrown (keep_cell (bto hw.out hb) HX0.out)
          refine treeB_node ?_
          simp only [opsAt, List.filterMap_cons, List.filterMap_nil, List.getElem?_toArray, List.getElem?_cons_succ, List.getElem?_cons_zero]
          repeat (first | go_big_quiet_step (fail) | quiet_step (fail))
          refine wpQuiet_nil ?_
          refine all_one ?_
          intro K hK
          refine loud_op rfl rfl ?_
          go_simp
          refine (rWithin_any _ _ _ _).mono ?_
          rintro e w' ⟨rfl, rfl⟩
          rw [HI.out]
          refine hK _ _ (Below.refl _ _) ?_
          clear hK K
          refine treeB_last ?_
          simp only [opsAt, List.filterMap_cons, List.filterMap_nil, List.getElem?_toArray, List.getElem?_cons_succ, List.getElem?_cons_zero]
          refine (show wpQuiet _ _ _ _ [_, _, _, _, _, _, _, _, _, _, _, _, _, _, _, _, _] _ from ?_)
          repeat (go_big_quiet_step (fail))
          refine wpQuiet_nil ?_
          go_wp2_with fail
          go_roundw
          case rel => exact ⟨k + 1, by omega, by go_num, HN, Lib.hid (bto hw.out hb)⟩
          case measure => first | (simp [intOf]; done) | (simp [intOf]; omega)
        · have hx1 := hcell (k - 1) (by omega)
          clear hcell
          obtain ⟨y, hy⟩ : ∃ y, l.getD (k - 1) 0 = y := ⟨_, rfl⟩
          rw [hy] at hx1
          have HX1 := Lib.hid hx1
          clear hx1
          by_cases hxy : x ≤ y
          · have HN := Lib.hid (show upB l lo hi = false from up_not hlt fun H => by have := H.2 (by omega); rw [hx, hy] at this; omega)
            have HI := Lib.hid h1
            clear h1 hx hy
            have k0n : 0 < k := by omega
            have k2 : (k : Int) - 1 = ((k - 1 : Nat) : Int) := by omega
            go_wp2_with fail
            refine wp_region_treeB (.node [0, 1, 2, 3, 4, 5] [6] (fun _ => .last [7, 8, 9, 10, 11, 12, 13, 14, 15, 16, 17, 18, 19, 20, 21, 22, 23] [])) 24 (by kernel_rfl) (by kernel_rfl) ?_
            intro KQ hKQ wq hb
            have x0 := cell_regrown (keep_cell (bto hw.out hb) HX0.out)
            have x1 := cell_regrown (keep_cell (bto hw.out hb) HX1.out)
            refine treeB_node ?_
            simp only [opsAt, List.filterMap_cons, List.filterMap_nil, List.getElem?_toArray, List.getElem?_cons_succ, List.getElem?_cons_zero]
            repeat (first | go_big_quiet_step (fail) | quiet_step (fail))
            refine wpQuiet_nil ?_
            refine all_one ?_
            intro K hK
            refine loud_op rfl rfl ?_
            go_simp
            refine (rWithin_any _ _ _ _).mono ?_
            rintro e w' ⟨rfl, rfl⟩
            rw [HI.out]
            refine hK _ _ (Below.refl _ _) ?_
            clear hK K
            refine treeB_last ?_
            simp only [opsAt, List.filterMap_cons, List.filterMap_nil, List.getElem?_toArray, List.getElem?_cons_succ, List.getElem?_cons_zero]
            refine (show wpQuiet _ _ _ _ [_, _, _, _, _, _, _, _, _, _, _, _, _, _, _, _, _] _ from ?_)
            repeat (go_big_quiet_step (fail))
            refine wpQuiet_nil ?_
            go_wp2_with fail
            go_ret
            exact ⟨by rw [HN.out]; rfl, bto hw.out hb⟩
          · have HN := Lib.hid (show ∀ i, i < k + 1 → inR (l.getD i 0) lo hi = true ∧ (0 < i → l.getD (i - 1) 0 < l.getD i 0) from fun i hi' => by
              by_cases e : i = k
              · subst e; exact ⟨by rw [hx]; exact h1, fun _ => by rw [hx, hy]; omega⟩
              · exact hn.out i (by omega))
            have HI := Lib.hid h1
            clear h1 hx hy
            have k0n : 0 < k := by omega
            have k2 : (k : Int) - 1 = ((k - 1 : Nat) : Int) := by omega
            have k3 : ¬ x ≤ y := by omega
            go_wp2_with fail
            refine wp_region_treeB (.node [0, 1, 2, 3, 4, 5] [6] (fun _ => .last [7, 8, 9, 10, 11, 12, 13, 14, 15, 16, 17, 18, 19, 20, 21, 22, 23] [])) 24 (by kernel_rfl) (by kernel_rfl) ?_
            intro KQ hKQ wq hb
            have x0 := cell_regrown (keep_cell (bto hw.out hb) HX0.out)
            have x1 := cell_regrown (keep_cell (bto hw.out hb) HX1.out)
            refine treeB_node ?_
            simp only [opsAt, List.filterMap_cons, List.filterMap_nil, List.getElem?_toArray, List.getElem?_cons_succ, List.getElem?_cons_zero]
            repeat (first | go_big_quiet_step (fail) | quiet_step (fail))
            refine wpQuiet_nil ?_
            refine all_one ?_
            intro K hK
            refine loud_op rfl rfl ?_
            go_simp
            refine (rWithin_any _ _ _ _).mono ?_
            rintro e w' ⟨rfl, rfl⟩
            rw [HI.out]
            refine hK _ _ (Below.refl _ _) ?_
            clear hK K
            refine treeB_last ?_
            simp only [opsAt, List.filterMap_cons, List.filterMap_nil, List.getElem?_toArray, List.getElem?_cons_succ, List.getElem?_cons_zero]
            refine (show wpQuiet _ _ _ _ [_, _, _, _, _, _, _, _, _, _, _, _, _, _, _, _, _] _ from ?_)
            repeat (go_big_quiet_step (fail))
            refine wpQuiet_nil ?_
            go_wp2_with fail
            go_roundw
            case rel => exact ⟨k + 1, by omega, by go_num, HN, Lib.hid (bto hw.out hb)⟩
            case measure => first | (simp [intOf]; done) | (simp [intOf]; omega)
    · have HE := Lib.hid (show upB l lo hi = true from decide_eq_true fun i hi' => hn.out i (by omega))
      go_wp2_with fail
      go_ret
      exact ⟨by rw [HE.out]; rfl, hw.out⟩

set_option maxRecDepth 20000 in
set_option maxHeartbeats 1000000 in
theorem earlier_any (va vb : Value) (xs ys : List Int) (w : World) (hr : Ints w va xs) (hr' : Ints w vb ys) (hlen : xs.length ≤ 1000) (hlen' : ys.length ≤ 1000) :
    Calls Try.prog 42 #[va, vb] w fun e w' => e = .returned (.bool (earlierL xs ys)) ∧ Below w.heap.size w w' := by
  obtain ⟨A, c, rfl, hac, hcm, ha⟩ := id hr.open_
  obtain ⟨A', c', rfl, hac', hcm', ha'⟩ := id hr'.open_
  obtain ⟨-, hc3⟩ := hr.at_get rfl
  obtain ⟨-, hc4⟩ := hr'.at_get rfl
  have HA := Lib.hid hc3
  have HA' := Lib.hid hc4
  clear ha ha' hr hr' hc3 hc4
  go_enter Try.func42, Try.ntmps42
  go_wp2_with fail
  go_loopw [5] (fun i wr => ∃ k : Nat, k ≤ xs.length ∧ i = I k ∧ Hid (earlierL xs ys = earlierL (xs.drop k) (ys.drop k)) ∧ Hid (Below w.heap.size w wr)) (fun i _ => xs.length - (intOf i).toNat)
  case atStart => exact ⟨0, by omega, rfl, Lib.hid rfl, Lib.hid (Below.refl _ _)⟩
  case round =>
    obtain ⟨k, hk, rfl, hj, hbw⟩ := hrel
    by_cases hlt : k < xs.length
    · by_cases hlt' : k < ys.length
      · obtain ⟨b, o, rfl, hbl, hcell⟩ := HA.out (by omega)
        obtain ⟨b', o', rfl, hbl', hcell'⟩ := HA'.out (by omega)
        have z0 := hcell k hlt
        have z1 := hcell' k hlt'
        clear hcell hcell'
        have e1 := earlier_drop (xs := xs) (ys := ys) hlt hlt'
        have e2 := earlier_here (xs := xs) (ys := ys) hlt hlt'
        obtain ⟨x, hx⟩ : ∃ x, xs.getD k 0 = x := ⟨_, rfl⟩
        obtain ⟨y, hy⟩ : ∃ y, ys.getD k 0 = y := ⟨_, rfl⟩
        rw [hx] at z0 e1 e2
        rw [hy] at z1 e1 e2
        clear hx hy
        have Z0 := Lib.hid z0
        have Z1 := Lib.hid z1
        clear z0 z1
        have y0 := cell_regrown (keep_cell hbw.out Z0.out)
        have y1 := cell_regrown (keep_cell hbw.out Z1.out)
        have q1 : (k : Int) < (xs.length : Int) := by omega
        have q2 : (k : Int) < (ys.length : Int) := by omega
        by_cases he : x = y
        · have hq : (x != y) = false := by simp [he]
          have HE := Lib.hid (hj.out.trans (e1 he))
          clear he e1 e2
          go_wp2_with fail
          refine wp_region_ext (by kernel_rfl) (by kernel_rfl) ?_
          repeat (first | go_big_quiet_step (fail) | quiet_step (fail))
          refine wpQuiet_nil ?_
          clear y0 y1
          intro w1 hb1
          go_wp2_with fail
          go_roundw
          case rel => exact ⟨k + 1, by omega, by go_num, HE, Lib.hid (bto hbw.out hb1)⟩
          case measure => first | (simp [intOf]; done) | (simp [intOf]; omega)
        · have hq : (x != y) = true := by simp [he]
          have HE := Lib.hid (hj.out.trans (e2 he))
          clear he e1 e2
          go_wp2_with fail
          refine wp_region_ext (by kernel_rfl) (by kernel_rfl) ?_
          repeat (first | go_big_quiet_step (fail) | quiet_step (fail))
          refine wpQuiet_nil ?_
          clear y0 y1
          intro w1 hb1
          go_wp2_with fail
          have y0 := cell_regrown (keep_cell (bto hbw.out hb1) Z0.out)
          have y1 := cell_regrown (keep_cell (bto hbw.out hb1) Z1.out)
          refine wp_region_ext (by kernel_rfl) (by kernel_rfl) ?_
          repeat (first | go_big_quiet_step (fail) | quiet_step (fail))
          refine wpQuiet_nil ?_
          clear y0 y1
          intro w2 hb2
          go_wp2_with fail
          go_ret
          exact ⟨by rw [HE.out]; rfl, bto (bto hbw.out hb1) hb2⟩
      · have HE := Lib.hid (hj.out.trans (earlier_end (fun h => hlt' h.2)))
        go_wp2_with fail
        go_ret
        exact ⟨by rw [HE.out]; rfl, hbw.out⟩
    · have HE := Lib.hid (hj.out.trans (earlier_end (fun h => hlt h.1)))
      go_wp2_with fail
      go_ret
      exact ⟨by rw [HE.out]; rfl, hbw.out⟩

end Go.Proofs.Ytplbaijdnpfdgaa
