/- Walks: Check of a town of buckets. -/
import Derived.Test.YtldcehhhndlhdaaGreatDoorC15
import Derived.Test.YtldcehhhndlhdaaGreatDoorC1
import Derived.Test.YtldcehhhndlhdaaGreatDoorC13
namespace Go.Proofs.YtldcehhhndlhdaaGreatDoor
open Go.RowKit Go.Sort Go.Shelf

theorem befY_or (p q : Sp) : befY p q = decide (orL [cmpI p.low q.low, cmpI p.high q.high] < 0) := by
  unfold befY orL orL orL cmpI
  by_cases h1 : p.low < q.low
  · simp [h1]
  · by_cases h2 : q.low < p.low
    · have h3 : ¬ p.low = q.low := by omega
      simp [h1, h2, h3]
    · have h3 : p.low = q.low := by omega
      by_cases h4 : p.high < q.high
      · simp [h3, h4]
      · by_cases h5 : q.high < p.high
        · simp [h3, h4, h5]
        · simp [h3, h4, h5]
theorem bChk_bad {t : BTown} (h : bVal t = false) : bChk t = 30 := by
  unfold bChk bValid
  rw [h]
  simp
theorem bad_h {t : BTown} (h : t.hs.any (badN 9) = true) : bVal t = false := by
  obtain ⟨x, hx, hb⟩ := List.any_eq_true.1 h
  exact bVal_h hx (by simpa [badN] using hb)
theorem bad_w {t : BTown} (h : t.ws.any (badN 20) = true) : bVal t = false := by
  obtain ⟨x, hx, hb⟩ := List.any_eq_true.1 h
  exact bVal_w hx (by simpa [badN] using hb)
theorem not_bad {l : List Int} {m : Int} (h : l.any (badN m) = false) : ∀ x ∈ l, inR x 0 m = true := fun x hx => by
  have := List.any_eq_false.1 h x hx
  simpa [badN] using this

set_option maxRecDepth 20000 in
set_option maxHeartbeats 4000000 in
theorem kCheck_any (v : Value) (t : BTown) (w : World) (hv : BAt w v t) :
    Calls Tryz.prog 31 #[v] w fun e w' => e = .returned (I (bChk t)) ∧ Below w.heap.size w w' := by
  obtain ⟨hv, wv, yv, rfl, hh, hw, hy⟩ := hv
  have hh0 := hh
  have hw0 := hw
  obtain ⟨A1, c1, rfl, hl1, hm1, hc1⟩ := hh.open_
  obtain ⟨A2, c2, rfl, hl2, hm2, hc2⟩ := hw.open_
  obtain ⟨A3, c3, rfl, hl3, hm3, hc3⟩ := hy.open_
  have n1 : t.hs.length ≤ 9223372036854775807 := by omega
  have n2 : t.ws.length ≤ 9223372036854775807 := by omega
  have n3 : t.ys.length ≤ 9223372036854775807 := by omega
  have HC1 := Lib.hid hc1
  have HC2 := Lib.hid hc2
  have HC3 := Lib.hid hc3
  have HH := Lib.hid hh0
  have HW := Lib.hid hw0
  clear hh hw hy hh0 hw0 hl1 hm1 hc1 hl2 hm2 hc2 hl3 hm3 hc3
  have S := Lib.hid ((St.init w).alloc [.slice A1 t.hs.length c1, .slice A2 t.ws.length c2, .slice A3 t.ys.length c3] 32)
  have q0 := S.out.get 0 0 rfl rfl
  have q1 := S.out.get 0 1 rfl rfl
  have q2 := S.out.get 0 2 rfl rfl
  go_enter Tryz.func31, Tryz.ntmps31
  by_cases h1 : (6 : Int) < (t.hs.length : Int)
  · have HE := Lib.hid (show bChk t = 30 by refine bChk_bad ?_; unfold bVal; rw [decide_eq_false (by omega)]; rfl)
    go_wp2_with fail
    go_ret
    exact ⟨by rw [HE.out]; rfl, S.out.bel⟩
  · by_cases h2 : (5 : Int) < (t.ws.length : Int)
    · have HE := Lib.hid (show bChk t = 30 by refine bChk_bad ?_; unfold bVal; rw [decide_eq_false (p := t.ws.length ≤ 5) (by omega)]; simp)
      go_wp2_with fail
      go_ret
      exact ⟨by rw [HE.out]; rfl, S.out.bel⟩
    · by_cases h3 : (12 : Int) < (t.ys.length : Int)
      · have HE := Lib.hid (show bChk t = 30 by unfold bChk bValid; rw [decide_eq_false (by omega)]; rfl)
        go_wp2_with fail
        go_ret
        exact ⟨by rw [HE.out]; rfl, S.out.bel⟩
      · have HL := Lib.hid (show t.hs.length ≤ 6 ∧ t.ws.length ≤ 5 ∧ t.ys.length ≤ 12 by omega)
        go_wp2_with fail
        clear q0 q1 q2 h1 h2 h3
        refine (kContains1_any _ t.hs _ (HH.out.below S.out.bel)).mono ?_
        rintro e w1 ⟨rfl, hb⟩
        have S := Lib.hid (S.out.call hb)
        clear hb
        cases hb1 : t.hs.any (badN 9)
        · have HO0 := Lib.hid (not_bad hb1)
          clear hb1
          have q1 := S.out.get 0 1 rfl rfl
          go_wp2_with fail
          clear q1
          refine (kContains2_any _ t.ws _ (HW.out.below S.out.bel)).mono ?_
          rintro e w2 ⟨rfl, hb⟩
          have S := Lib.hid (S.out.call hb)
          clear hb
          cases hb2 : t.ws.any (badN 20)
          · have HO1 := Lib.hid (not_bad hb2)
            clear hb2
            have q2 := S.out.get 0 2 rfl rfl
            go_wp2_with fail
            clear q2 HH HW
            go_loopw [32] (fun i wr => ∃ k : Nat, k ≤ t.ys.length ∧ i = I k ∧ Hid (okYs t k) ∧ Hid (St w wr wr.heap.size [.box w.heap.size [.slice A1 t.hs.length c1, .slice A2 t.ws.length c2, .slice A3 t.ys.length c3]])) (fun i _ => t.ys.length - (intOf i).toNat)
            case atStart => exact ⟨0, by omega, rfl, Lib.hid (fun i hi => absurd hi (by omega)), Lib.hid S.out.fix⟩
            case round =>
              clear S
              obtain ⟨k, hk, rfl, HO, S⟩ := hrel
              by_cases hlt : k < t.ys.length
              · obtain ⟨b, o, hA, -, hcell⟩ := HC3.out (by omega)
                subst hA
                have HCE := Lib.hid hcell
                have hki : (k : Int) < (t.ys.length : Int) := by omega
                have q2 := S.out.get 0 2 rfl rfl
                have y0 := keep_cell S.out.bel (hcell k hlt).1
                have y1 := keep_cell S.out.bel (hcell k hlt).2
                clear hcell
                have hsp := spAt_len t.ys k hlt
                obtain ⟨⟨a, c⟩, hx⟩ : ∃ x, t.ys[k] = x := ⟨_, rfl⟩
                rw [hx] at y0 y1 hsp
                dsimp only at y0 y1
                have HSP := Lib.hid hsp
                clear hx hsp
                have S := Lib.hid (S.out.alloc [I a, I c] 47)
                go_wp2_with fail
                clear q2 y0 y1
                cases h1 : inR a 0 ((t.hs.length : Int) - 1)
                · have HF := Lib.hid (show okY t k = false by unfold okY isH3; rw [HSP.out, h1]; rfl)
                  refine wp_region_seg [([0, 1, 2], 3), ([4, 5, 6, 7, 8], 9), ([10, 11, 12, 13, 14, 15, 16, 17, 18, 19, 20, 21, 22], 23)] [24, 25, 26] [] 27 (by kernel_rfl) (by kernel_rfl) ?_
                  intro KQ hKQ w8 hb
                  have S := Lib.hid (S.out.call hb)
                  clear hb
                  have q0 := cell_regrown (S.out.get 1 0 rfl rfl)
                  have q1 := cell_regrown (S.out.get 1 1 rfl rfl)
                  have q2 := cell_regrown (S.out.get 1 2 rfl rfl)
                  have p0 := cell_regrown (S.out.get 0 0 rfl rfl)
                  have p1 := cell_regrown (S.out.get 0 1 rfl rfl)
                  refine seg_next ?_
                  simp only [opsAt, List.filterMap_cons, List.filterMap_nil, List.getElem?_toArray, List.getElem?_cons_succ, List.getElem?_cons_zero]
                  show wpQuiet _ _ _ _ [_, _, _] _
                  repeat (first | go_big_quiet_step (fail) | quiet_step (fail))
                  refine wpQuiet_nil ?_
                  intro K hK
                  refine loud_op rfl rfl ?_
                  go_simp
                  refine (kIsHouse_any a A1 A2 (some ⟨b, o, none⟩) _ _ _ _ _ _ _ (by have := HL.out; omega)).mono ?_
                  rintro e wk ⟨rfl, hb⟩
                  rw [h1]
                  have S := Lib.hid (S.out.call hb)
                  refine hK _ _ hb ?_
                  clear hK K hb q0 q1 q2 p0 p1
                  clear h1
                  refine seg_next ?_
                  simp only [opsAt, List.filterMap_cons, List.filterMap_nil, List.getElem?_toArray, List.getElem?_cons_succ, List.getElem?_cons_zero]
                  show wpQuiet _ _ _ _ [_, _, _, _, _] _
                  repeat (first | go_big_quiet_step (fail) | quiet_step (fail))
                  refine wpQuiet_nil ?_
                  intro K hK
                  refine loud_skip rfl rfl ?_
                  go_simp
                  refine hK _ _ (Below.refl _ _) ?_
                  clear hK K
                  refine seg_next ?_
                  simp only [opsAt, List.filterMap_cons, List.filterMap_nil, List.getElem?_toArray, List.getElem?_cons_succ, List.getElem?_cons_zero]
                  show wpQuiet _ _ _ _ [_, _, _, _, _, _, _, _, _, _, _, _, _] _
                  repeat (first | go_big_quiet_step (fail) | quiet_step (fail))
                  refine wpQuiet_nil ?_
                  intro K hK
                  refine loud_skip rfl rfl ?_
                  go_simp
                  refine hK _ _ (Below.refl _ _) ?_
                  clear hK K
                  refine seg_last ?_
                  simp only [opsAt, List.filterMap_cons, List.filterMap_nil, List.getElem?_toArray, List.getElem?_cons_succ, List.getElem?_cons_zero]
                  show wpQuiet _ _ _ _ [_, _, _] _
                  repeat (first | go_big_quiet_step (fail) | quiet_step (fail))
                  refine wpQuiet_nil ?_
                  have HE := Lib.hid (show bChk t = 30 from bChk_bad (bVal_y hlt HF.out))
                  go_wp2_with fail
                  go_ret
                  exact ⟨by rw [HE.out]; rfl, S.out.bel⟩
                · cases h2 : inR c 0 ((t.ws.length : Int) - 1)
                  · have HF := Lib.hid (show okY t k = false by unfold okY isH3 isW3; rw [HSP.out, h1, h2]; rfl)
                    refine wp_region_seg [([0, 1, 2], 3), ([4, 5, 6, 7, 8], 9), ([10, 11, 12, 13, 14, 15, 16, 17, 18, 19, 20, 21, 22], 23)] [24, 25, 26] [] 27 (by kernel_rfl) (by kernel_rfl) ?_
                    intro KQ hKQ w8 hb
                    have S := Lib.hid (S.out.call hb)
                    clear hb
                    have q0 := cell_regrown (S.out.get 1 0 rfl rfl)
                    have q1 := cell_regrown (S.out.get 1 1 rfl rfl)
                    have q2 := cell_regrown (S.out.get 1 2 rfl rfl)
                    have p0 := cell_regrown (S.out.get 0 0 rfl rfl)
                    have p1 := cell_regrown (S.out.get 0 1 rfl rfl)
                    refine seg_next ?_
                    simp only [opsAt, List.filterMap_cons, List.filterMap_nil, List.getElem?_toArray, List.getElem?_cons_succ, List.getElem?_cons_zero]
                    show wpQuiet _ _ _ _ [_, _, _] _
                    repeat (first | go_big_quiet_step (fail) | quiet_step (fail))
                    refine wpQuiet_nil ?_
                    intro K hK
                    refine loud_op rfl rfl ?_
                    go_simp
                    refine (kIsHouse_any a A1 A2 (some ⟨b, o, none⟩) _ _ _ _ _ _ _ (by have := HL.out; omega)).mono ?_
                    rintro e wk ⟨rfl, hb⟩
                    rw [h1]
                    have S := Lib.hid (S.out.call hb)
                    refine hK _ _ hb ?_
                    clear hK K hb q0 q1 q2 p0 p1
                    clear h1
                    have q0 := cell_regrown (S.out.get 1 0 rfl rfl)
                    have q1 := cell_regrown (S.out.get 1 1 rfl rfl)
                    have q2 := cell_regrown (S.out.get 1 2 rfl rfl)
                    have p0 := cell_regrown (S.out.get 0 0 rfl rfl)
                    have p1 := cell_regrown (S.out.get 0 1 rfl rfl)
                    refine seg_next ?_
                    simp only [opsAt, List.filterMap_cons, List.filterMap_nil, List.getElem?_toArray, List.getElem?_cons_succ, List.getElem?_cons_zero]
                    show wpQuiet _ _ _ _ [_, _, _, _, _] _
                    repeat (first | go_big_quiet_step (fail) | quiet_step (fail))
                    refine wpQuiet_nil ?_
                    intro K hK
                    refine loud_op rfl rfl ?_
                    go_simp
                    refine (kIsWell_any c A1 A2 (some ⟨b, o, none⟩) _ _ _ _ _ _ _ (by have := HL.out; omega)).mono ?_
                    rintro e wk ⟨rfl, hb⟩
                    rw [h2]
                    have S := Lib.hid (S.out.call hb)
                    refine hK _ _ hb ?_
                    clear hK K hb q0 q1 q2 p0 p1
                    clear h2
                    refine seg_next ?_
                    simp only [opsAt, List.filterMap_cons, List.filterMap_nil, List.getElem?_toArray, List.getElem?_cons_succ, List.getElem?_cons_zero]
                    show wpQuiet _ _ _ _ [_, _, _, _, _, _, _, _, _, _, _, _, _] _
                    repeat (first | go_big_quiet_step (fail) | quiet_step (fail))
                    refine wpQuiet_nil ?_
                    intro K hK
                    refine loud_skip rfl rfl ?_
                    go_simp
                    refine hK _ _ (Below.refl _ _) ?_
                    clear hK K
                    refine seg_last ?_
                    simp only [opsAt, List.filterMap_cons, List.filterMap_nil, List.getElem?_toArray, List.getElem?_cons_succ, List.getElem?_cons_zero]
                    show wpQuiet _ _ _ _ [_, _, _] _
                    repeat (first | go_big_quiet_step (fail) | quiet_step (fail))
                    refine wpQuiet_nil ?_
                    have HE := Lib.hid (show bChk t = 30 from bChk_bad (bVal_y hlt HF.out))
                    go_wp2_with fail
                    go_ret
                    exact ⟨by rw [HE.out]; rfl, S.out.bel⟩
                  · by_cases h0 : k = 0
                    · have HN := Lib.hid (show okYs t (k + 1) from fun i hi => by
                        have e : i = k := by omega
                        subst e
                        unfold okY isH3 isW3
                        rw [HSP.out, h1, h2]
                        simp [h0])
                      have h0i : ¬ (0 : Int) < (k : Int) := by omega
                      refine wp_region_seg [([0, 1, 2], 3), ([4, 5, 6, 7, 8], 9), ([10, 11, 12, 13, 14, 15, 16, 17, 18, 19, 20, 21, 22], 23)] [24, 25, 26] [] 27 (by kernel_rfl) (by kernel_rfl) ?_
                      intro KQ hKQ w8 hb
                      have S := Lib.hid (S.out.call hb)
                      clear hb
                      have q0 := cell_regrown (S.out.get 1 0 rfl rfl)
                      have q1 := cell_regrown (S.out.get 1 1 rfl rfl)
                      have q2 := cell_regrown (S.out.get 1 2 rfl rfl)
                      have p0 := cell_regrown (S.out.get 0 0 rfl rfl)
                      have p1 := cell_regrown (S.out.get 0 1 rfl rfl)
                      refine seg_next ?_
                      simp only [opsAt, List.filterMap_cons, List.filterMap_nil, List.getElem?_toArray, List.getElem?_cons_succ, List.getElem?_cons_zero]
                      show wpQuiet _ _ _ _ [_, _, _] _
                      repeat (first | go_big_quiet_step (fail) | quiet_step (fail))
                      refine wpQuiet_nil ?_
                      intro K hK
                      refine loud_op rfl rfl ?_
                      go_simp
                      refine (kIsHouse_any a A1 A2 (some ⟨b, o, none⟩) _ _ _ _ _ _ _ (by have := HL.out; omega)).mono ?_
                      rintro e wk ⟨rfl, hb⟩
                      rw [h1]
                      have S := Lib.hid (S.out.call hb)
                      refine hK _ _ hb ?_
                      clear hK K hb q0 q1 q2 p0 p1
                      clear h1
                      have q0 := cell_regrown (S.out.get 1 0 rfl rfl)
                      have q1 := cell_regrown (S.out.get 1 1 rfl rfl)
                      have q2 := cell_regrown (S.out.get 1 2 rfl rfl)
                      have p0 := cell_regrown (S.out.get 0 0 rfl rfl)
                      have p1 := cell_regrown (S.out.get 0 1 rfl rfl)
                      refine seg_next ?_
                      simp only [opsAt, List.filterMap_cons, List.filterMap_nil, List.getElem?_toArray, List.getElem?_cons_succ, List.getElem?_cons_zero]
                      show wpQuiet _ _ _ _ [_, _, _, _, _] _
                      repeat (first | go_big_quiet_step (fail) | quiet_step (fail))
                      refine wpQuiet_nil ?_
                      intro K hK
                      refine loud_op rfl rfl ?_
                      go_simp
                      refine (kIsWell_any c A1 A2 (some ⟨b, o, none⟩) _ _ _ _ _ _ _ (by have := HL.out; omega)).mono ?_
                      rintro e wk ⟨rfl, hb⟩
                      rw [h2]
                      have S := Lib.hid (S.out.call hb)
                      refine hK _ _ hb ?_
                      clear hK K hb q0 q1 q2 p0 p1
                      clear h2
                      refine seg_next ?_
                      simp only [opsAt, List.filterMap_cons, List.filterMap_nil, List.getElem?_toArray, List.getElem?_cons_succ, List.getElem?_cons_zero]
                      show wpQuiet _ _ _ _ [_, _, _, _, _, _, _, _, _, _, _, _, _] _
                      repeat (first | go_big_quiet_step (fail) | quiet_step (fail))
                      refine wpQuiet_nil ?_
                      intro K hK
                      refine loud_skip rfl rfl ?_
                      go_simp
                      refine hK _ _ (Below.refl _ _) ?_
                      clear hK K
                      refine seg_last ?_
                      simp only [opsAt, List.filterMap_cons, List.filterMap_nil, List.getElem?_toArray, List.getElem?_cons_succ, List.getElem?_cons_zero]
                      show wpQuiet _ _ _ _ [_, _, _] _
                      repeat (first | go_big_quiet_step (fail) | quiet_step (fail))
                      refine wpQuiet_nil ?_
                      clear h0i
                      go_wp2_with fail
                      have S := Lib.hid S.out.tail
                      go_roundw
                      case rel => exact ⟨k + 1, by omega, by go_num, HN, Lib.hid S.out.fix⟩
                      case measure => first | (simp [intOf]; done) | (simp [intOf]; omega)
                    · have hp : k - 1 < t.ys.length := by omega
                      have hsq := spAt_len t.ys (k - 1) hp
                      have z0 := (HCE.out (k - 1) hp).1
                      have z1 := (HCE.out (k - 1) hp).2
                      obtain ⟨⟨a', c'⟩, hx⟩ : ∃ x, t.ys[k - 1] = x := ⟨_, rfl⟩
                      rw [hx] at z0 z1 hsq
                      dsimp only at z0 z1
                      obtain ⟨j, rfl⟩ : ∃ j, k = j + 1 := ⟨k - 1, by omega⟩
                      rw [Nat.add_sub_cancel] at z0 z1 hsq
                      have HSQ := Lib.hid hsq
                      have Z0 := Lib.hid z0
                      have Z1 := Lib.hid z1
                      clear hx hsq z0 z1 hp
                      have h0i : (0 : Int) < ((j + 1 : Nat) : Int) := by omega
                      have hji : (j : Int) < (t.ys.length : Int) := by omega
                      have ws : IntKind.i64.wrap (((j + 1 : Nat) : Int) - 1) = (j : Int) := by rw [show ((j + 1 : Nat) : Int) - 1 = (j : Int) by omega]; exact IntWalk.i64_in _ (by omega)
                      have ws2 : IntKind.i64.wrap ((j : Int) + 1 - 1) = (j : Int) := by rw [show (j : Int) + 1 - 1 = (j : Int) by omega]; exact IntWalk.i64_in _ (by omega)
                      have ws3 : IntKind.i64.wrap (j : Int) = (j : Int) := IntWalk.i64_in _ (by omega)
                      obtain ⟨r, hr⟩ : ∃ r, orL [cmpI a' a, cmpI c' c] = r := ⟨_, rfl⟩
                      have hbo := befY_or ⟨a', c'⟩ ⟨a, c⟩
                      dsimp only at hbo
                      rw [hr] at hbo
                      have HR := Lib.hid hr
                      clear hr
                      cases h3 : befY ⟨a', c'⟩ ⟨a, c⟩
                      · have HF := Lib.hid (show okY t (j + 1) = false by
                          unfold okY isH3 isW3
                          rw [HSP.out, h1, h2, Nat.add_sub_cancel, HSQ.out, h3]
                          simp)
                        have hneg : 0 ≤ r := by rw [h3] at hbo; have := of_decide_eq_false hbo.symm; omega
                        clear hbo h3
                        refine wp_region_seg [([0, 1, 2], 3), ([4, 5, 6, 7, 8], 9), ([10, 11, 12, 13, 14, 15, 16, 17, 18, 19, 20, 21, 22], 23)] [24, 25, 26] [] 27 (by kernel_rfl) (by kernel_rfl) ?_
                        intro KQ hKQ w8 hb
                        have S := Lib.hid (S.out.call hb)
                        clear hb
                        have q0 := cell_regrown (S.out.get 1 0 rfl rfl)
                        have q1 := cell_regrown (S.out.get 1 1 rfl rfl)
                        have q2 := cell_regrown (S.out.get 1 2 rfl rfl)
                        have p0 := cell_regrown (S.out.get 0 0 rfl rfl)
                        have p1 := cell_regrown (S.out.get 0 1 rfl rfl)
                        refine seg_next ?_
                        simp only [opsAt, List.filterMap_cons, List.filterMap_nil, List.getElem?_toArray, List.getElem?_cons_succ, List.getElem?_cons_zero]
                        show wpQuiet _ _ _ _ [_, _, _] _
                        repeat (first | go_big_quiet_step (fail) | quiet_step (fail))
                        refine wpQuiet_nil ?_
                        intro K hK
                        refine loud_op rfl rfl ?_
                        go_simp
                        refine (kIsHouse_any a A1 A2 (some ⟨b, o, none⟩) _ _ _ _ _ _ _ (by have := HL.out; omega)).mono ?_
                        rintro e wk ⟨rfl, hb⟩
                        rw [h1]
                        have S := Lib.hid (S.out.call hb)
                        refine hK _ _ hb ?_
                        clear hK K hb q0 q1 q2 p0 p1
                        clear h1
                        have q0 := cell_regrown (S.out.get 1 0 rfl rfl)
                        have q1 := cell_regrown (S.out.get 1 1 rfl rfl)
                        have q2 := cell_regrown (S.out.get 1 2 rfl rfl)
                        have p0 := cell_regrown (S.out.get 0 0 rfl rfl)
                        have p1 := cell_regrown (S.out.get 0 1 rfl rfl)
                        refine seg_next ?_
                        simp only [opsAt, List.filterMap_cons, List.filterMap_nil, List.getElem?_toArray, List.getElem?_cons_succ, List.getElem?_cons_zero]
                        show wpQuiet _ _ _ _ [_, _, _, _, _] _
                        repeat (first | go_big_quiet_step (fail) | quiet_step (fail))
                        refine wpQuiet_nil ?_
                        intro K hK
                        refine loud_op rfl rfl ?_
                        go_simp
                        refine (kIsWell_any c A1 A2 (some ⟨b, o, none⟩) _ _ _ _ _ _ _ (by have := HL.out; omega)).mono ?_
                        rintro e wk ⟨rfl, hb⟩
                        rw [h2]
                        have S := Lib.hid (S.out.call hb)
                        refine hK _ _ hb ?_
                        clear hK K hb q0 q1 q2 p0 p1
                        clear h2
                        have q0 := cell_regrown (S.out.get 1 0 rfl rfl)
                        have q1 := cell_regrown (S.out.get 1 1 rfl rfl)
                        have q2 := cell_regrown (S.out.get 1 2 rfl rfl)
                        have p0 := cell_regrown (S.out.get 0 0 rfl rfl)
                        have p1 := cell_regrown (S.out.get 0 1 rfl rfl)
                        have z0 := cell_regrown (keep_cell S.out.bel Z0.out)
                        have z1 := cell_regrown (keep_cell S.out.bel Z1.out)
                        refine seg_next ?_
                        simp only [opsAt, List.filterMap_cons, List.filterMap_nil, List.getElem?_toArray, List.getElem?_cons_succ, List.getElem?_cons_zero]
                        show wpQuiet _ _ _ _ [_, _, _, _, _, _, _, _, _, _, _, _, _] _
                        repeat (first | go_big_quiet_step (fail) | quiet_step (fail))
                        refine wpQuiet_nil ?_
                        intro K hK
                        refine loud_op rfl rfl ?_
                        go_simp
                        refine (order_any a' c' a c _).mono ?_
                        rintro e wk ⟨rfl, hb⟩
                        rw [HR.out]
                        have S := Lib.hid (S.out.call hb)
                        refine hK _ _ hb ?_
                        clear hK K hb q0 q1 q2 p0 p1
                        clear z0 z1
                        refine seg_last ?_
                        simp only [opsAt, List.filterMap_cons, List.filterMap_nil, List.getElem?_toArray, List.getElem?_cons_succ, List.getElem?_cons_zero]
                        show wpQuiet _ _ _ _ [_, _, _] _
                        repeat (first | go_big_quiet_step (fail) | quiet_step (fail))
                        refine wpQuiet_nil ?_
                        clear h0i hji ws ws2 ws3 hneg
                        have HE := Lib.hid (show bChk t = 30 from bChk_bad (bVal_y hlt HF.out))
                        go_wp2_with fail
                        go_ret
                        exact ⟨by rw [HE.out]; rfl, S.out.bel⟩
                      · have HN := Lib.hid (show okYs t (j + 1 + 1) from fun i hi => by
                          by_cases e : i = j + 1
                          · subst e
                            unfold okY isH3 isW3
                            rw [HSP.out, h1, h2, Nat.add_sub_cancel, HSQ.out, h3]
                            simp
                          · exact HO.out i (by omega))
                        have hneg : ¬ 0 ≤ r := by rw [h3] at hbo; have := of_decide_eq_true hbo.symm; omega
                        clear hbo h3
                        refine wp_region_seg [([0, 1, 2], 3), ([4, 5, 6, 7, 8], 9), ([10, 11, 12, 13, 14, 15, 16, 17, 18, 19, 20, 21, 22], 23)] [24, 25, 26] [] 27 (by kernel_rfl) (by kernel_rfl) ?_
                        intro KQ hKQ w8 hb
                        have S := Lib.hid (S.out.call hb)
                        clear hb
                        have q0 := cell_regrown (S.out.get 1 0 rfl rfl)
                        have q1 := cell_regrown (S.out.get 1 1 rfl rfl)
                        have q2 := cell_regrown (S.out.get 1 2 rfl rfl)
                        have p0 := cell_regrown (S.out.get 0 0 rfl rfl)
                        have p1 := cell_regrown (S.out.get 0 1 rfl rfl)
                        refine seg_next ?_
                        simp only [opsAt, List.filterMap_cons, List.filterMap_nil, List.getElem?_toArray, List.getElem?_cons_succ, List.getElem?_cons_zero]
                        show wpQuiet _ _ _ _ [_, _, _] _
                        repeat (first | go_big_quiet_step (fail) | quiet_step (fail))
                        refine wpQuiet_nil ?_
                        intro K hK
                        refine loud_op rfl rfl ?_
                        go_simp
                        refine (kIsHouse_any a A1 A2 (some ⟨b, o, none⟩) _ _ _ _ _ _ _ (by have := HL.out; omega)).mono ?_
                        rintro e wk ⟨rfl, hb⟩
                        rw [h1]
                        have S := Lib.hid (S.out.call hb)
                        refine hK _ _ hb ?_
                        clear hK K hb q0 q1 q2 p0 p1
                        clear h1
                        have q0 := cell_regrown (S.out.get 1 0 rfl rfl)
                        have q1 := cell_regrown (S.out.get 1 1 rfl rfl)
                        have q2 := cell_regrown (S.out.get 1 2 rfl rfl)
                        have p0 := cell_regrown (S.out.get 0 0 rfl rfl)
                        have p1 := cell_regrown (S.out.get 0 1 rfl rfl)
                        refine seg_next ?_
                        simp only [opsAt, List.filterMap_cons, List.filterMap_nil, List.getElem?_toArray, List.getElem?_cons_succ, List.getElem?_cons_zero]
                        show wpQuiet _ _ _ _ [_, _, _, _, _] _
                        repeat (first | go_big_quiet_step (fail) | quiet_step (fail))
                        refine wpQuiet_nil ?_
                        intro K hK
                        refine loud_op rfl rfl ?_
                        go_simp
                        refine (kIsWell_any c A1 A2 (some ⟨b, o, none⟩) _ _ _ _ _ _ _ (by have := HL.out; omega)).mono ?_
                        rintro e wk ⟨rfl, hb⟩
                        rw [h2]
                        have S := Lib.hid (S.out.call hb)
                        refine hK _ _ hb ?_
                        clear hK K hb q0 q1 q2 p0 p1
                        clear h2
                        have q0 := cell_regrown (S.out.get 1 0 rfl rfl)
                        have q1 := cell_regrown (S.out.get 1 1 rfl rfl)
                        have q2 := cell_regrown (S.out.get 1 2 rfl rfl)
                        have p0 := cell_regrown (S.out.get 0 0 rfl rfl)
                        have p1 := cell_regrown (S.out.get 0 1 rfl rfl)
                        have z0 := cell_regrown (keep_cell S.out.bel Z0.out)
                        have z1 := cell_regrown (keep_cell S.out.bel Z1.out)
                        refine seg_next ?_
                        simp only [opsAt, List.filterMap_cons, List.filterMap_nil, List.getElem?_toArray, List.getElem?_cons_succ, List.getElem?_cons_zero]
                        show wpQuiet _ _ _ _ [_, _, _, _, _, _, _, _, _, _, _, _, _] _
                        repeat (first | go_big_quiet_step (fail) | quiet_step (fail))
                        refine wpQuiet_nil ?_
                        intro K hK
                        refine loud_op rfl rfl ?_
                        go_simp
                        refine (order_any a' c' a c _).mono ?_
                        rintro e wk ⟨rfl, hb⟩
                        rw [HR.out]
                        have S := Lib.hid (S.out.call hb)
                        refine hK _ _ hb ?_
                        clear hK K hb q0 q1 q2 p0 p1
                        clear z0 z1
                        refine seg_last ?_
                        simp only [opsAt, List.filterMap_cons, List.filterMap_nil, List.getElem?_toArray, List.getElem?_cons_succ, List.getElem?_cons_zero]
                        show wpQuiet _ _ _ _ [_, _, _] _
                        repeat (first | go_big_quiet_step (fail) | quiet_step (fail))
                        refine wpQuiet_nil ?_
                        clear h0i hji ws ws2 ws3 hneg
                        go_wp2_with fail
                        have S := Lib.hid S.out.tail
                        go_roundw
                        case rel => exact ⟨j + 1 + 1, by omega, by go_num, HN, Lib.hid S.out.fix⟩
                        case measure => first | (simp [intOf]; done) | (simp [intOf]; omega)
              · have hki : ¬ (k : Int) < (t.ys.length : Int) := by omega
                have q2 := S.out.get 0 2 rfl rfl
                have HE := Lib.hid (show bChk t = 0 by unfold bChk bValid; rw [decide_eq_true HL.out.2.2, bVal_ok HL.out.1 HL.out.2.1 HO0.out HO1.out fun i hi => HO.out i (by omega)]; rfl)
                go_wp2_with fail
                go_ret
                exact ⟨by rw [HE.out]; rfl, S.out.bel⟩
          · have HE := Lib.hid (show bChk t = 30 from bChk_bad (bad_w hb2))
            clear hb2
            go_wp2_with fail
            go_ret
            exact ⟨by rw [HE.out]; rfl, S.out.bel⟩
        · have HE := Lib.hid (show bChk t = 30 from bChk_bad (bad_h hb1))
          clear hb1
          go_wp2_with fail
          go_ret
          exact ⟨by rw [HE.out]; rfl, S.out.bel⟩

end Go.Proofs.YtldcehhhndlhdaaGreatDoor
/- Walks: dear. -/
namespace Go.Proofs.YtldcehhhndlhdaaGreatDoor
open Go.RowKit Go.Sort Go.Shelf

set_option maxRecDepth 20000 in
set_option maxHeartbeats 800000 in
theorem dear_any (n : Int) (w : World) (hn : n ≤ 10) :
    Calls Tryz.prog 103 #[I n] w fun e w' => e = .returned (I (Bk.dear n)) ∧ w' = w := by
  obtain ⟨N, hN⟩ : ∃ N, n.toNat = N := ⟨_, rfl⟩
  have hN10 : N ≤ 10 := by omega
  go_enter Tryz.func103, Tryz.ntmps103
  go_wp2_with fail
  go_loopw [3, 5] (fun m i wr => ∃ k : Nat, k ≤ N ∧ i = I k ∧ m = I (Bk.dearN k) ∧ Hid (wr = w)) (fun m i _ => N - (intOf i).toNat)
  case atStart => exact ⟨0, by omega, rfl, rfl, Lib.hid rfl⟩
  case round =>
    obtain ⟨k, hk, rfl, rfl, hw⟩ := hrel
    by_cases hlt : k < N
    · have hki : (k : Int) < n := by omega
      have h1 := Bk.dearN_mono (show k ≤ 10 by omega)
      have h2 := Bk.dearN_pos k
      have h3 : Bk.dearN 10 = 282475249000 := by unfold Bk.dearN; rfl
      have h4 := Bk.dearN_succ k
      have w1 : IntKind.i64.wrap (Bk.dearN k * 7) = Bk.dearN (k + 1) := by rw [h4, Int.mul_comm]; exact IntWalk.i64_in _ (by omega)
      clear h1 h2 h3 h4
      go_wp2_with fail
      go_roundw
      case rel => exact ⟨k + 1, by omega, by go_num, rfl, hw⟩
      case measure => first | (simp [intOf]; done) | (simp [intOf]; omega)
    · have hki : ¬ (k : Int) < n := by omega
      have HE := Lib.hid (show Bk.dear n = Bk.dearN k by unfold Bk.dear; rw [hN]; congr 1; omega)
      go_wp2_with fail
      go_ret
      exact ⟨by rw [HE.out]; rfl, hw.out⟩

end Go.Proofs.YtldcehhhndlhdaaGreatDoor
/- Walks: sorted$1, arcs$1. -/
namespace Go.Proofs.YtldcehhhndlhdaaGreatDoor
open Go.RowKit Go.Sort Go.Shelf

set_option maxRecDepth 20000 in
set_option maxHeartbeats 400000 in
theorem sorted1_any (a b : Int) (w : World) :
    Calls Tryz.prog 76 #[I a, I b] w fun e w' => e = .returned (I (cmpI b a)) ∧ w = w' := by
  go_enter Tryz.func76, Tryz.ntmps76
  go_wp2_with fail
  refine (compare_any b a _).mono ?_
  rintro e w1 ⟨rfl, hb⟩
  subst hb
  go_wp2_with fail
  go_ret
  exact ⟨rfl, rfl⟩

set_option maxRecDepth 20000 in
set_option maxHeartbeats 800000 in
theorem bonus_any (is : Bool) (bt B : Nat) (sg : Int) (w : World) (hp : w.cell? ⟨bt, 0, none⟩ = some (.pointer (some ⟨B, 0, none⟩))) (hs : w.cell? ⟨B, 5, none⟩ = some (I sg)) :
    Calls Tryz.prog 102 #[.bool is, .pointer (some ⟨bt, 0, none⟩)] w fun e w' => e = .returned (I (if is then sg else 0)) ∧ w = w' := by
  go_enter Tryz.func102, Tryz.ntmps102
  cases is
  · go_wp2_with fail
    go_ret
    exact ⟨rfl, rfl⟩
  · go_wp2_with fail
    go_ret
    exact ⟨rfl, rfl⟩

end Go.Proofs.YtldcehhhndlhdaaGreatDoor
/- Walks of the reference: IsOne, ask, known, Level, Lowest, Highest, Over. -/
namespace Go.Proofs.YtldcehhhndlhdaaGreatDoor
open Go.RowKit Go.Sort

/-- The spans of a town that has a truth, in new memory. -/
def RetKnown (t : Twn) (w : World) (e : Ending) (w' : World) : Prop := ∃ l v, e = .returned (.tuple #[v, I 0]) ∧ (Exact t l ∧ ∀ w : Nat, (w : Int) < t.wells → lvl (closeM (baseM t)) w = spAt l w) ∧ w'.ownsRow w.heap.size 42 2 v l.length (spCells l) ∧ Below w.heap.size w w'
theorem openE_ask {t : Twn} {is : Bool} (h : openE t is = 0) : askE t is = 0 ∧ openE t true = 0 ∧ ∃ l, spansR t = some l := by
  obtain ⟨h1, h2, h3⟩ := openE_zero' h
  subst h2
  refine ⟨by simp [askE, h1], h, ?_⟩
  have := says_spans (valid_vl h1) (baseM_says (valid_vl h1))
  rw [h3] at this
  exact Option.isSome_iff_exists.1 this.symm
theorem openE_ask' {t : Twn} {is : Bool} (h : openE t is ≠ 0) : askE t is ≠ 0 ∧ askE t is = openE t is ∨ askE t is = 0 ∧ openE t is = 3 ∧ valid t = true ∧ spansR t = none := by
  unfold openE askE at *
  cases hv : valid t
  · simp
  · cases is
    · simp
    · have := says_spans (valid_vl hv) (baseM_says (valid_vl hv))
      simp only [hv, if_true] at h ⊢
      split at h
      · exact absurd rfl h
      · rename_i hd
        rw [Bool.not_eq_true] at hd
        rw [hd] at this
        refine .inr ⟨trivial, by rw [hd]; rfl, trivial, ?_⟩
        cases hs : spansR t
        · rfl
        · rw [hs] at this; cases this
theorem exact_lvl {t : Twn} (h : openE t true = 0) {l : List Sp} (hs : spansR t = some l) : Exact t l ∧ ∀ w : Nat, (w : Int) < t.wells → lvl (closeM (baseM t)) w = spAt l w := by
  obtain ⟨hv, ht, -⟩ := open_exact h
  have he := spansR_some hv hs
  exact ⟨he, fun w hw => lvl_exact hv ht he hw⟩

theorem openE_inv {t : Twn} (h : valid t = false) (is : Bool) : openE t is = 10 := by simp [openE, h]
end Go.Proofs.YtldcehhhndlhdaaGreatDoor
