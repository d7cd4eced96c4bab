/- Walks: the reference's Valid and Check of a town of buckets. -/
import Derived.Test.YtldcehhhndlhdaaGreatDoorC12
import Derived.Test.YtldcehhhndlhdaaGreatDoorC11
import Derived.Test.YtldcehhhndlhdaaGreatDoorC13
namespace Go.Proofs.YtldcehhhndlhdaaGreatDoor
open Go.RowKit Go.Sort Go.Shelf

theorem bVal_h {t : BTown} {x : Int} (hx : x ∈ t.hs) (h : inR x 0 9 = false) : bVal t = false := by
  have e : t.hs.all (fun n => inR n 0 9) = false := List.all_eq_false.2 ⟨x, hx, by simp [h]⟩
  unfold bVal
  rw [e]
  simp
theorem bVal_w {t : BTown} {x : Int} (hx : x ∈ t.ws) (h : inR x 0 20 = false) : bVal t = false := by
  have e : t.ws.all (fun n => inR n 0 20) = false := List.all_eq_false.2 ⟨x, hx, by simp [h]⟩
  unfold bVal
  rw [e]
  simp
theorem bVal_y {t : BTown} {k : Nat} (hk : k < t.ys.length) (h : okY t k = false) : bVal t = false := by
  have e : (List.range t.ys.length).all (okY t) = false := List.all_eq_false.2 ⟨k, List.mem_range.2 hk, by simp [h]⟩
  unfold bVal
  rw [e]
  simp
theorem bVal_ok {t : BTown} (h1 : t.hs.length ≤ 6) (h2 : t.ws.length ≤ 5) (h3 : ∀ x ∈ t.hs, inR x 0 9 = true) (h4 : ∀ x ∈ t.ws, inR x 0 20 = true) (h5 : ∀ i, i < t.ys.length → okY t i = true) : bVal t = true := by
  unfold bVal
  rw [decide_eq_true h1, decide_eq_true h2, List.all_eq_true.2 h3, List.all_eq_true.2 h4, List.all_eq_true.2 fun i hi => h5 i (List.mem_range.1 hi)]
  rfl
theorem bVal_spec {t : BTown} (h : bVal t = true) : t.hs.length ≤ 6 ∧ t.ws.length ≤ 5 ∧ (∀ x ∈ t.hs, 0 ≤ x ∧ x ≤ 9) ∧ (∀ x ∈ t.ws, 0 ≤ x ∧ x ≤ 20) ∧ ∀ i, i < t.ys.length → okY t i = true := by
  unfold bVal at h
  simp only [Bool.and_eq_true, decide_eq_true_eq] at h
  obtain ⟨⟨⟨⟨h1, h2⟩, h3⟩, h4⟩, h5⟩ := h
  exact ⟨h1, h2, fun x hx => inR_iff.1 (List.all_eq_true.1 h3 x hx), fun x hx => inR_iff.1 (List.all_eq_true.1 h4 x hx), fun i hi => List.all_eq_true.1 h5 i (List.mem_range.2 hi)⟩
/-- So far each of them is as it must be. -/
def okAll (l : List Int) (m : Int) (k : Nat) : Prop := ∀ x ∈ l.take k, inR x 0 m = true
theorem okAll_zero (l : List Int) (m : Int) : okAll l m 0 := fun x hx => by simp at hx
theorem okAll_succ {l : List Int} {m : Int} {k : Nat} (h : okAll l m k) (hk : k < l.length) (hx : inR l[k] 0 m = true) : okAll l m (k + 1) := fun x hm => by
  rw [List.take_succ_eq_append_getElem hk, List.mem_append] at hm
  rcases hm with hm | hm
  · exact h x hm
  · rw [List.mem_singleton.1 hm]; exact hx
theorem okAll_end {l : List Int} {m : Int} {k : Nat} (h : okAll l m k) (hk : ¬ k < l.length) : ∀ x ∈ l, inR x 0 m = true := by
  have := h
  unfold okAll at this
  rwa [List.take_of_length_le (by omega)] at this
def okYs (t : BTown) (k : Nat) : Prop := ∀ i, i < k → okY t i = true

set_option maxRecDepth 20000 in
set_option maxHeartbeats 4000000 in
theorem rValid3_any (v : Value) (t : BTown) (w : World) (hv : BAt w v t) :
    Calls Tryz.prog 25 #[v] w fun e w' => e = .returned (.bool (bVal t)) ∧ Below w.heap.size w w' := by
  obtain ⟨hv, wv, yv, rfl, hh, hw, hy⟩ := hv
  obtain ⟨A1, c1, rfl, hl1, hm1, hc1⟩ := hh.open_
  obtain ⟨A2, c2, rfl, hl2, hm2, hc2⟩ := hw.open_
  obtain ⟨A3, c3, rfl, hl3, hm3, hc3⟩ := hy.open_
  have n1 : t.hs.length ≤ 9223372036854775807 := by omega
  have n2 : t.ws.length ≤ 9223372036854775807 := by omega
  have n3 : t.ys.length ≤ 9223372036854775807 := by omega
  have HC1 := Lib.hid hc1
  have HC2 := Lib.hid hc2
  have HC3 := Lib.hid hc3
  clear hh hw hy hl1 hm1 hc1 hl2 hm2 hc2 hl3 hm3 hc3
  have S := Lib.hid ((St.init w).alloc [.slice A1 t.hs.length c1, .slice A2 t.ws.length c2, .slice A3 t.ys.length c3] 32)
  have q0 := S.out.get 0 0 rfl rfl
  have q1 := S.out.get 0 1 rfl rfl
  go_enter Tryz.func25, Tryz.ntmps25
  by_cases h1 : (6 : Int) < (t.hs.length : Int)
  · have HE := Lib.hid (show bVal t = false by unfold bVal; rw [decide_eq_false (by omega)]; rfl)
    go_wp2_with fail
    go_ret
    exact ⟨by rw [HE.out]; rfl, S.out.bel⟩
  · by_cases h2 : (5 : Int) < (t.ws.length : Int)
    · have HE := Lib.hid (show bVal t = false by unfold bVal; rw [decide_eq_false (p := t.ws.length ≤ 5) (by omega)]; simp)
      go_wp2_with fail
      go_ret
      exact ⟨by rw [HE.out]; rfl, S.out.bel⟩
    · have HL := Lib.hid (show t.hs.length ≤ 6 ∧ t.ws.length ≤ 5 by omega)
      go_wp2_with fail
      clear q0 q1 h1 h2
      go_loopw [3] (fun i wr => ∃ k : Nat, k ≤ t.hs.length ∧ i = I k ∧ Hid (okAll t.hs 9 k) ∧ Hid (St w wr wr.heap.size [.box w.heap.size [.slice A1 t.hs.length c1, .slice A2 t.ws.length c2, .slice A3 t.ys.length c3]])) (fun i _ => t.hs.length - (intOf i).toNat)
      case atStart => exact ⟨0, by omega, rfl, Lib.hid (okAll_zero _ _), Lib.hid S.out.fix⟩
      case round =>
        clear S
        obtain ⟨k, hk, rfl, HO, S⟩ := hrel
        by_cases hlt : k < t.hs.length
        · obtain ⟨b, o, hA, -, hcell⟩ := HC1.out (by omega)
          subst hA
          have hki : (k : Int) < (t.hs.length : Int) := by omega
          have q := S.out.get 0 0 rfl rfl
          have y0 := keep_cell S.out.bel (hcell k hlt)
          clear hcell
          have hmem := List.getElem_mem hlt
          have HN := Lib.hid (okAll_succ HO.out hlt)
          obtain ⟨x, hx⟩ : ∃ x, t.hs[k] = x := ⟨_, rfl⟩
          rw [hx] at y0 hmem HN
          have HM := Lib.hid hmem
          clear hx hmem
          go_wp2_with fail
          clear q y0
          refine (rWithin3_any x 0 9 _).mono ?_
          rintro e w5 ⟨rfl, hb⟩
          subst hb
          cases hin : inR x 0 9
          · have HE := Lib.hid (show bVal t = false from bVal_h HM.out hin)
            clear hin
            go_wp2_with fail
            go_ret
            exact ⟨by rw [HE.out]; rfl, S.out.bel⟩
          · have HN := Lib.hid (HN.out hin)
            clear hin
            go_wp2_with fail
            go_roundw
            case rel => exact ⟨k + 1, by omega, by go_num, HN, Lib.hid S.out.fix⟩
            case measure => first | (simp [intOf]; done) | (simp [intOf]; omega)
        · have hki : ¬ (k : Int) < (t.hs.length : Int) := by omega
          have q := S.out.get 0 0 rfl rfl
          have HO0 := Lib.hid (okAll_end HO.out hlt)
          go_wp2_with fail
          clear q hki hlt hk HO
          go_loopw [4] (fun i wr => ∃ k : Nat, k ≤ t.ws.length ∧ i = I k ∧ Hid (okAll t.ws 20 k) ∧ Hid (St w wr wr.heap.size [.box w.heap.size [.slice A1 t.hs.length c1, .slice A2 t.ws.length c2, .slice A3 t.ys.length c3]])) (fun i _ => t.ws.length - (intOf i).toNat)
          case atStart => exact ⟨0, by omega, rfl, Lib.hid (okAll_zero _ _), Lib.hid S.out.fix⟩
          case round =>
            clear S
            obtain ⟨k, hk, rfl, HO, S⟩ := hrel
            by_cases hlt : k < t.ws.length
            · obtain ⟨b, o, hA, -, hcell⟩ := HC2.out (by omega)
              subst hA
              have hki : (k : Int) < (t.ws.length : Int) := by omega
              have q := S.out.get 0 1 rfl rfl
              have y0 := keep_cell S.out.bel (hcell k hlt)
              clear hcell
              have hmem := List.getElem_mem hlt
              have HN := Lib.hid (okAll_succ HO.out hlt)
              obtain ⟨x, hx⟩ : ∃ x, t.ws[k] = x := ⟨_, rfl⟩
              rw [hx] at y0 hmem HN
              have HM := Lib.hid hmem
              clear hx hmem
              go_wp2_with fail
              clear q y0
              refine (rWithin3_any x 0 20 _).mono ?_
              rintro e w5 ⟨rfl, hb⟩
              subst hb
              cases hin : inR x 0 20
              · have HE := Lib.hid (show bVal t = false from bVal_w HM.out hin)
                clear hin
                go_wp2_with fail
                go_ret
                exact ⟨by rw [HE.out]; rfl, S.out.bel⟩
              · have HN := Lib.hid (HN.out hin)
                clear hin
                go_wp2_with fail
                go_roundw
                case rel => exact ⟨k + 1, by omega, by go_num, HN, Lib.hid S.out.fix⟩
                case measure => first | (simp [intOf]; done) | (simp [intOf]; omega)
            · have hki : ¬ (k : Int) < (t.ws.length : Int) := by omega
              have q := S.out.get 0 1 rfl rfl
              have HO1 := Lib.hid (okAll_end HO.out hlt)
              go_wp2_with fail
              clear q hki hlt hk HO
              go_loopw [5] (fun i wr => ∃ k : Nat, k ≤ t.ys.length ∧ i = I k ∧ Hid (okYs t k) ∧ Hid (St w wr wr.heap.size [.box w.heap.size [.slice A1 t.hs.length c1, .slice A2 t.ws.length c2, .slice A3 t.ys.length c3]])) (fun i _ => t.ys.length - (intOf i).toNat)
              case atStart => exact ⟨0, by omega, rfl, Lib.hid (fun i hi => absurd hi (by omega)), Lib.hid S.out.fix⟩
              case round =>
                clear S
                obtain ⟨k, hk, rfl, HO, S⟩ := hrel
                by_cases hlt : k < t.ys.length
                · obtain ⟨b, o, hA, -, hcell⟩ := HC3.out (by omega)
                  subst hA
                  have HCE := Lib.hid hcell
                  have hki : (k : Int) < (t.ys.length : Int) := by omega
                  have q2 := S.out.get 0 2 rfl rfl
                  have y0 := keep_cell S.out.bel (hcell k hlt).1
                  have y1 := keep_cell S.out.bel (hcell k hlt).2
                  clear hcell
                  have hsp := spAt_len t.ys k hlt
                  obtain ⟨⟨a, c⟩, hx⟩ : ∃ x, t.ys[k] = x := ⟨_, rfl⟩
                  rw [hx] at y0 y1 hsp
                  dsimp only at y0 y1
                  have HSP := Lib.hid hsp
                  clear hx hsp
                  have S := Lib.hid (S.out.alloc [I a, I c] 47)
                  go_wp2_with fail
                  clear q2 y0 y1
                  cases h1 : inR a 0 ((t.hs.length : Int) - 1)
                  · have HF := Lib.hid (show okY t k = false by unfold okY isH3; rw [HSP.out, h1]; rfl)
                    refine wp_region_seg [([0, 1, 2], 3), ([4, 5, 6, 7, 8], 9), ([10, 11, 12, 13, 14, 15, 16, 17, 18, 19, 20, 21, 22], 23)] [24, 25, 26] [] 27 (by kernel_rfl) (by kernel_rfl) ?_
                    intro KQ hKQ w8 hb
                    have S := Lib.hid (S.out.call hb)
                    clear hb
                    have q0 := cell_regrown (S.out.get 1 0 rfl rfl)
                    have q1 := cell_regrown (S.out.get 1 1 rfl rfl)
                    have q2 := cell_regrown (S.out.get 1 2 rfl rfl)
                    have p0 := cell_regrown (S.out.get 0 0 rfl rfl)
                    have p1 := cell_regrown (S.out.get 0 1 rfl rfl)
                    refine seg_next ?_
                    simp only [opsAt, List.filterMap_cons, List.filterMap_nil, List.getElem?_toArray, List.getElem?_cons_succ, List.getElem?_cons_zero]
                    show wpQuiet _ _ _ _ [_, _, _] _
                    repeat (first | go_big_quiet_step (fail) | quiet_step (fail))
                    refine wpQuiet_nil ?_
                    intro K hK
                    refine loud_op rfl rfl ?_
                    go_simp
                    refine (rIsHouse3_any a A1 A2 (some ⟨b, o, none⟩) _ _ _ _ _ _ _ (by have := HL.out; omega)).mono ?_
                    rintro e wk ⟨rfl, hb⟩
                    rw [h1]
                    have S := Lib.hid (S.out.call hb)
                    refine hK _ _ hb ?_
                    clear hK K hb q0 q1 q2 p0 p1
                    clear h1
                    refine seg_next ?_
                    simp only [opsAt, List.filterMap_cons, List.filterMap_nil, List.getElem?_toArray, List.getElem?_cons_succ, List.getElem?_cons_zero]
                    show wpQuiet _ _ _ _ [_, _, _, _, _] _
                    repeat (first | go_big_quiet_step (fail) | quiet_step (fail))
                    refine wpQuiet_nil ?_
                    intro K hK
                    refine loud_skip rfl rfl ?_
                    go_simp
                    refine hK _ _ (Below.refl _ _) ?_
                    clear hK K
                    refine seg_next ?_
                    simp only [opsAt, List.filterMap_cons, List.filterMap_nil, List.getElem?_toArray, List.getElem?_cons_succ, List.getElem?_cons_zero]
                    show wpQuiet _ _ _ _ [_, _, _, _, _, _, _, _, _, _, _, _, _] _
                    repeat (first | go_big_quiet_step (fail) | quiet_step (fail))
                    refine wpQuiet_nil ?_
                    intro K hK
                    refine loud_skip rfl rfl ?_
                    go_simp
                    refine hK _ _ (Below.refl _ _) ?_
                    clear hK K
                    refine seg_last ?_
                    simp only [opsAt, List.filterMap_cons, List.filterMap_nil, List.getElem?_toArray, List.getElem?_cons_succ, List.getElem?_cons_zero]
                    show wpQuiet _ _ _ _ [_, _, _] _
                    repeat (first | go_big_quiet_step (fail) | quiet_step (fail))
                    refine wpQuiet_nil ?_
                    have HE := Lib.hid (show bVal t = false from bVal_y hlt HF.out)
                    go_wp2_with fail
                    go_ret
                    exact ⟨by rw [HE.out]; rfl, S.out.bel⟩
                  · cases h2 : inR c 0 ((t.ws.length : Int) - 1)
                    · have HF := Lib.hid (show okY t k = false by unfold okY isH3 isW3; rw [HSP.out, h1, h2]; rfl)
                      refine wp_region_seg [([0, 1, 2], 3), ([4, 5, 6, 7, 8], 9), ([10, 11, 12, 13, 14, 15, 16, 17, 18, 19, 20, 21, 22], 23)] [24, 25, 26] [] 27 (by kernel_rfl) (by kernel_rfl) ?_
                      intro KQ hKQ w8 hb
                      have S := Lib.hid (S.out.call hb)
                      clear hb
                      have q0 := cell_regrown (S.out.get 1 0 rfl rfl)
                      have q1 := cell_regrown (S.out.get 1 1 rfl rfl)
                      have q2 := cell_regrown (S.out.get 1 2 rfl rfl)
                      have p0 := cell_regrown (S.out.get 0 0 rfl rfl)
                      have p1 := cell_regrown (S.out.get 0 1 rfl rfl)
                      refine seg_next ?_
                      simp only [opsAt, List.filterMap_cons, List.filterMap_nil, List.getElem?_toArray, List.getElem?_cons_succ, List.getElem?_cons_zero]
                      show wpQuiet _ _ _ _ [_, _, _] _
                      repeat (first | go_big_quiet_step (fail) | quiet_step (fail))
                      refine wpQuiet_nil ?_
                      intro K hK
                      refine loud_op rfl rfl ?_
                      go_simp
                      refine (rIsHouse3_any a A1 A2 (some ⟨b, o, none⟩) _ _ _ _ _ _ _ (by have := HL.out; omega)).mono ?_
                      rintro e wk ⟨rfl, hb⟩
                      rw [h1]
                      have S := Lib.hid (S.out.call hb)
                      refine hK _ _ hb ?_
                      clear hK K hb q0 q1 q2 p0 p1
                      clear h1
                      have q0 := cell_regrown (S.out.get 1 0 rfl rfl)
                      have q1 := cell_regrown (S.out.get 1 1 rfl rfl)
                      have q2 := cell_regrown (S.out.get 1 2 rfl rfl)
                      have p0 := cell_regrown (S.out.get 0 0 rfl rfl)
                      have p1 := cell_regrown (S.out.get 0 1 rfl rfl)
                      refine seg_next ?_
                      simp only [opsAt, List.filterMap_cons, List.filterMap_nil, List.getElem?_toArray, List.getElem?_cons_succ, List.getElem?_cons_zero]
                      show wpQuiet _ _ _ _ [_, _, _, _, _] _
                      repeat (first | go_big_quiet_step (fail) | quiet_step (fail))
                      refine wpQuiet_nil ?_
                      intro K hK
                      refine loud_op rfl rfl ?_
                      go_simp
                      refine (rIsWell3_any c A1 A2 (some ⟨b, o, none⟩) _ _ _ _ _ _ _ (by have := HL.out; omega)).mono ?_
                      rintro e wk ⟨rfl, hb⟩
                      rw [h2]
                      have S := Lib.hid (S.out.call hb)
                      refine hK _ _ hb ?_
                      clear hK K hb q0 q1 q2 p0 p1
                      clear h2
                      refine seg_next ?_
                      simp only [opsAt, List.filterMap_cons, List.filterMap_nil, List.getElem?_toArray, List.getElem?_cons_succ, List.getElem?_cons_zero]
                      show wpQuiet _ _ _ _ [_, _, _, _, _, _, _, _, _, _, _, _, _] _
                      repeat (first | go_big_quiet_step (fail) | quiet_step (fail))
                      refine wpQuiet_nil ?_
                      intro K hK
                      refine loud_skip rfl rfl ?_
                      go_simp
                      refine hK _ _ (Below.refl _ _) ?_
                      clear hK K
                      refine seg_last ?_
                      simp only [opsAt, List.filterMap_cons, List.filterMap_nil, List.getElem?_toArray, List.getElem?_cons_succ, List.getElem?_cons_zero]
                      show wpQuiet _ _ _ _ [_, _, _] _
                      repeat (first | go_big_quiet_step (fail) | quiet_step (fail))
                      refine wpQuiet_nil ?_
                      have HE := Lib.hid (show bVal t = false from bVal_y hlt HF.out)
                      go_wp2_with fail
                      go_ret
                      exact ⟨by rw [HE.out]; rfl, S.out.bel⟩
                    · by_cases h0 : k = 0
                      · have HN := Lib.hid (show okYs t (k + 1) from fun i hi => by
                          have e : i = k := by omega
                          subst e
                          unfold okY isH3 isW3
                          rw [HSP.out, h1, h2]
                          simp [h0])
                        have h0i : ¬ (0 : Int) < (k : Int) := by omega
                        refine wp_region_seg [([0, 1, 2], 3), ([4, 5, 6, 7, 8], 9), ([10, 11, 12, 13, 14, 15, 16, 17, 18, 19, 20, 21, 22], 23)] [24, 25, 26] [] 27 (by kernel_rfl) (by kernel_rfl) ?_
                        intro KQ hKQ w8 hb
                        have S := Lib.hid (S.out.call hb)
                        clear hb
                        have q0 := cell_regrown (S.out.get 1 0 rfl rfl)
                        have q1 := cell_regrown (S.out.get 1 1 rfl rfl)
                        have q2 := cell_regrown (S.out.get 1 2 rfl rfl)
                        have p0 := cell_regrown (S.out.get 0 0 rfl rfl)
                        have p1 := cell_regrown (S.out.get 0 1 rfl rfl)
                        refine seg_next ?_
                        simp only [opsAt, List.filterMap_cons, List.filterMap_nil, List.getElem?_toArray, List.getElem?_cons_succ, List.getElem?_cons_zero]
                        show wpQuiet _ _ _ _ [_, _, _] _
                        repeat (first | go_big_quiet_step (fail) | quiet_step (fail))
                        refine wpQuiet_nil ?_
                        intro K hK
                        refine loud_op rfl rfl ?_
                        go_simp
                        refine (rIsHouse3_any a A1 A2 (some ⟨b, o, none⟩) _ _ _ _ _ _ _ (by have := HL.out; omega)).mono ?_
                        rintro e wk ⟨rfl, hb⟩
                        rw [h1]
                        have S := Lib.hid (S.out.call hb)
                        refine hK _ _ hb ?_
                        clear hK K hb q0 q1 q2 p0 p1
                        clear h1
                        have q0 := cell_regrown (S.out.get 1 0 rfl rfl)
                        have q1 := cell_regrown (S.out.get 1 1 rfl rfl)
                        have q2 := cell_regrown (S.out.get 1 2 rfl rfl)
                        have p0 := cell_regrown (S.out.get 0 0 rfl rfl)
                        have p1 := cell_regrown (S.out.get 0 1 rfl rfl)
                        refine seg_next ?_
                        simp only [opsAt, List.filterMap_cons, List.filterMap_nil, List.getElem?_toArray, List.getElem?_cons_succ, List.getElem?_cons_zero]
                        show wpQuiet _ _ _ _ [_, _, _, _, _] _
                        repeat (first | go_big_quiet_step (fail) | quiet_step (fail))
                        refine wpQuiet_nil ?_
                        intro K hK
                        refine loud_op rfl rfl ?_
                        go_simp
                        refine (rIsWell3_any c A1 A2 (some ⟨b, o, none⟩) _ _ _ _ _ _ _ (by have := HL.out; omega)).mono ?_
                        rintro e wk ⟨rfl, hb⟩
                        rw [h2]
                        have S := Lib.hid (S.out.call hb)
                        refine hK _ _ hb ?_
                        clear hK K hb q0 q1 q2 p0 p1
                        clear h2
                        refine seg_next ?_
                        simp only [opsAt, List.filterMap_cons, List.filterMap_nil, List.getElem?_toArray, List.getElem?_cons_succ, List.getElem?_cons_zero]
                        show wpQuiet _ _ _ _ [_, _, _, _, _, _, _, _, _, _, _, _, _] _
                        repeat (first | go_big_quiet_step (fail) | quiet_step (fail))
                        refine wpQuiet_nil ?_
                        intro K hK
                        refine loud_skip rfl rfl ?_
                        go_simp
                        refine hK _ _ (Below.refl _ _) ?_
                        clear hK K
                        refine seg_last ?_
                        simp only [opsAt, List.filterMap_cons, List.filterMap_nil, List.getElem?_toArray, List.getElem?_cons_succ, List.getElem?_cons_zero]
                        show wpQuiet _ _ _ _ [_, _, _] _
                        repeat (first | go_big_quiet_step (fail) | quiet_step (fail))
                        refine wpQuiet_nil ?_
                        clear h0i
                        go_wp2_with fail
                        have S := Lib.hid S.out.tail
                        go_roundw
                        case rel => exact ⟨k + 1, by omega, by go_num, HN, Lib.hid S.out.fix⟩
                        case measure => first | (simp [intOf]; done) | (simp [intOf]; omega)
                      · have hp : k - 1 < t.ys.length := by omega
                        have hsq := spAt_len t.ys (k - 1) hp
                        have z0 := (HCE.out (k - 1) hp).1
                        have z1 := (HCE.out (k - 1) hp).2
                        obtain ⟨⟨a', c'⟩, hx⟩ : ∃ x, t.ys[k - 1] = x := ⟨_, rfl⟩
                        rw [hx] at z0 z1 hsq
                        dsimp only at z0 z1
                        obtain ⟨j, rfl⟩ : ∃ j, k = j + 1 := ⟨k - 1, by omega⟩
                        rw [Nat.add_sub_cancel] at z0 z1 hsq
                        have HSQ := Lib.hid hsq
                        have Z0 := Lib.hid z0
                        have Z1 := Lib.hid z1
                        clear hx hsq z0 z1 hp
                        have h0i : (0 : Int) < ((j + 1 : Nat) : Int) := by omega
                        have hji : (j : Int) < (t.ys.length : Int) := by omega
                        have ws : IntKind.i64.wrap (((j + 1 : Nat) : Int) - 1) = (j : Int) := by rw [show ((j + 1 : Nat) : Int) - 1 = (j : Int) by omega]; exact IntWalk.i64_in _ (by omega)
                        have ws2 : IntKind.i64.wrap ((j : Int) + 1 - 1) = (j : Int) := by rw [show (j : Int) + 1 - 1 = (j : Int) by omega]; exact IntWalk.i64_in _ (by omega)
                        have ws3 : IntKind.i64.wrap (j : Int) = (j : Int) := IntWalk.i64_in _ (by omega)
                        cases h3 : befY ⟨a', c'⟩ ⟨a, c⟩
                        · have HF := Lib.hid (show okY t (j + 1) = false by
                            unfold okY isH3 isW3
                            rw [HSP.out, h1, h2, Nat.add_sub_cancel, HSQ.out, h3]
                            simp)
                          refine wp_region_seg [([0, 1, 2], 3), ([4, 5, 6, 7, 8], 9), ([10, 11, 12, 13, 14, 15, 16, 17, 18, 19, 20, 21, 22], 23)] [24, 25, 26] [] 27 (by kernel_rfl) (by kernel_rfl) ?_
                          intro KQ hKQ w8 hb
                          have S := Lib.hid (S.out.call hb)
                          clear hb
                          have q0 := cell_regrown (S.out.get 1 0 rfl rfl)
                          have q1 := cell_regrown (S.out.get 1 1 rfl rfl)
                          have q2 := cell_regrown (S.out.get 1 2 rfl rfl)
                          have p0 := cell_regrown (S.out.get 0 0 rfl rfl)
                          have p1 := cell_regrown (S.out.get 0 1 rfl rfl)
                          refine seg_next ?_
                          simp only [opsAt, List.filterMap_cons, List.filterMap_nil, List.getElem?_toArray, List.getElem?_cons_succ, List.getElem?_cons_zero]
                          show wpQuiet _ _ _ _ [_, _, _] _
                          repeat (first | go_big_quiet_step (fail) | quiet_step (fail))
                          refine wpQuiet_nil ?_
                          intro K hK
                          refine loud_op rfl rfl ?_
                          go_simp
                          refine (rIsHouse3_any a A1 A2 (some ⟨b, o, none⟩) _ _ _ _ _ _ _ (by have := HL.out; omega)).mono ?_
                          rintro e wk ⟨rfl, hb⟩
                          rw [h1]
                          have S := Lib.hid (S.out.call hb)
                          refine hK _ _ hb ?_
                          clear hK K hb q0 q1 q2 p0 p1
                          clear h1
                          have q0 := cell_regrown (S.out.get 1 0 rfl rfl)
                          have q1 := cell_regrown (S.out.get 1 1 rfl rfl)
                          have q2 := cell_regrown (S.out.get 1 2 rfl rfl)
                          have p0 := cell_regrown (S.out.get 0 0 rfl rfl)
                          have p1 := cell_regrown (S.out.get 0 1 rfl rfl)
                          refine seg_next ?_
                          simp only [opsAt, List.filterMap_cons, List.filterMap_nil, List.getElem?_toArray, List.getElem?_cons_succ, List.getElem?_cons_zero]
                          show wpQuiet _ _ _ _ [_, _, _, _, _] _
                          repeat (first | go_big_quiet_step (fail) | quiet_step (fail))
                          refine wpQuiet_nil ?_
                          intro K hK
                          refine loud_op rfl rfl ?_
                          go_simp
                          refine (rIsWell3_any c A1 A2 (some ⟨b, o, none⟩) _ _ _ _ _ _ _ (by have := HL.out; omega)).mono ?_
                          rintro e wk ⟨rfl, hb⟩
                          rw [h2]
                          have S := Lib.hid (S.out.call hb)
                          refine hK _ _ hb ?_
                          clear hK K hb q0 q1 q2 p0 p1
                          clear h2
                          have q0 := cell_regrown (S.out.get 1 0 rfl rfl)
                          have q1 := cell_regrown (S.out.get 1 1 rfl rfl)
                          have q2 := cell_regrown (S.out.get 1 2 rfl rfl)
                          have p0 := cell_regrown (S.out.get 0 0 rfl rfl)
                          have p1 := cell_regrown (S.out.get 0 1 rfl rfl)
                          have z0 := cell_regrown (keep_cell S.out.bel Z0.out)
                          have z1 := cell_regrown (keep_cell S.out.bel Z1.out)
                          refine seg_next ?_
                          simp only [opsAt, List.filterMap_cons, List.filterMap_nil, List.getElem?_toArray, List.getElem?_cons_succ, List.getElem?_cons_zero]
                          show wpQuiet _ _ _ _ [_, _, _, _, _, _, _, _, _, _, _, _, _] _
                          repeat (first | go_big_quiet_step (fail) | quiet_step (fail))
                          refine wpQuiet_nil ?_
                          intro K hK
                          refine loud_op rfl rfl ?_
                          go_simp
                          refine (rBefore3_any a' c' a c _).mono ?_
                          rintro e wk ⟨rfl, hb⟩
                          rw [h3]
                          have S := Lib.hid (S.out.call hb)
                          refine hK _ _ hb ?_
                          clear hK K hb q0 q1 q2 p0 p1
                          clear z0 z1
                          clear h3
                          refine seg_last ?_
                          simp only [opsAt, List.filterMap_cons, List.filterMap_nil, List.getElem?_toArray, List.getElem?_cons_succ, List.getElem?_cons_zero]
                          show wpQuiet _ _ _ _ [_, _, _] _
                          repeat (first | go_big_quiet_step (fail) | quiet_step (fail))
                          refine wpQuiet_nil ?_
                          clear h0i hji ws ws2 ws3
                          have HE := Lib.hid (show bVal t = false from bVal_y hlt HF.out)
                          go_wp2_with fail
                          go_ret
                          exact ⟨by rw [HE.out]; rfl, S.out.bel⟩
                        · have HN := Lib.hid (show okYs t (j + 1 + 1) from fun i hi => by
                            by_cases e : i = j + 1
                            · subst e
                              unfold okY isH3 isW3
                              rw [HSP.out, h1, h2, Nat.add_sub_cancel, HSQ.out, h3]
                              simp
                            · exact HO.out i (by omega))
                          refine wp_region_seg [([0, 1, 2], 3), ([4, 5, 6, 7, 8], 9), ([10, 11, 12, 13, 14, 15, 16, 17, 18, 19, 20, 21, 22], 23)] [24, 25, 26] [] 27 (by kernel_rfl) (by kernel_rfl) ?_
                          intro KQ hKQ w8 hb
                          have S := Lib.hid (S.out.call hb)
                          clear hb
                          have q0 := cell_regrown (S.out.get 1 0 rfl rfl)
                          have q1 := cell_regrown (S.out.get 1 1 rfl rfl)
                          have q2 := cell_regrown (S.out.get 1 2 rfl rfl)
                          have p0 := cell_regrown (S.out.get 0 0 rfl rfl)
                          have p1 := cell_regrown (S.out.get 0 1 rfl rfl)
                          refine seg_next ?_
                          simp only [opsAt, List.filterMap_cons, List.filterMap_nil, List.getElem?_toArray, List.getElem?_cons_succ, List.getElem?_cons_zero]
                          show wpQuiet _ _ _ _ [_, _, _] _
                          repeat (first | go_big_quiet_step (fail) | quiet_step (fail))
                          refine wpQuiet_nil ?_
                          intro K hK
                          refine loud_op rfl rfl ?_
                          go_simp
                          refine (rIsHouse3_any a A1 A2 (some ⟨b, o, none⟩) _ _ _ _ _ _ _ (by have := HL.out; omega)).mono ?_
                          rintro e wk ⟨rfl, hb⟩
                          rw [h1]
                          have S := Lib.hid (S.out.call hb)
                          refine hK _ _ hb ?_
                          clear hK K hb q0 q1 q2 p0 p1
                          clear h1
                          have q0 := cell_regrown (S.out.get 1 0 rfl rfl)
                          have q1 := cell_regrown (S.out.get 1 1 rfl rfl)
                          have q2 := cell_regrown (S.out.get 1 2 rfl rfl)
                          have p0 := cell_regrown (S.out.get 0 0 rfl rfl)
                          have p1 := cell_regrown (S.out.get 0 1 rfl rfl)
                          refine seg_next ?_
                          simp only [opsAt, List.filterMap_cons, List.filterMap_nil, List.getElem?_toArray, List.getElem?_cons_succ, List.getElem?_cons_zero]
                          show wpQuiet _ _ _ _ [_, _, _, _, _] _
                          repeat (first | go_big_quiet_step (fail) | quiet_step (fail))
                          refine wpQuiet_nil ?_
                          intro K hK
                          refine loud_op rfl rfl ?_
                          go_simp
                          refine (rIsWell3_any c A1 A2 (some ⟨b, o, none⟩) _ _ _ _ _ _ _ (by have := HL.out; omega)).mono ?_
                          rintro e wk ⟨rfl, hb⟩
                          rw [h2]
                          have S := Lib.hid (S.out.call hb)
                          refine hK _ _ hb ?_
                          clear hK K hb q0 q1 q2 p0 p1
                          clear h2
                          have q0 := cell_regrown (S.out.get 1 0 rfl rfl)
                          have q1 := cell_regrown (S.out.get 1 1 rfl rfl)
                          have q2 := cell_regrown (S.out.get 1 2 rfl rfl)
                          have p0 := cell_regrown (S.out.get 0 0 rfl rfl)
                          have p1 := cell_regrown (S.out.get 0 1 rfl rfl)
                          have z0 := cell_regrown (keep_cell S.out.bel Z0.out)
                          have z1 := cell_regrown (keep_cell S.out.bel Z1.out)
                          refine seg_next ?_
                          simp only [opsAt, List.filterMap_cons, List.filterMap_nil, List.getElem?_toArray, List.getElem?_cons_succ, List.getElem?_cons_zero]
                          show wpQuiet _ _ _ _ [_, _, _, _, _, _, _, _, _, _, _, _, _] _
                          repeat (first | go_big_quiet_step (fail) | quiet_step (fail))
                          refine wpQuiet_nil ?_
                          intro K hK
                          refine loud_op rfl rfl ?_
                          go_simp
                          refine (rBefore3_any a' c' a c _).mono ?_
                          rintro e wk ⟨rfl, hb⟩
                          rw [h3]
                          have S := Lib.hid (S.out.call hb)
                          refine hK _ _ hb ?_
                          clear hK K hb q0 q1 q2 p0 p1
                          clear z0 z1
                          clear h3
                          refine seg_last ?_
                          simp only [opsAt, List.filterMap_cons, List.filterMap_nil, List.getElem?_toArray, List.getElem?_cons_succ, List.getElem?_cons_zero]
                          show wpQuiet _ _ _ _ [_, _, _] _
                          repeat (first | go_big_quiet_step (fail) | quiet_step (fail))
                          refine wpQuiet_nil ?_
                          clear h0i hji ws ws2 ws3
                          go_wp2_with fail
                          have S := Lib.hid S.out.tail
                          go_roundw
                          case rel => exact ⟨j + 1 + 1, by omega, by go_num, HN, Lib.hid S.out.fix⟩
                          case measure => first | (simp [intOf]; done) | (simp [intOf]; omega)
                · have hki : ¬ (k : Int) < (t.ys.length : Int) := by omega
                  have q2 := S.out.get 0 2 rfl rfl
                  have HE := Lib.hid (show bVal t = true from bVal_ok HL.out.1 HL.out.2 HO0.out HO1.out fun i hi => HO.out i (by omega))
                  go_wp2_with fail
                  go_ret
                  exact ⟨by rw [HE.out]; rfl, S.out.bel⟩

set_option maxRecDepth 20000 in
set_option maxHeartbeats 2000000 in
theorem rCheck3_any (v : Value) (t : BTown) (w : World) (hv : BAt w v t) :
    Calls Tryz.prog 8 #[v] w fun e w' => e = .returned (I (bChk t)) ∧ Below w.heap.size w w' := by
  obtain ⟨hv, wv, yv, rfl, hh, hw, hy⟩ := hv
  obtain ⟨A1, c1, rfl, -, -, -⟩ := id hh.open_
  obtain ⟨A2, c2, rfl, -, -, -⟩ := id hw.open_
  obtain ⟨A3, c3, rfl, -, -, -⟩ := id hy.open_
  have HH := Lib.hid hh
  have HW := Lib.hid hw
  have HY := Lib.hid hy
  clear hh hw hy
  have S := Lib.hid ((St.init w).alloc [.slice A1 t.hs.length c1, .slice A2 t.ws.length c2, .slice A3 t.ys.length c3] 32)
  have q2 := S.out.get 0 2 rfl rfl
  go_enter Tryz.func8, Tryz.ntmps8
  by_cases h1 : (12 : Int) < (t.ys.length : Int)
  · have HE := Lib.hid (show bChk t = 30 by unfold bChk bValid; rw [decide_eq_false (by omega)]; rfl)
    go_wp2_with fail
    go_ret
    exact ⟨by rw [HE.out]; rfl, S.out.bel⟩
  · have q0 := S.out.get 0 0 rfl rfl
    have q1 := S.out.get 0 1 rfl rfl
    have HL := Lib.hid (show t.ys.length ≤ 12 by omega)
    go_wp2_with fail
    clear q0 q1 q2 h1
    refine (rValid3_any _ t _ ⟨_, _, _, rfl, HH.out.below S.out.bel, HW.out.below S.out.bel, HY.out.below S.out.bel⟩).mono ?_
    rintro e w1 ⟨rfl, hb⟩
    have S := Lib.hid (S.out.call hb)
    clear hb
    cases hv : bVal t
    · have HE := Lib.hid (show bChk t = 30 by unfold bChk bValid; rw [hv]; simp)
      clear hv
      go_wp2_with fail
      go_ret
      exact ⟨by rw [HE.out]; rfl, S.out.bel⟩
    · have HE := Lib.hid (show bChk t = 0 by unfold bChk bValid; rw [hv, decide_eq_true HL.out]; rfl)
      clear hv
      go_wp2_with fail
      go_ret
      exact ⟨by rw [HE.out]; rfl, S.out.bel⟩

end Go.Proofs.YtldcehhhndlhdaaGreatDoor
/- Walks: Far of towns of buckets. -/
namespace Go.Proofs.YtldcehhhndlhdaaGreatDoor
open Go.RowKit Go.Sort Go.Shelf

theorem bChk_zero {t : BTown} (h : bChk t = 0) : bValid t = true := by
  unfold bChk at h
  split at h
  · assumption
  · omega
theorem bValid_spec {t : BTown} (h : bValid t = true) : t.ys.length ≤ 12 ∧ bVal t = true := by
  unfold bValid at h
  simpa using h
/-- The way k: its house and its well, as numbers below. -/
theorem okY_nat {t : BTown} (h : bVal t = true) {k : Nat} (hk : k < t.ys.length) : ∃ a c : Nat, t.ys[k] = ⟨(a : Int), (c : Int)⟩ ∧ a < t.hs.length ∧ c < t.ws.length := by
  have h1 := (bVal_spec h).2.2.2.2 k hk
  unfold okY isH3 isW3 at h1
  simp only [Bool.and_eq_true] at h1
  rw [spAt_len _ _ hk] at h1
  obtain ⟨⟨h2, h3⟩, -⟩ := h1
  have h2 := inR_iff.1 h2
  have h3 := inR_iff.1 h3
  obtain ⟨⟨a, c⟩, hx⟩ : ∃ x, t.ys[k] = x := ⟨_, rfl⟩
  rw [hx] at h2 h3
  dsimp only at h2 h3
  obtain ⟨a, rfl⟩ := Int.eq_ofNat_of_zero_le h2.1
  obtain ⟨c, rfl⟩ := Int.eq_ofNat_of_zero_le h3.1
  exact ⟨a, c, hx, by omega, by omega⟩

set_option maxRecDepth 20000 in
set_option maxHeartbeats 2000000 in
theorem far3_any (v : Value) (t : BTown) (w : World) (hv : BAt w v t) :
    Calls Tryz.prog 9 #[v] w fun e w' => (e = .returned (.bool true) ∨ (hugeB3 t = false ∧ e = .returned (.bool false))) ∧ Below w.heap.size w w' := by
  obtain ⟨hv, wv, yv, rfl, hh, hw, hy⟩ := hv
  obtain ⟨A1, c1, rfl, -, -, -⟩ := id hh.open_
  obtain ⟨A2, c2, rfl, -, -, -⟩ := id hw.open_
  obtain ⟨A3, c3, rfl, -, -, -⟩ := id hy.open_
  have HH := Lib.hid hh
  have HW := Lib.hid hw
  have HY := Lib.hid hy
  clear hh hw hy
  have S := Lib.hid ((St.init w).alloc [.slice A1 t.hs.length c1, .slice A2 t.ws.length c2, .slice A3 t.ys.length c3] 32)
  have q0 := S.out.get 0 0 rfl rfl
  have q1 := S.out.get 0 1 rfl rfl
  have q2 := S.out.get 0 2 rfl rfl
  go_enter Tryz.func9, Tryz.ntmps9
  go_wp2_with fail
  clear q0 q1 q2
  refine (huge3_any _ t _ ⟨_, _, _, rfl, HH.out.below S.out.bel, HW.out.below S.out.bel, HY.out.below S.out.bel⟩).mono ?_
  rintro e w1 ⟨rfl, hb⟩
  have S := Lib.hid (S.out.call hb)
  clear hb
  cases hhu : hugeB3 t
  · have HU := Lib.hid hhu
    clear hhu
    have q0 := S.out.get 0 0 rfl rfl
    have q1 := S.out.get 0 1 rfl rfl
    have q2 := S.out.get 0 2 rfl rfl
    go_wp2_with fail
    clear q0 q1 q2
    refine (rCheck3_any _ t _ ⟨_, _, _, rfl, HH.out.below S.out.bel, HW.out.below S.out.bel, HY.out.below S.out.bel⟩).mono ?_
    rintro e w2 ⟨rfl, hb⟩
    have S := Lib.hid (S.out.call hb)
    clear hb
    cases hva : bValid t
    · rw [show bChk t = 30 from by simp [bChk, hva]]
      clear hva
      go_wp2_with fail
      go_ret
      exact ⟨.inr ⟨HU.out, rfl⟩, S.out.bel⟩
    · rw [show bChk t = 0 from by simp [bChk, hva]]
      have HV := Lib.hid (bValid_spec hva)
      clear hva
      go_wp2_with fail
      obtain ⟨_, _, eA, -, -, hc1⟩ := HH.out.open_
      injection eA with eA _ eC
      subst eA
      subst eC
      obtain ⟨_, _, eA, -, -, hc2⟩ := HW.out.open_
      injection eA with eA _ eC
      subst eA
      subst eC
      obtain ⟨_, _, eA, -, -, hc3⟩ := HY.out.open_
      injection eA with eA _ eC
      subst eA
      subst eC
      have HC1 := Lib.hid hc1
      have HC2 := Lib.hid hc2
      have HC3 := Lib.hid hc3
      clear hc1 hc2 hc3
      go_loopw [3, 4] (fun n i wr => ∃ (k : Nat) (m : Int), k ≤ t.ys.length ∧ i = I k ∧ n = I m ∧ Hid (1 ≤ m ∧ m ≤ 2000) ∧ Hid (St w wr wr.heap.size [.box w.heap.size [.slice A1 t.hs.length c1, .slice A2 t.ws.length c2, .slice A3 t.ys.length c3]])) (fun n i _ => t.ys.length - (intOf i).toNat)
      case atStart => exact ⟨0, 1, by omega, rfl, rfl, Lib.hid (by omega), Lib.hid S.out.fix⟩
      case round =>
        clear S
        obtain ⟨k, m, hk, rfl, rfl, HM, S⟩ := hrel
        by_cases hlt : k < t.ys.length
        · have hki : (k : Int) < (t.ys.length : Int) := by omega
          have hk12 := HV.out.1
          obtain ⟨a, c, hac, ha, hc⟩ := okY_nat HV.out.2 hlt
          obtain ⟨b3, o3, hA3, -, hcell3⟩ := HC3.out (by omega)
          subst hA3
          obtain ⟨b1, o1, hA1, -, hcell1⟩ := HC1.out (by omega)
          subst hA1
          obtain ⟨b2, o2, hA2, -, hcell2⟩ := HC2.out (by omega)
          subst hA2
          have hbh := (bVal_spec HV.out.2).2.2.1 _ (List.getElem_mem ha)
          have hbw := (bVal_spec HV.out.2).2.2.2.1 _ (List.getElem_mem hc)
          have y0 := keep_cell S.out.bel (hcell3 k hlt).1
          have y1 := keep_cell S.out.bel (hcell3 k hlt).2
          have z0 := keep_cell S.out.bel (hcell1 a ha)
          have z1 := keep_cell S.out.bel (hcell2 c hc)
          rw [hac] at y0 y1
          dsimp only at y0 y1
          obtain ⟨x, hx⟩ : ∃ x, t.hs[a] = x := ⟨_, rfl⟩
          obtain ⟨y, hy⟩ : ∃ x, t.ws[c] = x := ⟨_, rfl⟩
          rw [hx] at z0 hbh
          rw [hy] at z1 hbw
          have hai : (a : Int) < (t.hs.length : Int) := by omega
          have hci : (c : Int) < (t.ws.length : Int) := by omega
          obtain ⟨N, hN⟩ : ∃ N, (if y < x then y else x) = N := ⟨_, rfl⟩
          have hNb : 0 ≤ N ∧ N ≤ 9 := by rw [← hN]; split <;> omega
          have hm := HM.out
          have m1 := Int.mul_le_mul hm.2 (show N + 1 ≤ 10 by omega) (by omega) (by omega)
          have m2 := Int.mul_le_mul hm.1 (show 1 ≤ N + 1 by omega) (by omega) (by omega)
          have w1 : IntKind.i64.wrap (N + 1) = N + 1 := IntWalk.i64_in _ (by omega)
          obtain ⟨R, hR⟩ : ∃ R, m * (N + 1) = R := ⟨_, rfl⟩
          rw [hR] at m1 m2
          have w2 : IntKind.i64.wrap (m * (N + 1)) = R := by rw [hR]; exact IntWalk.i64_in _ (by omega)
          have HR := Lib.hid (show 1 ≤ R by omega)
          clear hcell1 hcell2 hcell3 hac hx hy hbh hbw hNb hm hR m1 m2 ha hc
          have q0 := S.out.get 0 0 rfl rfl
          have q1 := S.out.get 0 1 rfl rfl
          have q2 := S.out.get 0 2 rfl rfl
          go_wp2_with fail
          have q0 := cell_regrown q0
          have q1 := cell_regrown q1
          have q2 := cell_regrown q2
          have y0 := cell_regrown y0
          have y1 := cell_regrown y1
          have z0 := cell_regrown z0
          have z1 := cell_regrown z1
          refine wp_region_ext (by kernel_rfl) (by kernel_rfl) ?_
          repeat (first | go_big_quiet_step (fail) | quiet_step (fail))
          refine wpQuiet_nil ?_
          clear q0 q1 q2 y0 y1 z0 z1
          intro wq hbq
          have S := Lib.hid (S.out.call hbq)
          clear hbq hN w1 w2 hai hci
          by_cases hbig : 2000 < R
          · go_wp2_with fail
            go_ret
            exact ⟨.inl rfl, S.out.bel⟩
          · have HRB := Lib.hid (show R ≤ 2000 by omega)
            go_wp2_with fail
            go_roundw
            case rel => exact ⟨k + 1, R, by omega, by go_num, rfl, Lib.hid ⟨HR.out, HRB.out⟩, Lib.hid S.out.fix⟩
            case measure => first | (simp [intOf]; done) | (simp [intOf]; omega)
        · have hki : ¬ (k : Int) < (t.ys.length : Int) := by omega
          have q2 := S.out.get 0 2 rfl rfl
          go_wp2_with fail
          go_ret
          exact ⟨.inr ⟨HU.out, rfl⟩, S.out.bel⟩
  · clear hhu
    go_wp2_with fail
    go_ret
    exact ⟨.inl rfl, S.out.bel⟩

end Go.Proofs.YtldcehhhndlhdaaGreatDoor
