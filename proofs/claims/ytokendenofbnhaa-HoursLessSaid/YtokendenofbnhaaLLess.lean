/- HoursLess: the law walked. -/
import Derived.Test.YtokendenofbnhaaW22
import Derived.Test.YtokendenofbnhaaW25
import Derived.Test.YtokendenofbnhaaPlain9
import Derived.Test.YtokendenofbnhaaW19
namespace Go.Proofs.Ytokendenofbnhaa
open Go.RowKit Go.Sort

theorem strCells_app (a b : List Str) : strCells (a ++ b) = strCells a ++ strCells b := by simp [strCells]
theorem str_prefix {w : World} {b o n c k : Nat} {ss : List Str} (hn : ss.length = n) (hk : k ≤ n) (hc : n ≤ c) (hm : c ≤ 9223372036854775807) (h : ∀ j u, (strCells ss)[j]? = some u → w.cell? ⟨b, o + j, none⟩ = some u) : Reads w 4 (.slice (some ⟨b, o, none⟩) k c) k (strCells (ss.take k)) := by
  refine ⟨by rw [strCells_length, List.length_take]; congr 1; omega, _, _, rfl, by omega, hm, fun _ => ⟨b, o, rfl, fun j u hu => h j u ?_⟩⟩
  have e : strCells ss = strCells (ss.take k) ++ strCells (ss.drop k) := by rw [← strCells_app, List.take_append_drop]
  rw [e, List.getElem?_append_left (List.getElem?_eq_some_iff.1 hu).1]
  exact hu
theorem str_suffix {w : World} {b o n c k : Nat} {ss : List Str} (hn : ss.length = n) (hk : k < n) (hc : n ≤ c) (hm : c ≤ 9223372036854775807) (h : ∀ j u, (strCells ss)[j]? = some u → w.cell? ⟨b, o + j, none⟩ = some u) (A : Option Addr) (hA : k + 1 < n → A = some ⟨b, o + (k + 1) * 4, none⟩) : Reads w 4 (.slice A (n - (k + 1)) (c - (k + 1))) (n - (k + 1)) (strCells (ss.drop (k + 1))) := by
  refine ⟨by rw [strCells_length, List.length_drop, hn], _, _, rfl, by omega, by omega, fun hp => ⟨b, o + (k + 1) * 4, hA (by omega), fun j u hu => ?_⟩⟩
  rw [Nat.add_assoc]
  refine h _ u ?_
  have e : strCells ss = strCells (ss.take (k + 1)) ++ strCells (ss.drop (k + 1)) := by rw [← strCells_app, List.take_append_drop]
  have hl : (strCells (ss.take (k + 1))).length = (k + 1) * 4 := by rw [strCells_length, List.length_take]; congr 1; omega
  rw [e, List.getElem?_append_right (by omega), hl, Nat.add_sub_cancel_left]
  exact hu

theorem less_all {r : Ros} (h : ROk r) {k : Nat} (hk : k < r.strs.length) (hs : someR r = true) :
    ∃ (l : List Int) (s : Str) (x m : Int), rosterR r = (l, 0) ∧ newB r l = true ∧ r.strs[k] = s ∧ l[k]? = some x ∧ Sml s x ∧ moveI s x = m ∧ (0 ≤ m * s.cost ∧ m * s.cost ≤ 72) ∧ someR (lessR r k) = true ∧
      (∃ a b c d e f : Int, (bestR stepsI r).1 = a ∧ (farN r : Int) = b ∧ (bestR onceI r).1 = c ∧ (bestR stepsI (lessR r k)).1 = d ∧ (farN (lessR r k) : Int) = e ∧ (bestR onceI (lessR r k)).1 = f ∧
        (0 ≤ d ∧ d + m * s.cost ≤ a ∧ a ≤ 432) ∧ e ≤ b ∧ f ≤ c) := by
  obtain ⟨hnew, hcost, _⟩ := least_real h hs
  have hkl : k < (rosterP stepsI r.strs (pad r.room)).length := by rw [goodL_length _ _ _ hnew]; exact hk
  obtain ⟨hso, h1, h2, h3⟩ := less_said h hk hs hnew hcost hkl
  have hb1 := least_pos h hs
  have hb2 := least_pos (lessR_ok h k) hso
  have hin := (InL.of_new hnew).inn k hk hkl
  have h72 := steps_bd72 (h.strs _ (List.getElem_mem hk)) hin.1 hin.2
  exact ⟨_, _, _, _, by unfold rosterR; rw [least_val h, if_pos hs]; rfl, hnew, rfl, List.getElem?_eq_getElem hkl, (InL.of_new hnew).sml h.strs k hk hkl, rfl, h72, hso, _, _, _, _, _, _, rfl, rfl, rfl, rfl, rfl, rfl, ⟨hb2.1, h1, hb1.2⟩, h2, h3⟩

set_option maxRecDepth 20000 in
set_option maxHeartbeats 4000000 in
theorem lawLess_any (v : Value) (r : Ros) (z : Int) (w : World) (hv : RosAt w v r) :
    Calls Try.prog 4 #[v, I z] w fun e w' => e = .returned (.bool true) ∧ Below w.heap.size w w' := by
  obtain ⟨rv, sv, rfl, hr, hs⟩ := hv
  obtain ⟨A1, c1, rfl, hr1, hr2, -⟩ := hr.open_
  obtain ⟨A2, c2, rfl, hs1, hs2, -⟩ := hs.open_
  have HR := Lib.hid hr
  have HS := Lib.hid hs
  clear hr hs
  have S := Lib.hid (show St w (w.alloc (.cells #[.slice A1 r.room.length c1, .slice A2 r.strs.length c2] 25)) (w.heap.size + 1) [.box w.heap.size [.slice A1 r.room.length c1, .slice A2 r.strs.length c2]] from (St.init w).alloc [.slice A1 r.room.length c1, .slice A2 r.strs.length c2] 25)
  obtain ⟨i0, hi, hz0, hz1, hz2⟩ := info_parts Try.info33
  obtain ⟨_, _, _, e, _, _, hsc⟩ := id HS.out
  injection e with e1 e2 e3
  subst e1
  have HSC := Lib.hid hsc
  clear e2 e3 hsc
  have q0 := S.out.get 0 0 rfl rfl
  have q1 := S.out.get 0 1 rfl rfl
  go_enter Try.func4, Try.ntmps4
  go_wp2_with fail
  clear q0 q1
  refine (ready_any _ r _ ⟨_, _, rfl, HR.out.below S.out.bel, HS.out.below S.out.bel⟩).mono ?_
  rintro e w1 ⟨⟨b, rfl, hok⟩, hb⟩
  have S := Lib.hid (S.out.call hb)
  clear hb
  have q0 := S.out.get 0 0 rfl rfl
  have q1 := S.out.get 0 1 rfl rfl
  cases b
  · clear hok
    go_wp2_with fail
    clear q0 q1
    refine (works_any _).mono ?_
    rintro e w2 ⟨rfl, hb⟩
    have S := Lib.hid (S.out.call hb)
    clear hb
    go_wp2_with fail
    go_ret
    exact ⟨rfl, S.out.bel⟩
  · have hvd := hok rfl
    have HVD := Lib.hid hvd
    clear hok
    cases hst : isStreet r z
    · have HST := Lib.hid hst
      clear hst
      go_wp2_with fail
      clear q0 q1
      refine (rIsStreet_any _ r _ _ ⟨_, _, rfl, HR.out.below S.out.bel, HS.out.below S.out.bel⟩).mono ?_
      rintro e w2 ⟨rfl, hb⟩
      rw [HST.out]
      have S := Lib.hid (S.out.call hb)
      clear hb
      have q0 := S.out.get 0 0 rfl rfl
      have q1 := S.out.get 0 1 rfl rfl
      go_wp2_with fail
      clear q0 q1
      refine (works_any _).mono ?_
      rintro e w3 ⟨rfl, hb⟩
      have S := Lib.hid (S.out.call hb)
      clear hb
      go_wp2_with fail
      go_ret
      exact ⟨rfl, S.out.bel⟩
    · have HST := Lib.hid hst
      go_wp2_with fail
      clear q0 q1
      refine (rIsStreet_any _ r _ _ ⟨_, _, rfl, HR.out.below S.out.bel, HS.out.below S.out.bel⟩).mono ?_
      rintro e w2 ⟨rfl, hb⟩
      rw [HST.out]
      have S := Lib.hid (S.out.call hb)
      clear hb
      have q0 := S.out.get 0 0 rfl rfl
      have q1 := S.out.get 0 1 rfl rfl
      obtain ⟨k, rfl⟩ := Int.eq_ofNat_of_zero_le (isStreet_spec hst).1
      have hk : k < r.strs.length := by have := (isStreet_spec hst).2; omega
      have HST := Lib.hid hst
      clear hst
      go_wp2_with fail
      clear q0 q1
      refine (copy_any _ r _ ⟨_, _, rfl, HR.out.below S.out.bel, HS.out.below S.out.bel⟩ (by have := hvd.rl; omega) (by have := hvd.sl; omega)).mono ?_
      rintro e w3 ⟨v', rfl, ⟨rv', sv', rfl, ho1, ho2⟩, hb⟩
      obtain ⟨Ax, cx, rfl⟩ := own_shape ho1
      obtain ⟨Ay, cy, rfl⟩ := own_shape ho2
      have S := Lib.hid ((S.out.take2 hb ho1 ho2 (by decide)).alloc [.slice Ax r.room.length cx, .slice Ay r.strs.length cy] 25)
      clear hb ho1 ho2
      have q0 := S.out.get 3 0 rfl rfl
      have q1 := S.out.get 3 1 rfl rfl
      obtain ⟨b2, o2, rfl, hcell2⟩ := HSC.out (by omega)
      have HC2 := Lib.hid hcell2
      clear hcell2
      have hki : (k : Int) < (r.strs.length : Int) := by omega
      have hkc : (k : Int) ≤ (c2 : Int) := by omega
      have hk0 : (0 : Int) ≤ (k : Int) := by omega
      obtain ⟨k1, hk1e⟩ : ∃ k1 : Nat, k + 1 = k1 := ⟨_, rfl⟩
      have hk1 : (k1 : Int) ≤ (r.strs.length : Int) := by omega
      have hk2 : (0 : Int) ≤ (k1 : Int) := by omega
      have eL : k + (r.strs.length - k1) = (lessR r k).strs.length := by simp only [lessR]; rw [List.length_eraseIdx_of_lt hk]; omega
      have eC : strCells (r.strs.take k) ++ strCells (r.strs.drop k1) = strCells (lessR r k).strs := by simp only [lessR]; rw [List.eraseIdx_eq_take_drop_succ, strCells_app, hk1e]
      have hkw : IntKind.i64.wrap ((k : Int) + 1) = (k1 : Int) := by rw [IntWalk.i64_in _ (by omega)]; omega
      have hsl := hvd.sl
      go_wp2_with fail
      refine wp_region_treeB (.node [1, 2, 3, 4, 6, 7, 8, 9, 10] [0] (fun _ => .node [] [5] (fun _ => .node [] [11] (fun _ => .last [12] [13])))) 13 (by kernel_rfl) (by kernel_rfl) ?_
      intro KQ hKQ wq hb
      have S := Lib.hid (S.out.call hb)
      clear hb q0 q1
      have x0 := cell_regrown (S.out.get 3 0 rfl rfl)
      have x1 := cell_regrown (S.out.get 3 1 rfl rfl)
      have HB := Lib.hid (Below.refl wq.heap.size wq)
      refine treeB_node ?_
      simp only [opsAt, List.filterMap_cons, List.filterMap_nil, List.getElem?_toArray, List.getElem?_cons_succ, List.getElem?_cons_zero]
      repeat (first | go_big_quiet_step (fail) | quiet_step (fail))
      refine wpQuiet_nil ?_
      refine all_one ?_
      intro K hK
      refine loud_op rfl rfl ?_
      go_simp
      obtain ⟨A4, hA4⟩ : ∃ x, (if c2 = k1 then some (⟨b2, o2, none⟩ : Addr) else some ⟨b2, o2 + k1 * 4, none⟩) = x := ⟨_, rfl⟩
      rw [hA4]
      have HA4 := Lib.hid hA4
      clear hA4
      have hb := (Below.refl wq.heap.size wq).alloc (Nat.le_refl _) (.cells #[] 33)
      have hg := heap_alloc_new wq (.cells #[] 33)
      obtain ⟨wr, hwd⟩ : ∃ x, wq.alloc (.cells #[] 33) = x := ⟨_, rfl⟩
      rw [hwd] at hb hg ⊢
      clear hwd
      have HB := Lib.hid (bto HB.out hb)
      have G0 := Lib.hid hg
      refine hK _ _ HB.out ?_
      clear hK K hb hg
      refine treeB_node ?_
      simp only [opsAt, List.filterMap_nil]
      refine wpQuiet_nil ?_
      refine all_one ?_
      intro K hK
      refine loud_op rfl rfl ?_
      have hrd := (str_prefix (n := r.strs.length) rfl (by omega : k ≤ r.strs.length) hs1 hs2 HC2.out).below (bto S.out.bel HB.out)
      refine wp_append_fresh _ (.tmp 30) (.tmp 34) 23 rfl wq.heap.size 33 i0 (.agg #[.int .i64 0, .int .i64 0, .int .i64 0, .int .i64 0]) 4 32 Try.underlying23 hi hz0 hz1 hz2 rfl (by omega) wq.heap.size rfl G0.out (Nat.le_refl _) _ k (strCells (r.strs.take k)) rfl hrd (strs_one _) (by simp only [maxLen]; omega) (by omega) HB.out.size ?_
      intro v1 wt hown hb
      have HB := Lib.hid (bto HB.out hb)
      have O1 := Lib.hid hown
      refine hK _ _ HB.out ?_
      clear hK K hb hown hrd
      refine treeB_node ?_
      simp only [opsAt, List.filterMap_nil]
      refine wpQuiet_nil ?_
      refine all_one ?_
      intro K hK
      refine loud_op rfl rfl ?_
      obtain ⟨Av1, cv1, rfl⟩ := own_shape O1.out
      have T := ((St.init wq).take HB.out O1.out)
      have hrd := (str_suffix (n := r.strs.length) (c := c2) (k := k) rfl hk hs1 hs2 HC2.out A4 (fun hlt => by rw [← HA4.out, if_neg (by omega), hk1e])).below (bto S.out.bel HB.out)
      rw [hk1e] at hrd
      refine wp_append_src _ (.tmp 35) (.tmp 40) 23 rfl wq.heap.size 33 i0 (.agg #[.int .i64 0, .int .i64 0, .int .i64 0, .int .i64 0]) 4 32 Try.underlying23 hi hz0 hz1 hz2 rfl (by omega) _ k (strCells (r.strs.take k)) rfl O1.out _ (r.strs.length - k1) (strCells (r.strs.drop k1)) rfl hrd (strs_one _) (by simp only [maxLen]; omega) (by omega) HB.out.size ?_
      intro v2 wu hown hg hv
      rw [eL, eC] at hown
      have T2 := T.grown 0 rfl hown hg hv
      have HB := Lib.hid T2.bel
      have O1 := Lib.hid hown
      obtain ⟨Av2, cv2, rfl⟩ := own_shape hown
      refine hK _ _ HB.out ?_
      clear hK K T T2 hg hv hown hrd
      refine treeB_last ?_
      simp only [opsAt, List.filterMap_cons, List.filterMap_nil, List.getElem?_toArray, List.getElem?_cons_succ, List.getElem?_cons_zero]
      repeat (first | go_big_quiet_step (fail) | quiet_step (fail))
      refine wpQuiet_nil ?_
      have S := Lib.hid (S.out.take HB.out O1.out)
      have S2 := Lib.hid (S.out.set 1 1 (.slice Av2 (lessR r k).strs.length cv2) rfl)
      have u0 := S.out.get 1 0 rfl rfl
      have u1 := S.out.get 1 1 rfl rfl
      have u3 := S.out.free 1 1 rfl
      have q0 := S2.out.get 4 0 rfl rfl
      have q1 := S2.out.get 4 1 rfl rfl
      clear x0 x1 G0 O1
      go_wp2_with fail
      clear u0 u1 u3 q0 q1 S
      have S := S2
      clear S2
      refine (three_any _ r _ ⟨_, _, rfl, HR.out.below S.out.bel, HS.out.below S.out.bel⟩ hvd).mono ?_
      rintro e w6 ⟨rfl, hb⟩
      have S := Lib.hid (S.out.call hb)
      clear hb
      have q0 := S.out.get 1 0 rfl rfl
      have q1 := S.out.get 1 1 rfl rfl
      cases hs : someR r
      · rw [if_neg (by simp)]
        go_wp2_with fail
        clear q0 q1
        refine (three_any _ (lessR r k) _ ⟨_, _, rfl, S.out.ints 2 rfl, S.out.row 0 rfl⟩ (lessR_ok hvd k)).mono ?_
        rintro e w7 ⟨rfl, hb⟩
        have S := Lib.hid (S.out.call hb)
        clear hb
        cases hs2 : someR (lessR r k)
        · rw [if_neg (by simp)]
          go_wp2_with fail
          refine (works_any _).mono ?_
          rintro e w8 ⟨rfl, hb⟩
          have S := Lib.hid (S.out.call hb)
          clear hb
          go_wp2_with fail
          go_ret
          exact ⟨rfl, S.out.bel⟩
        · rw [if_pos rfl]
          obtain ⟨le, hle⟩ : ∃ x, (bestR stepsI (lessR r k)).1 = x := ⟨_, rfl⟩
          obtain ⟨fe, hfe⟩ : ∃ x, (bestR onceI (lessR r k)).1 = x := ⟨_, rfl⟩
          obtain ⟨fa, hfa⟩ : ∃ x, (farN (lessR r k) : Int) = x := ⟨_, rfl⟩
          rw [hle, hfe, hfa]
          clear hle hfe hfa
          go_wp2_with fail
          refine (works_any _).mono ?_
          rintro e w8 ⟨rfl, hb⟩
          have S := Lib.hid (S.out.call hb)
          clear hb
          go_wp2_with fail
          go_ret
          exact ⟨rfl, S.out.bel⟩
      · rw [if_pos rfl]
        obtain ⟨l, s, x, mv, hro, hnew, hse, hlx, hsm, hmv, hmc, hso, a, b, c, d, e, f, ha, hb0, hc, hd, he, hf, hlad, heb, hfc⟩ := less_all hvd hk hs
        have hkl : k < l.length := (List.getElem?_eq_some_iff.1 hlx).1
        have hll : l.length ≤ 1000 := by rw [goodL_length _ _ _ hnew]; have := hvd.sl; omega
        rw [ha, hb0, hc]
        have HRO := Lib.hid hro
        have HNW := Lib.hid hnew
        have HSM := Lib.hid hsm
        have HMV := Lib.hid hmv
        have HSO := Lib.hid hso
        have HD := Lib.hid (And.intro hd (And.intro he hf))
        have hY := strCells_at r.strs k hk
        rw [hse] at hY
        have HY0 := Lib.hid (HC2.out _ _ hY.1)
        have HY1 := Lib.hid (HC2.out _ _ hY.2.1)
        have HY2 := Lib.hid (HC2.out _ _ hY.2.2.1)
        have HY3 := Lib.hid (HC2.out _ _ hY.2.2.2)
        rw [← Nat.add_assoc] at HY1 HY2 HY3
        have HLX := Lib.hid hlx
        have i1 : IntKind.i64.wrap (a - d) = a - d := IntWalk.i64_in _ (by omega)
        have i2 : IntKind.i64.wrap (mv * s.cost) = mv * s.cost := IntWalk.i64_in _ (by omega)
        have hda : d ≤ a := by omega
        have hge : mv * s.cost ≤ a - d := by omega
        clear hro hnew hsm hmv hso ha hb0 hc hd he hf hY hlx hse hs
        go_wp2_with fail
        clear q0 q1
        refine (three_any _ (lessR r k) _ ⟨_, _, rfl, S.out.ints 2 rfl, S.out.row 0 rfl⟩ (lessR_ok hvd k)).mono ?_
        rintro e7 w7 ⟨rfl, hb⟩
        rw [if_pos HSO.out, HD.out.1, HD.out.2.1, HD.out.2.2]
        have S := Lib.hid (S.out.call hb)
        clear hb
        have q0 := S.out.get 4 0 rfl rfl
        have q1 := S.out.get 4 1 rfl rfl
        go_wp2_with fail
        clear q0 q1
        refine (pRoster_any _ r _ ⟨_, _, rfl, HR.out.below S.out.bel, HS.out.below S.out.bel⟩).mono ?_
        rintro e8 w8 ⟨vl, rfl, hown, hb⟩
        rw [HRO.out] at hown ⊢
        obtain ⟨g, cg, rfl, hg1, hg2⟩ := own_shape_pos hown (show 0 < l.length by omega)
        have S := Lib.hid (S.out.take hb hown)
        clear hb hown
        have q0 := S.out.get 5 0 rfl rfl
        have q1 := S.out.get 5 1 rfl rfl
        go_wp2_with fail
        clear q0 q1
        refine (isNew_any _ _ r l _ ⟨_, _, rfl, HR.out.below S.out.bel, HS.out.below S.out.bel⟩ HVD.out (S.out.ints 0 rfl) hll).mono ?_
        rintro e9 w9 ⟨rfl, hb⟩
        rw [HNW.out]
        have S := Lib.hid (S.out.call hb)
        clear hb
        have q0 := S.out.get 5 0 rfl rfl
        have q1 := S.out.get 5 1 rfl rfl
        go_wp2_with fail
        clear q0 q1
        have hkll : (k : Int) < (l.length : Int) := by omega
        refine wp_region_seg [([0, 1, 2, 3, 4, 5, 6, 7, 8, 9, 10, 11, 12, 13, 14, 15, 16, 17, 18, 19, 20, 21, 22, 23, 24, 25, 27, 28, 29, 30, 31, 32], 26), ([33, 34, 35, 36], 37)] [38, 39] [] 40 (by kernel_rfl) (by kernel_rfl) ?_
        intro KQ hKQ w10 hb
        have S := Lib.hid (S.out.call hb)
        clear hb
        have q1 := cell_regrown (S.out.get 5 1 rfl rfl)
        have y0 := cell_regrown (keep_cell S.out.bel HY0.out)
        have y1 := cell_regrown (keep_cell S.out.bel HY1.out)
        have y2 := cell_regrown (keep_cell S.out.bel HY2.out)
        have y3 := cell_regrown (keep_cell S.out.bel HY3.out)
        have y4 := cell_regrown (own_cell (S.out.own 0 rfl) k x HLX.out)
        refine seg_next ?_
        simp only [opsAt, List.filterMap_cons, List.filterMap_nil, List.getElem?_toArray, List.getElem?_cons_succ, List.getElem?_cons_zero]
        repeat (first | go_big_quiet_step (fail) | quiet_step (fail))
        refine wpQuiet_nil ?_
        intro K hK
        refine loud_op rfl rfl ?_
        go_simp
        refine (rMove_any s x _ HSM.out).mono ?_
        rintro e11 w11 ⟨rfl, hb⟩
        rw [HMV.out]
        have S := Lib.hid (S.out.call hb)
        refine hK _ _ hb ?_
        clear hK K hb
        refine seg_next ?_
        simp only [opsAt, List.filterMap_cons, List.filterMap_nil, List.getElem?_toArray, List.getElem?_cons_succ, List.getElem?_cons_zero]
        repeat (first | go_big_quiet_step (fail) | quiet_step (fail))
        refine wpQuiet_nil ?_
        intro K hK
        refine loud_op rfl rfl ?_
        go_simp
        refine (works_any _).mono ?_
        rintro e12 w12 ⟨rfl, hb⟩
        have S := Lib.hid (S.out.call hb)
        refine hK _ _ hb ?_
        clear hK K hb
        refine seg_last ?_
        simp only [opsAt, List.filterMap_cons, List.filterMap_nil, List.getElem?_toArray, List.getElem?_cons_succ, List.getElem?_cons_zero]
        repeat (first | go_big_quiet_step (fail) | quiet_step (fail))
        refine wpQuiet_nil ?_
        go_wp2_with fail
        go_ret
        exact ⟨rfl, S.out.bel⟩

end Go.Proofs.Ytokendenofbnhaa
