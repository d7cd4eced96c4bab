/- Walks: Worst, fairer, Helps. -/
import Derived.Test.YtldcehhhndlhdaaGreatDoorC25
import Derived.Test.YtldcehhhndlhdaaGreatDoorC12
import Derived.Test.YtldcehhhndlhdaaGreatDoorC20
namespace Go.Proofs.YtldcehhhndlhdaaGreatDoor
open Go.RowKit Go.Sort Go.Shelf

set_option maxRecDepth 100000 in
set_option maxHeartbeats 4000000 in
theorem worst_any (v : Value) (t : BTown) (w : World) (hv : BAt w v t) (hn : NnAt w) (hval : bVal t = true) (h12 : t.ys.length ≤ 12) :
    Calls Tryz.prog 11 #[v] w fun e w' => ∃ d, e = .returned (.tuple #[I ((descL (Bk.lacksL t.bt d)).getD 0 0), I 0]) ∧ Bk.Best t.bt d ∧ Below w.heap.size w w' := by
  have HB0 := Lib.hid hv
  obtain ⟨hv0, wv, yv, rfl, hh, hw, hy⟩ := hv
  obtain ⟨A1, c1, rfl, -, -, -⟩ := id hh.open_
  obtain ⟨A2, c2, rfl, -, -, -⟩ := id hw.open_
  obtain ⟨A3, c3, rfl, -, -, -⟩ := id hy.open_
  have hh6 := (bVal_spec hval).1
  have hw5 := (bVal_spec hval).2.1
  have HNN := Lib.hid hn
  have S := Lib.hid ((St.init w).alloc [.slice A1 t.hs.length c1, .slice A2 t.ws.length c2, .slice A3 t.ys.length c3] 32)
  clear hh hw hy hn
  have q0 := S.out.get 0 0 rfl rfl
  have q1 := S.out.get 0 1 rfl rfl
  have q2 := S.out.get 0 2 rfl rfl
  go_enter Tryz.func11, Tryz.ntmps11
  go_wp2_with fail
  refine (lacksK_any _ t _ (HB0.out.below S.out.bel) (HNN.out.below S.out.bel) hval h12).mono ?_
  rintro e w1 ⟨v', d, rfl, ho, hd, hb⟩
  obtain ⟨l, hl⟩ : ∃ l, descL (Bk.lacksL t.bt d) = l := ⟨_, rfl⟩
  have hll : l.length = t.hs.length := by rw [← hl, descL_len]; simp [Bk.lacksL]; rfl
  rw [hl] at ho
  obtain ⟨A4, c4, rfl⟩ := own_shape ho
  replace S := Lib.hid (S.out.take hb ho)
  have HD := Lib.hid hd
  have HL := Lib.hid hl
  have HLL := Lib.hid hll
  clear ho hb hd hl hll q0 q1 q2
  by_cases h0 : t.hs.length = 0
  · have hb0 : ((t.hs.length : Int) == 0) = true := by simp [h0]
    have e0 : l = [] := List.eq_nil_of_length_eq_zero (by rw [HLL.out]; exact h0)
    have HE := Lib.hid (show l.getD 0 0 = 0 by rw [e0]; rfl)
    clear e0
    clear h0
    go_wp2_with fail
    refine bodyPost_ret (v := .tuple #[I 0, I 0]) (by simp [results, go_sem]) rfl ⟨d, by rw [HL.out, HE.out], HD.out, S.out.bel⟩
  · have hb0 : ((t.hs.length : Int) == 0) = false := by rw [beq_eq_false_iff_ne]; omega
    have hp : (0 : Int) < (t.hs.length : Int) := by omega
    obtain ⟨g4, hg4⟩ := own_some (S.out.own 0 rfl) (show 0 < t.hs.length by omega)
    subst hg4
    have hl0 : 0 < l.length := by have := HLL.out; omega
    have y0 := own_cell (S.out.own 0 rfl) 0 l[0] (List.getElem?_eq_getElem hl0)
    have HE := Lib.hid (show l.getD 0 0 = l[0] by rw [List.getD_eq_getElem?_getD, List.getElem?_eq_getElem hl0, Option.getD_some])
    obtain ⟨x, hx⟩ : ∃ x, l[0] = x := ⟨_, rfl⟩
    rw [hx] at y0 HE
    clear h0 hx hl0
    go_wp2_with fail
    refine bodyPost_ret (v := .tuple #[I x, I 0]) (by simp [results, go_sem]) rfl ⟨d, by rw [HL.out, HE.out], HD.out, S.out.bel⟩

set_option maxRecDepth 100000 in
set_option maxHeartbeats 4000000 in
theorem fairer_any (va vb : Value) (s t : BTown) (w : World) (ha : BAt w va s) (hv : BAt w vb t) (hn : NnAt w) (hsv : bVal s = true) (hs12 : s.ys.length ≤ 12) (hval : bVal t = true) (h12 : t.ys.length ≤ 12) :
    Calls Tryz.prog 44 #[va, vb] w fun e w' => ∃ d e', e = .returned (.bool (decide (cmpLL (descL (Bk.lacksL s.bt d)) (descL (Bk.lacksL t.bt e')) < 0))) ∧ Bk.Best s.bt d ∧ Bk.Best t.bt e' ∧ Below w.heap.size w w' := by
  have HB0 := Lib.hid hv
  obtain ⟨hv0, wv, yv, rfl, hh, hw, hy⟩ := hv
  obtain ⟨A1, c1, rfl, -, -, -⟩ := id hh.open_
  obtain ⟨A2, c2, rfl, -, -, -⟩ := id hw.open_
  obtain ⟨A3, c3, rfl, -, -, -⟩ := id hy.open_
  have hh6 := (bVal_spec hval).1
  have hw5 := (bVal_spec hval).2.1
  have HA0 := Lib.hid ha
  obtain ⟨ga0, wa, ya, rfl, gh, gw, gy⟩ := ha
  obtain ⟨A5, c5, rfl, -, -, -⟩ := id gh.open_
  obtain ⟨A6, c6, rfl, -, -, -⟩ := id gw.open_
  obtain ⟨A7, c7, rfl, -, -, -⟩ := id gy.open_
  have gh6 := (bVal_spec hsv).1
  have HNN := Lib.hid hn
  have S := Lib.hid (((St.init w).alloc [.slice A5 s.hs.length c5, .slice A6 s.ws.length c6, .slice A7 s.ys.length c7] 32).alloc [.slice A1 t.hs.length c1, .slice A2 t.ws.length c2, .slice A3 t.ys.length c3] 32)
  clear hh hw hy hn gh gw gy hw5
  go_enter Tryz.func44, Tryz.ntmps44
  go_wp2_with fail
  refine wp_region_seg [([0, 2], 1), ([], 3), ([], 4)] [5, 6] [] 7 (by kernel_rfl) (by kernel_rfl) ?_
  intro KQ hKQ w1 hb
  replace S := Lib.hid (S.out.call hb)
  clear hb
  have k0 := cell_regrown (S.out.get 1 0 rfl rfl)
  have k1 := cell_regrown (S.out.get 1 1 rfl rfl)
  have k2 := cell_regrown (S.out.get 1 2 rfl rfl)
  have m0 := cell_regrown (S.out.get 0 0 rfl rfl)
  have m1 := cell_regrown (S.out.get 0 1 rfl rfl)
  have m2 := cell_regrown (S.out.get 0 2 rfl rfl)
  refine seg_next ?_
  simp only [opsAt, List.filterMap_cons, List.filterMap_nil, List.getElem?_toArray, List.getElem?_cons_succ, List.getElem?_cons_zero]
  repeat (first | go_big_quiet_step (fail) | quiet_step (fail))
  refine wpQuiet_nil ?_
  intro K hK
  refine loud_op rfl rfl ?_
  go_simp
  refine (lacks_any _ s _ (HA0.out.below S.out.bel) (HNN.out.below S.out.bel) hsv hs12).mono ?_
  rintro e w2 ⟨v1, d, rfl, ho, hd, hb⟩
  obtain ⟨l, hl⟩ : ∃ l, descL (Bk.lacksL s.bt d) = l := ⟨_, rfl⟩
  have hll : l.length = s.hs.length := by rw [← hl, descL_len]; simp [Bk.lacksL]; rfl
  rw [hl] at ho
  obtain ⟨A8, c8, rfl⟩ := own_shape ho
  replace S := Lib.hid (S.out.take hb ho)
  have HD := Lib.hid hd
  have HL := Lib.hid hl
  have HLL := Lib.hid hll
  refine hK _ _ hb ?_
  clear hK K hb ho hd hl hll k0 k1 k2 m0 m1 m2
  refine seg_next ?_
  simp only [opsAt, List.filterMap_nil]
  refine wpQuiet_nil ?_
  intro K hK
  refine loud_op rfl rfl ?_
  go_simp
  refine (lacks_any _ t _ (HB0.out.below S.out.bel) (HNN.out.below S.out.bel) hval h12).mono ?_
  rintro e w3 ⟨v2, e', rfl, ho, hd, hb⟩
  obtain ⟨m, hm⟩ : ∃ l, descL (Bk.lacksL t.bt e') = l := ⟨_, rfl⟩
  have hml : m.length = t.hs.length := by rw [← hm, descL_len]; simp [Bk.lacksL]; rfl
  rw [hm] at ho
  obtain ⟨A9, c9, rfl⟩ := own_shape ho
  replace S := Lib.hid (S.out.take hb ho)
  have HE := Lib.hid hd
  have HM := Lib.hid hm
  have HML := Lib.hid hml
  refine hK _ _ hb ?_
  clear hK K hb ho hd hm hml
  refine seg_next ?_
  simp only [opsAt, List.filterMap_nil]
  refine wpQuiet_nil ?_
  intro K hK
  refine loud_op rfl rfl ?_
  go_simp
  refine (compareL_any _ _ l m _ (S.out.ints 1 rfl) (S.out.ints 0 rfl) (by have := HLL.out; omega) (by have := HML.out; omega)).mono ?_
  rintro e w4 ⟨rfl, hb⟩
  replace S := Lib.hid (S.out.call hb)
  refine hK _ _ hb ?_
  clear hK K hb
  refine seg_last ?_
  simp only [opsAt, List.filterMap_cons, List.filterMap_nil, List.getElem?_toArray, List.getElem?_cons_succ, List.getElem?_cons_zero]
  repeat (first | go_big_quiet_step (fail) | quiet_step (fail))
  refine wpQuiet_nil ?_
  go_wp2_with fail
  go_ret
  exact ⟨d, e', by rw [HL.out, HM.out]; rfl, HD.out, HE.out, S.out.bel⟩

/-- One bucket more in a well. -/
def wetT (t : BTown) (k : Nat) : BTown := ⟨t.hs, t.ws.set k (t.ws.getD k 0 + 1), t.ys⟩
theorem wet_val {t : BTown} (hv : bVal t = true) (h19 : ∀ x ∈ t.ws, x ≤ 19) (k : Nat) : bVal (wetT t k) = true := by
  obtain ⟨g1, g2, g3, g4, g5⟩ := bVal_spec hv
  have hl : (t.ws.set k (t.ws.getD k 0 + 1)).length = t.ws.length := List.length_set
  refine bVal_ok g1 (by show (t.ws.set _ _).length ≤ 5; omega) (fun x hx => inR_iff.2 (g3 x hx)) (fun x hx => inR_iff.2 ?_) (fun i hi => ?_)
  · rcases List.mem_or_eq_of_mem_set hx with hx | rfl
    · exact g4 x hx
    · rw [List.getD_eq_getElem?_getD]
      cases e : t.ws[k]? with
      | none => simp
      | some y =>
        have h1 := g4 y (List.mem_of_getElem? e)
        have h2 := h19 y (List.mem_of_getElem? e)
        simp only [Option.getD_some]
        omega
  · have := g5 i hi
    unfold okY isH3 isW3 at this ⊢
    show (inR _ 0 ((t.hs.length : Int) - 1) && inR _ 0 (((t.ws.set _ _).length : Int) - 1) && _) = true
    rw [hl]
    exact this

set_option maxRecDepth 100000 in
set_option maxHeartbeats 8000000 in
theorem helps_any (v : Value) (t : BTown) (w : World) (hv : BAt w v t) (hn : NnAt w) (hval : bVal t = true) (h12 : t.ys.length ≤ 12) (h19 : ∀ x ∈ t.ws, x ≤ 19) :
    Calls Tryz.prog 16 #[v] w fun e w' => ∃ v' L, e = .returned (.tuple #[v', I 0]) ∧ Ints w' v' L ∧ (L.length ≤ t.ws.length ∧ ∀ i, i < t.ws.length → (∀ d e', Bk.Best (wetT t i).bt d → Bk.Best t.bt e' → cmpLL (descL (Bk.lacksL (wetT t i).bt d)) (descL (Bk.lacksL t.bt e')) < 0) → (i : Int) ∈ L) ∧ Below w.heap.size w w' := by
  have HB0 := Lib.hid hv
  obtain ⟨hv0, wv, yv, rfl, hh, hw, hy⟩ := hv
  obtain ⟨A1, c1, rfl, -, -, -⟩ := id hh.open_
  obtain ⟨A2, c2, rfl, -, -, -⟩ := id hw.open_
  obtain ⟨A3, c3, rfl, -, -, -⟩ := id hy.open_
  have hh6 := (bVal_spec hval).1
  have hw5 := (bVal_spec hval).2.1
  have HH := Lib.hid hh
  have HW := Lib.hid hw
  have HY := Lib.hid hy
  have HNN := Lib.hid hn
  have HV := Lib.hid hval
  have H12 := Lib.hid h12
  have H19 := Lib.hid h19
  have HCK := Lib.hid (show bChk t = 0 by unfold bChk bValid; rw [hval]; simp [h12])
  obtain ⟨i0, hi, hz0, hz1, hz2⟩ := info_parts Tryz.info3
  have h02 : 0 < 1 := by decide
  have S := Lib.hid ((St.init w).alloc [.slice A1 t.hs.length c1, .slice A2 t.ws.length c2, .slice A3 t.ys.length c3] 32)
  clear hh hw hy hn hval h12 h19
  go_enter Tryz.func16, Tryz.ntmps16
  have q0 := S.out.get 0 0 rfl rfl
  have q1 := S.out.get 0 1 rfl rfl
  have q2 := S.out.get 0 2 rfl rfl
  go_wp2_with fail
  refine (kCheck_any _ t _ (HB0.out.below S.out.bel)).mono ?_
  rintro e w1 ⟨rfl, hb⟩
  rw [HCK.out]
  replace S := Lib.hid ((S.out.call hb).nil 3 1)
  clear hb q0 q1 q2
  have q1 := S.out.get 1 1 rfl rfl
  go_wp2_with fail
  clear q1
  go_loopw [5, 16] (fun u i wr => ∃ (k : Nat) (L : List Int) (A : Option Addr) (c : Nat), k ≤ t.ws.length ∧ i = I k ∧ u = .slice A L.length c ∧ Hid (L.length ≤ k ∧ ∀ i, i < k → (∀ d e', Bk.Best (wetT t i).bt d → Bk.Best t.bt e' → cmpLL (descL (Bk.lacksL (wetT t i).bt d)) (descL (Bk.lacksL t.bt e')) < 0) → (i : Int) ∈ L) ∧ Hid (St w wr wr.heap.size [.own 3 1 (.slice A L.length c) L.length (L.map I), .box w.heap.size [.slice A1 t.hs.length c1, .slice A2 t.ws.length c2, .slice A3 t.ys.length c3]])) (fun _ i _ => t.ws.length - (intOf i).toNat)
  case atStart => exact ⟨0, [], none, 0, by omega, rfl, rfl, Lib.hid ⟨by simp, fun i hi => absurd hi (by omega)⟩, Lib.hid S.out.fix⟩
  case round =>
    clear S
    obtain ⟨k, L, A, c, hk, rfl, rfl, HP, S⟩ := hrel
    by_cases hlt : k < t.ws.length
    · have hki : (k : Int) < (t.ws.length : Int) := by omega
      have hlk := HP.out.1
      have q0 := S.out.get 1 0 rfl rfl
      have q1 := S.out.get 1 1 rfl rfl
      have q2 := S.out.get 1 2 rfl rfl
      have T := Lib.hid (S.out.alloc [.slice A1 t.hs.length c1, .slice A2 t.ws.length c2, .slice A3 t.ys.length c3] 32)
      have q3 := T.out.get 2 1 rfl rfl
      go_wp2_with fail
      refine (cloneI_any _ t.ws _ (HW.out.below T.out.bel) (by omega)).mono ?_
      rintro e w2 ⟨v', rfl, ho, hb⟩
      obtain ⟨Ac, cc, rfl⟩ := own_shape ho
      replace T := Lib.hid (T.out.take hb ho)
      obtain ⟨b7, hb7⟩ : ∃ b, wr.heap.size = b := ⟨_, rfl⟩
      rw [hb7] at T ⊢
      clear hb ho q0 q1 q2 q3 S hb7
      obtain ⟨gc, hgc⟩ := own_some (T.out.own 0 rfl) (show 0 < t.ws.length by omega)
      subst hgc
      have hx := (bVal_spec HV.out).2.2.2.1 _ (List.getElem_mem hlt)
      have HE := Lib.hid (show t.ws.set k (t.ws[k] + 1) = t.ws.set k (t.ws.getD k 0 + 1) by rw [List.getD_eq_getElem?_getD, List.getElem?_eq_getElem hlt, Option.getD_some])
      have HZ := Lib.hid (List.getElem?_eq_getElem hlt)
      obtain ⟨z, hz⟩ : ∃ z, t.ws[k] = z := ⟨_, rfl⟩
      rw [hz] at hx HE HZ
      clear hz
      have wz : IntKind.i64.wrap (z + 1) = z + 1 := IntWalk.i64_in _ (by omega)
      have u1 := T.out.free 1 1 rfl
      have u2 := T.out.get 1 1 rfl rfl
      have T2 := Lib.hid (T.out.set 1 1 (.slice (some ⟨gc, 0, none⟩) t.ws.length cc) rfl)
      have y7 := T2.out.get 1 1 rfl rfl
      have yk := own_cell (T2.out.own 0 rfl) k z HZ.out
      have zk := (T2.out.own 0 rfl).frozenAt k
      have T3 := T2.out.put 0 k (I (z + 1)) rfl
      dsimp only [List.set_cons_zero, List.set_cons_succ] at T3
      rw [← List.map_set, HE.out] at T3
      replace T3 := Lib.hid T3
      have p0 := T3.out.get 1 0 rfl rfl
      have p1 := T3.out.get 1 1 rfl rfl
      have p2 := T3.out.get 1 2 rfl rfl
      have q0 := T3.out.get 3 0 rfl rfl
      have q1 := T3.out.get 3 1 rfl rfl
      have q2 := T3.out.get 3 2 rfl rfl
      go_wp2_with fail
      refine (fairer_any _ _ (wetT t k) t _ ⟨_, _, _, rfl, HH.out.below T3.out.bel, T3.out.ints 0 rfl, HY.out.below T3.out.bel⟩ (HB0.out.below T3.out.bel) (HNN.out.below T3.out.bel) (wet_val HV.out H19.out k) H12.out HV.out H12.out).mono ?_
      rintro e w3 ⟨d, e', rfl, hd, he, hb⟩
      replace T3 := Lib.hid (T3.out.call hb)
      clear hb p0 p1 p2 q0 q1 q2 u1 u2 y7 yk zk T2 T
      obtain ⟨q, hq⟩ : ∃ q, cmpLL (descL (Bk.lacksL (wetT t k).bt d)) (descL (Bk.lacksL t.bt e')) = q := ⟨_, rfl⟩
      rw [hq]
      by_cases hq0 : q < 0
      · have h63 : L.length + 1 ≤ maxLen := by simp only [maxLen]; omega
        have hby : (L.length + 1) * 8 ≤ 140737488355328 := by omega
        have HP2 := Lib.hid (show (L ++ [(k : Int)]).length ≤ k + 1 ∧ ∀ i, i < k + 1 → (∀ d e', Bk.Best (wetT t i).bt d → Bk.Best t.bt e' → cmpLL (descL (Bk.lacksL (wetT t i).bt d)) (descL (Bk.lacksL t.bt e')) < 0) → (i : Int) ∈ (L ++ [(k : Int)]) from ⟨by simp; omega, fun i hi hall => by
          by_cases e : i = k
          · subst e; simp
          · exact List.mem_append_left _ (HP.out.2 i (by omega) hall)⟩)
        clear hd he hq
        have T := Lib.hid (T3.out.alloc [I (k : Nat)] 3)
        go_wp2_with (at_builtin; refine wpList_append_St T.out 3 rfl _ _ 22 rfl 3 i0 (.int .i64 0) 1 8 Tryz.underlying22 hi hz0 hz1 hz2 rfl h02 rfl rfl _ 1 [I (k : Nat)] rfl (reads_box1 (T.out.get 0 0 rfl rfl)) (ints_one [(k : Int)]) h63 hby ?_; intro v5 w5 hS5; obtain ⟨A', c', rfl⟩ := own_shape (hS5.own 3 rfl); have S := Lib.hid (hS5.fix.tail.tail.tail); clear hS5 T)
        go_roundw
        case rel => exact ⟨k + 1, L ++ [(k : Int)], A', c', by omega, by go_num, by simp, HP2, Lib.hid (by have h := S.out.fix; simpa using h)⟩
        case measure => first | (simp [intOf]; done) | (simp [intOf]; omega)
      · have HP2 := Lib.hid (show L.length ≤ k + 1 ∧ ∀ i, i < k + 1 → (∀ d e', Bk.Best (wetT t i).bt d → Bk.Best t.bt e' → cmpLL (descL (Bk.lacksL (wetT t i).bt d)) (descL (Bk.lacksL t.bt e')) < 0) → (i : Int) ∈ L from ⟨by omega, fun i hi hall => by
          by_cases e : i = k
          · subst e
            have := hall d e' hd he
            rw [hq] at this
            exact absurd this hq0
          · exact HP.out.2 i (by omega) hall⟩)
        have hq1 : 0 ≤ q := by omega
        clear hd he hq hq0
        go_wp2_with fail
        go_roundw
        case rel => exact ⟨k + 1, L, A, c, by omega, by go_num, rfl, HP2, Lib.hid T3.out.fix.tail.tail⟩
        case measure => first | (simp [intOf]; done) | (simp [intOf]; omega)
    · obtain rfl : k = t.ws.length := by omega
      have hki : ¬ ((t.ws.length : Int) < (t.ws.length : Int)) := by omega
      clear hlt
      go_wp2_with fail
      refine bodyPost_ret (v := .tuple #[.slice A L.length c, I 0]) (by simp [results, go_sem]) rfl ⟨_, rfl, L, S.out.ints 0 rfl, HP.out, S.out.bel⟩
end Go.Proofs.YtldcehhhndlhdaaGreatDoor
/- Walks: the reference's Copy of a town of buckets. -/
namespace Go.Proofs.YtldcehhhndlhdaaGreatDoor
open Go.RowKit Go.Sort Go.Shelf

theorem wp_append_St {P : Program} {w0 w : World} {n : Nat} {L : List Item} (S : St w0 w n L) (i : Nat) {o : Oper} {a : Act} {K : Act → World → Prop} {Q : Exit → Act → World → Prop} (s x : Operand) (t : TypeId)
    (ho : o.op = .call { callee := .builtin .append, args := #[s, x], argTypes := #[t, t] })
    (e : TypeId) (inf : TypeInfo) (z : Value) (size bytes : Nat) (ht : P.underlying t = some (.slice e)) (hinf : P.info? e = some inf) (hz : inf.zero = some z)
    (hsize : inf.size = size) (hby : inf.bytes = bytes) (hzs : z.cells.size = size) (hsz : 0 < size)
    {v : Value} {len : Nat} {xs : List Value} (hi : L[i]? = some (.own e size v len xs)) (hs : a.eval s = v)
    (sv : Value) (m : Nat) (news : List Value) (hx : a.eval x = sv) (hr : Reads w size sv m news) (h1 : ∀ u ∈ news, u.oneCell' = true)
    (h63 : len + m ≤ maxLen) (hbytes : (len + m) * bytes ≤ 140737488355328)
    (h : ∀ v' w', St w0 w' w'.heap.size (L.set i (.own e size v' (len + m) (xs ++ news))) → w.grownBy w' v.ownBlock → K (a.put o.dst v') w') : o.wp P a w K Q :=
  wp_append_src w s x t ho w0.heap.size e inf z size bytes ht hinf hz hsize hby hzs hsz v len xs hs (S.own i hi) sv m news hx hr h1 h63 hbytes S.bel.size
    fun v' w' hown hg hv => h v' w' (S.grown i hi hown hg hv) hg
theorem sps_one (ss : List Sp) : ∀ u ∈ spCells ss, u.oneCell' = true := fun u hu => by
  obtain ⟨p, _, hu⟩ := List.mem_flatMap.1 hu
  simp at hu
  rcases hu with rfl | rfl <;> rfl
/-- A town of buckets in memory of the call's own. -/
def OwnB (w w' : World) (v : Value) (t : BTown) : Prop := ∃ hv wv yv, v = .agg #[hv, wv, yv] ∧ St w w' w'.heap.size [.own 3 1 hv t.hs.length (t.hs.map I), .own 3 1 wv t.ws.length (t.ws.map I), .own 47 2 yv t.ys.length (spCells t.ys)]

end Go.Proofs.YtldcehhhndlhdaaGreatDoor
/- Walks: filled. -/
namespace Go.Proofs.YtldcehhhndlhdaaGreatDoor
open Go.RowKit Go.Sort Go.Shelf

/-- A town whose wells have a bucket for so many feet. -/
def fillT (t : BTown) (l : List Int) (each : Int) : BTown := ⟨t.hs, l.map (fun x => x.tdiv each), t.ys⟩
def fillTo (ws l : List Int) (each : Int) (k : Nat) : List Int := (l.take k).map (fun x => x.tdiv each) ++ ws.drop k
theorem fillTo_len {ws l : List Int} {each : Int} {k : Nat} (h : l.length = ws.length) (hk : k ≤ l.length) : (fillTo ws l each k).length = ws.length := by
  simp [fillTo]
  omega
theorem fillTo_set {ws l : List Int} {each : Int} {k : Nat} (h : l.length = ws.length) (hk : k < l.length) : (fillTo ws l each k).set k (l[k].tdiv each) = fillTo ws l each (k + 1) := by
  unfold fillTo
  have e1 : ((l.take k).map (fun x => x.tdiv each)).length = k := by simp; omega
  rw [List.set_append_right _ _ (by omega), e1, Nat.sub_self, List.drop_eq_getElem_cons (show k < ws.length by omega), List.set_cons_zero, List.take_succ_eq_append_getElem hk, List.map_append]
  simp
theorem fillTo_end {ws l : List Int} {each : Int} (h : l.length = ws.length) : fillTo ws l each l.length = l.map (fun x => x.tdiv each) := by
  unfold fillTo
  rw [List.take_length, List.drop_eq_nil_of_le (by omega), List.append_nil]
theorem tdiv_bd {x each : Int} (h0 : 0 ≤ x) (h1 : x ≤ 99) (h5 : 5 ≤ each) : 0 ≤ x.tdiv each ∧ x.tdiv each ≤ 19 := by
  rw [Int.tdiv_eq_ediv_of_nonneg h0]
  refine ⟨Int.ediv_nonneg h0 (by omega), ?_⟩
  have : x / each < 20 := Int.ediv_lt_of_lt_mul (by omega) (by omega)
  omega

end Go.Proofs.YtldcehhhndlhdaaGreatDoor
/- Walks: the example of the buckets; drawn. -/
namespace Go.Proofs.YtldcehhhndlhdaaGreatDoor
open Go.RowKit Go.Sort Go.Shelf

/-- What is stored where it lay already turns nothing. -/
theorem setCell_same {w : World} {b o : Nat} {v : Value} (h : ∃ cs T fr, w.heap[b]? = some (.cells cs T fr) ∧ cs[o]? = some v) : w.setCell ⟨b, o, none⟩ v = w := by
  obtain ⟨cs, T, fr, h1, h2⟩ := h
  have hlt := lt_of_block h1
  have h' : w.heap[b] = .cells cs T fr := by simpa [Array.getElem?_eq_getElem hlt] using h1
  have e : (w.setCell ⟨b, o, none⟩ v).heap = w.heap := by
    apply Array.ext_getElem?
    intro i
    by_cases hi : i = b
    · subst hi
      show (w.heap.modify i _)[i]? = _
      rw [Array.getElem?_eq_getElem (by simpa using hlt), Array.getElem_modify_self, h', h1]
      have hs : cs.setIfInBounds o v = cs := by
        apply Array.ext_getElem?
        intro j
        rw [Array.getElem?_setIfInBounds]
        split
        · rename_i hj
          subst hj
          rw [if_pos (Array.getElem?_eq_some_iff.1 h2).1, h2]
        · rfl
      simp [hs]
    · exact Below.heap_setCell w ⟨b, o, none⟩ v i hi
  cases w
  simp only [World.setCell] at e ⊢
  simp only [World.mk.injEq, and_true]
  exact e
theorem St.same {w0 w : World} {n : Nat} {L : List Item} (S : St w0 w n L) (i o : Nat) {b : Nat} {cs : List Value} {v : Value} (hi : L[i]? = some (.box b cs)) (hv : cs[o]? = some v) : w.setCell ⟨b, o, none⟩ v = w := by
  obtain ⟨T, hT⟩ := S.row? i hi
  exact setCell_same ⟨_, T, _, hT, by simpa using hv⟩
def exT3 : BTown := ⟨[5, 4, 3], [4, 3], [⟨0, 0⟩, ⟨1, 0⟩, ⟨1, 1⟩, ⟨2, 1⟩]⟩
def exU3 : BTown := ⟨[2, 3], [5, 0], [⟨0, 0⟩, ⟨1, 1⟩]⟩
def exV3 : BTown := ⟨[1], [1, 1], [⟨0, 0⟩, ⟨0, 1⟩]⟩

set_option maxRecDepth 20000 in
set_option maxHeartbeats 8000000 in
theorem example3_any (w : World) :
    Calls Tryz.prog 22 #[] w fun e w' => ∃ v1 v2 v3, e = .returned (.tuple #[v1, v2, v3]) ∧ BAt w' v1 exT3 ∧ BAt w' v2 exU3 ∧ BAt w' v3 exV3 ∧ Below w.heap.size w w' := by
  have S := Lib.hid ((((((((((((((St.init w).alloc [.slice (some ⟨w.heap.size + 1 + 1 + 1, 0, none⟩) 3 3, .slice (some ⟨w.heap.size + 1 + 1 + 1 + 1, 0, none⟩) 2 2, .slice (some ⟨w.heap.size + 1 + 1 + 1 + 1 + 1, 0, none⟩) 4 4] 32).alloc [.slice (some ⟨w.heap.size + 1 + 1 + 1 + 1 + 1 + 1, 0, none⟩) 2 2, .slice (some ⟨w.heap.size + 1 + 1 + 1 + 1 + 1 + 1 + 1, 0, none⟩) 2 2, .slice (some ⟨w.heap.size + 1 + 1 + 1 + 1 + 1 + 1 + 1 + 1, 0, none⟩) 2 2] 32).alloc [.slice (some ⟨w.heap.size + 1 + 1 + 1 + 1 + 1 + 1 + 1 + 1 + 1, 0, none⟩) 1 1, .slice (some ⟨w.heap.size + 1 + 1 + 1 + 1 + 1 + 1 + 1 + 1 + 1 + 1, 0, none⟩) 2 2, .slice (some ⟨w.heap.size + 1 + 1 + 1 + 1 + 1 + 1 + 1 + 1 + 1 + 1 + 1, 0, none⟩) 2 2] 32).alloc [I 5, I 4, I 3] 3).alloc [I 4, I 3] 3).alloc [I 0, I 0, I 1, I 0, I 1, I 1, I 2, I 1] 47).alloc [I 2, I 3] 3).alloc [I 5, I 0] 3).alloc [I 0, I 0, I 1, I 1] 47).alloc [I 1] 3).alloc [I 1, I 1] 3).alloc [I 0, I 0, I 0, I 1] 47))
  go_enter Tryz.func22, Tryz.ntmps22
  go_wp2_with fail
  refine wp_region_treeB (.node [0, 1, 2] [3] (fun _ => .node [] [4] (fun _ => .node [] [5] (fun _ => .last [] [])))) 6 (by kernel_rfl) (by kernel_rfl) ?_
  intro KQ hKQ w5 hb
  have S := Lib.hid (S.out.call hb)
  clear hb
  have k00 := cell_regrown (S.out.get 11 0 rfl rfl)
  have k01 := cell_regrown (S.out.get 11 1 rfl rfl)
  have k02 := cell_regrown (S.out.get 11 2 rfl rfl)
  have k10 := cell_regrown (S.out.get 10 0 rfl rfl)
  have k11 := cell_regrown (S.out.get 10 1 rfl rfl)
  have k12 := cell_regrown (S.out.get 10 2 rfl rfl)
  have k20 := cell_regrown (S.out.get 9 0 rfl rfl)
  have k21 := cell_regrown (S.out.get 9 1 rfl rfl)
  have k22 := cell_regrown (S.out.get 9 2 rfl rfl)
  refine treeB_node ?_
  simp only [opsAt, List.filterMap_cons, List.filterMap_nil, List.getElem?_toArray, List.getElem?_cons_succ, List.getElem?_cons_zero]
  show wpQuiet _ _ _ _ [_, _, _] _
  repeat (first | go_big_quiet_step (fail) | quiet_step (fail))
  refine wpQuiet_nil ?_
  refine all_one ?_
  intro K hK
  refine loud_op rfl rfl ?_
  have u0 := S.out.get 11 0 rfl rfl
  have u1 := S.out.get 11 1 rfl rfl
  have u2 := S.out.get 11 2 rfl rfl
  have z0 := S.out.free 11 0 rfl
  have z1 := S.out.free 11 1 rfl
  have z2 := S.out.free 11 2 rfl
  go_simp
  rw [S.out.same 11 0 rfl rfl, S.out.same 11 1 rfl rfl, S.out.same 11 2 rfl rfl]
  refine hK _ _ (Below.refl _ _) ?_
  clear hK K u0 u1 u2 z0 z1 z2
  refine treeB_node ?_
  simp only [opsAt, List.filterMap_nil]
  refine wpQuiet_nil ?_
  refine all_one ?_
  intro K hK
  refine loud_op rfl rfl ?_
  have u0 := S.out.get 10 0 rfl rfl
  have u1 := S.out.get 10 1 rfl rfl
  have u2 := S.out.get 10 2 rfl rfl
  have z0 := S.out.free 10 0 rfl
  have z1 := S.out.free 10 1 rfl
  have z2 := S.out.free 10 2 rfl
  go_simp
  rw [S.out.same 10 0 rfl rfl, S.out.same 10 1 rfl rfl, S.out.same 10 2 rfl rfl]
  refine hK _ _ (Below.refl _ _) ?_
  clear hK K u0 u1 u2 z0 z1 z2
  refine treeB_node ?_
  simp only [opsAt, List.filterMap_nil]
  refine wpQuiet_nil ?_
  refine all_one ?_
  intro K hK
  refine loud_op rfl rfl ?_
  have u0 := S.out.get 9 0 rfl rfl
  have u1 := S.out.get 9 1 rfl rfl
  have u2 := S.out.get 9 2 rfl rfl
  have z0 := S.out.free 9 0 rfl
  have z1 := S.out.free 9 1 rfl
  have z2 := S.out.free 9 2 rfl
  go_simp
  rw [S.out.same 9 0 rfl rfl, S.out.same 9 1 rfl rfl, S.out.same 9 2 rfl rfl]
  refine hK _ _ (Below.refl _ _) ?_
  clear hK K u0 u1 u2 z0 z1 z2
  refine treeB_last ?_
  simp only [opsAt, List.filterMap_nil]
  refine wpQuiet_nil ?_
  go_wp2_with fail
  have r00 := S.out.get 11 0 rfl rfl
  have r01 := S.out.get 11 1 rfl rfl
  have r02 := S.out.get 11 2 rfl rfl
  have r10 := S.out.get 10 0 rfl rfl
  have r11 := S.out.get 10 1 rfl rfl
  have r12 := S.out.get 10 2 rfl rfl
  have r20 := S.out.get 9 0 rfl rfl
  have r21 := S.out.get 9 1 rfl rfl
  have r22 := S.out.get 9 2 rfl rfl
  refine bodyPost_ret (v := .tuple #[.agg #[.slice (some ⟨w.heap.size + 1 + 1 + 1, 0, none⟩) 3 3, .slice (some ⟨w.heap.size + 1 + 1 + 1 + 1, 0, none⟩) 2 2, .slice (some ⟨w.heap.size + 1 + 1 + 1 + 1 + 1, 0, none⟩) 4 4], .agg #[.slice (some ⟨w.heap.size + 1 + 1 + 1 + 1 + 1 + 1, 0, none⟩) 2 2, .slice (some ⟨w.heap.size + 1 + 1 + 1 + 1 + 1 + 1 + 1, 0, none⟩) 2 2, .slice (some ⟨w.heap.size + 1 + 1 + 1 + 1 + 1 + 1 + 1 + 1, 0, none⟩) 2 2], .agg #[.slice (some ⟨w.heap.size + 1 + 1 + 1 + 1 + 1 + 1 + 1 + 1 + 1, 0, none⟩) 1 1, .slice (some ⟨w.heap.size + 1 + 1 + 1 + 1 + 1 + 1 + 1 + 1 + 1 + 1, 0, none⟩) 2 2, .slice (some ⟨w.heap.size + 1 + 1 + 1 + 1 + 1 + 1 + 1 + 1 + 1 + 1 + 1, 0, none⟩) 2 2]]) (by simp [results, Tryz.results22, go_sem, r00, r01, r02, r10, r11, r12, r20, r21, r22]) rfl ⟨_, _, _, rfl, ⟨_, _, _, rfl, S.out.boxReads 8 rfl rfl (by omega), S.out.boxReads 7 rfl rfl (by omega), S.out.boxReads 6 rfl rfl (by omega)⟩, ⟨_, _, _, rfl, S.out.boxReads 5 rfl rfl (by omega), S.out.boxReads 4 rfl rfl (by omega), S.out.boxReads 3 rfl rfl (by omega)⟩, ⟨_, _, _, rfl, S.out.boxReads 2 rfl rfl (by omega), S.out.boxReads 1 rfl rfl (by omega), S.out.boxReads 0 rfl rfl (by omega)⟩, S.out.bel⟩

end Go.Proofs.YtldcehhhndlhdaaGreatDoor
/- Walks: within, isHour, isStreet, Check and what it calls, ask. -/
namespace Go.Proofs.YtldcehhhndlhdaaGreatDoor.Hr
open Go.RowKit Go.Sort

set_option maxRecDepth 20000 in
set_option maxHeartbeats 400000 in
theorem within_any (n lo hi : Int) (w : World) :
    Calls Tryz.prog 70 #[I n, I lo, I hi] w fun e w' => e = .returned (.bool (inR n lo hi)) ∧ w = w' := by
  by_cases h1 : lo ≤ n
  · by_cases h2 : n ≤ hi
    · go_enter Tryz.func70, Tryz.ntmps70
      go_wp2
      go_ret
      exact ⟨by simp [inR, *], rfl⟩
    · go_enter Tryz.func70, Tryz.ntmps70
      go_wp2
      go_ret
      exact ⟨by simp [inR, *], rfl⟩
  · go_enter Tryz.func70, Tryz.ntmps70
    go_wp2
    go_ret
    exact ⟨by simp [inR]; omega, rfl⟩

set_option maxRecDepth 20000 in
set_option maxHeartbeats 1000000 in
theorem isHour_any (v : Value) (r : Ros) (n : Int) (w : World) (hv : RosAt w v r) :
    Calls Tryz.prog 72 #[v, I n] w fun e w' => e = .returned (.bool (isHour r n)) ∧ Below w.heap.size w w' := by
  obtain ⟨rv, sv, rfl, hr, hs⟩ := hv
  obtain ⟨A, c, rfl, h1, h2, -⟩ := hr.open_
  obtain ⟨A', c', rfl, h3, h4, -⟩ := hs.open_
  clear hr hs
  go_enter Tryz.func72, Tryz.ntmps72
  go_wp2_with (go_at_call 70; refine (within_any _ _ _ _).mono ?_; rintro e w' ⟨rfl, rfl⟩)
  go_ret
  exact ⟨rfl, (Below.refl _ _).alloc (Nat.le_refl _) _⟩

set_option maxRecDepth 20000 in
set_option maxHeartbeats 400000 in
theorem badRoom_any (n : Int) (w : World) :
    Calls Tryz.prog 69 #[I n] w fun e w' => e = .returned (.bool (badRoom n)) ∧ w = w' := by
  go_enter Tryz.func69, Tryz.ntmps69
  go_wp2_with (go_at_call 70; refine (within_any _ _ _ _).mono ?_; rintro e w' ⟨rfl, rfl⟩)
  go_ret
  exact ⟨rfl, rfl⟩

/-- What is in the box that the closure has of the roster. -/
def BoxAt (w : World) (b : Nat) (r : Ros) : Prop := ∃ rv sv, w.cell? ⟨b, 0, none⟩ = some rv ∧ w.cell? ⟨b, 1, none⟩ = some sv ∧ Ints w rv r.room ∧ Strs w sv r.strs
theorem BoxAt.below {w w' : World} {b : Nat} {r : Ros} (h : BoxAt w b r) (hb : Below w.heap.size w w') : BoxAt w' b r := by
  obtain ⟨rv, sv, h1, h2, h3, h4⟩ := h
  exact ⟨rv, sv, keep_cell hb h1, keep_cell hb h2, h3.below hb, h4.below hb⟩

set_option maxRecDepth 20000 in
set_option maxHeartbeats 4000000 in
theorem badStr_any (r : Ros) (s : Str) (b : Nat) (w : World) (hx : BoxAt w b r) :
    Calls Tryz.prog 71 #[.agg #[I s.has, I s.frm, I s.to, I s.cost], .pointer (some ⟨b, 0, none⟩)] w fun e w' => e = .returned (.bool (badStr r s)) ∧ Below w.heap.size w w' := by
  obtain ⟨rv, sv, k0, k1, hr, hs⟩ := hx
  have HR := Lib.hid hr
  have HS := Lib.hid hs
  clear hr hs
  have hlt := World.block_lt_of_cell? w _ k0
  have x0 := box_cell w #[I s.has, I s.frm, I s.to, I s.cost] 53 0 rfl
  have x1 := box_cell w #[I s.has, I s.frm, I s.to, I s.cost] 53 1 rfl
  have x2 := box_cell w #[I s.has, I s.frm, I s.to, I s.cost] 53 2 rfl
  have x3 := box_cell w #[I s.has, I s.frm, I s.to, I s.cost] 53 3 rfl
  have k0 := box_old w (.cells #[I s.has, I s.frm, I s.to, I s.cost] 53) k0
  have k1 := box_old w (.cells #[I s.has, I s.frm, I s.to, I s.cost] 53) k1
  have HB := Lib.hid (show Below w.heap.size w (w.alloc (.cells #[I s.has, I s.frm, I s.to, I s.cost] 53)) from (Below.refl _ _).alloc (Nat.le_refl _) _)
  by_cases h1 : s.has = -1
  · have h1' : (s.has != -1) = false := by simp [h1]
    have H1 := Lib.hid h1
    clear h1
    cases h3 : isHour r s.frm
    · go_enter Tryz.func71, Tryz.ntmps71
      go_wp2_with (first | (go_at_call 72; refine (isHour_any _ r _ _ ⟨_, _, rfl, HR.out.below HB.out, HS.out.below HB.out⟩).mono ?_; rintro e w1 ⟨rfl, hb⟩; have x0 := keep_cell hb x0; have x1 := keep_cell hb x1; have x2 := keep_cell hb x2; have x3 := keep_cell hb x3; have k0 := keep_cell hb k0; have k1 := keep_cell hb k1; have HB := Lib.hid (bto HB.out hb); clear hb) | (go_at_call 70; refine (within_any _ _ _ _).mono ?_; rintro e w' ⟨rfl, rfl⟩))
      go_ret
      have hh := H1.out
      exact ⟨by simp [badStr, *], HB.out⟩
    · cases h4 : isHour r s.to
      · go_enter Tryz.func71, Tryz.ntmps71
        go_wp2_with (first | (go_at_call 72; refine (isHour_any _ r _ _ ⟨_, _, rfl, HR.out.below HB.out, HS.out.below HB.out⟩).mono ?_; rintro e w1 ⟨rfl, hb⟩; have x0 := keep_cell hb x0; have x1 := keep_cell hb x1; have x2 := keep_cell hb x2; have x3 := keep_cell hb x3; have k0 := keep_cell hb k0; have k1 := keep_cell hb k1; have HB := Lib.hid (bto HB.out hb); clear hb) | (go_at_call 70; refine (within_any _ _ _ _).mono ?_; rintro e w' ⟨rfl, rfl⟩))
        go_ret
        have hh := H1.out
        exact ⟨by simp [badStr, *], HB.out⟩
      · cases h5 : decide (s.to < s.frm)
        · cases h6 : inR s.cost 0 9
          · go_enter Tryz.func71, Tryz.ntmps71
            go_wp2_with (first | (go_at_call 72; refine (isHour_any _ r _ _ ⟨_, _, rfl, HR.out.below HB.out, HS.out.below HB.out⟩).mono ?_; rintro e w1 ⟨rfl, hb⟩; have x0 := keep_cell hb x0; have x1 := keep_cell hb x1; have x2 := keep_cell hb x2; have x3 := keep_cell hb x3; have k0 := keep_cell hb k0; have k1 := keep_cell hb k1; have HB := Lib.hid (bto HB.out hb); clear hb) | (go_at_call 70; refine (within_any _ _ _ _).mono ?_; rintro e w' ⟨rfl, rfl⟩))
            go_ret
            have hh := H1.out
            exact ⟨by simp [badStr, *], HB.out⟩
          · go_enter Tryz.func71, Tryz.ntmps71
            go_wp2_with (first | (go_at_call 72; refine (isHour_any _ r _ _ ⟨_, _, rfl, HR.out.below HB.out, HS.out.below HB.out⟩).mono ?_; rintro e w1 ⟨rfl, hb⟩; have x0 := keep_cell hb x0; have x1 := keep_cell hb x1; have x2 := keep_cell hb x2; have x3 := keep_cell hb x3; have k0 := keep_cell hb k0; have k1 := keep_cell hb k1; have HB := Lib.hid (bto HB.out hb); clear hb) | (go_at_call 70; refine (within_any _ _ _ _).mono ?_; rintro e w' ⟨rfl, rfl⟩))
            go_ret
            have hh := H1.out
            exact ⟨by simp [badStr, *], HB.out⟩
        · go_enter Tryz.func71, Tryz.ntmps71
          go_wp2_with (first | (go_at_call 72; refine (isHour_any _ r _ _ ⟨_, _, rfl, HR.out.below HB.out, HS.out.below HB.out⟩).mono ?_; rintro e w1 ⟨rfl, hb⟩; have x0 := keep_cell hb x0; have x1 := keep_cell hb x1; have x2 := keep_cell hb x2; have x3 := keep_cell hb x3; have k0 := keep_cell hb k0; have k1 := keep_cell hb k1; have HB := Lib.hid (bto HB.out hb); clear hb) | (go_at_call 70; refine (within_any _ _ _ _).mono ?_; rintro e w' ⟨rfl, rfl⟩))
          go_ret
          have hh := H1.out
          exact ⟨by simp [badStr, *], HB.out⟩
  · have h1' : (s.has != -1) = true := by simp [h1]
    have H1 := Lib.hid h1
    clear h1
    cases h2 : isHour r s.has
    · go_enter Tryz.func71, Tryz.ntmps71
      go_wp2_with (first | (go_at_call 72; refine (isHour_any _ r _ _ ⟨_, _, rfl, HR.out.below HB.out, HS.out.below HB.out⟩).mono ?_; rintro e w1 ⟨rfl, hb⟩; have x0 := keep_cell hb x0; have x1 := keep_cell hb x1; have x2 := keep_cell hb x2; have x3 := keep_cell hb x3; have k0 := keep_cell hb k0; have k1 := keep_cell hb k1; have HB := Lib.hid (bto HB.out hb); clear hb) | (go_at_call 70; refine (within_any _ _ _ _).mono ?_; rintro e w' ⟨rfl, rfl⟩))
      go_ret
      have hh := H1.out
      exact ⟨by simp [badStr, *], HB.out⟩
    · cases h3 : isHour r s.frm
      · go_enter Tryz.func71, Tryz.ntmps71
        go_wp2_with (first | (go_at_call 72; refine (isHour_any _ r _ _ ⟨_, _, rfl, HR.out.below HB.out, HS.out.below HB.out⟩).mono ?_; rintro e w1 ⟨rfl, hb⟩; have x0 := keep_cell hb x0; have x1 := keep_cell hb x1; have x2 := keep_cell hb x2; have x3 := keep_cell hb x3; have k0 := keep_cell hb k0; have k1 := keep_cell hb k1; have HB := Lib.hid (bto HB.out hb); clear hb) | (go_at_call 70; refine (within_any _ _ _ _).mono ?_; rintro e w' ⟨rfl, rfl⟩))
        go_ret
        have hh := H1.out
        exact ⟨by simp [badStr, *], HB.out⟩
      · cases h4 : isHour r s.to
        · go_enter Tryz.func71, Tryz.ntmps71
          go_wp2_with (first | (go_at_call 72; refine (isHour_any _ r _ _ ⟨_, _, rfl, HR.out.below HB.out, HS.out.below HB.out⟩).mono ?_; rintro e w1 ⟨rfl, hb⟩; have x0 := keep_cell hb x0; have x1 := keep_cell hb x1; have x2 := keep_cell hb x2; have x3 := keep_cell hb x3; have k0 := keep_cell hb k0; have k1 := keep_cell hb k1; have HB := Lib.hid (bto HB.out hb); clear hb) | (go_at_call 70; refine (within_any _ _ _ _).mono ?_; rintro e w' ⟨rfl, rfl⟩))
          go_ret
          have hh := H1.out
          exact ⟨by simp [badStr, *], HB.out⟩
        · cases h5 : decide (s.to < s.frm)
          · cases h6 : inR s.cost 0 9
            · go_enter Tryz.func71, Tryz.ntmps71
              go_wp2_with (first | (go_at_call 72; refine (isHour_any _ r _ _ ⟨_, _, rfl, HR.out.below HB.out, HS.out.below HB.out⟩).mono ?_; rintro e w1 ⟨rfl, hb⟩; have x0 := keep_cell hb x0; have x1 := keep_cell hb x1; have x2 := keep_cell hb x2; have x3 := keep_cell hb x3; have k0 := keep_cell hb k0; have k1 := keep_cell hb k1; have HB := Lib.hid (bto HB.out hb); clear hb) | (go_at_call 70; refine (within_any _ _ _ _).mono ?_; rintro e w' ⟨rfl, rfl⟩))
              go_ret
              have hh := H1.out
              exact ⟨by simp [badStr, *], HB.out⟩
            · go_enter Tryz.func71, Tryz.ntmps71
              go_wp2_with (first | (go_at_call 72; refine (isHour_any _ r _ _ ⟨_, _, rfl, HR.out.below HB.out, HS.out.below HB.out⟩).mono ?_; rintro e w1 ⟨rfl, hb⟩; have x0 := keep_cell hb x0; have x1 := keep_cell hb x1; have x2 := keep_cell hb x2; have x3 := keep_cell hb x3; have k0 := keep_cell hb k0; have k1 := keep_cell hb k1; have HB := Lib.hid (bto HB.out hb); clear hb) | (go_at_call 70; refine (within_any _ _ _ _).mono ?_; rintro e w' ⟨rfl, rfl⟩))
              go_ret
              have hh := H1.out
              exact ⟨by simp [badStr, *], HB.out⟩
          · go_enter Tryz.func71, Tryz.ntmps71
            go_wp2_with (first | (go_at_call 72; refine (isHour_any _ r _ _ ⟨_, _, rfl, HR.out.below HB.out, HS.out.below HB.out⟩).mono ?_; rintro e w1 ⟨rfl, hb⟩; have x0 := keep_cell hb x0; have x1 := keep_cell hb x1; have x2 := keep_cell hb x2; have x3 := keep_cell hb x3; have k0 := keep_cell hb k0; have k1 := keep_cell hb k1; have HB := Lib.hid (bto HB.out hb); clear hb) | (go_at_call 70; refine (within_any _ _ _ _).mono ?_; rintro e w' ⟨rfl, rfl⟩))
            go_ret
            have hh := H1.out
            exact ⟨by simp [badStr, *], HB.out⟩

end Go.Proofs.YtldcehhhndlhdaaGreatDoor.Hr
