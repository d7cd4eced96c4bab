/- Walk of best, where a move costs what it costs. -/
import Derived.Test.YtldcehhhndlhdaaGreatDoorC27
import Derived.Test.YtldcehhhndlhdaaGreatDoorC3
import Derived.Test.YtldcehhhndlhdaaGreatDoorC8
import Derived.Laws.CopyOwn
namespace Go.Proofs.YtldcehhhndlhdaaGreatDoor.Hr
open Go.RowKit Go.Sort

theorem StrOk.sml {s : Str} (h : StrOk s) {x : Int} (h0 : s.frm ≤ x) (h1 : x ≤ s.to) : Sml s x := by
  obtain ⟨a, b, c, d, e, g, i⟩ := h
  exact ⟨by omega, by omega, by omega, by omega, by omega, by omega⟩
set_option maxRecDepth 20000 in
set_option maxHeartbeats 8000000 in
theorem bestSteps_any (w0 : World) (ss : List Str) (rv : Value) (A : Option Addr) (cs c m : Nat) (hss : Strs w0 (.slice A ss.length cs) ss) (hsl : ss.length ≤ 6) (hok : ∀ s ∈ ss, StrOk s) :
    ∀ (n k : Nat) (left : List Int) (w : World) (L : List Item), k + n = ss.length → LOk left → St w0 w w.heap.size (.any m (MemoP fun k l => bestP stepsI (ss.drop k) l) :: .box c [rv, .slice A ss.length cs, .func (.func 28) #[] #[], .map (some m)] :: L) →
    Calls Tryz.prog 57 #[.pointer (some ⟨c, 0, none⟩), stV k left] w fun e w' => e = .returned (ansV (bestP stepsI (ss.drop k) left)) ∧ St w0 w' w'.heap.size (.any m (MemoP fun k l => bestP stepsI (ss.drop k) l) :: .box c [rv, .slice A ss.length cs, .func (.func 28) #[] #[], .map (some m)] :: L) := by
  have hlow : ∀ k, LowW stepsI (ss.drop k) := fun k s hs h h0 h1 => (stepsI_bd ((hok s (List.mem_of_mem_drop hs)).sml h0 h1)).2
  have hbd : ∀ k l, 0 ≤ (bestP stepsI (ss.drop k) l).1 ∧ (bestP stepsI (ss.drop k) l).1 ≤ 10800 := fun k l => by
    have h1 := bestP_bd (hlow k) l
    have : (ss.drop k).length ≤ ss.length := by simp
    omega
  intro n
  induction n with
  | zero =>
    intro k left w L hkn hleft hS
    obtain rfl : k = ss.length := by omega
    obtain ⟨hlen, hlo⟩ := hleft
    match left, hlen, hlo with
    | [a1, b1, c1, d1, e1, f1, g1, i1], _, hlo =>
      clear hok hlow
      have hke : ((ss.length : Int) == (ss.length : Int)) = true := by simp
      have S := Lib.hid (show St w0 ((w.alloc (.cells #[I (ss.length : Int), I a1, I b1, I c1, I d1, I e1, I f1, I g1, I i1] 87)).alloc (.cells #[I 0, I 0] 93)) (w.heap.size + 1 + 1) (.box (w.heap.size + 1) [I 0, I 0] :: .box w.heap.size [I (ss.length : Int), I a1, I b1, I c1, I d1, I e1, I f1, I g1, I i1] :: .any m (MemoP fun k l => bestP stepsI (ss.drop k) l) :: .box c [rv, .slice A ss.length cs, .func (.func 28) #[] #[], .map (some m)] :: L) from (hS.alloc [I (ss.length : Int), I a1, I b1, I c1, I d1, I e1, I f1, I g1, I i1] 87).alloc [I 0, I 0] 93)
      clear hS
      show Calls Tryz.prog 57 #[.pointer (some ⟨c, 0, none⟩), .agg #[I (ss.length : Int), I a1, I b1, I c1, I d1, I e1, I f1, I g1, I i1]] w _
      go_enter Tryz.func57, Tryz.ntmps57
      go_wp2_with fail
      refine wp_region_seg [] [0, 1, 2, 3, 4, 5, 6, 7, 8] [] 9 (by kernel_rfl) (by kernel_rfl) ?_
      intro KQ hKQ w1 hb
      have S := Lib.hid (S.out.call hb)
      clear hb
      have q1_0 := cell_regrown (S.out.get 1 0 rfl rfl)
      have q3_1 := cell_regrown (S.out.get 3 1 rfl rfl)
      refine seg_last ?_
      simp only [opsAt, List.filterMap_cons, List.filterMap_nil, List.getElem?_toArray, List.getElem?_cons_succ, List.getElem?_cons_zero]
      repeat (first | go_big_quiet_step (fail) | quiet_step (fail))
      refine wpQuiet_nil ?_
      clear q1_0 q3_1
      have S' := (S.out.set 0 0 (I 0) rfl).set 0 1 (I 0) rfl
      have r0 := S'.get 0 0 rfl rfl
      have r1 := S'.get 0 1 rfl rfl
      have l0 := S.out.lt 0 rfl
      have f0 := S.out.free 0 0 rfl
      have f1 := S.out.free 0 1 rfl
      have c0 := S.out.get 0 0 rfl rfl
      have c1 := S.out.get 0 1 rfl rfl
      go_wp2_with fail
      refine bodyPost_ret (v := .agg #[I 0, I 0]) (by simp [results, Tryz.results57, go_sem, r0, r1]) rfl ⟨by rw [List.drop_length]; rfl, S'.tail.tail.fix⟩
  | succ n ih =>
    intro k left w L hkn hleft hS
    have hkl : k < ss.length := by omega
    obtain ⟨⟨has, frm, to, cost⟩, hs⟩ : ∃ s, ss[k] = s := ⟨_, rfl⟩
    have hso : StrOk ⟨has, frm, to, cost⟩ := hok _ (by rw [← hs]; exact List.getElem_mem hkl)
    obtain ⟨fr, rfl⟩ := Int.eq_ofNat_of_zero_le hso.frm0
    have hsd : ss.drop k = ⟨has, (fr : Int), to, cost⟩ :: ss.drop (k + 1) := by rw [List.drop_eq_getElem_cons hkl, hs]
    have hto : to ≤ 7 := hso.to1
    have hft : (fr : Int) ≤ to := hso.ft
    have IH := Lib.hid ih
    have HSD := Lib.hid hsd
    have HBD := Lib.hid hbd
    have HLW := Lib.hid hlow
    have HOK := Lib.hid hso
    have HLEFT := Lib.hid hleft
    obtain ⟨A1, cs1, he1, -, -, hcc⟩ := hss.open_
    injection he1 with e1 e2 e3
    subst e1
    clear e2 e3
    obtain ⟨bs, os, rfl, hbl, hcell⟩ := hcc (by omega)
    clear hcc
    obtain ⟨y0, y1, y2, y3⟩ := hcell k hkl
    rw [hs] at y0 y1 y2 y3
    have hki : (k : Int) < (ss.length : Int) := by omega
    have hke : ((k : Int) == (ss.length : Int)) = false := by simp; omega
    have HSS := Lib.hid hss
    have HY := Lib.hid (And.intro y0 (And.intro y1 (And.intro y2 y3)))
    clear ih hsd hbd hso hcell hs hok hss hlow y0 y1 y2 y3
    obtain ⟨hlen, hlo⟩ := hleft
    match left, hlen, hlo with
    | [a1, b1, c1, d1, e1, f1, g1, i1], _, hlo =>
      have S := Lib.hid (show St w0 ((w.alloc (.cells #[I (k : Int), I a1, I b1, I c1, I d1, I e1, I f1, I g1, I i1] 87)).alloc (.cells #[I 0, I 0] 93)) (w.heap.size + 1 + 1) (.box (w.heap.size + 1) [I 0, I 0] :: .box w.heap.size [I (k : Int), I a1, I b1, I c1, I d1, I e1, I f1, I g1, I i1] :: .any m (MemoP fun k l => bestP stepsI (ss.drop k) l) :: .box c [rv, .slice (some ⟨bs, os, none⟩) ss.length cs, .func (.func 28) #[] #[], .map (some m)] :: L) from (hS.alloc [I (k : Int), I a1, I b1, I c1, I d1, I e1, I f1, I g1, I i1] 87).alloc [I 0, I 0] 93)
      clear hS
      show Calls Tryz.prog 57 #[.pointer (some ⟨c, 0, none⟩), .agg #[I (k : Int), I a1, I b1, I c1, I d1, I e1, I f1, I g1, I i1]] w _
      go_enter Tryz.func57, Tryz.ntmps57
      go_wp2_with fail
      refine wp_region_seg [] [0, 1, 2, 3, 4, 5, 6, 7, 8] [] 9 (by kernel_rfl) (by kernel_rfl) ?_
      intro KQ hKQ w1 hb
      have S := Lib.hid (S.out.call hb)
      clear hb
      have q1_0 := cell_regrown (S.out.get 1 0 rfl rfl)
      have q3_1 := cell_regrown (S.out.get 3 1 rfl rfl)
      refine seg_last ?_
      simp only [opsAt, List.filterMap_cons, List.filterMap_nil, List.getElem?_toArray, List.getElem?_cons_succ, List.getElem?_cons_zero]
      repeat (first | go_big_quiet_step (fail) | quiet_step (fail))
      refine wpQuiet_nil ?_
      clear q1_0 q3_1
      go_wp2_with fail
      refine wp_region_seg [([0, 1, 2, 3, 4, 5, 6, 7, 8], 9)] [] [10, 11] 10 (by kernel_rfl) (by kernel_rfl) ?_
      intro KQ hKQ w2 hb
      have S := Lib.hid (S.out.call hb)
      clear hb
      obtain ⟨om, hom, hmp⟩ := S.out.obj 2 rfl
      have hst : StOk k [a1, b1, c1, d1, e1, f1, g1, i1] := ⟨rfl, by omega, by omega, fun x hx => by have := hlo x hx; omega⟩
      have hlk := run_lookup_memo (m := m) hmp hst
      have hgr : ∀ d os, (grow (redrawn w2 d) os).heap[m]? = some om := fun d os => by rw [(below_regrown w2 d os).block m (lt_of_block hom)]; exact hom
      obtain ⟨⟨x, y⟩, hxy⟩ : ∃ p, bestP stepsI (ss.drop k) [a1, b1, c1, d1, e1, f1, g1, i1] = p := ⟨_, rfl⟩
      have HXY := Lib.hid hxy
      rcases hlk with hlk | hlk
      · have hl : ∀ d os, (Instr.lookup 89 (.map (some m)) (.agg #[I (k : Int), I a1, I b1, I c1, I d1, I e1, I f1, I g1, I i1]) true).run Tryz.prog (grow (redrawn w2 d) os) = .ok (.tuple #[.agg #[I x, I y], .bool true]) (grow (redrawn w2 d) os) := fun d os => by
          have := hlk _ (hgr d os)
          simp only [hxy] at this
          exact this
        clear hlk hgr hom hmp
        have q3_3 := cell_regrown (S.out.get 3 3 rfl rfl)
        have q1_0 := cell_regrown (S.out.get 1 0 rfl rfl)
        have q1_1 := cell_regrown (S.out.get 1 1 rfl rfl)
        have q1_2 := cell_regrown (S.out.get 1 2 rfl rfl)
        have q1_3 := cell_regrown (S.out.get 1 3 rfl rfl)
        have q1_4 := cell_regrown (S.out.get 1 4 rfl rfl)
        have q1_5 := cell_regrown (S.out.get 1 5 rfl rfl)
        have q1_6 := cell_regrown (S.out.get 1 6 rfl rfl)
        have q1_7 := cell_regrown (S.out.get 1 7 rfl rfl)
        have q1_8 := cell_regrown (S.out.get 1 8 rfl rfl)
        refine seg_next ?_
        simp only [opsAt, List.filterMap_cons, List.filterMap_nil, List.getElem?_toArray, List.getElem?_cons_succ, List.getElem?_cons_zero]
        repeat (first | go_big_quiet_step (fail) | quiet_step (fail))
        refine wpQuiet_nil ?_
        intro K hK
        refine loud_op rfl rfl ?_
        go_simp
        clear hl
        have hb := (Below.refl w2.heap.size w2).alloc (Nat.le_refl _) (.cells #[I 0, I 0] 93)
        refine hK _ _ hb ?_
        clear hK K hb q3_3 q1_0 q1_1 q1_2 q1_3 q1_4 q1_5 q1_6 q1_7 q1_8
        refine seg_last ?_
        simp only [opsAt, List.filterMap_cons, List.filterMap_nil, List.getElem?_toArray, List.getElem?_cons_succ, List.getElem?_cons_zero]
        refine wpQuiet_nil ?_
        clear hxy
        have S1 := S.out.alloc [I x, I y] 93
        have S2 := (S1.set 1 0 (I x) rfl).set 1 1 (I y) rfl
        have u0 := S1.get 0 0 rfl rfl
        have u1 := S1.get 0 1 rfl rfl
        have u2 := S1.get 1 0 rfl rfl
        have u3 := S1.get 1 1 rfl rfl
        have u4 := S1.free 1 0 rfl
        have u5 := S1.free 1 1 rfl
        have r0 := S2.get 1 0 rfl rfl
        have r1 := S2.get 1 1 rfl rfl
        go_wp2_with fail
        refine bodyPost_ret (v := .agg #[I x, I y]) (by simp [results, Tryz.results57, go_sem, r0, r1]) rfl ⟨by rw [HXY.out]; rfl, S2.tail.tail.tail.fix⟩
      · have hl : ∀ d os, (Instr.lookup 89 (.map (some m)) (.agg #[I (k : Int), I a1, I b1, I c1, I d1, I e1, I f1, I g1, I i1]) true).run Tryz.prog (grow (redrawn w2 d) os) = .ok (.tuple #[.agg #[I 0, I 0], .bool false]) (grow (redrawn w2 d) os) := fun d os => by
          have := hlk _ (hgr d os)
          exact this
        clear hlk hgr hom hmp
        have q3_3 := cell_regrown (S.out.get 3 3 rfl rfl)
        have q1_0 := cell_regrown (S.out.get 1 0 rfl rfl)
        have q1_1 := cell_regrown (S.out.get 1 1 rfl rfl)
        have q1_2 := cell_regrown (S.out.get 1 2 rfl rfl)
        have q1_3 := cell_regrown (S.out.get 1 3 rfl rfl)
        have q1_4 := cell_regrown (S.out.get 1 4 rfl rfl)
        have q1_5 := cell_regrown (S.out.get 1 5 rfl rfl)
        have q1_6 := cell_regrown (S.out.get 1 6 rfl rfl)
        have q1_7 := cell_regrown (S.out.get 1 7 rfl rfl)
        have q1_8 := cell_regrown (S.out.get 1 8 rfl rfl)
        refine seg_next ?_
        simp only [opsAt, List.filterMap_cons, List.filterMap_nil, List.getElem?_toArray, List.getElem?_cons_succ, List.getElem?_cons_zero]
        repeat (first | go_big_quiet_step (fail) | quiet_step (fail))
        refine wpQuiet_nil ?_
        intro K hK
        refine loud_op rfl rfl ?_
        go_simp
        clear hl
        have hb := (Below.refl w2.heap.size w2).alloc (Nat.le_refl _) (.cells #[I 0, I 0] 93)
        refine hK _ _ hb ?_
        clear hK K hb q3_3 q1_0 q1_1 q1_2 q1_3 q1_4 q1_5 q1_6 q1_7 q1_8
        refine seg_last ?_
        simp only [opsAt, List.filterMap_cons, List.filterMap_nil, List.getElem?_toArray, List.getElem?_cons_succ, List.getElem?_cons_zero]
        refine wpQuiet_nil ?_
        clear hxy hst
        have S := Lib.hid ((S.out.alloc [I 0, I 0] 93).alloc [I 0, I (-1)] 93)
        go_wp2_with fail
        refine wp_region_seg [([0, 1, 2, 3, 4, 5, 6, 7, 8], 9)] [] [10] 10 (by kernel_rfl) (by kernel_rfl) ?_
        intro KQ hKQ w3 hb
        have S := Lib.hid (S.out.call hb)
        clear hb
        have q5_1 := cell_regrown (S.out.get 5 1 rfl rfl)
        have q3_0 := cell_regrown (S.out.get 3 0 rfl rfl)
        obtain ⟨y0, y1, y2, y3⟩ := HY.out
        have y0 := cell_regrown (keep_cell S.out.bel y0)
        have y1 := cell_regrown (keep_cell S.out.bel y1)
        have y2 := cell_regrown (keep_cell S.out.bel y2)
        have y3 := cell_regrown (keep_cell S.out.bel y3)
        refine seg_next ?_
        simp only [opsAt, List.filterMap_cons, List.filterMap_nil, List.getElem?_toArray, List.getElem?_cons_succ, List.getElem?_cons_zero]
        repeat (first | go_big_quiet_step (fail) | quiet_step (fail))
        refine wpQuiet_nil ?_
        intro K hK
        refine loud_op rfl rfl ?_
        go_simp
        have hb := (Below.refl w3.heap.size w3).alloc (Nat.le_refl _) (.cells #[I 0, I 0, I 0, I 0] 53)
        refine hK _ _ hb ?_
        clear hK K hb q5_1 q3_0 y0 y1 y2 y3
        refine seg_last ?_
        simp only [opsAt, List.filterMap_cons, List.filterMap_nil, List.getElem?_toArray, List.getElem?_cons_succ, List.getElem?_cons_zero]
        refine wpQuiet_nil ?_
        have S := Lib.hid (S.out.alloc [I has, I (fr : Int), I to, I cost] 53)
        have z1 := S.out.get 0 1 rfl rfl
        go_wp2_with fail
        clear z1
        go_loopw [9] (fun i wr => ∃ j : Nat, i = I ((fr + j : Nat) : Int) ∧ (fr : Int) + j ≤ to + 1 ∧ Hid (St w0 wr wr.heap.size (.box w3.heap.size [I has, I (fr : Int), I to, I cost] :: .box (w2.heap.size + 1) [I (bestTo stepsI (ss.drop (k + 1)) (⟨has, (fr : Int), to, cost⟩ : Str) [a1, b1, c1, d1, e1, f1, g1, i1] j).1, I (bestTo stepsI (ss.drop (k + 1)) (⟨has, (fr : Int), to, cost⟩ : Str) [a1, b1, c1, d1, e1, f1, g1, i1] j).2] :: .box w2.heap.size [I 0, I 0] :: .box (w.heap.size + 1) [I 0, I 0] :: .box w.heap.size [I (k : Int), I a1, I b1, I c1, I d1, I e1, I f1, I g1, I i1] :: .any m (MemoP fun k l => bestP stepsI (ss.drop k) l) :: .box c [rv, .slice (some ⟨bs, os, none⟩) ss.length cs, .func (.func 28) #[] #[], .map (some m)] :: L))) (fun i _ => (to + 1 - intOf i).toNat)
        case atStart => exact ⟨0, rfl, by omega, Lib.hid S.out.fix⟩
        case round =>
          clear S
          obtain ⟨j, rfl, hj, S⟩ := hrel
          have hJ := bestTo_hour HOK.out (ss := ss.drop (k + 1)) (w := stepsI) [a1, b1, c1, d1, e1, f1, g1, i1] j (by simp only; omega)
          have hJ' := bestTo_bd (w := stepsI) (s := (⟨has, (fr : Int), to, cost⟩ : Str)) (fun h h0 h1 => HLW.out k _ (by rw [HSD.out]; simp) h h0 h1) (by omega) (HBD.out (k + 1)) [a1, b1, c1, d1, e1, f1, g1, i1] j (by simp only; omega)
          obtain ⟨⟨o1, o2⟩, ho⟩ : ∃ p, (bestTo stepsI (ss.drop (k + 1)) (⟨has, (fr : Int), to, cost⟩ : Str) [a1, b1, c1, d1, e1, f1, g1, i1] j) = p := ⟨_, rfl⟩
          rw [ho] at S hJ hJ'
          have HO := Lib.hid ho
          clear ho
          simp only at hJ hJ'
          obtain ⟨hJ1, hJ2⟩ := hJ
          obtain ⟨hJ3, hJ4⟩ := hJ'
          have S := Lib.hid (show St w0 wr wr.heap.size (.box w3.heap.size [I has, I (fr : Int), I to, I cost] :: .box (w2.heap.size + 1) [I o1, I o2] :: .box w2.heap.size [I 0, I 0] :: .box (w.heap.size + 1) [I 0, I 0] :: .box w.heap.size [I (k : Int), I a1, I b1, I c1, I d1, I e1, I f1, I g1, I i1] :: .any m (MemoP fun k l => bestP stepsI (ss.drop k) l) :: .box c [rv, .slice (some ⟨bs, os, none⟩) ss.length cs, .func (.func 28) #[] #[], .map (some m)] :: L) from S.out)
          have z2 := S.out.get 0 2 rfl rfl
          by_cases hle : ((fr + j : Nat) : Int) ≤ to
          · have hj7 : fr + j ≤ 7 := by omega
            go_wp2_with fail
            clear z2
            obtain ⟨own, hown⟩ : ∃ x, stepsI (⟨has, (fr : Int), to, cost⟩ : Str) ((fr + j : Nat) : Int) = x := ⟨_, rfl⟩
            have hsml : Sml (⟨has, (fr : Int), to, cost⟩ : Str) ((fr + j : Nat) : Int) := HOK.out.sml (by simp only; omega) (by simp only; omega)
            obtain ⟨hob1, hob2⟩ : 0 ≤ own ∧ own ≤ 1800 := hown ▸ stepsI_bd hsml
            have HW := Lib.hid hown
            clear hown
            refine wp_region_seg [([0, 1, 2, 3, 4, 5], 6)] [7] [] 8 (by kernel_rfl) (by kernel_rfl) ?_
            intro KQ hKQ w4 hb
            have S := Lib.hid (S.out.call hb)
            clear hb
            have q6_2 := cell_regrown (S.out.get 6 2 rfl rfl)
            have q0_0 := cell_regrown (S.out.get 0 0 rfl rfl)
            have q0_1 := cell_regrown (S.out.get 0 1 rfl rfl)
            have q0_2 := cell_regrown (S.out.get 0 2 rfl rfl)
            have q0_3 := cell_regrown (S.out.get 0 3 rfl rfl)
            refine seg_next ?_
            simp only [opsAt, List.filterMap_cons, List.filterMap_nil, List.getElem?_toArray, List.getElem?_cons_succ, List.getElem?_cons_zero]
            repeat (first | go_big_quiet_step (fail) | quiet_step (fail))
            refine wpQuiet_nil ?_
            intro K hK
            refine loud_op rfl rfl ?_
            go_simp
            refine (steps_any ⟨has, (fr : Int), to, cost⟩ _ _ hsml).mono ?_
            rintro e w5 ⟨rfl, hb⟩
            rw [HW.out]
            have S := Lib.hid (S.out.call hb)
            refine hK _ _ hb ?_
            clear hK K hb q6_2 q0_0 q0_1 q0_2 q0_3
            refine seg_last ?_
            simp only [opsAt, List.filterMap_cons, List.filterMap_nil, List.getElem?_toArray, List.getElem?_cons_succ, List.getElem?_cons_zero]
            repeat (first | go_big_quiet_step (fail) | quiet_step (fail))
            refine wpQuiet_nil ?_
            have q := S.out.get 4 (1 + (fr + j)) rfl (st_cell (fr + j) (show fr + j < ([a1, b1, c1, d1, e1, f1, g1, i1] : List Int).length by show fr + j < 8; omega))
            obtain ⟨lv, hlv⟩ : ∃ x, at_ [a1, b1, c1, d1, e1, f1, g1, i1] ((fr + j : Nat) : Int) = x := ⟨_, rfl⟩
            rw [hlv] at q
            by_cases hl0 : lv = 0
            · have hlb : (lv == 0) = true := by simp [hl0]
              have HT := Lib.hid (show tryH stepsI (bestP stepsI (ss.drop (k + 1))) (⟨has, (fr : Int), to, cost⟩ : Str) [a1, b1, c1, d1, e1, f1, g1, i1] (o1, o2) ((fr + j : Nat) : Int) = (o1, o2) by unfold tryH; rw [if_pos (.inr (by rw [hlv]; exact hl0))])
              clear hl0 hlv
              go_wp2_with fail
              clear q
              go_roundw
              case rel => exact ⟨j + 1, by go_num, by omega, Lib.hid (by
                rw [bestTo_succ, show ((⟨has, (fr : Int), to, cost⟩ : Str)).frm + (j : Int) = ((fr + j : Nat) : Int) by simp, HO.out, HT.out]
                exact S.out)⟩
              case measure => simp [intOf]; omega
            · have hlb : (lv == 0) = false := by simp [hl0]
              have HL := Lib.hid (show at_ [a1, b1, c1, d1, e1, f1, g1, i1] ((fr + j : Nat) : Int) ≠ 0 by rw [hlv]; exact hl0)
              clear hl0 hlv
              have q4_0 := (S.out.get 4 0 rfl rfl)
              have q4_1 := (S.out.get 4 1 rfl rfl)
              have q4_2 := (S.out.get 4 2 rfl rfl)
              have q4_3 := (S.out.get 4 3 rfl rfl)
              have q4_4 := (S.out.get 4 4 rfl rfl)
              have q4_5 := (S.out.get 4 5 rfl rfl)
              have q4_6 := (S.out.get 4 6 rfl rfl)
              have q4_7 := (S.out.get 4 7 rfl rfl)
              have q4_8 := (S.out.get 4 8 rfl rfl)
              go_wp2_with fail
              refine (with_any (k : Int) ((fr + j : Nat) : Int) [a1, b1, c1, d1, e1, f1, g1, i1] _ ⟨rfl, by omega, by omega, fun x hx => by have := hlo x hx; omega⟩ (by omega) (by omega)).mono ?_
              rintro e w6 ⟨rfl, hb⟩
              have S := Lib.hid (S.out.call hb)
              clear hb q q4_0 q4_1 q4_2 q4_3 q4_4 q4_5 q4_6 q4_7 q4_8
              go_wp2_with fail
              have hx2b := HBD.out (k + 1) (dec [a1, b1, c1, d1, e1, f1, g1, i1] ((fr + j : Nat) : Int))
              obtain ⟨⟨x2, y2⟩, h2⟩ : ∃ p, bestP stepsI (ss.drop (k + 1)) (dec [a1, b1, c1, d1, e1, f1, g1, i1] ((fr + j : Nat) : Int)) = p := ⟨_, rfl⟩
              rw [h2] at hx2b
              have H2 := Lib.hid h2
              clear h2
              simp only at hx2b
              obtain ⟨hx2, hx2'⟩ := hx2b
              refine (IH.out (k + 1) (dec [a1, b1, c1, d1, e1, f1, g1, i1] ((fr + j : Nat) : Int)) _ _ (by omega) (HLEFT.out.dec HL.out) (S.out.rot2 [.box w3.heap.size [I has, I (fr : Int), I to, I cost], .box (w2.heap.size + 1) [I o1, I o2], .box w2.heap.size [I 0, I 0], .box (w.heap.size + 1) [I 0, I 0], .box w.heap.size [I (k : Int), I a1, I b1, I c1, I d1, I e1, I f1, I g1, I i1]])).mono ?_
              rintro e w7 ⟨rfl, hS7⟩
              rw [H2.out, show ansV (x2, y2) = .agg #[I x2, I y2] from rfl]
              have S := Lib.hid (((hS7.unrot2 [.box w3.heap.size [I has, I (fr : Int), I to, I cost], .box (w2.heap.size + 1) [I o1, I o2], .box w2.heap.size [I 0, I 0], .box (w.heap.size + 1) [I 0, I 0], .box w.heap.size [I (k : Int), I a1, I b1, I c1, I d1, I e1, I f1, I g1, I i1]])).alloc [I x2, I y2] 93)
              clear hS7
              have z1 := S.out.get 0 1 rfl rfl
              have z0 := S.out.get 0 0 rfl rfl
              by_cases hy2 : y2 < 0
              · have HT := Lib.hid (show tryH stepsI (bestP stepsI (ss.drop (k + 1))) (⟨has, (fr : Int), to, cost⟩ : Str) [a1, b1, c1, d1, e1, f1, g1, i1] (o1, o2) ((fr + j : Nat) : Int) = (o1, o2) by unfold tryH; rw [if_neg (by rw [HW.out]; rintro (h | h); omega; exact HL.out h), if_pos (by rw [H2.out]; exact hy2)])
                go_wp2_with fail
                clear z0 z1
                go_roundw
                case rel => exact ⟨j + 1, by go_num, by omega, Lib.hid (by
                  rw [bestTo_succ, show ((⟨has, (fr : Int), to, cost⟩ : Str)).frm + (j : Int) = ((fr + j : Nat) : Int) by simp, HO.out, HT.out]
                  exact S.out.tail.fix)⟩
                case measure => simp [intOf]; omega
              · have hTn : tryH stepsI (bestP stepsI (ss.drop (k + 1))) (⟨has, (fr : Int), to, cost⟩ : Str) [a1, b1, c1, d1, e1, f1, g1, i1] (o1, o2) ((fr + j : Nat) : Int) = if o2 < 0 ∨ own + x2 < o1 then (own + x2, ((fr + j : Nat) : Int)) else (o1, o2) := by
                  unfold tryH
                  rw [if_neg (by rw [HW.out]; rintro (h | h); omega; exact HL.out h), if_neg (by rw [H2.out]; exact hy2), H2.out, HW.out]
                have z3 := S.out.get 2 0 rfl rfl
                have z4 := S.out.get 2 1 rfl rfl
                have z5 := S.out.free 2 0 rfl
                have z6 := S.out.free 2 1 rfl
                by_cases hc1 : o2 < 0
                · have HT := Lib.hid (hTn.trans (if_pos (.inl hc1)))
                  clear hTn
                  go_wp2_with fail
                  clear z0 z1 z3 z4 z5 z6
                  go_roundw
                  case rel => exact ⟨j + 1, by go_num, by omega, Lib.hid (by
                    rw [bestTo_succ, show ((⟨has, (fr : Int), to, cost⟩ : Str)).frm + (j : Int) = ((fr + j : Nat) : Int) by simp, HO.out, HT.out]
                    exact (((S.out.set 2 0 (I (own + x2)) rfl).set 2 1 (I ((fr + j : Nat) : Int)) rfl).tail.fix))⟩
                  case measure => simp [intOf]; omega
                · by_cases hc2 : own + x2 < o1
                  · have HT := Lib.hid (hTn.trans (if_pos (.inr hc2)))
                    clear hTn
                    go_wp2_with fail
                    clear z0 z1 z3 z4 z5 z6
                    go_roundw
                    case rel => exact ⟨j + 1, by go_num, by omega, Lib.hid (by
                      rw [bestTo_succ, show ((⟨has, (fr : Int), to, cost⟩ : Str)).frm + (j : Int) = ((fr + j : Nat) : Int) by simp, HO.out, HT.out]
                      exact (((S.out.set 2 0 (I (own + x2)) rfl).set 2 1 (I ((fr + j : Nat) : Int)) rfl).tail.fix))⟩
                    case measure => simp [intOf]; omega
                  · have HT := Lib.hid (hTn.trans (if_neg (by rintro (h | h) <;> omega)))
                    clear hTn
                    go_wp2_with fail
                    clear z0 z1 z3 z4 z5 z6
                    go_roundw
                    case rel => exact ⟨j + 1, by go_num, by omega, Lib.hid (by
                      rw [bestTo_succ, show ((⟨has, (fr : Int), to, cost⟩ : Str)).frm + (j : Int) = ((fr + j : Nat) : Int) by simp, HO.out, HT.out]
                      exact S.out.tail.fix)⟩
                    case measure => simp [intOf]; omega
          · go_wp2_with fail
            clear z2
            have hfin : bestP stepsI (ss.drop k) [a1, b1, c1, d1, e1, f1, g1, i1] = (o1, o2) := by
              rw [HSD.out, ← bestTo_all, ← HO.out, show (((⟨has, (fr : Int), to, cost⟩ : Str)).to - ((⟨has, (fr : Int), to, cost⟩ : Str)).frm + 1).toNat = j by simp only; omega]
            have HX := Lib.hid hfin
            clear hfin
            refine wp_region_seg [] [0, 1, 2, 3, 4, 5] [6] 6 (by kernel_rfl) (by kernel_rfl) ?_
            intro KQ hKQ w4 hb
            have S := Lib.hid (S.out.call hb)
            clear hb
            have q6_3 := cell_regrown (S.out.get 6 3 rfl rfl)
            have q4_0 := cell_regrown (S.out.get 4 0 rfl rfl)
            have q4_1 := cell_regrown (S.out.get 4 1 rfl rfl)
            have q4_2 := cell_regrown (S.out.get 4 2 rfl rfl)
            have q4_3 := cell_regrown (S.out.get 4 3 rfl rfl)
            have q4_4 := cell_regrown (S.out.get 4 4 rfl rfl)
            have q4_5 := cell_regrown (S.out.get 4 5 rfl rfl)
            have q4_6 := cell_regrown (S.out.get 4 6 rfl rfl)
            have q4_7 := cell_regrown (S.out.get 4 7 rfl rfl)
            have q4_8 := cell_regrown (S.out.get 4 8 rfl rfl)
            have q1_0 := cell_regrown (S.out.get 1 0 rfl rfl)
            have q1_1 := cell_regrown (S.out.get 1 1 rfl rfl)
            refine seg_last ?_
            simp only [opsAt, List.filterMap_cons, List.filterMap_nil, List.getElem?_toArray, List.getElem?_cons_succ, List.getElem?_cons_zero]
            repeat (first | go_big_quiet_step (fail) | quiet_step (fail))
            refine wpQuiet_nil ?_
            clear q6_3 q4_0 q4_1 q4_2 q4_3 q4_4 q4_5 q4_6 q4_7 q4_8 q1_0 q1_1
            obtain ⟨om, hom, hmp⟩ := S.out.obj 5 rfl
            have hst : StOk k [a1, b1, c1, d1, e1, f1, g1, i1] := ⟨rfl, by omega, by omega, fun x hx => by have := hlo x hx; omega⟩
            refine wpList_update_memo rfl (.tmp 95) (.tmp 96) (.tmp 97) rfl (orc := fun k l => bestP stepsI (ss.drop k) l) (k := k) (left := [a1, b1, c1, d1, e1, f1, g1, i1]) rfl rfl (by
              show (Value.agg #[I o1, I o2]) = ansV (bestP stepsI (ss.drop k) [a1, b1, c1, d1, e1, f1, g1, i1])
              rw [HX.out]; rfl) hom hmp hst ?_
            intro w5 ob5 hob5 hmp5 hg5
            have S := Lib.hid (S.out.turn 5 (.any m (MemoP fun k l => bestP stepsI (ss.drop k) l)) rfl hg5 ⟨S.out.baseO 5 rfl, ob5, hob5, hmp5⟩ (fun b hb => .inl hb))
            clear hob5 hmp5 hg5 hom hmp hst
            have S2 := (S.out.set 3 0 (I o1) rfl).set 3 1 (I o2) rfl
            have u0 := S.out.get 1 0 rfl rfl
            have u1 := S.out.get 1 1 rfl rfl
            have u2 := S.out.get 3 0 rfl rfl
            have u3 := S.out.get 3 1 rfl rfl
            have u4 := S.out.free 3 0 rfl
            have u5 := S.out.free 3 1 rfl
            have r0 := S2.get 3 0 rfl rfl
            have r1 := S2.get 3 1 rfl rfl
            go_wp2_with fail
            refine bodyPost_ret (v := .agg #[I o1, I o2]) (by simp [results, Tryz.results57, go_sem, r0, r1]) rfl ⟨by rw [HX.out]; rfl, S2.tail.tail.tail.tail.tail.fix⟩

end Go.Proofs.YtldcehhhndlhdaaGreatDoor.Hr
/- Walk of best, where each move costs 1. -/
namespace Go.Proofs.YtldcehhhndlhdaaGreatDoor.Hr
open Go.RowKit Go.Sort

end Go.Proofs.YtldcehhhndlhdaaGreatDoor.Hr
/- Walk of best, where nobody may move too far. -/
namespace Go.Proofs.YtldcehhhndlhdaaGreatDoor.Hr
open Go.RowKit Go.Sort

theorem upToI_bd (far : Int) {s : Str} {h : Int} (hs : Sml s h) : -1 ≤ upToI far s h ∧ upToI far s h ≤ 1800 := by
  have := stepsI_bd hs
  unfold upToI; split <;> omega
end Go.Proofs.YtldcehhhndlhdaaGreatDoor.Hr
/- Walk of begin. -/
namespace Go.Proofs.YtldcehhhndlhdaaGreatDoor.Hr
open Go.RowKit Go.Sort

theorem run_info_int : (Tryz.prog.info? 3).map (·.size) = some 1 := by kernel_rfl
theorem run_info_state : (Tryz.prog.info? 87).map (·.size) = some 9 := by kernel_rfl
theorem begin_row (room : List Int) (hl : room.length ≤ 8) : splice [I 0, I 0, I 0, I 0, I 0, I 0, I 0, I 0, I 0] 1 (room.map I) = I 0 :: (pad room).map I := by
  have e : ([I 0, I 0, I 0, I 0, I 0, I 0, I 0, I 0, I 0] : List Value) = List.replicate 9 (I 0) := rfl
  rw [e]
  apply List.ext_getElem?
  intro j
  simp only [splice, pad]
  rcases j with _ | j
  · rfl
  · simp only [List.getElem?_cons_succ, List.map_append, List.map_replicate, List.take_replicate]
    rw [List.getElem?_append_right (by simp)]
    simp only [List.length_replicate, Nat.add_sub_cancel, show min 1 9 = 1 by omega]
    by_cases hj : j < room.length
    · rw [List.getElem?_append_left (by simpa using hj), List.getElem?_append_left (by simpa using hj)]
    · rw [List.getElem?_append_right (by simp; omega), List.getElem?_append_right (by simp; omega)]
      simp only [List.length_map, List.getElem?_drop]
      rw [List.getElem?_replicate, List.getElem?_replicate]
      by_cases h8 : j < 8
      · rw [if_pos (by omega), if_pos (by omega)]
      · rw [if_neg (by omega), if_neg (by omega)]

set_option maxRecDepth 20000 in
set_option maxHeartbeats 2000000 in
theorem begin_any (c : Nat) (rv : Value) (room : List Int) (w : World) (h0 : w.cell? ⟨c, 0, none⟩ = some rv) (hr : Ints w rv room) (hl : room.length ≤ 8) :
    Calls Tryz.prog 56 #[.pointer (some ⟨c, 0, none⟩)] w fun e w' => e = .returned (stV 0 (pad room)) ∧ Below w.heap.size w w' := by
  have HR := Lib.hid hr
  obtain ⟨A, c', rfl, hc1, hc2, hcell⟩ := hr.open_
  have HC := Lib.hid hcell
  clear hcell hr
  have S := Lib.hid (show St w (w.alloc (.cells #[I 0, I 0, I 0, I 0, I 0, I 0, I 0, I 0, I 0] 87)) (w.heap.size + 1) [.box w.heap.size [I 0, I 0, I 0, I 0, I 0, I 0, I 0, I 0, I 0]] from (St.init w).alloc [I 0, I 0, I 0, I 0, I 0, I 0, I 0, I 0, I 0] 87)
  go_enter Tryz.func56, Tryz.ntmps56
  go_wp2_with fail
  refine wp_region_seg [] [0, 1, 2, 3, 4, 5, 6] [7] 7 (by kernel_rfl) (by kernel_rfl) ?_
  intro KQ hKQ w1 hb
  have S := Lib.hid (S.out.call hb)
  clear hb
  have q0 := cell_regrown (keep_cell S.out.bel h0)
  refine seg_last ?_
  simp only [opsAt, List.filterMap_cons, List.filterMap_nil, List.getElem?_toArray, List.getElem?_cons_succ, List.getElem?_cons_zero]
  repeat (first | go_big_quiet_step (fail) | quiet_step (fail))
  refine wpQuiet_nil ?_
  clear q0
  obtain ⟨T, hT⟩ := S.out.row? 0 rfl
  have hmn : (room.map I).length = Nat.min room.length 8 := by rw [List.length_map]; exact (Nat.min_eq_left hl).symm
  have hfit : 1 + (room.map I).length ≤ ([I 0, I 0, I 0, I 0, I 0, I 0, I 0, I 0, I 0] : List Value).length := by rw [List.length_map]; show 1 + room.length ≤ 9; omega
  refine wpList_copy_splice rfl (.tmp 4) (.tmp 9) 22 22 rfl 3 Tryz.underlying22 run_info_int _ _ 8 8 room.length c' rfl rfl w.heap.size 1 [I 0, I 0, I 0, I 0, I 0, I 0, I 0, I 0, I 0] T hT (room.map I) hmn (fun hp => by
    obtain ⟨b, o, rfl, hbl, hcell⟩ := HC.out (by simpa using hp)
    refine ⟨rfl, ⟨b, o, none⟩, rfl, fun j v hv => ?_⟩
    rw [add_plain]
    have hj := (List.getElem?_eq_some_iff.1 hv).1
    rw [List.length_map] at hj
    rw [keep_cell S.out.bel (hcell j hj)]
    rw [List.getElem?_map, List.getElem?_eq_getElem hj] at hv
    exact hv) hfit (ints_one room) w.heap.size w S.out.bel (Nat.le_refl _) ?_
  intro w2 hw2 hb2
  have hw2 : w2.heap[w.heap.size]? = some (.cells (splice [I 0, I 0, I 0, I 0, I 0, I 0, I 0, I 0, I 0] 1 (room.map I)).toArray T (0, 0)) := hw2.out
  have hres : stV 0 (pad room) = .agg (splice [I 0, I 0, I 0, I 0, I 0, I 0, I 0, I 0, I 0] 1 (room.map I)).toArray := by rw [begin_row room hl]; rfl
  have hsz : (splice [I 0, I 0, I 0, I 0, I 0, I 0, I 0, I 0, I 0] 1 (room.map I)).toArray.size = 9 := by rw [begin_row room hl]; simp [(pad_len room hl)]
  have hone : (splice [I 0, I 0, I 0, I 0, I 0, I 0, I 0, I 0, I 0] 1 (room.map I)).toArray.all (·.oneCell') = true := by
    rw [begin_row room hl, Array.all_eq_true_iff_forall_mem]
    intro v hv
    have hv : v ∈ I 0 :: (pad room).map I := by simpa using hv
    rcases List.mem_cons.1 hv with rfl | hv
    · rfl
    · exact ints_one _ v hv
  generalize (splice [I 0, I 0, I 0, I 0, I 0, I 0, I 0, I 0, I 0] 1 (room.map I)).toArray = CS at hw2 hres hsz hone
  have HB2 := Lib.hid hb2
  have hin : (Tryz.prog.info? 87).map (·.size) = some CS.size := by rw [hsz]; exact run_info_state
  have HRES := Lib.hid hres
  have HSZ := Lib.hid hsz
  have HW2 := Lib.hid hw2
  have HIN := Lib.hid hin
  have HONE := Lib.hid hone
  clear hb2 hres hsz hw2 hin hone hmn hfit hT
  go_wp2_with (first | (refine wpList_load_row rfl 87 (.tmp 2) rfl w.heap.size rfl T CS (0, 0) _ HW2.out Tryz.underlying87 rfl HIN.out ?_) | (refine wpList_store_row rfl 87 (.tmp 2) (.tmp 11) rfl w.heap.size CS rfl rfl T CS HW2.out HIN.out rfl HONE.out ?_))
  exact bodyPost_ret (results_cell_row rfl _ _ w.heap.size T CS (0, 0) _ rfl (setRow_heap _ _ _ _ _ _ HW2.out) Tryz.underlying87 rfl HIN.out) rfl ⟨by rw [HRES.out], below_setRow HB2.out (Nat.le_refl _) _⟩

end Go.Proofs.YtldcehhhndlhdaaGreatDoor.Hr
/- Walks: least, three ways. -/
namespace Go.Proofs.YtldcehhhndlhdaaGreatDoor.Hr
open Go.RowKit Go.Sort

set_option maxRecDepth 20000 in
set_option maxHeartbeats 2000000 in
theorem leastSteps_any (w0 : World) (ss : List Str) (room : List Int) (rv : Value) (A : Option Addr) (cs c m : Nat) (hss : Strs w0 (.slice A ss.length cs) ss) (hsl : ss.length ≤ 6) (hok : ∀ s ∈ ss, StrOk s) (hr : Ints w0 rv room) (hl : room.length ≤ 8) (hrm : ∀ x ∈ room, 0 ≤ x ∧ x ≤ 7)
    (w : World) (L : List Item) (hS : St w0 w w.heap.size (.any m (MemoP fun k l => bestP stepsI (ss.drop k) l) :: .box c [rv, .slice A ss.length cs, .func (.func 28) #[] #[], .map (some m)] :: L)) :
    Calls Tryz.prog 54 #[.pointer (some ⟨c, 0, none⟩)] w fun e w' => e = .returned (.tuple #[I (bestP stepsI ss (pad room)).1, .bool (decide (0 ≤ (bestP stepsI ss (pad room)).2))]) ∧ St w0 w' w'.heap.size (.any m (MemoP fun k l => bestP stepsI (ss.drop k) l) :: .box c [rv, .slice A ss.length cs, .func (.func 28) #[] #[], .map (some m)] :: L) := by
  have h0 := hS.get 1 0 rfl rfl
  have HS := Lib.hid hS
  obtain ⟨⟨x, y⟩, hxy⟩ : ∃ p, bestP stepsI ss (pad room) = p := ⟨_, rfl⟩
  have HX := Lib.hid hxy
  clear hxy hS
  go_enter Tryz.func54, Tryz.ntmps54
  go_wp2_with fail
  refine (begin_any c rv room _ h0 (hr.below HS.out.bel) hl).mono ?_
  rintro e w1 ⟨rfl, hb⟩
  have S := Lib.hid (HS.out.call hb)
  clear hb h0
  go_wp2_with fail
  refine (bestSteps_any w0 ss rv A cs c m hss hsl hok ss.length 0 (pad room) _ L (by omega) (pad_ok hl hrm) S.out).mono ?_
  rintro e w2 ⟨rfl, hS2⟩
  rw [show bestP stepsI (ss.drop 0) (pad room) = (x, y) from HX.out, show ansV (x, y) = .agg #[I x, I y] from rfl]
  have S := Lib.hid (hS2.alloc [I x, I y] 93)
  clear hS2
  go_wp2_with fail
  refine wp_region_seg [] [0, 1, 2, 3, 4, 5, 6] [] 7 (by kernel_rfl) (by kernel_rfl) ?_
  intro KQ hKQ w3 hb
  have S := Lib.hid (S.out.call hb)
  clear hb
  have q0_0 := cell_regrown (S.out.get 0 0 rfl rfl)
  have q0_1 := cell_regrown (S.out.get 0 1 rfl rfl)
  refine seg_last ?_
  simp only [opsAt, List.filterMap_cons, List.filterMap_nil, List.getElem?_toArray, List.getElem?_cons_succ, List.getElem?_cons_zero]
  repeat (first | go_big_quiet_step (fail) | quiet_step (fail))
  refine wpQuiet_nil ?_
  clear q0_0 q0_1
  go_wp2_with fail
  go_ret2
  exact ⟨by rw [HX.out]; rfl, S.out.tail⟩

end Go.Proofs.YtldcehhhndlhdaaGreatDoor.Hr
