/- Walk of best, where each move costs 1. -/
import Derived.Test.YtokendenofbnhaaW6
namespace Go.Proofs.Ytokendenofbnhaa
open Go.RowKit Go.Sort

set_option maxRecDepth 20000 in
set_option maxHeartbeats 8000000 in
theorem bestOnce_any (w0 : World) (ss : List Str) (rv : Value) (A : Option Addr) (cs c m : Nat) (hss : Strs w0 (.slice A ss.length cs) ss) (hsl : ss.length ≤ 6) (hok : ∀ s ∈ ss, StrOk s) :
    ∀ (n k : Nat) (left : List Int) (w : World) (L : List Item), k + n = ss.length → LOk left → St w0 w w.heap.size (.any m (MemoP fun k l => bestP onceI (ss.drop k) l) :: .box c [rv, .slice A ss.length cs, .func (.func 80) #[] #[], .map (some m)] :: L) →
    Calls Try.prog 92 #[.pointer (some ⟨c, 0, none⟩), stV k left] w fun e w' => e = .returned (ansV (bestP onceI (ss.drop k) left)) ∧ St w0 w' w'.heap.size (.any m (MemoP fun k l => bestP onceI (ss.drop k) l) :: .box c [rv, .slice A ss.length cs, .func (.func 80) #[] #[], .map (some m)] :: L) := by
  have hlow : ∀ k, LowW onceI (ss.drop k) := fun k s hs h h0 h1 => (by unfold onceI; omega)
  have hbd : ∀ k l, 0 ≤ (bestP onceI (ss.drop k) l).1 ∧ (bestP onceI (ss.drop k) l).1 ≤ 10800 := fun k l => by
    have h1 := bestP_bd (hlow k) l
    have : (ss.drop k).length ≤ ss.length := by simp
    omega
  intro n
  induction n with
  | zero =>
    intro k left w L hkn hleft hS
    obtain rfl : k = ss.length := by omega
    obtain ⟨hlen, hlo⟩ := hleft
    match left, hlen, hlo with
    | [a1, b1, c1, d1, e1, f1, g1, i1], _, hlo =>
      clear hok hlow
      have hke : ((ss.length : Int) == (ss.length : Int)) = true := by simp
      have S := Lib.hid (show St w0 ((w.alloc (.cells #[I (ss.length : Int), I a1, I b1, I c1, I d1, I e1, I f1, I g1, I i1] 96)).alloc (.cells #[I 0, I 0] 102)) (w.heap.size + 1 + 1) (.box (w.heap.size + 1) [I 0, I 0] :: .box w.heap.size [I (ss.length : Int), I a1, I b1, I c1, I d1, I e1, I f1, I g1, I i1] :: .any m (MemoP fun k l => bestP onceI (ss.drop k) l) :: .box c [rv, .slice A ss.length cs, .func (.func 80) #[] #[], .map (some m)] :: L) from (hS.alloc [I (ss.length : Int), I a1, I b1, I c1, I d1, I e1, I f1, I g1, I i1] 96).alloc [I 0, I 0] 102)
      clear hS
      show Calls Try.prog 92 #[.pointer (some ⟨c, 0, none⟩), .agg #[I (ss.length : Int), I a1, I b1, I c1, I d1, I e1, I f1, I g1, I i1]] w _
      go_enter Try.func92, Try.ntmps92
      go_wp2_with fail
      refine wp_region_seg [] [0, 1, 2, 3, 4, 5, 6, 7, 8] [] 9 (by kernel_rfl) (by kernel_rfl) ?_
      intro KQ hKQ w1 hb
      have S := Lib.hid (S.out.call hb)
      clear hb
      have q1_0 := cell_regrown (S.out.get 1 0 rfl rfl)
      have q3_1 := cell_regrown (S.out.get 3 1 rfl rfl)
      refine seg_last ?_
      simp only [opsAt, List.filterMap_cons, List.filterMap_nil, List.getElem?_toArray, List.getElem?_cons_succ, List.getElem?_cons_zero]
      repeat (first | go_big_quiet_step (fail) | quiet_step (fail))
      refine wpQuiet_nil ?_
      clear q1_0 q3_1
      have S' := (S.out.set 0 0 (I 0) rfl).set 0 1 (I 0) rfl
      have r0 := S'.get 0 0 rfl rfl
      have r1 := S'.get 0 1 rfl rfl
      have l0 := S.out.lt 0 rfl
      have f0 := S.out.free 0 0 rfl
      have f1 := S.out.free 0 1 rfl
      have c0 := S.out.get 0 0 rfl rfl
      have c1 := S.out.get 0 1 rfl rfl
      go_wp2_with fail
      refine bodyPost_ret (v := .agg #[I 0, I 0]) (by simp [results, Try.results92, go_sem, r0, r1]) rfl ⟨by rw [List.drop_length]; rfl, S'.tail.tail.fix⟩
  | succ n ih =>
    intro k left w L hkn hleft hS
    have hkl : k < ss.length := by omega
    obtain ⟨⟨has, frm, to, cost⟩, hs⟩ : ∃ s, ss[k] = s := ⟨_, rfl⟩
    have hso : StrOk ⟨has, frm, to, cost⟩ := hok _ (by rw [← hs]; exact List.getElem_mem hkl)
    obtain ⟨fr, rfl⟩ := Int.eq_ofNat_of_zero_le hso.frm0
    have hsd : ss.drop k = ⟨has, (fr : Int), to, cost⟩ :: ss.drop (k + 1) := by rw [List.drop_eq_getElem_cons hkl, hs]
    have hto : to ≤ 7 := hso.to1
    have hft : (fr : Int) ≤ to := hso.ft
    have IH := Lib.hid ih
    have HSD := Lib.hid hsd
    have HBD := Lib.hid hbd
    have HLW := Lib.hid hlow
    have HOK := Lib.hid hso
    have HLEFT := Lib.hid hleft
    obtain ⟨A1, cs1, he1, -, -, hcc⟩ := hss.open_
    injection he1 with e1 e2 e3
    subst e1
    clear e2 e3
    obtain ⟨bs, os, rfl, hbl, hcell⟩ := hcc (by omega)
    clear hcc
    obtain ⟨y0, y1, y2, y3⟩ := hcell k hkl
    rw [hs] at y0 y1 y2 y3
    have hki : (k : Int) < (ss.length : Int) := by omega
    have hke : ((k : Int) == (ss.length : Int)) = false := by simp; omega
    have HSS := Lib.hid hss
    have HY := Lib.hid (And.intro y0 (And.intro y1 (And.intro y2 y3)))
    clear ih hsd hbd hso hcell hs hok hss hlow y0 y1 y2 y3
    obtain ⟨hlen, hlo⟩ := hleft
    match left, hlen, hlo with
    | [a1, b1, c1, d1, e1, f1, g1, i1], _, hlo =>
      have S := Lib.hid (show St w0 ((w.alloc (.cells #[I (k : Int), I a1, I b1, I c1, I d1, I e1, I f1, I g1, I i1] 96)).alloc (.cells #[I 0, I 0] 102)) (w.heap.size + 1 + 1) (.box (w.heap.size + 1) [I 0, I 0] :: .box w.heap.size [I (k : Int), I a1, I b1, I c1, I d1, I e1, I f1, I g1, I i1] :: .any m (MemoP fun k l => bestP onceI (ss.drop k) l) :: .box c [rv, .slice (some ⟨bs, os, none⟩) ss.length cs, .func (.func 80) #[] #[], .map (some m)] :: L) from (hS.alloc [I (k : Int), I a1, I b1, I c1, I d1, I e1, I f1, I g1, I i1] 96).alloc [I 0, I 0] 102)
      clear hS
      show Calls Try.prog 92 #[.pointer (some ⟨c, 0, none⟩), .agg #[I (k : Int), I a1, I b1, I c1, I d1, I e1, I f1, I g1, I i1]] w _
      go_enter Try.func92, Try.ntmps92
      go_wp2_with fail
      refine wp_region_seg [] [0, 1, 2, 3, 4, 5, 6, 7, 8] [] 9 (by kernel_rfl) (by kernel_rfl) ?_
      intro KQ hKQ w1 hb
      have S := Lib.hid (S.out.call hb)
      clear hb
      have q1_0 := cell_regrown (S.out.get 1 0 rfl rfl)
      have q3_1 := cell_regrown (S.out.get 3 1 rfl rfl)
      refine seg_last ?_
      simp only [opsAt, List.filterMap_cons, List.filterMap_nil, List.getElem?_toArray, List.getElem?_cons_succ, List.getElem?_cons_zero]
      repeat (first | go_big_quiet_step (fail) | quiet_step (fail))
      refine wpQuiet_nil ?_
      clear q1_0 q3_1
      go_wp2_with fail
      refine wp_region_seg [([0, 1, 2, 3, 4, 5, 6, 7, 8], 9)] [] [10, 11] 10 (by kernel_rfl) (by kernel_rfl) ?_
      intro KQ hKQ w2 hb
      have S := Lib.hid (S.out.call hb)
      clear hb
      obtain ⟨om, hom, hmp⟩ := S.out.obj 2 rfl
      have hst : StOk k [a1, b1, c1, d1, e1, f1, g1, i1] := ⟨rfl, by omega, by omega, fun x hx => by have := hlo x hx; omega⟩
      have hlk := run_lookup_memo (m := m) hmp hst
      have hgr : ∀ d os, (grow (redrawn w2 d) os).heap[m]? = some om := fun d os => by rw [(below_regrown w2 d os).block m (lt_of_block hom)]; exact hom
      obtain ⟨⟨x, y⟩, hxy⟩ : ∃ p, bestP onceI (ss.drop k) [a1, b1, c1, d1, e1, f1, g1, i1] = p := ⟨_, rfl⟩
      have HXY := Lib.hid hxy
      rcases hlk with hlk | hlk
      · have hl : ∀ d os, (Instr.lookup 98 (.map (some m)) (.agg #[I (k : Int), I a1, I b1, I c1, I d1, I e1, I f1, I g1, I i1]) true).run Try.prog (grow (redrawn w2 d) os) = .ok (.tuple #[.agg #[I x, I y], .bool true]) (grow (redrawn w2 d) os) := fun d os => by
          have := hlk _ (hgr d os)
          simp only [hxy] at this
          exact this
        clear hlk hgr hom hmp
        have q3_3 := cell_regrown (S.out.get 3 3 rfl rfl)
        have q1_0 := cell_regrown (S.out.get 1 0 rfl rfl)
        have q1_1 := cell_regrown (S.out.get 1 1 rfl rfl)
        have q1_2 := cell_regrown (S.out.get 1 2 rfl rfl)
        have q1_3 := cell_regrown (S.out.get 1 3 rfl rfl)
        have q1_4 := cell_regrown (S.out.get 1 4 rfl rfl)
        have q1_5 := cell_regrown (S.out.get 1 5 rfl rfl)
        have q1_6 := cell_regrown (S.out.get 1 6 rfl rfl)
        have q1_7 := cell_regrown (S.out.get 1 7 rfl rfl)
        have q1_8 := cell_regrown (S.out.get 1 8 rfl rfl)
        refine seg_next ?_
        simp only [opsAt, List.filterMap_cons, List.filterMap_nil, List.getElem?_toArray, List.getElem?_cons_succ, List.getElem?_cons_zero]
        repeat (first | go_big_quiet_step (fail) | quiet_step (fail))
        refine wpQuiet_nil ?_
        intro K hK
        refine loud_op rfl rfl ?_
        go_simp
        clear hl
        have hb := (Below.refl w2.heap.size w2).alloc (Nat.le_refl _) (.cells #[I 0, I 0] 102)
        refine hK _ _ hb ?_
        clear hK K hb q3_3 q1_0 q1_1 q1_2 q1_3 q1_4 q1_5 q1_6 q1_7 q1_8
        refine seg_last ?_
        simp only [opsAt, List.filterMap_cons, List.filterMap_nil, List.getElem?_toArray, List.getElem?_cons_succ, List.getElem?_cons_zero]
        refine wpQuiet_nil ?_
        clear hxy
        have S1 := S.out.alloc [I x, I y] 102
        have S2 := (S1.set 1 0 (I x) rfl).set 1 1 (I y) rfl
        have u0 := S1.get 0 0 rfl rfl
        have u1 := S1.get 0 1 rfl rfl
        have u2 := S1.get 1 0 rfl rfl
        have u3 := S1.get 1 1 rfl rfl
        have u4 := S1.free 1 0 rfl
        have u5 := S1.free 1 1 rfl
        have r0 := S2.get 1 0 rfl rfl
        have r1 := S2.get 1 1 rfl rfl
        go_wp2_with fail
        refine bodyPost_ret (v := .agg #[I x, I y]) (by simp [results, Try.results92, go_sem, r0, r1]) rfl ⟨by rw [HXY.out]; rfl, S2.tail.tail.tail.fix⟩
      · have hl : ∀ d os, (Instr.lookup 98 (.map (some m)) (.agg #[I (k : Int), I a1, I b1, I c1, I d1, I e1, I f1, I g1, I i1]) true).run Try.prog (grow (redrawn w2 d) os) = .ok (.tuple #[.agg #[I 0, I 0], .bool false]) (grow (redrawn w2 d) os) := fun d os => by
          have := hlk _ (hgr d os)
          exact this
        clear hlk hgr hom hmp
        have q3_3 := cell_regrown (S.out.get 3 3 rfl rfl)
        have q1_0 := cell_regrown (S.out.get 1 0 rfl rfl)
        have q1_1 := cell_regrown (S.out.get 1 1 rfl rfl)
        have q1_2 := cell_regrown (S.out.get 1 2 rfl rfl)
        have q1_3 := cell_regrown (S.out.get 1 3 rfl rfl)
        have q1_4 := cell_regrown (S.out.get 1 4 rfl rfl)
        have q1_5 := cell_regrown (S.out.get 1 5 rfl rfl)
        have q1_6 := cell_regrown (S.out.get 1 6 rfl rfl)
        have q1_7 := cell_regrown (S.out.get 1 7 rfl rfl)
        have q1_8 := cell_regrown (S.out.get 1 8 rfl rfl)
        refine seg_next ?_
        simp only [opsAt, List.filterMap_cons, List.filterMap_nil, List.getElem?_toArray, List.getElem?_cons_succ, List.getElem?_cons_zero]
        repeat (first | go_big_quiet_step (fail) | quiet_step (fail))
        refine wpQuiet_nil ?_
        intro K hK
        refine loud_op rfl rfl ?_
        go_simp
        clear hl
        have hb := (Below.refl w2.heap.size w2).alloc (Nat.le_refl _) (.cells #[I 0, I 0] 102)
        refine hK _ _ hb ?_
        clear hK K hb q3_3 q1_0 q1_1 q1_2 q1_3 q1_4 q1_5 q1_6 q1_7 q1_8
        refine seg_last ?_
        simp only [opsAt, List.filterMap_cons, List.filterMap_nil, List.getElem?_toArray, List.getElem?_cons_succ, List.getElem?_cons_zero]
        refine wpQuiet_nil ?_
        clear hxy hst
        have S := Lib.hid ((S.out.alloc [I 0, I 0] 102).alloc [I 0, I (-1)] 102)
        go_wp2_with fail
        refine wp_region_seg [([0, 1, 2, 3, 4, 5, 6, 7, 8], 9)] [] [10] 10 (by kernel_rfl) (by kernel_rfl) ?_
        intro KQ hKQ w3 hb
        have S := Lib.hid (S.out.call hb)
        clear hb
        have q5_1 := cell_regrown (S.out.get 5 1 rfl rfl)
        have q3_0 := cell_regrown (S.out.get 3 0 rfl rfl)
        obtain ⟨y0, y1, y2, y3⟩ := HY.out
        have y0 := cell_regrown (keep_cell S.out.bel y0)
        have y1 := cell_regrown (keep_cell S.out.bel y1)
        have y2 := cell_regrown (keep_cell S.out.bel y2)
        have y3 := cell_regrown (keep_cell S.out.bel y3)
        refine seg_next ?_
        simp only [opsAt, List.filterMap_cons, List.filterMap_nil, List.getElem?_toArray, List.getElem?_cons_succ, List.getElem?_cons_zero]
        repeat (first | go_big_quiet_step (fail) | quiet_step (fail))
        refine wpQuiet_nil ?_
        intro K hK
        refine loud_op rfl rfl ?_
        go_simp
        have hb := (Below.refl w3.heap.size w3).alloc (Nat.le_refl _) (.cells #[I 0, I 0, I 0, I 0] 33)
        refine hK _ _ hb ?_
        clear hK K hb q5_1 q3_0 y0 y1 y2 y3
        refine seg_last ?_
        simp only [opsAt, List.filterMap_cons, List.filterMap_nil, List.getElem?_toArray, List.getElem?_cons_succ, List.getElem?_cons_zero]
        refine wpQuiet_nil ?_
        have S := Lib.hid (S.out.alloc [I has, I (fr : Int), I to, I cost] 33)
        have z1 := S.out.get 0 1 rfl rfl
        go_wp2_with fail
        clear z1
        go_loopw [9] (fun i wr => ∃ j : Nat, i = I ((fr + j : Nat) : Int) ∧ (fr : Int) + j ≤ to + 1 ∧ Hid (St w0 wr wr.heap.size (.box w3.heap.size [I has, I (fr : Int), I to, I cost] :: .box (w2.heap.size + 1) [I (bestTo onceI (ss.drop (k + 1)) (⟨has, (fr : Int), to, cost⟩ : Str) [a1, b1, c1, d1, e1, f1, g1, i1] j).1, I (bestTo onceI (ss.drop (k + 1)) (⟨has, (fr : Int), to, cost⟩ : Str) [a1, b1, c1, d1, e1, f1, g1, i1] j).2] :: .box w2.heap.size [I 0, I 0] :: .box (w.heap.size + 1) [I 0, I 0] :: .box w.heap.size [I (k : Int), I a1, I b1, I c1, I d1, I e1, I f1, I g1, I i1] :: .any m (MemoP fun k l => bestP onceI (ss.drop k) l) :: .box c [rv, .slice (some ⟨bs, os, none⟩) ss.length cs, .func (.func 80) #[] #[], .map (some m)] :: L))) (fun i _ => (to + 1 - intOf i).toNat)
        case atStart => exact ⟨0, rfl, by omega, Lib.hid S.out.fix⟩
        case round =>
          clear S
          obtain ⟨j, rfl, hj, S⟩ := hrel
          have hJ := bestTo_hour HOK.out (ss := ss.drop (k + 1)) (w := onceI) [a1, b1, c1, d1, e1, f1, g1, i1] j (by simp only; omega)
          have hJ' := bestTo_bd (w := onceI) (s := (⟨has, (fr : Int), to, cost⟩ : Str)) (fun h h0 h1 => HLW.out k _ (by rw [HSD.out]; simp) h h0 h1) (by omega) (HBD.out (k + 1)) [a1, b1, c1, d1, e1, f1, g1, i1] j (by simp only; omega)
          obtain ⟨⟨o1, o2⟩, ho⟩ : ∃ p, (bestTo onceI (ss.drop (k + 1)) (⟨has, (fr : Int), to, cost⟩ : Str) [a1, b1, c1, d1, e1, f1, g1, i1] j) = p := ⟨_, rfl⟩
          rw [ho] at S hJ hJ'
          have HO := Lib.hid ho
          clear ho
          simp only at hJ hJ'
          obtain ⟨hJ1, hJ2⟩ := hJ
          obtain ⟨hJ3, hJ4⟩ := hJ'
          have S := Lib.hid (show St w0 wr wr.heap.size (.box w3.heap.size [I has, I (fr : Int), I to, I cost] :: .box (w2.heap.size + 1) [I o1, I o2] :: .box w2.heap.size [I 0, I 0] :: .box (w.heap.size + 1) [I 0, I 0] :: .box w.heap.size [I (k : Int), I a1, I b1, I c1, I d1, I e1, I f1, I g1, I i1] :: .any m (MemoP fun k l => bestP onceI (ss.drop k) l) :: .box c [rv, .slice (some ⟨bs, os, none⟩) ss.length cs, .func (.func 80) #[] #[], .map (some m)] :: L) from S.out)
          have z2 := S.out.get 0 2 rfl rfl
          by_cases hle : ((fr + j : Nat) : Int) ≤ to
          · have hj7 : fr + j ≤ 7 := by omega
            go_wp2_with fail
            clear z2
            obtain ⟨own, hown⟩ : ∃ x, onceI (⟨has, (fr : Int), to, cost⟩ : Str) ((fr + j : Nat) : Int) = x := ⟨_, rfl⟩
            have hsml : Sml (⟨has, (fr : Int), to, cost⟩ : Str) ((fr + j : Nat) : Int) := HOK.out.sml (by simp only; omega) (by simp only; omega)
            obtain ⟨hob1, hob2⟩ : 0 ≤ own ∧ own ≤ 1800 := by rw [← hown]; unfold onceI; have := moveI_nonneg ⟨has, (fr : Int), to, cost⟩ ((fr + j : Nat) : Int); omega
            have HW := Lib.hid hown
            clear hown
            refine wp_region_seg [([0, 1, 2, 3, 4, 5], 6)] [7] [] 8 (by kernel_rfl) (by kernel_rfl) ?_
            intro KQ hKQ w4 hb
            have S := Lib.hid (S.out.call hb)
            clear hb
            have q6_2 := cell_regrown (S.out.get 6 2 rfl rfl)
            have q0_0 := cell_regrown (S.out.get 0 0 rfl rfl)
            have q0_1 := cell_regrown (S.out.get 0 1 rfl rfl)
            have q0_2 := cell_regrown (S.out.get 0 2 rfl rfl)
            have q0_3 := cell_regrown (S.out.get 0 3 rfl rfl)
            refine seg_next ?_
            simp only [opsAt, List.filterMap_cons, List.filterMap_nil, List.getElem?_toArray, List.getElem?_cons_succ, List.getElem?_cons_zero]
            repeat (first | go_big_quiet_step (fail) | quiet_step (fail))
            refine wpQuiet_nil ?_
            intro K hK
            refine loud_op rfl rfl ?_
            go_simp
            refine (once_any ⟨has, (fr : Int), to, cost⟩ _ _ hsml).mono ?_
            rintro e w5 ⟨rfl, hb⟩
            rw [HW.out]
            have S := Lib.hid (S.out.call hb)
            refine hK _ _ hb ?_
            clear hK K hb q6_2 q0_0 q0_1 q0_2 q0_3
            refine seg_last ?_
            simp only [opsAt, List.filterMap_cons, List.filterMap_nil, List.getElem?_toArray, List.getElem?_cons_succ, List.getElem?_cons_zero]
            repeat (first | go_big_quiet_step (fail) | quiet_step (fail))
            refine wpQuiet_nil ?_
            have q := S.out.get 4 (1 + (fr + j)) rfl (st_cell (fr + j) (show fr + j < ([a1, b1, c1, d1, e1, f1, g1, i1] : List Int).length by show fr + j < 8; omega))
            obtain ⟨lv, hlv⟩ : ∃ x, at_ [a1, b1, c1, d1, e1, f1, g1, i1] ((fr + j : Nat) : Int) = x := ⟨_, rfl⟩
            rw [hlv] at q
            by_cases hl0 : lv = 0
            · have hlb : (lv == 0) = true := by simp [hl0]
              have HT := Lib.hid (show tryH onceI (bestP onceI (ss.drop (k + 1))) (⟨has, (fr : Int), to, cost⟩ : Str) [a1, b1, c1, d1, e1, f1, g1, i1] (o1, o2) ((fr + j : Nat) : Int) = (o1, o2) by unfold tryH; rw [if_pos (.inr (by rw [hlv]; exact hl0))])
              clear hl0 hlv
              go_wp2_with fail
              clear q
              go_roundw
              case rel => exact ⟨j + 1, by go_num, by omega, Lib.hid (by
                rw [bestTo_succ, show ((⟨has, (fr : Int), to, cost⟩ : Str)).frm + (j : Int) = ((fr + j : Nat) : Int) by simp, HO.out, HT.out]
                exact S.out)⟩
              case measure => simp [intOf]; omega
            · have hlb : (lv == 0) = false := by simp [hl0]
              have HL := Lib.hid (show at_ [a1, b1, c1, d1, e1, f1, g1, i1] ((fr + j : Nat) : Int) ≠ 0 by rw [hlv]; exact hl0)
              clear hl0 hlv
              have q4_0 := (S.out.get 4 0 rfl rfl)
              have q4_1 := (S.out.get 4 1 rfl rfl)
              have q4_2 := (S.out.get 4 2 rfl rfl)
              have q4_3 := (S.out.get 4 3 rfl rfl)
              have q4_4 := (S.out.get 4 4 rfl rfl)
              have q4_5 := (S.out.get 4 5 rfl rfl)
              have q4_6 := (S.out.get 4 6 rfl rfl)
              have q4_7 := (S.out.get 4 7 rfl rfl)
              have q4_8 := (S.out.get 4 8 rfl rfl)
              go_wp2_with fail
              refine (with_any (k : Int) ((fr + j : Nat) : Int) [a1, b1, c1, d1, e1, f1, g1, i1] _ ⟨rfl, by omega, by omega, fun x hx => by have := hlo x hx; omega⟩ (by omega) (by omega)).mono ?_
              rintro e w6 ⟨rfl, hb⟩
              have S := Lib.hid (S.out.call hb)
              clear hb q q4_0 q4_1 q4_2 q4_3 q4_4 q4_5 q4_6 q4_7 q4_8
              go_wp2_with fail
              have hx2b := HBD.out (k + 1) (dec [a1, b1, c1, d1, e1, f1, g1, i1] ((fr + j : Nat) : Int))
              obtain ⟨⟨x2, y2⟩, h2⟩ : ∃ p, bestP onceI (ss.drop (k + 1)) (dec [a1, b1, c1, d1, e1, f1, g1, i1] ((fr + j : Nat) : Int)) = p := ⟨_, rfl⟩
              rw [h2] at hx2b
              have H2 := Lib.hid h2
              clear h2
              simp only at hx2b
              obtain ⟨hx2, hx2'⟩ := hx2b
              refine (IH.out (k + 1) (dec [a1, b1, c1, d1, e1, f1, g1, i1] ((fr + j : Nat) : Int)) _ _ (by omega) (HLEFT.out.dec HL.out) (S.out.rot2 [.box w3.heap.size [I has, I (fr : Int), I to, I cost], .box (w2.heap.size + 1) [I o1, I o2], .box w2.heap.size [I 0, I 0], .box (w.heap.size + 1) [I 0, I 0], .box w.heap.size [I (k : Int), I a1, I b1, I c1, I d1, I e1, I f1, I g1, I i1]])).mono ?_
              rintro e w7 ⟨rfl, hS7⟩
              rw [H2.out, show ansV (x2, y2) = .agg #[I x2, I y2] from rfl]
              have S := Lib.hid (((hS7.unrot2 [.box w3.heap.size [I has, I (fr : Int), I to, I cost], .box (w2.heap.size + 1) [I o1, I o2], .box w2.heap.size [I 0, I 0], .box (w.heap.size + 1) [I 0, I 0], .box w.heap.size [I (k : Int), I a1, I b1, I c1, I d1, I e1, I f1, I g1, I i1]])).alloc [I x2, I y2] 102)
              clear hS7
              have z1 := S.out.get 0 1 rfl rfl
              have z0 := S.out.get 0 0 rfl rfl
              by_cases hy2 : y2 < 0
              · have HT := Lib.hid (show tryH onceI (bestP onceI (ss.drop (k + 1))) (⟨has, (fr : Int), to, cost⟩ : Str) [a1, b1, c1, d1, e1, f1, g1, i1] (o1, o2) ((fr + j : Nat) : Int) = (o1, o2) by unfold tryH; rw [if_neg (by rw [HW.out]; rintro (h | h); omega; exact HL.out h), if_pos (by rw [H2.out]; exact hy2)])
                go_wp2_with fail
                clear z0 z1
                go_roundw
                case rel => exact ⟨j + 1, by go_num, by omega, Lib.hid (by
                  rw [bestTo_succ, show ((⟨has, (fr : Int), to, cost⟩ : Str)).frm + (j : Int) = ((fr + j : Nat) : Int) by simp, HO.out, HT.out]
                  exact S.out.tail.fix)⟩
                case measure => simp [intOf]; omega
              · have hTn : tryH onceI (bestP onceI (ss.drop (k + 1))) (⟨has, (fr : Int), to, cost⟩ : Str) [a1, b1, c1, d1, e1, f1, g1, i1] (o1, o2) ((fr + j : Nat) : Int) = if o2 < 0 ∨ own + x2 < o1 then (own + x2, ((fr + j : Nat) : Int)) else (o1, o2) := by
                  unfold tryH
                  rw [if_neg (by rw [HW.out]; rintro (h | h); omega; exact HL.out h), if_neg (by rw [H2.out]; exact hy2), H2.out, HW.out]
                have z3 := S.out.get 2 0 rfl rfl
                have z4 := S.out.get 2 1 rfl rfl
                have z5 := S.out.free 2 0 rfl
                have z6 := S.out.free 2 1 rfl
                by_cases hc1 : o2 < 0
                · have HT := Lib.hid (hTn.trans (if_pos (.inl hc1)))
                  clear hTn
                  go_wp2_with fail
                  clear z0 z1 z3 z4 z5 z6
                  go_roundw
                  case rel => exact ⟨j + 1, by go_num, by omega, Lib.hid (by
                    rw [bestTo_succ, show ((⟨has, (fr : Int), to, cost⟩ : Str)).frm + (j : Int) = ((fr + j : Nat) : Int) by simp, HO.out, HT.out]
                    exact (((S.out.set 2 0 (I (own + x2)) rfl).set 2 1 (I ((fr + j : Nat) : Int)) rfl).tail.fix))⟩
                  case measure => simp [intOf]; omega
                · by_cases hc2 : own + x2 < o1
                  · have HT := Lib.hid (hTn.trans (if_pos (.inr hc2)))
                    clear hTn
                    go_wp2_with fail
                    clear z0 z1 z3 z4 z5 z6
                    go_roundw
                    case rel => exact ⟨j + 1, by go_num, by omega, Lib.hid (by
                      rw [bestTo_succ, show ((⟨has, (fr : Int), to, cost⟩ : Str)).frm + (j : Int) = ((fr + j : Nat) : Int) by simp, HO.out, HT.out]
                      exact (((S.out.set 2 0 (I (own + x2)) rfl).set 2 1 (I ((fr + j : Nat) : Int)) rfl).tail.fix))⟩
                    case measure => simp [intOf]; omega
                  · have HT := Lib.hid (hTn.trans (if_neg (by rintro (h | h) <;> omega)))
                    clear hTn
                    go_wp2_with fail
                    clear z0 z1 z3 z4 z5 z6
                    go_roundw
                    case rel => exact ⟨j + 1, by go_num, by omega, Lib.hid (by
                      rw [bestTo_succ, show ((⟨has, (fr : Int), to, cost⟩ : Str)).frm + (j : Int) = ((fr + j : Nat) : Int) by simp, HO.out, HT.out]
                      exact S.out.tail.fix)⟩
                    case measure => simp [intOf]; omega
          · go_wp2_with fail
            clear z2
            have hfin : bestP onceI (ss.drop k) [a1, b1, c1, d1, e1, f1, g1, i1] = (o1, o2) := by
              rw [HSD.out, ← bestTo_all, ← HO.out, show (((⟨has, (fr : Int), to, cost⟩ : Str)).to - ((⟨has, (fr : Int), to, cost⟩ : Str)).frm + 1).toNat = j by simp only; omega]
            have HX := Lib.hid hfin
            clear hfin
            refine wp_region_seg [] [0, 1, 2, 3, 4, 5] [6] 6 (by kernel_rfl) (by kernel_rfl) ?_
            intro KQ hKQ w4 hb
            have S := Lib.hid (S.out.call hb)
            clear hb
            have q6_3 := cell_regrown (S.out.get 6 3 rfl rfl)
            have q4_0 := cell_regrown (S.out.get 4 0 rfl rfl)
            have q4_1 := cell_regrown (S.out.get 4 1 rfl rfl)
            have q4_2 := cell_regrown (S.out.get 4 2 rfl rfl)
            have q4_3 := cell_regrown (S.out.get 4 3 rfl rfl)
            have q4_4 := cell_regrown (S.out.get 4 4 rfl rfl)
            have q4_5 := cell_regrown (S.out.get 4 5 rfl rfl)
            have q4_6 := cell_regrown (S.out.get 4 6 rfl rfl)
            have q4_7 := cell_regrown (S.out.get 4 7 rfl rfl)
            have q4_8 := cell_regrown (S.out.get 4 8 rfl rfl)
            have q1_0 := cell_regrown (S.out.get 1 0 rfl rfl)
            have q1_1 := cell_regrown (S.out.get 1 1 rfl rfl)
            refine seg_last ?_
            simp only [opsAt, List.filterMap_cons, List.filterMap_nil, List.getElem?_toArray, List.getElem?_cons_succ, List.getElem?_cons_zero]
            repeat (first | go_big_quiet_step (fail) | quiet_step (fail))
            refine wpQuiet_nil ?_
            clear q6_3 q4_0 q4_1 q4_2 q4_3 q4_4 q4_5 q4_6 q4_7 q4_8 q1_0 q1_1
            obtain ⟨om, hom, hmp⟩ := S.out.obj 5 rfl
            have hst : StOk k [a1, b1, c1, d1, e1, f1, g1, i1] := ⟨rfl, by omega, by omega, fun x hx => by have := hlo x hx; omega⟩
            refine wpList_update_memo rfl (.tmp 95) (.tmp 96) (.tmp 97) rfl (orc := fun k l => bestP onceI (ss.drop k) l) (k := k) (left := [a1, b1, c1, d1, e1, f1, g1, i1]) rfl rfl (by
              show (Value.agg #[I o1, I o2]) = ansV (bestP onceI (ss.drop k) [a1, b1, c1, d1, e1, f1, g1, i1])
              rw [HX.out]; rfl) hom hmp hst ?_
            intro w5 ob5 hob5 hmp5 hg5
            have S := Lib.hid (S.out.turn 5 (.any m (MemoP fun k l => bestP onceI (ss.drop k) l)) rfl hg5 ⟨S.out.baseO 5 rfl, ob5, hob5, hmp5⟩ (fun b hb => .inl hb))
            clear hob5 hmp5 hg5 hom hmp hst
            have S2 := (S.out.set 3 0 (I o1) rfl).set 3 1 (I o2) rfl
            have u0 := S.out.get 1 0 rfl rfl
            have u1 := S.out.get 1 1 rfl rfl
            have u2 := S.out.get 3 0 rfl rfl
            have u3 := S.out.get 3 1 rfl rfl
            have u4 := S.out.free 3 0 rfl
            have u5 := S.out.free 3 1 rfl
            have r0 := S2.get 3 0 rfl rfl
            have r1 := S2.get 3 1 rfl rfl
            go_wp2_with fail
            refine bodyPost_ret (v := .agg #[I o1, I o2]) (by simp [results, Try.results92, go_sem, r0, r1]) rfl ⟨by rw [HX.out]; rfl, S2.tail.tail.tail.tail.tail.fix⟩

end Go.Proofs.Ytokendenofbnhaa
