/- Walks: upTo, far, Far, Roster, Fair. -/
import Derived.Test.YtokendenofbnhaaW12
namespace Go.Proofs.Ytokendenofbnhaa
open Go.RowKit Go.Sort

set_option maxRecDepth 20000 in
set_option maxHeartbeats 1000000 in
theorem upTo_any (n : Int) (w : World) :
    Calls Try.prog 81 #[I n] w fun e w' => ∃ b, e = .returned (.func (.func 95) #[] #[.pointer (some ⟨b, 0, none⟩)]) ∧ w'.cell? ⟨b, 0, none⟩ = some (I n) ∧ Below w.heap.size w w' := by
  go_enter Try.func81, Try.ntmps81
  go_wp2_with fail
  go_ret
  exact ⟨w.heap.size, rfl, by simp [go_sem], (Below.refl _ _).alloc (Nat.le_refl _) _⟩

set_option maxRecDepth 20000 in
set_option maxHeartbeats 4000000 in
theorem far_any (v : Value) (r : Ros) (w : World) (hv : RosAt w v r) :
    Calls Try.prog 79 #[v] w fun e w' => e = .returned (.tuple #[I (farR r).1, I (farR r).2]) ∧ Below w.heap.size w w' := by
  obtain ⟨rv, sv, rfl, hr, hs⟩ := hv
  obtain ⟨A1, c1, rfl, hr1, hr2, -⟩ := hr.open_
  obtain ⟨A2, c2, rfl, hs1, hs2, -⟩ := hs.open_
  have HR := Lib.hid hr
  have HS := Lib.hid hs
  clear hr hs
  have S := Lib.hid (show St w (w.alloc (.cells #[.slice A1 r.room.length c1, .slice A2 r.strs.length c2] 25)) (w.heap.size + 1) [.box w.heap.size [.slice A1 r.room.length c1, .slice A2 r.strs.length c2]] from (St.init w).alloc [.slice A1 r.room.length c1, .slice A2 r.strs.length c2] 25)
  obtain ⟨⟨n, er⟩, hk⟩ : ∃ p, leastR r = p := ⟨_, rfl⟩
  have HK := Lib.hid hk
  have q0_0 := S.out.get 0 0 rfl rfl
  have q0_1 := S.out.get 0 1 rfl rfl
  by_cases her : er = 0
  · have hfr : farR r = ((farN r : Int), 0) := by unfold farR; rw [hk]; exact if_pos her
    have hask : askE r true = 0 := by
      apply Classical.byContradiction
      intro hne
      unfold leastR knownR at hk
      rw [if_neg hne] at hk
      injection hk with _ h2
      exact hne (h2.trans her)
    have hbest : 0 ≤ (bestR stepsI r).2 := by
      apply Classical.byContradiction
      intro hne
      unfold leastR knownR at hk
      rw [if_pos hask, if_pos (by omega)] at hk
      injection hk with _ h2
      omega
    have hok := valid_iff.1 (askE_zero.1 hask).1
    obtain ⟨N, hN9, hNb⟩ := far_ends hok hbest
    have HNB := Lib.hid hNb
    have HOK := Lib.hid hok
    have HFR := Lib.hid hfr
    have her' : (er != 0) = false := by simp [her]
    have HER := Lib.hid her
    clear hk hfr hask hbest hok hNb her
    go_enter Try.func79, Try.ntmps79
    go_wp2_with fail
    clear q0_0 q0_1
    refine (knownSteps_any _ r true _ ⟨_, _, rfl, HR.out.below S.out.bel, HS.out.below S.out.bel⟩).mono ?_
    rintro e w1 ⟨p, rfl, hb⟩
    rw [show knownR stepsI r true = (n, er) from HK.out]
    have S := Lib.hid (S.out.call hb)
    clear hb
    go_wp2_with fail
    go_loopw [7] (fun i wr => ∃ n1 : Nat, i = I n1 ∧ n1 ≤ N ∧ Hid (∀ k : Nat, k < n1 → (bestR (upToI (k : Int)) r).2 < 0) ∧ Hid (St w wr wr.heap.size [.box w.heap.size [.slice A1 r.room.length c1, .slice A2 r.strs.length c2]])) (fun i _ => (9 - intOf i).toNat)
    case atStart => exact ⟨0, rfl, by omega, Lib.hid (fun k hk => absurd hk (by omega)), S⟩
    case round =>
      clear S
      obtain ⟨n1, rfl, hn1, HLT, S⟩ := hrel
      obtain ⟨⟨x, y⟩, hxy⟩ : ∃ p, bestP (upToI (n1 : Int)) r.strs (pad r.room) = p := ⟨_, rfl⟩
      have HX := Lib.hid hxy
      clear hxy
      by_cases hy : 0 ≤ y
      · have hd : decide (0 ≤ y) = true := by simpa using hy
        have HD := Lib.hid hd
        have HY := Lib.hid hy
        clear hd hy
        go_wp2_with fail
        refine wp_region_treeB (.node [0, 1] [2] (fun _ => .node [] [3] (fun _ => .node [] [4] (fun _ => .last [5, 6, 7, 8, 9] [])))) 10 (by kernel_rfl) (by kernel_rfl) ?_
        intro KQ hKQ w2 hb
        have S := Lib.hid (S.out.call hb)
        clear hb
        have q0_0 := cell_regrown (S.out.get 0 0 rfl rfl)
        have q0_1 := cell_regrown (S.out.get 0 1 rfl rfl)
        refine treeB_node ?_
        simp only [opsAt, List.filterMap_cons, List.filterMap_nil, List.getElem?_toArray, List.getElem?_cons_succ, List.getElem?_cons_zero]
        repeat (first | go_big_quiet_step (fail) | quiet_step (fail))
        refine wpQuiet_nil ?_
        refine all_one ?_
        intro K hK
        refine loud_op rfl rfl ?_
        go_simp
        refine (upTo_any (n1 : Int) _).mono ?_
        rintro e w3 ⟨bf, rfl, hf, hb⟩
        have S3 := Lib.hid (S.out.call hb)
        have HB3 := Lib.hid hb
        have HF := Lib.hid hf
        refine hK _ _ hb ?_
        clear hK K hb hf
        refine treeB_node ?_
        simp only [opsAt, List.filterMap_nil]
        refine wpQuiet_nil ?_
        refine all_one ?_
        intro K hK
        refine loud_op rfl rfl ?_
        go_simp
        refine (hire_any _ (.func 95) #[] #[.pointer (some ⟨bf, 0, none⟩)] r (fun k l => bestP (upToI (n1 : Int)) (r.strs.drop k) l) _ ⟨_, _, rfl, HR.out.below S3.out.bel, HS.out.below S3.out.bel⟩).mono ?_
        rintro e w4 ⟨c, m, rv', sv', he, rfl, hS⟩
        simp only [Value.agg.injEq] at he
        have he := congrArg Array.toList he
        simp only [List.cons.injEq, and_true] at he
        obtain ⟨rfl, rfl⟩ := he
        have HS4 := Lib.hid (hS.perm (List.Perm.swap ..))
        refine hK _ _ (bto HB3.out hS.bel) ?_
        clear hK K hS
        refine treeB_node ?_
        simp only [opsAt, List.filterMap_nil]
        refine wpQuiet_nil ?_
        refine all_one ?_
        intro K hK
        refine loud_op rfl rfl ?_
        go_simp
        refine (leastUp_any w3 r.strs r.room (.slice A1 r.room.length c1) A2 c2 c m (n1 : Int) bf (HS.out.below S3.out.bel) HOK.out.sl (fun s hs => (HOK.out.so s hs).1) HF.out (HR.out.below S3.out.bel) HOK.out.rl (fun x hx => by have := HOK.out.rm x hx; omega) w4 [] HS4.out).mono ?_
        rintro e w5 ⟨rfl, hS5⟩
        rw [HX.out, HD.out]
        have hb5 := bto HB3.out hS5.bel
        have S := Lib.hid (S.out.call hb5)
        refine hK _ _ hb5 ?_
        clear hK K hb5 hS5 HS4 S3 HB3 HF q0_0 q0_1
        refine treeB_last ?_
        simp only [opsAt, List.filterMap_cons, List.filterMap_nil, List.getElem?_toArray, List.getElem?_cons_succ, List.getElem?_cons_zero]
        repeat (first | go_big_quiet_step (fail) | quiet_step (fail))
        refine wpQuiet_nil ?_
        go_wp2_with fail
        go_ret2
        refine ⟨?_, S.out.bel⟩
        rw [HFR.out, farN_of (n := n1) HLT.out (by unfold bestR; rw [HX.out]; exact HY.out) (by omega)]
        rfl
      · have hd : decide (0 ≤ y) = false := by simpa using hy
        have HD := Lib.hid hd
        have HY := Lib.hid hy
        have hnN : n1 < N := by
          rcases Nat.lt_or_ge n1 N with h | h
          · exact h
          · obtain rfl : n1 = N := by omega
            have := HNB.out
            unfold bestR at this
            rw [HX.out] at this
            exact absurd this hy
        clear hd hy
        go_wp2_with fail
        refine wp_region_treeB (.node [0, 1] [2] (fun _ => .node [] [3] (fun _ => .node [] [4] (fun _ => .last [5, 6, 7, 8, 9] [])))) 10 (by kernel_rfl) (by kernel_rfl) ?_
        intro KQ hKQ w2 hb
        have S := Lib.hid (S.out.call hb)
        clear hb
        have q0_0 := cell_regrown (S.out.get 0 0 rfl rfl)
        have q0_1 := cell_regrown (S.out.get 0 1 rfl rfl)
        refine treeB_node ?_
        simp only [opsAt, List.filterMap_cons, List.filterMap_nil, List.getElem?_toArray, List.getElem?_cons_succ, List.getElem?_cons_zero]
        repeat (first | go_big_quiet_step (fail) | quiet_step (fail))
        refine wpQuiet_nil ?_
        refine all_one ?_
        intro K hK
        refine loud_op rfl rfl ?_
        go_simp
        refine (upTo_any (n1 : Int) _).mono ?_
        rintro e w3 ⟨bf, rfl, hf, hb⟩
        have S3 := Lib.hid (S.out.call hb)
        have HB3 := Lib.hid hb
        have HF := Lib.hid hf
        refine hK _ _ hb ?_
        clear hK K hb hf
        refine treeB_node ?_
        simp only [opsAt, List.filterMap_nil]
        refine wpQuiet_nil ?_
        refine all_one ?_
        intro K hK
        refine loud_op rfl rfl ?_
        go_simp
        refine (hire_any _ (.func 95) #[] #[.pointer (some ⟨bf, 0, none⟩)] r (fun k l => bestP (upToI (n1 : Int)) (r.strs.drop k) l) _ ⟨_, _, rfl, HR.out.below S3.out.bel, HS.out.below S3.out.bel⟩).mono ?_
        rintro e w4 ⟨c, m, rv', sv', he, rfl, hS⟩
        simp only [Value.agg.injEq] at he
        have he := congrArg Array.toList he
        simp only [List.cons.injEq, and_true] at he
        obtain ⟨rfl, rfl⟩ := he
        have HS4 := Lib.hid (hS.perm (List.Perm.swap ..))
        refine hK _ _ (bto HB3.out hS.bel) ?_
        clear hK K hS
        refine treeB_node ?_
        simp only [opsAt, List.filterMap_nil]
        refine wpQuiet_nil ?_
        refine all_one ?_
        intro K hK
        refine loud_op rfl rfl ?_
        go_simp
        refine (leastUp_any w3 r.strs r.room (.slice A1 r.room.length c1) A2 c2 c m (n1 : Int) bf (HS.out.below S3.out.bel) HOK.out.sl (fun s hs => (HOK.out.so s hs).1) HF.out (HR.out.below S3.out.bel) HOK.out.rl (fun x hx => by have := HOK.out.rm x hx; omega) w4 [] HS4.out).mono ?_
        rintro e w5 ⟨rfl, hS5⟩
        rw [HX.out, HD.out]
        have hb5 := bto HB3.out hS5.bel
        have S := Lib.hid (S.out.call hb5)
        refine hK _ _ hb5 ?_
        clear hK K hb5 hS5 HS4 S3 HB3 HF q0_0 q0_1
        refine treeB_last ?_
        simp only [opsAt, List.filterMap_cons, List.filterMap_nil, List.getElem?_toArray, List.getElem?_cons_succ, List.getElem?_cons_zero]
        repeat (first | go_big_quiet_step (fail) | quiet_step (fail))
        refine wpQuiet_nil ?_
        go_wp2_with fail
        go_roundw
        case rel => exact ⟨n1 + 1, by go_num, by omega, Lib.hid (fun k hk => by
          rcases Nat.lt_or_ge k n1 with h | h
          · exact HLT.out k h
          · obtain rfl : k = n1 := by omega
            unfold bestR; rw [HX.out]; simp only; have := HY.out; omega), S⟩
        case measure => simp [intOf]; omega
  · have hfr : farR r = (0, er) := by unfold farR; rw [hk]; exact if_neg her
    have HFR := Lib.hid hfr
    have her' : (er != 0) = true := by simp [her]
    clear hk hfr her
    go_enter Try.func79, Try.ntmps79
    go_wp2_with fail
    clear q0_0 q0_1
    refine (knownSteps_any _ r true _ ⟨_, _, rfl, HR.out.below S.out.bel, HS.out.below S.out.bel⟩).mono ?_
    rintro e w1 ⟨p, rfl, hb⟩
    rw [show knownR stepsI r true = (n, er) from HK.out]
    have S := Lib.hid (S.out.call hb)
    clear hb
    go_wp2_with fail
    go_ret2
    exact ⟨by rw [HFR.out]; rfl, S.out.bel⟩

set_option maxRecDepth 20000 in
set_option maxHeartbeats 1000000 in
theorem pFar_any (v : Value) (r : Ros) (w : World) (hv : RosAt w v r) :
    Calls Try.prog 41 #[v] w fun e w' => e = .returned (.tuple #[I (farR r).1, I (farR r).2]) ∧ Below w.heap.size w w' := by
  obtain ⟨rv, sv, rfl, hr, hs⟩ := hv
  obtain ⟨A1, c1, rfl, hr1, hr2, -⟩ := hr.open_
  obtain ⟨A2, c2, rfl, hs1, hs2, -⟩ := hs.open_
  have HR := Lib.hid hr
  have HS := Lib.hid hs
  clear hr hs
  have S := Lib.hid (show St w (w.alloc (.cells #[.slice A1 r.room.length c1, .slice A2 r.strs.length c2] 25)) (w.heap.size + 1) [.box w.heap.size [.slice A1 r.room.length c1, .slice A2 r.strs.length c2]] from (St.init w).alloc [.slice A1 r.room.length c1, .slice A2 r.strs.length c2] 25)
  have q0_0 := S.out.get 0 0 rfl rfl
  have q0_1 := S.out.get 0 1 rfl rfl
  go_enter Try.func41, Try.ntmps41
  go_wp2_with fail
  clear q0_0 q0_1
  refine (far_any _ r _ ⟨_, _, rfl, HR.out.below S.out.bel, HS.out.below S.out.bel⟩).mono ?_
  rintro e w1 ⟨rfl, hb⟩
  have S := Lib.hid (S.out.call hb)
  clear hb
  go_wp2_with fail
  go_ret2
  exact ⟨rfl, S.out.bel⟩

set_option maxRecDepth 20000 in
set_option maxHeartbeats 2000000 in
theorem pRoster_any (v : Value) (r : Ros) (w : World) (hv : RosAt w v r) :
    Calls Try.prog 22 #[v] w fun e w' => ∃ v', e = .returned (.tuple #[v', I (rosterR r).2]) ∧ w'.ownsRow w.heap.size 3 1 v' (rosterR r).1.length ((rosterR r).1.map I) ∧ Below w.heap.size w w' := by
  obtain ⟨rv, sv, rfl, hr, hs⟩ := hv
  obtain ⟨A1, c1, rfl, hr1, hr2, -⟩ := hr.open_
  obtain ⟨A2, c2, rfl, hs1, hs2, -⟩ := hs.open_
  have HR := Lib.hid hr
  have HS := Lib.hid hs
  clear hr hs
  have S := Lib.hid (show St w (w.alloc (.cells #[.slice A1 r.room.length c1, .slice A2 r.strs.length c2] 25)) (w.heap.size + 1) [.box w.heap.size [.slice A1 r.room.length c1, .slice A2 r.strs.length c2]] from (St.init w).alloc [.slice A1 r.room.length c1, .slice A2 r.strs.length c2] 25)
  have q0_0 := S.out.get 0 0 rfl rfl
  have q0_1 := S.out.get 0 1 rfl rfl
  by_cases hask : askE r true = 0
  · by_cases hn : (bestR stepsI r).2 < 0
    · have HE := Lib.hid (show rosterR r = ([], 3) by unfold rosterR leastR knownR; rw [if_pos hask, if_pos hn]; rfl)
      go_enter Try.func22, Try.ntmps22
      go_wp2_with fail
      clear q0_0 q0_1
      refine (knownSteps_none _ r true _ ⟨_, _, rfl, HR.out.below S.out.bel, HS.out.below S.out.bel⟩ hask hn).mono ?_
      rintro e w1 ⟨rfl, hb⟩
      have S := Lib.hid (S.out.call hb)
      clear hb hask hn
      go_wp2_with fail
      go_ret2
      exact ⟨.slice none 0 0, by rw [HE.out]; rfl, by rw [HE.out]; exact World.ownsRow_nil _ _ _ _, S.out.bel⟩
    · have hn' : 0 ≤ (bestR stepsI r).2 := by omega
      have HE := Lib.hid (show rosterR r = (rosterP stepsI r.strs (pad r.room), 0) by unfold rosterR leastR knownR; rw [if_pos hask, if_neg hn]; rfl)
      have hok := valid_iff.1 (askE_zero.1 hask).1
      clear hn
      go_enter Try.func22, Try.ntmps22
      go_wp2_with fail
      clear q0_0 q0_1
      refine (knownSteps_some _ r true _ ⟨_, _, rfl, HR.out.below S.out.bel, HS.out.below S.out.bel⟩ hask hn').mono ?_
      rintro e w1 ⟨c, m, rv', A, cs, he, rfl, hS⟩
      simp only [Value.agg.injEq] at he
      have he := congrArg Array.toList he
      simp only [List.cons.injEq, and_true] at he
      obtain ⟨rfl, he2⟩ := he
      injection he2 with e1 e2 e3
      subst e1 e3
      clear e2 hask
      have HS1 := Lib.hid hS
      have HN := Lib.hid hn'
      have HOK := Lib.hid hok
      clear hS hn' hok
      obtain ⟨wb, hwb⟩ : ∃ wb, (w.alloc (.cells #[.slice A1 r.room.length c1, .slice A2 r.strs.length c2] 25)) = wb := ⟨_, rfl⟩
      rw [hwb] at HS1 S
      have HWB := Lib.hid hwb
      clear hwb
      go_wp2_with fail
      refine (rosterSteps_any wb r.strs r.room _ A2 c2 c m (HS.out.below S.out.bel) HOK.out.sl (fun s hs => (HOK.out.so s hs).1) (HR.out.below S.out.bel) HOK.out.rl (fun x hx => by have := HOK.out.rm x hx; omega) HN.out w1 [] HS1.out).mono ?_
      rintro e w2 ⟨v', rfl, hS2⟩
      have S2 := Lib.hid (hS2.rebase S.out.bel)
      clear hS2
      go_wp2_with fail
      go_ret2
      exact ⟨v', by rw [HE.out]; rfl, by rw [HE.out]; simp only [rosterP_length]; exact S2.out.own 0 rfl, S2.out.bel⟩
  · have HE := Lib.hid (show rosterR r = ([], askE r true) by unfold rosterR leastR knownR; rw [if_neg hask, if_neg hask])
    have hq : (askE r true != 0) = true := by simpa using hask
    go_enter Try.func22, Try.ntmps22
    go_wp2_with fail
    clear q0_0 q0_1
    refine (knownSteps_err _ r true _ ⟨_, _, rfl, HR.out.below S.out.bel, HS.out.below S.out.bel⟩ hask).mono ?_
    rintro e w1 ⟨rfl, hb⟩
    have S := Lib.hid (S.out.call hb)
    clear hb hask
    go_wp2_with fail
    go_ret2
    exact ⟨.slice none 0 0, by rw [HE.out]; rfl, by rw [HE.out]; exact World.ownsRow_nil _ _ _ _, S.out.bel⟩

theorem farN_ok {r : Ros} (h : ROk r) (hl : 0 ≤ (bestR stepsI r).2) : 0 ≤ (bestP (upToI (farN r : Int)) r.strs (pad r.room)).2 := by
  obtain ⟨n, hn, hb⟩ := far_ends h hl
  unfold farN
  cases hf : (List.range 9).find? (fun n : Nat => decide (0 ≤ (bestR (upToI (n : Int)) r).2)) with
  | none =>
    have := List.find?_eq_none.1 hf n (List.mem_range.2 hn)
    simp at this; omega
  | some k =>
    show 0 ≤ (bestR (upToI (k : Int)) r).2
    have h2 := List.find?_some hf
    simp only [decide_eq_true_eq] at h2
    exact h2

set_option maxRecDepth 20000 in
set_option maxHeartbeats 4000000 in
theorem fair_any (v : Value) (r : Ros) (w : World) (hv : RosAt w v r) :
    Calls Try.prog 45 #[v] w fun e w' => ∃ v', e = .returned (.tuple #[v', I (fairR r).2]) ∧ w'.ownsRow w.heap.size 3 1 v' (fairR r).1.length ((fairR r).1.map I) ∧ Below w.heap.size w w' := by
  obtain ⟨rv, sv, rfl, hr, hs⟩ := hv
  obtain ⟨A1, c1, rfl, hr1, hr2, -⟩ := hr.open_
  obtain ⟨A2, c2, rfl, hs1, hs2, -⟩ := hs.open_
  have HR := Lib.hid hr
  have HS := Lib.hid hs
  clear hr hs
  have S := Lib.hid (show St w (w.alloc (.cells #[.slice A1 r.room.length c1, .slice A2 r.strs.length c2] 25)) (w.heap.size + 1) [.box w.heap.size [.slice A1 r.room.length c1, .slice A2 r.strs.length c2]] from (St.init w).alloc [.slice A1 r.room.length c1, .slice A2 r.strs.length c2] 25)
  have q0_0 := S.out.get 0 0 rfl rfl
  have q0_1 := S.out.get 0 1 rfl rfl
  obtain ⟨⟨fa, er⟩, hk⟩ : ∃ p, farR r = p := ⟨_, rfl⟩
  have HK := Lib.hid hk
  by_cases her : (leastR r).2 = 0
  · have hfr : farR r = ((farN r : Int), 0) := by unfold farR; exact if_pos her
    rw [hk] at hfr
    injection hfr with hf1 hf2
    subst hf1 hf2
    have hask : askE r true = 0 := by
      apply Classical.byContradiction
      intro hne
      unfold leastR knownR at her
      rw [if_neg hne] at her
      exact hne her
    have hbest : 0 ≤ (bestR stepsI r).2 := by
      apply Classical.byContradiction
      intro hne
      unfold leastR knownR at her
      rw [if_pos hask, if_pos (by omega)] at her
      simp at her
    have hok := valid_iff.1 (askE_zero.1 hask).1
    have hNb := farN_ok hok hbest
    obtain ⟨n1, hn1⟩ : ∃ n, farN r = n := ⟨_, rfl⟩
    have HE := Lib.hid (show fairR r = (rosterP (upToI (n1 : Int)) r.strs (pad r.room), 0) by unfold fairR; rw [if_pos her, hn1])
    rw [hn1] at hNb HK
    have HNB := Lib.hid hNb
    have HOK := Lib.hid hok
    clear hk hask hbest hok hNb her hn1
    go_enter Try.func45, Try.ntmps45
    go_wp2_with fail
    clear q0_0 q0_1
    refine (far_any _ r _ ⟨_, _, rfl, HR.out.below S.out.bel, HS.out.below S.out.bel⟩).mono ?_
    rintro e w1 ⟨rfl, hb⟩
    rw [HK.out]
    have S := Lib.hid (S.out.call hb)
    clear hb
    go_wp2_with fail
    refine wp_region_treeB (.node [0, 1] [2] (fun _ => .node [] [3] (fun _ => .node [] [4] (fun _ => .last [5, 6] [])))) 7 (by kernel_rfl) (by kernel_rfl) ?_
    intro KQ hKQ w2 hb
    have S := Lib.hid (S.out.call hb)
    clear hb
    have q0_0 := cell_regrown (S.out.get 0 0 rfl rfl)
    have q0_1 := cell_regrown (S.out.get 0 1 rfl rfl)
    refine treeB_node ?_
    simp only [opsAt, List.filterMap_cons, List.filterMap_nil, List.getElem?_toArray, List.getElem?_cons_succ, List.getElem?_cons_zero]
    repeat (first | go_big_quiet_step (fail) | quiet_step (fail))
    refine wpQuiet_nil ?_
    refine all_one ?_
    intro K hK
    refine loud_op rfl rfl ?_
    go_simp
    refine (upTo_any (n1 : Int) _).mono ?_
    rintro e w3 ⟨bf, rfl, hf, hb⟩
    have S3 := Lib.hid (S.out.call hb)
    have HB3 := Lib.hid hb
    have HF := Lib.hid hf
    refine hK _ _ hb ?_
    clear hK K hb hf
    refine treeB_node ?_
    simp only [opsAt, List.filterMap_nil]
    refine wpQuiet_nil ?_
    refine all_one ?_
    intro K hK
    refine loud_op rfl rfl ?_
    go_simp
    refine (hire_any _ (.func 95) #[] #[.pointer (some ⟨bf, 0, none⟩)] r (fun k l => bestP (upToI (n1 : Int)) (r.strs.drop k) l) _ ⟨_, _, rfl, HR.out.below S3.out.bel, HS.out.below S3.out.bel⟩).mono ?_
    rintro e w4 ⟨c, m, rv', sv', he, rfl, hS⟩
    simp only [Value.agg.injEq] at he
    have he := congrArg Array.toList he
    simp only [List.cons.injEq, and_true] at he
    obtain ⟨rfl, rfl⟩ := he
    have HS4 := Lib.hid (hS.perm (List.Perm.swap ..))
    refine hK _ _ (bto HB3.out hS.bel) ?_
    clear hK K hS
    refine treeB_node ?_
    simp only [opsAt, List.filterMap_nil]
    refine wpQuiet_nil ?_
    refine all_one ?_
    intro K hK
    refine loud_op rfl rfl ?_
    go_simp
    refine (rosterUp_any w3 r.strs r.room (.slice A1 r.room.length c1) A2 c2 c m (n1 : Int) bf (HS.out.below S3.out.bel) HOK.out.sl (fun s hs => (HOK.out.so s hs).1) HF.out (HR.out.below S3.out.bel) HOK.out.rl (fun x hx => by have := HOK.out.rm x hx; omega) HNB.out w4 [] HS4.out).mono ?_
    rintro e w5 ⟨v', rfl, hS5⟩
    have hb5 := bto HB3.out hS5.bel
    have S5 := Lib.hid (hS5.rebase S3.out.bel)
    have S := Lib.hid (S.out.call hb5)
    refine hK _ _ hb5 ?_
    clear hK K hb5 hS5 HS4 S3 HB3 HF q0_0 q0_1
    refine treeB_last ?_
    simp only [opsAt, List.filterMap_cons, List.filterMap_nil, List.getElem?_toArray, List.getElem?_cons_succ, List.getElem?_cons_zero]
    repeat (first | go_big_quiet_step (fail) | quiet_step (fail))
    refine wpQuiet_nil ?_
    go_wp2_with fail
    go_ret2
    exact ⟨v', by rw [HE.out]; rfl, by rw [HE.out]; simp only [rosterP_length]; exact S5.out.own 0 rfl, S5.out.bel⟩
  · have hfr : farR r = (0, (leastR r).2) := by unfold farR; exact if_neg her
    have HE := Lib.hid (show fairR r = ([], (leastR r).2) by unfold fairR; exact if_neg her)
    rw [hk] at hfr
    injection hfr with hf1 hf2
    subst hf1
    have hq : (er != 0) = true := by rw [hf2]; simpa using her
    have HER := Lib.hid hf2
    clear hk her hf2
    go_enter Try.func45, Try.ntmps45
    go_wp2_with fail
    clear q0_0 q0_1
    refine (far_any _ r _ ⟨_, _, rfl, HR.out.below S.out.bel, HS.out.below S.out.bel⟩).mono ?_
    rintro e w1 ⟨rfl, hb⟩
    rw [HK.out]
    have S := Lib.hid (S.out.call hb)
    clear hb
    go_wp2_with fail
    go_ret2
    exact ⟨.slice none 0 0, by rw [HE.out, HER.out]; rfl, by rw [HE.out]; exact World.ownsRow_nil _ _ _ _, S.out.bel⟩

end Go.Proofs.Ytokendenofbnhaa
