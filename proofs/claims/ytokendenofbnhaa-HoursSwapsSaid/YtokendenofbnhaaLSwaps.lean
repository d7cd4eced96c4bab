/- HoursSwaps: the law walked. -/
import Derived.Test.YtokendenofbnhaaW22
import Derived.Test.YtokendenofbnhaaW27
import Derived.Test.YtokendenofbnhaaPlain10
namespace Go.Proofs.Ytokendenofbnhaa
open Go.RowKit Go.Sort

theorem ints_inj {w : World} {v : Value} {l m : List Int} (h : Ints w v l) (h' : Ints w v m) : l = m := by
  obtain ⟨h1, A, c, h2, h3, h4, h5⟩ := h
  obtain ⟨k1, A', c', k2, k3, k4, k5⟩ := h'
  rw [h2] at k2
  injection k2 with e1 e2 e3
  subst e1
  have e2 : l.length = m.length := by simpa using e2
  refine List.ext_getElem e2 fun j hj hj' => ?_
  obtain ⟨b, o, e, hc⟩ := h5 (by omega)
  obtain ⟨b', o', e', hc'⟩ := k5 (by omega)
  rw [e] at e'
  injection e' with e'
  injection e' with e6 e7 e8
  subst e6
  subst e7
  have p := hc j (I l[j]) (by rw [List.getElem?_map, List.getElem?_eq_getElem hj]; rfl)
  have q := hc' j (I m[j]) (by rw [List.getElem?_map, List.getElem?_eq_getElem hj']; rfl)
  rw [p] at q
  injection q with q
  injection q
theorem eps_ints {w : World} {v : Value} {l : List Int} (h : Ints w v l) : Classical.epsilon (fun x => Ints w v x) = l :=
  ints_inj (Classical.epsilon_spec (p := fun x => Ints w v x) ⟨l, h⟩) h
set_option maxRecDepth 20000 in
set_option maxHeartbeats 4000000 in
theorem lawSwaps_any (v : Value) (r : Ros) (v2 : Value) (l : List Int) (w : World) (hv : RosAt w v r) (hl : Ints w v2 l) :
    Calls Try.prog 5 #[v, v2] w fun e w' => e = .returned (.bool true) ∧ Below w.heap.size w w' := by
  obtain ⟨rv, sv, rfl, hr, hs⟩ := hv
  obtain ⟨A1, c1, rfl, hr1, hr2, -⟩ := hr.open_
  obtain ⟨A2, c2, rfl, hs1, hs2, -⟩ := hs.open_
  have HR := Lib.hid hr
  have HS := Lib.hid hs
  clear hr hs
  have S := Lib.hid (show St w (w.alloc (.cells #[.slice A1 r.room.length c1, .slice A2 r.strs.length c2] 25)) (w.heap.size + 1) [.box w.heap.size [.slice A1 r.room.length c1, .slice A2 r.strs.length c2]] from (St.init w).alloc [.slice A1 r.room.length c1, .slice A2 r.strs.length c2] 25)
  obtain ⟨Al, cl, rfl, hl1, hl2, -⟩ := id hl.open_
  have HL := Lib.hid hl
  clear hl
  have q0 := S.out.get 0 0 rfl rfl
  have q1 := S.out.get 0 1 rfl rfl
  go_enter Try.func5, Try.ntmps5
  go_wp2_with fail
  clear q0 q1
  refine (ready_any _ r _ ⟨_, _, rfl, HR.out.below S.out.bel, HS.out.below S.out.bel⟩).mono ?_
  rintro e w1 ⟨⟨b, rfl, hok⟩, hb⟩
  have S := Lib.hid (S.out.call hb)
  clear hb
  cases b
  · clear hok
    go_wp2_with fail
    refine (works_any _).mono ?_
    rintro e w2 ⟨rfl, hb⟩
    have S := Lib.hid (S.out.call hb)
    clear hb
    go_wp2_with fail
    go_ret
    exact ⟨rfl, S.out.bel⟩
  · have hvd := hok rfl
    have HVD := Lib.hid hvd
    clear hok
    have q0 := S.out.get 0 0 rfl rfl
    have q1 := S.out.get 0 1 rfl rfl
    by_cases hl40 : 40 < l.length
    · have hl40' : (40 : Int) < (l.length : Int) := by omega
      clear q0 q1
      go_wp2_with fail
      refine (works_any _).mono ?_
      rintro e w2 ⟨rfl, hb⟩
      have S := Lib.hid (S.out.call hb)
      clear hb
      go_wp2_with fail
      go_ret
      exact ⟨rfl, S.out.bel⟩
    · have hl40' : ¬ (40 : Int) < (l.length : Int) := by omega
      have hlen : l.length ≤ 1000 := by omega
      go_wp2_with fail
      clear q0 q1
      refine (pRoster_any _ r _ ⟨_, _, rfl, HR.out.below S.out.bel, HS.out.below S.out.bel⟩).mono ?_
      rintro e w2 ⟨vl, rfl, hown, hb⟩
      cases hs : someR r
      · have hro : rosterR r = ([], 3) := by unfold rosterR; rw [least_val hvd, hs]; rfl
        rw [hro] at hown ⊢
        obtain ⟨Ar, cr, rfl⟩ := own_shape hown
        have S := Lib.hid (S.out.take hb hown)
        clear hb hown hro
        have HN := Lib.hid (show newB r l = false by
          cases hn : newB r l
          · rfl
          · rw [some_of hvd hn] at hs; cases hs)
        clear hs
        have q0 := S.out.get 1 0 rfl rfl
        have q1 := S.out.get 1 1 rfl rfl
        go_wp2_with fail
        clear q0 q1
        refine (isNew_any _ _ r l _ ⟨_, _, rfl, HR.out.below S.out.bel, HS.out.below S.out.bel⟩ HVD.out (HL.out.below S.out.bel) hlen).mono ?_
        rintro e w3 ⟨rfl, hb⟩
        rw [HN.out]
        have S := Lib.hid (S.out.call hb)
        clear hb
        go_wp2_with fail
        refine (works_any _).mono ?_
        rintro e w4 ⟨rfl, hb⟩
        have S := Lib.hid (S.out.call hb)
        clear hb
        go_wp2_with fail
        go_ret
        exact ⟨rfl, S.out.bel⟩
      · obtain ⟨hnew, hcost, -⟩ := least_real hvd hs
        have hro : rosterR r = (rosterP stepsI r.strs (pad r.room), 0) := by unfold rosterR; rw [least_val hvd, if_pos hs]; rfl
        obtain ⟨m, hm⟩ : ∃ x, rosterP stepsI r.strs (pad r.room) = x := ⟨_, rfl⟩
        rw [hm] at hnew hcost hro
        clear hm
        rw [hro] at hown ⊢
        have hml : m.length ≤ 1000 := by rw [goodL_length _ _ _ hnew]; have := hvd.sl; omega
        have HSW := Lib.hid (fun res (hr : swapR r m res) => swap_least hvd hs hcost (by unfold swapR at hr; rwa [if_pos (givenE_zero.2 ⟨valid_iff.2 hvd, hnew⟩)] at hr))
        have HNM := Lib.hid hnew
        have HSR := Lib.hid hs
        obtain ⟨Ar, cr, rfl⟩ := own_shape hown
        have S := Lib.hid (S.out.take hb hown)
        clear hb hown hro hnew hcost hs
        have q0 := S.out.get 1 0 rfl rfl
        have q1 := S.out.get 1 1 rfl rfl
        go_wp2_with fail
        clear q0 q1
        refine (isNew_any _ _ r m _ ⟨_, _, rfl, HR.out.below S.out.bel, HS.out.below S.out.bel⟩ HVD.out (S.out.ints 0 rfl) hml).mono ?_
        rintro e w3 ⟨rfl, hb⟩
        rw [HNM.out]
        have S := Lib.hid (S.out.call hb)
        clear hb
        have q0 := S.out.get 1 0 rfl rfl
        have q1 := S.out.get 1 1 rfl rfl
        go_wp2_with fail
        refine wp_region_treeB (.node [0, 1] [2, 7] (fun l => if l = 2 then .node [] [3, 7] (fun l => if l = 3 then .node [4, 5, 6] [7] (fun _ => .last [] [8, 9]) else .node [] [3] (fun _ => .last [4, 5, 6] [8, 9])) else .node [] [2] (fun _ => .node [] [3] (fun _ => .last [4, 5, 6] [8, 9])))) 8 (by kernel_rfl) (by kernel_rfl) ?_
        intro KQ hKQ wq hb
        have S := Lib.hid (S.out.call hb)
        clear hb
        have x0 := cell_regrown (S.out.get 1 0 rfl rfl)
        have x1 := cell_regrown (S.out.get 1 1 rfl rfl)
        have HB := Lib.hid (Below.refl wq.heap.size wq)
        clear q0 q1
        refine treeB_node ?_
        simp only [opsAt, List.filterMap_cons, List.filterMap_nil, List.getElem?_toArray, List.getElem?_cons_succ, List.getElem?_cons_zero]
        repeat (first | go_big_quiet_step (fail) | quiet_step (fail))
        refine wpQuiet_nil ?_
        apply cut_later
        · intro key
          refine all_two ?_ ?_
          · intro K hK
            refine loud_op rfl rfl ?_
            go_simp
            refine (copied_any _ m _ (S.out.ints 0 rfl) hml).mono ?_
            rintro e w5 ⟨vc, rfl, hown, hb⟩
            obtain ⟨Ac, cc, rfl⟩ := own_shape hown
            replace S := Lib.hid (S.out.take hb hown)
            replace HB := Lib.hid (bto HB.out hb)
            refine hK _ _ HB.out ?_
            clear hK K hb hown
            refine treeB_node ?_
            simp only [opsAt, List.filterMap_nil]
            refine wpQuiet_nil ?_
            refine all_two ?_ ?_
            · intro K hK
              refine loud_op rfl rfl ?_
              go_simp
              refine (swap_any _ _ r m _ ⟨_, _, rfl, HR.out.below S.out.bel, HS.out.below S.out.bel⟩ (S.out.ints 0 rfl) hml).mono ?_
              rintro e w6 ⟨⟨res, hres, rfl⟩, hb⟩
              obtain rfl := HSW.out res hres
              replace S := Lib.hid (S.out.call hb)
              replace HB := Lib.hid (bto HB.out hb)
              refine hK _ _ HB.out ?_
              clear hK K hb hres
              refine treeB_node ?_
              simp only [opsAt, List.filterMap_cons, List.filterMap_nil, List.getElem?_toArray, List.getElem?_cons_succ, List.getElem?_cons_zero]
              repeat (first | go_big_quiet_step (fail) | quiet_step (fail))
              refine wpQuiet_nil ?_
              refine all_one ?_
              intro K hK
              refine loud_op rfl rfl ?_
              go_simp
              have hb := (Below.refl w6.heap.size w6).alloc (Nat.le_refl _) (.cells #[I 0, I 0] 41)
              replace S := Lib.hid (S.out.alloc [I 0, I 0] 41)
              replace HB := Lib.hid (bto HB.out hb)
              refine hK _ _ HB.out ?_
              clear hK K hb
              refine treeB_last ?_
              simp only [opsAt, List.filterMap_cons, List.filterMap_nil, List.getElem?_toArray, List.getElem?_cons_succ, List.getElem?_cons_zero]
              refine wpQuiet_nil ?_
              replace S := Lib.hid (S.out.drop 1).fix
              simp only [List.eraseIdx_cons_succ, List.eraseIdx_cons_zero] at S
              obtain ⟨wX, hwX⟩ : ∃ x, w6.alloc (.cells #[I 0, I 0] 41) = x := ⟨_, rfl⟩
              obtain ⟨p, hp⟩ : ∃ x, w6.heap.size = x := ⟨_, rfl⟩
              rw [hwX, hp] at S
              rw [hwX, hp]
              clear hwX hp HB
              clear w6 w5
              revert Ac cc p wX S
              exact key
            · intro K hK
              refine loud_op rfl rfl ?_
              go_simp
              have hb := (Below.refl w5.heap.size w5).alloc (Nat.le_refl _) (.cells #[I 0, I 0] 41)
              replace S := Lib.hid (S.out.alloc [I 0, I 0] 41)
              replace HB := Lib.hid (bto HB.out hb)
              refine hK _ _ HB.out ?_
              clear hK K hb
              obtain ⟨wa, hwa⟩ : ∃ x, w5.alloc (.cells #[I 0, I 0] 41) = x := ⟨_, rfl⟩
              obtain ⟨p, hp⟩ : ∃ x, w5.heap.size = x := ⟨_, rfl⟩
              rw [hwa, hp] at S
              rw [hwa] at HB
              rw [hwa, hp]
              clear hwa hp
              replace S := Lib.hid S.out.fix
              refine treeB_node ?_
              simp only [opsAt, List.filterMap_nil]
              refine wpQuiet_nil ?_
              refine all_one ?_
              intro K hK
              refine loud_op rfl rfl ?_
              go_simp
              refine (swap_any _ _ r m _ ⟨_, _, rfl, HR.out.below S.out.bel, HS.out.below S.out.bel⟩ (S.out.ints 1 rfl) hml).mono ?_
              rintro e w6 ⟨⟨res, hres, rfl⟩, hb⟩
              obtain rfl := HSW.out res hres
              replace S := Lib.hid (S.out.call hb)
              replace HB := Lib.hid (bto HB.out hb)
              refine hK _ _ HB.out ?_
              clear hK K hb hres
              refine treeB_last ?_
              simp only [opsAt, List.filterMap_cons, List.filterMap_nil, List.getElem?_toArray, List.getElem?_cons_succ, List.getElem?_cons_zero]
              repeat (first | go_big_quiet_step (fail) | quiet_step (fail))
              refine wpQuiet_nil ?_
              replace S := Lib.hid (S.out.drop 1).fix
              simp only [List.eraseIdx_cons_succ, List.eraseIdx_cons_zero] at S
              obtain ⟨wX, hwX⟩ : ∃ x, w6 = x := ⟨_, rfl⟩
              rw [hwX] at S
              rw [hwX]
              clear hwX HB
              clear w6 wa w5
              exact key Ac cc wX p S
          · intro K hK
            refine loud_op rfl rfl ?_
            go_simp
            have hb := (Below.refl wq.heap.size wq).alloc (Nat.le_refl _) (.cells #[I 0, I 0] 41)
            replace S := Lib.hid (S.out.alloc [I 0, I 0] 41)
            replace HB := Lib.hid (bto HB.out hb)
            refine hK _ _ HB.out ?_
            clear hK K hb
            obtain ⟨wa, hwa⟩ : ∃ x, wq.alloc (.cells #[I 0, I 0] 41) = x := ⟨_, rfl⟩
            obtain ⟨p, hp⟩ : ∃ x, wq.heap.size = x := ⟨_, rfl⟩
            rw [hwa, hp] at S
            rw [hwa] at HB
            rw [hwa, hp]
            clear hwa hp
            replace S := Lib.hid S.out.fix
            refine treeB_node ?_
            simp only [opsAt, List.filterMap_nil]
            refine wpQuiet_nil ?_
            refine all_one ?_
            intro K hK
            refine loud_op rfl rfl ?_
            go_simp
            refine (copied_any _ m _ (S.out.ints 1 rfl) hml).mono ?_
            rintro e w5 ⟨vc, rfl, hown, hb⟩
            obtain ⟨Ac, cc, rfl⟩ := own_shape hown
            replace S := Lib.hid (S.out.take hb hown)
            replace HB := Lib.hid (bto HB.out hb)
            refine hK _ _ HB.out ?_
            clear hK K hb hown
            refine treeB_node ?_
            simp only [opsAt, List.filterMap_nil]
            refine wpQuiet_nil ?_
            refine all_one ?_
            intro K hK
            refine loud_op rfl rfl ?_
            go_simp
            refine (swap_any _ _ r m _ ⟨_, _, rfl, HR.out.below S.out.bel, HS.out.below S.out.bel⟩ (S.out.ints 0 rfl) hml).mono ?_
            rintro e w6 ⟨⟨res, hres, rfl⟩, hb⟩
            obtain rfl := HSW.out res hres
            replace S := Lib.hid (S.out.call hb)
            replace HB := Lib.hid (bto HB.out hb)
            refine hK _ _ HB.out ?_
            clear hK K hb hres
            refine treeB_last ?_
            simp only [opsAt, List.filterMap_cons, List.filterMap_nil, List.getElem?_toArray, List.getElem?_cons_succ, List.getElem?_cons_zero]
            repeat (first | go_big_quiet_step (fail) | quiet_step (fail))
            refine wpQuiet_nil ?_
            replace S := Lib.hid (S.out.drop 0).fix
            simp only [List.eraseIdx_cons_zero] at S
            obtain ⟨wX, hwX⟩ : ∃ x, w6 = x := ⟨_, rfl⟩
            rw [hwX] at S
            rw [hwX]
            clear hwX HB
            clear w6 w5 wa
            exact key Ac cc wX p S
        · intro Ac cc wX p S
          clear x0 x1 HB
          cases hn : newB r l
          · have HN := Lib.hid hn
            clear hn
            have z0 := S.out.get 0 0 rfl rfl
            have z1 := S.out.get 0 1 rfl rfl
            have z2 := S.out.free 0 0 rfl
            have z3 := S.out.free 0 1 rfl
            have S2 := Lib.hid ((S.out.set 0 0 (I 0) rfl).set 0 1 (I 0) rfl)
            have q0 := S2.out.get 2 0 rfl rfl
            have q1 := S2.out.get 2 1 rfl rfl
            go_wp2_with fail
            clear q0 q1 z0 z1 z2 z3 S
            have S := S2
            clear S2
            refine (isNew_any _ _ r l _ ⟨_, _, rfl, HR.out.below S.out.bel, HS.out.below S.out.bel⟩ HVD.out (HL.out.below S.out.bel) hlen).mono ?_
            rintro e w7 ⟨rfl, hb⟩
            rw [HN.out]
            have S := Lib.hid (S.out.call hb)
            clear hb

            go_wp2_with fail
            refine (works_any _).mono ?_
            rintro e w8 ⟨rfl, hb⟩
            have S := Lib.hid (S.out.call hb)
            clear hb
            go_wp2_with fail
            go_ret
            exact ⟨rfl, S.out.bel⟩
          · have HN := Lib.hid hn
            clear hn
            have z0 := S.out.get 0 0 rfl rfl
            have z1 := S.out.get 0 1 rfl rfl
            have z2 := S.out.free 0 0 rfl
            have z3 := S.out.free 0 1 rfl
            have S2 := Lib.hid ((S.out.set 0 0 (I 0) rfl).set 0 1 (I 0) rfl)
            have q0 := S2.out.get 2 0 rfl rfl
            have q1 := S2.out.get 2 1 rfl rfl
            go_wp2_with fail
            clear q0 q1 z0 z1 z2 z3 S
            have S := S2
            clear S2
            refine (isNew_any _ _ r l _ ⟨_, _, rfl, HR.out.below S.out.bel, HS.out.below S.out.bel⟩ HVD.out (HL.out.below S.out.bel) hlen).mono ?_
            rintro e w7 ⟨rfl, hb⟩
            rw [HN.out]
            have S := Lib.hid (S.out.call hb)
            clear hb
            have S := Lib.hid S.out.tail.tail.fix
            have q0 := S.out.get 0 0 rfl rfl
            have q1 := S.out.get 0 1 rfl rfl
            go_wp2_with fail
            clear q0 q1
            refine (least_any _ r _ ⟨_, _, rfl, HR.out.below S.out.bel, HS.out.below S.out.bel⟩).mono ?_
            rintro e w8 ⟨rfl, hb⟩
            have hlv : leastR r = ((bestR stepsI r).1, 0) := by rw [least_val HVD.out, if_pos HSR.out]
            have HLE := Lib.hid (least_real HVD.out HSR.out).2.2
            obtain ⟨le, hle⟩ : ∃ x, (bestR stepsI r).1 = x := ⟨_, rfl⟩
            rw [hle] at hlv HLE
            rw [hlv]
            clear hlv hle
            have S := Lib.hid (S.out.call hb)
            clear hb
            go_wp2_with fail
            refine (copied_any _ l _ (HL.out.below S.out.bel) hlen).mono ?_
            rintro e w9 ⟨vc, rfl, hown, hb⟩
            obtain ⟨Ac, cc, rfl⟩ := own_shape hown
            have S := Lib.hid (S.out.take hb hown)
            clear hb hown
            go_wp2_with fail
            go_loopw [11] (fun nv wr => ∃ (A : Option Addr) (n : List Int) (c : Nat), nv = .slice A n.length c ∧ Hid (newB r n = true) ∧ Hid (St w wr wr.heap.size [.own 3 1 (.slice A n.length c) n.length (n.map I), .box w.heap.size [.slice A1 r.room.length c1, .slice A2 r.strs.length c2]])) (fun nv wr => (costL r.strs (Classical.epsilon (fun x => Ints wr nv x))).toNat)
            case atStart => exact ⟨_, l, _, rfl, HN, Lib.hid S.out.fix⟩
            case round =>
              clear S
              obtain ⟨A, n, c, rfl, HNN, S⟩ := hrel
              have hnl : n.length ≤ 1000 := by rw [goodL_length _ _ _ HNN.out]; have := HVD.out.sl; omega
              have HIN := Lib.hid (InL.of_new HNN.out)
              have HE := Lib.hid (eps_ints (S.out.ints 0 rfl))
              have hle := HLE.out n HNN.out
              obtain ⟨cn, hcn⟩ : ∃ x, costL r.strs n = x := ⟨_, rfl⟩
              rw [hcn] at hle
              have HCN := Lib.hid hcn
              clear hcn
              have q0 := S.out.get 1 0 rfl rfl
              have q1 := S.out.get 1 1 rfl rfl
              go_wp2_with fail
              clear q0 q1
              refine (costOf_any _ _ r n _ ⟨_, _, rfl, HR.out.below S.out.bel, HS.out.below S.out.bel⟩ HVD.out (S.out.ints 0 rfl) HIN.out).mono ?_
              rintro e w10 ⟨rfl, hb⟩
              rw [HCN.out]
              have S := Lib.hid (S.out.call hb)
              clear hb
              have q0 := S.out.get 1 0 rfl rfl
              have q1 := S.out.get 1 1 rfl rfl
              go_wp2_with fail
              refine wp_region_treeB (.node [0, 1] [2, 7] (fun l => if l = 2 then .node [] [3, 7] (fun l => if l = 3 then .node [4, 5, 6] [7] (fun _ => .last [] [8, 9]) else .node [] [3] (fun _ => .last [4, 5, 6] [8, 9])) else .node [] [2] (fun _ => .node [] [3] (fun _ => .last [4, 5, 6] [8, 9])))) 8 (by kernel_rfl) (by kernel_rfl) ?_
              intro KQ hKQ wq hb
              have S := Lib.hid (S.out.call hb)
              clear hb
              have x0 := cell_regrown (S.out.get 1 0 rfl rfl)
              have x1 := cell_regrown (S.out.get 1 1 rfl rfl)
              have HB := Lib.hid (Below.refl wq.heap.size wq)
              clear q0 q1
              refine treeB_node ?_
              simp only [opsAt, List.filterMap_cons, List.filterMap_nil, List.getElem?_toArray, List.getElem?_cons_succ, List.getElem?_cons_zero]
              repeat (first | go_big_quiet_step (fail) | quiet_step (fail))
              refine wpQuiet_nil ?_
              apply cut_later
              · intro key
                refine all_two ?_ ?_
                · intro K hK
                  refine loud_op rfl rfl ?_
                  go_simp
                  refine (copied_any _ n _ (S.out.ints 0 rfl) hnl).mono ?_
                  rintro e w5 ⟨vc, rfl, hown, hb⟩
                  obtain ⟨Ac, cc, rfl⟩ := own_shape hown
                  replace S := Lib.hid (S.out.take hb hown)
                  replace HB := Lib.hid (bto HB.out hb)
                  refine hK _ _ HB.out ?_
                  clear hK K hb hown
                  refine treeB_node ?_
                  simp only [opsAt, List.filterMap_nil]
                  refine wpQuiet_nil ?_
                  refine all_two ?_ ?_
                  · intro K hK
                    refine loud_op rfl rfl ?_
                    go_simp
                    refine (swap_any _ _ r n _ ⟨_, _, rfl, HR.out.below S.out.bel, HS.out.below S.out.bel⟩ (S.out.ints 0 rfl) hnl).mono ?_
                    rintro e w6 ⟨⟨res, hres, rfl⟩, hb⟩
                    replace S := Lib.hid (S.out.call hb)
                    replace HB := Lib.hid (bto HB.out hb)
                    refine hK _ _ HB.out ?_
                    clear hK K hb
                    refine treeB_node ?_
                    simp only [opsAt, List.filterMap_cons, List.filterMap_nil, List.getElem?_toArray, List.getElem?_cons_succ, List.getElem?_cons_zero]
                    repeat (first | go_big_quiet_step (fail) | quiet_step (fail))
                    refine wpQuiet_nil ?_
                    refine all_one ?_
                    intro K hK
                    refine loud_op rfl rfl ?_
                    go_simp
                    have hb := (Below.refl w6.heap.size w6).alloc (Nat.le_refl _) (.cells #[I 0, I 0] 41)
                    replace S := Lib.hid (S.out.alloc [I 0, I 0] 41)
                    replace HB := Lib.hid (bto HB.out hb)
                    refine hK _ _ HB.out ?_
                    clear hK K hb
                    refine treeB_last ?_
                    simp only [opsAt, List.filterMap_cons, List.filterMap_nil, List.getElem?_toArray, List.getElem?_cons_succ, List.getElem?_cons_zero]
                    refine wpQuiet_nil ?_
                    replace S := Lib.hid (S.out.drop 1).fix
                    simp only [List.eraseIdx_cons_succ, List.eraseIdx_cons_zero] at S
                    obtain ⟨wX, hwX⟩ : ∃ x, w6.alloc (.cells #[I 0, I 0] 41) = x := ⟨_, rfl⟩
                    obtain ⟨p, hp⟩ : ∃ x, w6.heap.size = x := ⟨_, rfl⟩
                    rw [hwX, hp] at S
                    rw [hwX, hp]
                    clear hwX hp HB
                    clear w6 w5
                    revert S; revert p; revert wX; revert cc; revert Ac; revert hres; revert res
                    exact key
                  · intro K hK
                    refine loud_op rfl rfl ?_
                    go_simp
                    have hb := (Below.refl w5.heap.size w5).alloc (Nat.le_refl _) (.cells #[I 0, I 0] 41)
                    replace S := Lib.hid (S.out.alloc [I 0, I 0] 41)
                    replace HB := Lib.hid (bto HB.out hb)
                    refine hK _ _ HB.out ?_
                    clear hK K hb
                    obtain ⟨wa, hwa⟩ : ∃ x, w5.alloc (.cells #[I 0, I 0] 41) = x := ⟨_, rfl⟩
                    obtain ⟨p, hp⟩ : ∃ x, w5.heap.size = x := ⟨_, rfl⟩
                    rw [hwa, hp] at S
                    rw [hwa] at HB
                    rw [hwa, hp]
                    clear hwa hp
                    replace S := Lib.hid S.out.fix
                    refine treeB_node ?_
                    simp only [opsAt, List.filterMap_nil]
                    refine wpQuiet_nil ?_
                    refine all_one ?_
                    intro K hK
                    refine loud_op rfl rfl ?_
                    go_simp
                    refine (swap_any _ _ r n _ ⟨_, _, rfl, HR.out.below S.out.bel, HS.out.below S.out.bel⟩ (S.out.ints 1 rfl) hnl).mono ?_
                    rintro e w6 ⟨⟨res, hres, rfl⟩, hb⟩
                    replace S := Lib.hid (S.out.call hb)
                    replace HB := Lib.hid (bto HB.out hb)
                    refine hK _ _ HB.out ?_
                    clear hK K hb
                    refine treeB_last ?_
                    simp only [opsAt, List.filterMap_cons, List.filterMap_nil, List.getElem?_toArray, List.getElem?_cons_succ, List.getElem?_cons_zero]
                    repeat (first | go_big_quiet_step (fail) | quiet_step (fail))
                    refine wpQuiet_nil ?_
                    replace S := Lib.hid (S.out.drop 1).fix
                    simp only [List.eraseIdx_cons_succ, List.eraseIdx_cons_zero] at S
                    obtain ⟨wX, hwX⟩ : ∃ x, w6 = x := ⟨_, rfl⟩
                    rw [hwX] at S
                    rw [hwX]
                    clear hwX HB
                    clear w6 wa w5
                    exact key res hres Ac cc wX p S
                · intro K hK
                  refine loud_op rfl rfl ?_
                  go_simp
                  have hb := (Below.refl wq.heap.size wq).alloc (Nat.le_refl _) (.cells #[I 0, I 0] 41)
                  replace S := Lib.hid (S.out.alloc [I 0, I 0] 41)
                  replace HB := Lib.hid (bto HB.out hb)
                  refine hK _ _ HB.out ?_
                  clear hK K hb
                  obtain ⟨wa, hwa⟩ : ∃ x, wq.alloc (.cells #[I 0, I 0] 41) = x := ⟨_, rfl⟩
                  obtain ⟨p, hp⟩ : ∃ x, wq.heap.size = x := ⟨_, rfl⟩
                  rw [hwa, hp] at S
                  rw [hwa] at HB
                  rw [hwa, hp]
                  clear hwa hp
                  replace S := Lib.hid S.out.fix
                  refine treeB_node ?_
                  simp only [opsAt, List.filterMap_nil]
                  refine wpQuiet_nil ?_
                  refine all_one ?_
                  intro K hK
                  refine loud_op rfl rfl ?_
                  go_simp
                  refine (copied_any _ n _ (S.out.ints 1 rfl) hnl).mono ?_
                  rintro e w5 ⟨vc, rfl, hown, hb⟩
                  obtain ⟨Ac, cc, rfl⟩ := own_shape hown
                  replace S := Lib.hid (S.out.take hb hown)
                  replace HB := Lib.hid (bto HB.out hb)
                  refine hK _ _ HB.out ?_
                  clear hK K hb hown
                  refine treeB_node ?_
                  simp only [opsAt, List.filterMap_nil]
                  refine wpQuiet_nil ?_
                  refine all_one ?_
                  intro K hK
                  refine loud_op rfl rfl ?_
                  go_simp
                  refine (swap_any _ _ r n _ ⟨_, _, rfl, HR.out.below S.out.bel, HS.out.below S.out.bel⟩ (S.out.ints 0 rfl) hnl).mono ?_
                  rintro e w6 ⟨⟨res, hres, rfl⟩, hb⟩
                  replace S := Lib.hid (S.out.call hb)
                  replace HB := Lib.hid (bto HB.out hb)
                  refine hK _ _ HB.out ?_
                  clear hK K hb
                  refine treeB_last ?_
                  simp only [opsAt, List.filterMap_cons, List.filterMap_nil, List.getElem?_toArray, List.getElem?_cons_succ, List.getElem?_cons_zero]
                  repeat (first | go_big_quiet_step (fail) | quiet_step (fail))
                  refine wpQuiet_nil ?_
                  replace S := Lib.hid (S.out.drop 0).fix
                  simp only [List.eraseIdx_cons_zero] at S
                  obtain ⟨wX, hwX⟩ : ∃ x, w6 = x := ⟨_, rfl⟩
                  rw [hwX] at S
                  rw [hwX]
                  clear hwX HB
                  clear w6 w5 wa
                  exact key res hres Ac cc wX p S
              · intro res hres Ac cc wX p S
                clear x0 x1 HB
                have z0 := S.out.get 0 0 rfl rfl
                have z1 := S.out.get 0 1 rfl rfl
                have z2 := S.out.free 0 0 rfl
                have z3 := S.out.free 0 1 rfl
                have hsr : SwapIs r n res := by unfold swapR at hres; rwa [if_pos (givenE_zero.2 ⟨valid_iff.2 HVD.out, HNN.out⟩)] at hres
                rcases swap_less HNN.out hsr with rfl | ⟨a, b, hab, hbl, rfl, hne, hco, hia, hib⟩
                · clear hsr hres
                  have S2 := Lib.hid ((S.out.set 0 0 (I 0) rfl).set 0 1 (I 0) rfl)
                  go_wp2_with fail
                  clear z0 z1 z2 z3 S
                  have S := S2
                  clear S2
                  refine (works_any _).mono ?_
                  rintro e w8 ⟨rfl, hb⟩
                  have S := Lib.hid (S.out.call hb)
                  clear hb
                  go_wp2_with fail
                  go_ret
                  exact ⟨rfl, S.out.bel⟩
                · clear hsr hres
                  have HNE := Lib.hid hne
                  have HCO := Lib.hid hco
                  have HIA := Lib.hid hia
                  have HIB := Lib.hid hib
                  have habi : (a : Int) < (b : Int) := by omega
                  clear hne hco hia hib
                  have S2 := Lib.hid ((S.out.set 0 0 (I (a : Int)) rfl).set 0 1 (I (b : Int)) rfl)
                  have q0 := S2.out.get 2 0 rfl rfl
                  have q1 := S2.out.get 2 1 rfl rfl
                  have u0 := S2.out.get 0 0 rfl rfl
                  go_wp2_with fail
                  clear q0 q1 u0 z0 z1 z2 z3 S
                  have S := S2
                  clear S2
                  refine (rIsStreet_any _ r _ _ ⟨_, _, rfl, HR.out.below S.out.bel, HS.out.below S.out.bel⟩).mono ?_
                  rintro e w11 ⟨rfl, hb⟩
                  rw [HIA.out]
                  have S := Lib.hid (S.out.call hb)
                  clear hb
                  have q0 := S.out.get 2 0 rfl rfl
                  have q1 := S.out.get 2 1 rfl rfl
                  have u0 := S.out.get 0 0 rfl rfl
                  have u1 := S.out.get 0 1 rfl rfl
                  go_wp2_with fail
                  clear q0 q1 u0 u1
                  refine (rIsStreet_any _ r _ _ ⟨_, _, rfl, HR.out.below S.out.bel, HS.out.below S.out.bel⟩).mono ?_
                  rintro e w12 ⟨rfl, hb⟩
                  rw [HIB.out]
                  have S := Lib.hid (S.out.call hb)
                  clear hb
                  have u0 := S.out.get 0 0 rfl rfl
                  have u1 := S.out.get 0 1 rfl rfl
                  go_wp2_with fail
                  clear u0 u1
                  refine (exchanged_any _ n a b _ (S.out.ints 1 rfl) hnl hab hbl).mono ?_
                  rintro e w13 ⟨vx, rfl, hown, hb⟩
                  obtain ⟨Ax, cx, rfl⟩ := own_shape hown
                  have S := Lib.hid (S.out.take hb hown)
                  clear hb hown
                  have hco := HCO.out
                  obtain ⟨ce, hce⟩ : ∃ x, costL r.strs (exch n a b) = x := ⟨_, rfl⟩
                  rw [HCN.out, hce] at hco
                  have HCE := Lib.hid hce
                  have HXL := Lib.hid (exch_len n a b)
                  clear hce
                  go_wp2_with fail
                  refine wp_region_seg [([0, 1], 2), ([3, 4, 5, 6, 8, 9], 7), ([], 10)] [11, 12] [] 13 (by kernel_rfl) (by kernel_rfl) ?_
                  intro KQ hKQ w14 hb
                  have S := Lib.hid (S.out.call hb)
                  clear hb
                  have q0 := cell_regrown (S.out.get 3 0 rfl rfl)
                  have q1 := cell_regrown (S.out.get 3 1 rfl rfl)
                  refine seg_next ?_
                  simp only [opsAt, List.filterMap_cons, List.filterMap_nil, List.getElem?_toArray, List.getElem?_cons_succ, List.getElem?_cons_zero]
                  repeat (first | go_big_quiet_step (fail) | quiet_step (fail))
                  refine wpQuiet_nil ?_
                  intro K hK
                  refine loud_op rfl rfl ?_
                  go_simp
                  refine (isNew_any _ _ r (exch n a b) _ ⟨_, _, rfl, HR.out.below S.out.bel, HS.out.below S.out.bel⟩ HVD.out (S.out.ints 0 rfl) (by rw [HXL.out]; exact hnl)).mono ?_
                  rintro e w15 ⟨rfl, hb⟩
                  rw [HNE.out]
                  have S := Lib.hid (S.out.call hb)
                  refine hK _ _ hb ?_
                  clear hK K hb q0 q1
                  have q0 := cell_regrown (S.out.get 3 0 rfl rfl)
                  have q1 := cell_regrown (S.out.get 3 1 rfl rfl)
                  refine seg_next ?_
                  simp only [opsAt, List.filterMap_cons, List.filterMap_nil, List.getElem?_toArray, List.getElem?_cons_succ, List.getElem?_cons_zero]
                  repeat (first | go_big_quiet_step (fail) | quiet_step (fail))
                  refine wpQuiet_nil ?_
                  intro K hK
                  refine loud_op rfl rfl ?_
                  go_simp
                  refine (costOf_any _ _ r (exch n a b) _ ⟨_, _, rfl, HR.out.below S.out.bel, HS.out.below S.out.bel⟩ HVD.out (S.out.ints 0 rfl) (InL.of_new HNE.out)).mono ?_
                  rintro e w16 ⟨rfl, hb⟩
                  rw [HCE.out]
                  have S := Lib.hid (S.out.call hb)
                  refine hK _ _ hb ?_
                  clear hK K hb
                  refine seg_next ?_
                  simp only [opsAt, List.filterMap_nil]
                  refine wpQuiet_nil ?_
                  intro K hK
                  refine loud_op rfl rfl ?_
                  go_simp
                  refine (costOf_any _ _ r n _ ⟨_, _, rfl, HR.out.below S.out.bel, HS.out.below S.out.bel⟩ HVD.out (S.out.ints 2 rfl) HIN.out).mono ?_
                  rintro e w17 ⟨rfl, hb⟩
                  rw [HCN.out]
                  have S := Lib.hid (S.out.call hb)
                  refine hK _ _ hb ?_
                  clear hK K hb
                  refine seg_last ?_
                  simp only [opsAt, List.filterMap_cons, List.filterMap_nil, List.getElem?_toArray, List.getElem?_cons_succ, List.getElem?_cons_zero]
                  repeat (first | go_big_quiet_step (fail) | quiet_step (fail))
                  refine wpQuiet_nil ?_
                  clear q0 q1
                  go_wp2_with fail
                  have S := Lib.hid ((S.out.drop 1).drop 1)
                  go_roundw
                  case rel => exact ⟨Ax, exch n a b, cx, by rw [HXL.out], HNE, Lib.hid (by
                    rw [HXL.out]
                    exact S.out)⟩
                  case measure =>
                    have e1 := eps_ints (S.out.ints 0 rfl)
                    have e2 := HE.out
                    have h1 := HCE.out
                    have h2 := HCN.out
                    have h3 := cost_bd HVD.out HNE.out
                    rw [e1, e2, h1, h2]
                    omega

end Go.Proofs.Ytokendenofbnhaa
