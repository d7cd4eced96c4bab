/- Walk of Bound. -/
import Derived.Test.YtokendenofbnhaaW14
import Derived.Test.YtokendenofbnhaaW11
import Derived.Test.YtokendenofbnhaaPlain5
import Derived.Test.YtokendenofbnhaaSegC
namespace Go.Proofs.Ytokendenofbnhaa
open Go.RowKit Go.Sort

theorem St.ne {w0 w : World} {n : Nat} {L : List Item} (h : St w0 w n L) (i j : Nat) {x y : Item} {b c : Nat} (hi : L[i]? = some x) (hj : L[j]? = some y) (hij : i ≠ j) (hx : x.blk = some b) (hy : y.blk = some c) : b ≠ c := fun e =>
  hij (nodup_fm Item.blk L i j x y b h.apart hi hj hx (by rw [e]; exact hy))
theorem strCells_set : ∀ (ss : List Str) (i : Nat) (x y : Int), i < ss.length → ((strCells ss).set (i * 4 + 1) (I x)).set (i * 4 + 2) (I y) = strCells (ss.modify i fun s => { s with frm := x, to := y })
  | [], i, _, _, h => absurd h (by simp)
  | s :: ss, 0, x, y, _ => rfl
  | s :: ss, i + 1, x, y, h => by
    have := strCells_set ss i x y (by simpa using h)
    have e : strCells (s :: ss) = I s.has :: I s.frm :: I s.to :: I s.cost :: strCells ss := rfl
    rw [e, show (i + 1) * 4 + 1 = i * 4 + 1 + 4 from by omega, show (i + 1) * 4 + 2 = i * 4 + 2 + 4 from by omega]
    simp only [List.set_cons_succ, this, List.modify_succ_cons]
    rfl

set_option maxRecDepth 20000 in
set_option maxHeartbeats 8000000 in
theorem bound_any (v : Value) (r : Ros) (st : Int) (w : World) (hv : RosAt w v r) :
    Calls Try.prog 35 #[v, I st] w fun e w' => e = .returned (.tuple #[I (boundR r st).1, I (boundR r st).2]) ∧ Below w.heap.size w w' := by
  obtain ⟨rv, sv, rfl, hr, hs⟩ := hv
  obtain ⟨A1, c1, rfl, hr1, hr2, -⟩ := hr.open_
  obtain ⟨A2, c2, rfl, hs1, hs2, -⟩ := hs.open_
  have HR := Lib.hid hr
  have HS := Lib.hid hs
  clear hr hs
  have S := Lib.hid (show St w (w.alloc (.cells #[.slice A1 r.room.length c1, .slice A2 r.strs.length c2] 25)) (w.heap.size + 1) [.box w.heap.size [.slice A1 r.room.length c1, .slice A2 r.strs.length c2]] from (St.init w).alloc [.slice A1 r.room.length c1, .slice A2 r.strs.length c2] 25)
  obtain ⟨⟨m, er⟩, hk⟩ : ∃ p, knownR stepsI r (isStreet r st) = p := ⟨_, rfl⟩
  by_cases her : er = 0
  · have hz := knownR_zero (w := stepsI) (r := r) (is := isStreet r st) (by rw [hk]; exact her)
    obtain ⟨hvd, hist, hbest, -⟩ := hz
    obtain ⟨hs0, hs1⟩ := isStreet_spec hist
    have hB := show boundR r st = (if (r.strs.getD st.toNat default).has = -1 then (2, 0) else if goesTo r st.toNat m (r.strs.getD st.toNat default) (wide (r.strs.getD st.toNat default)) = false then (1, 0) else if staysTo r st.toNat m (r.strs.getD st.toNat default) (wide (r.strs.getD st.toNat default)) = false then (2, 0) else (3, 0)) by
      unfold boundR; rw [hk]; exact if_pos her
    obtain ⟨st, rfl⟩ := Int.eq_ofNat_of_zero_le hs0
    have hsl : st < r.strs.length := by omega
    obtain ⟨⟨has, frm, to, cost⟩, hs⟩ : ∃ s, r.strs[st] = s := ⟨_, rfl⟩
    have hso : StrOk ⟨has, frm, to, cost⟩ := (hvd.so ⟨has, frm, to, cost⟩ (by rw [← hs]; exact List.getElem_mem hsl)).1
    obtain ⟨fr, rfl⟩ := Int.eq_ofNat_of_zero_le hso.frm0
    rw [Int.toNat_natCast, show r.strs.getD st default = (⟨has, (fr : Int), to, cost⟩ : Str) by rw [List.getD_eq_getElem?_getD, List.getElem?_eq_getElem hsl, hs]; rfl] at hB
    have HK := Lib.hid hk
    have HBD := Lib.hid hB
    have HVD := Lib.hid hvd
    have hto : to ≤ 7 := hso.to1
    have hft : (fr : Int) ≤ to := hso.ft
    obtain ⟨_, _, e, _, _, hcell⟩ := HS.out.open_
    injection e with e1 e2 e3
    subst e1
    obtain ⟨b2, o2, rfl, hb2, hcell⟩ := hcell (by omega)
    obtain ⟨y0, y1, y2, y3⟩ := hcell st hsl
    rw [hs] at y0 y1 y2 y3
    have HY := Lib.hid (And.intro y0 (And.intro y1 (And.intro y2 y3)))
    have her' : (er != 0) = false := by simp [her]
    have HER := Lib.hid her
    clear hcell e2 e3 y0 y1 y2 y3 hB hs0 hk hvd hist hbest hs hso her
    go_enter Try.func35, Try.ntmps35
    go_wp2_with fail
    refine wp_region_seg [([0, 1, 2], 3), ([], 4)] [5, 6, 7, 8, 9, 10, 11] [] 12 (by kernel_rfl) (by kernel_rfl) ?_
    intro KQ hKQ w2 hb
    have S := Lib.hid (S.out.call hb)
    clear hb
    have q0_0 := cell_regrown (S.out.get 0 0 rfl rfl)
    have q0_1 := cell_regrown (S.out.get 0 1 rfl rfl)
    refine seg_next ?_
    simp only [opsAt, List.filterMap_cons, List.filterMap_nil, List.getElem?_toArray, List.getElem?_cons_succ, List.getElem?_cons_zero]
    repeat (first | go_big_quiet_step (fail) | quiet_step (fail))
    refine wpQuiet_nil ?_
    intro K hK
    refine loud_op rfl rfl ?_
    go_simp
    refine (isStreet_any _ r st _ ⟨_, _, rfl, HR.out.below S.out.bel, HS.out.below S.out.bel⟩).mono ?_
    rintro e w3 ⟨rfl, hb⟩
    have S := Lib.hid (S.out.call hb)
    refine hK _ _ hb ?_
    clear hK K hb
    refine seg_next ?_
    simp only [opsAt, List.filterMap_nil]
    refine wpQuiet_nil ?_
    intro K hK
    refine loud_op rfl rfl ?_
    go_simp
    refine (knownSteps_any _ r (isStreet r st) _ ⟨_, _, rfl, HR.out.below S.out.bel, HS.out.below S.out.bel⟩).mono ?_
    rintro e w4 ⟨p, rfl, hb⟩
    rw [HK.out]
    have S := Lib.hid (S.out.call hb)
    refine hK _ _ hb ?_
    clear hK K hb q0_0 q0_1
    refine seg_last ?_
    simp only [opsAt, List.filterMap_cons, List.filterMap_nil, List.getElem?_toArray, List.getElem?_cons_succ, List.getElem?_cons_zero]
    repeat (first | go_big_quiet_step (fail) | quiet_step (fail))
    refine wpQuiet_nil ?_
    have q0 := S.out.get 0 0 rfl rfl
    have q1 := S.out.get 0 1 rfl rfl
    obtain ⟨y0, y1, y2, y3⟩ := HY.out
    have y0 := keep_cell S.out.bel y0
    have y1 := keep_cell S.out.bel y1
    have y2 := keep_cell S.out.bel y2
    have y3 := keep_cell S.out.bel y3
    have S := Lib.hid (show St w (w4.alloc (.cells #[I has, I (fr : Int), I to, I cost] 33)) _ [.box w4.heap.size [I has, I (fr : Int), I to, I cost], .box w.heap.size [.slice A1 r.room.length c1, .slice (some ⟨b2, o2, none⟩) r.strs.length c2]] from S.out.alloc [I has, I (fr : Int), I to, I cost] 33)
    by_cases hhas : has = -1
    · have hq : (has == -1) = true := by simp [hhas]
      have HE := Lib.hid (show boundR r (st : Int) = (2, 0) by rw [HBD.out, if_pos hhas])
      clear hhas
      go_wp2_with fail
      go_ret2
      exact ⟨by rw [HE.out]; rfl, S.out.bel⟩
    · have hq : (has == -1) = false := by simp [hhas]
      have HE := Lib.hid (show boundR r (st : Int) = (if goesTo r st m (⟨has, (fr : Int), to, cost⟩ : Str) (wide (⟨has, (fr : Int), to, cost⟩ : Str)) = false then (1, 0) else if staysTo r st m (⟨has, (fr : Int), to, cost⟩ : Str) (wide (⟨has, (fr : Int), to, cost⟩ : Str)) = false then (2, 0) else (3, 0)) by rw [HBD.out, if_neg hhas])
      clear hhas
      go_wp2_with fail
      clear q0 q1 y0 y1 y2 y3
      go_loopw [10, 11, 12] (fun us ug i wr => ∃ j : Nat, i = I ((fr + j : Nat) : Int) ∧ (fr : Int) + j ≤ to + 1 ∧ us = .bool (staysTo r st m (⟨has, (fr : Int), to, cost⟩ : Str) j) ∧ ug = .bool (goesTo r st m (⟨has, (fr : Int), to, cost⟩ : Str) j) ∧ Hid (St w wr wr.heap.size [.box w4.heap.size [I has, I (fr : Int), I to, I cost], .box w.heap.size [.slice A1 r.room.length c1, .slice (some ⟨b2, o2, none⟩) r.strs.length c2]])) (fun _ _ i _ => (to + 1 - intOf i).toNat)
      case atStart => exact ⟨0, rfl, by omega, rfl, rfl, Lib.hid S.out.fix⟩
      case round =>
        clear S
        obtain ⟨j, rfl, hj, rfl, rfl, S⟩ := hrel
        obtain ⟨hx, hhx⟩ : ∃ x : Int, ((fr + j : Nat) : Int) = x := ⟨_, rfl⟩
        have hx0 : 0 ≤ hx := by omega
        have hxj : (fr : Int) + j = hx := by omega
        rw [hhx]
        have HHX := Lib.hid hhx
        have HXJ := Lib.hid hxj
        have hxle : hx ≤ to + 1 := by omega
        clear hhx hxj hj
        have z2 := S.out.get 0 2 rfl rfl
        by_cases hle : hx ≤ to
        · have q0 := S.out.get 1 0 rfl rfl
          have q1 := S.out.get 1 1 rfl rfl
          have S := Lib.hid (S.out.alloc [.slice A1 r.room.length c1, .slice (some ⟨b2, o2, none⟩) r.strs.length c2] 25)
          have q2 := S.out.get 2 1 rfl rfl
          have hso2 := Lib.hid (fixS_ok HVD.out st (h := hx) (by omega) (by omega))
          go_wp2_with fail
          clear q0 q1 q2 z2
          refine (cloneS_any _ r.strs _ (HS.out.below S.out.bel) (by have := HVD.out.sl; omega)).mono ?_
          rintro e w5 ⟨v', rfl, hown, hb⟩
          obtain ⟨bo, hbo⟩ : ∃ b, wr.heap.size = b := ⟨_, rfl⟩
          rw [hbo] at S ⊢
          have S := Lib.hid (S.out.take hb hown)
          clear hb hown
          obtain ⟨g, cap, rfl, hg1, hg2⟩ := own_shape_pos (S.out.own 0 rfl) (show 0 < r.strs.length by omega)
          have x0 := S.out.get 1 1 rfl rfl
          have x1 := S.out.free 1 1 rfl
          have S := Lib.hid (S.out.set 1 1 (.slice (some ⟨g, 0, none⟩) r.strs.length cap) rfl)
          have hsti : (st : Int) < (r.strs.length : Int) := by omega
          go_wp2_with fail
          clear x0 x1
          refine wp_region_treeC (.node [0, 1, 2, 3, 4, 5, 6, 7, 8, 9] [10] (fun _ => .last [11, 12] [13])) 13 (by kernel_rfl) (by kernel_rfl) ?_
          intro KQ hKQ w7 hb
          have S := Lib.hid (S.out.call hb)
          clear hb
          have x0 := S.out.get 1 1 rfl rfl
          have hng := S.out.ne 1 0 rfl rfl (by omega) rfl rfl
          have hgl := ((S.out.own 0 rfl).lt g rfl).2
          refine ⟨CP w7 g, CP.refl w7 hgl, ?_⟩
          have x1 := cell_patched x0 hng
          clear x0
          refine treeC_node ?_
          simp only [opsAt, List.filterMap_cons, List.filterMap_nil, List.getElem?_toArray, List.getElem?_cons_succ, List.getElem?_cons_zero]
          repeat (first | go_big_quiet_step (fail) | quiet_step (fail))
          refine wpQuiet_nil ?_
          refine all_one ?_
          intro K hK
          refine loud_op rfl rfl ?_
          obtain ⟨-, v1, v2, -⟩ := strCells_at r.strs st hsl
          have c1' := (S.out.own 0 rfl).cellAt (st * 4 + 1) (by omega)
          rw [v1] at c1'
          have c2' := (S.out.own 0 rfl).frozenAt (st * 4 + 1)
          go_simp
          clear c1' c2'
          refine hK _ _ (CP.of (grown_setCell _ _ _) hgl) ?_
          clear hK K
          have S := Lib.hid (S.out.put 0 (st * 4 + 1) (I hx) rfl)
          have c3' := (S.out.own 0 rfl).cellAt (st * 4 + 2) (by omega)
          rw [List.getElem?_set_ne (by omega), v2] at c3'
          have c4' := (S.out.own 0 rfl).frozenAt (st * 4 + 2)
          clear v1 v2
          refine treeC_last ?_
          simp only [opsAt, List.filterMap_cons, List.filterMap_nil, List.getElem?_toArray, List.getElem?_cons_succ, List.getElem?_cons_zero]
          repeat (first | go_big_quiet_step (fail) | quiet_step (fail))
          refine wpQuiet_nil ?_
          have S := Lib.hid (S.out.put 0 (st * 4 + 2) (I hx) rfl)
          clear x1
          have S := Lib.hid (show St w _ _ [.own 33 4 (.slice (some ⟨g, 0, none⟩) r.strs.length cap) (fixS r st hx).strs.length (strCells (fixS r st hx).strs), .box bo [.slice A1 r.room.length c1, .slice (some ⟨g, 0, none⟩) r.strs.length cap], .box w4.heap.size [I has, I (fr : Int), I to, I cost], .box w.heap.size [.slice A1 r.room.length c1, .slice (some ⟨b2, o2, none⟩) r.strs.length c2]] from (by
            rw [fixS_len, show strCells (fixS r st hx).strs = _ from (strCells_set r.strs st hx hx hsl).symm]
            exact S.out))
          have q0 := S.out.get 1 0 rfl rfl
          have q1 := S.out.get 1 1 rfl rfl
          go_wp2_with fail
          clear q0 q1 c3' c4'
          obtain ⟨w8', hw8⟩ : ∃ w8', (w7.setCell ⟨g, st * 4 + 1, none⟩ (I hx)).setCell ⟨g, st * 4 + 2, none⟩ (I hx) = w8' := ⟨_, rfl⟩
          rw [hw8] at S ⊢
          clear hw8
          obtain ⟨⟨x, y⟩, hxy⟩ : ∃ p, bestP stepsI (fixS r st hx).strs (pad r.room) = p := ⟨_, rfl⟩
          have HX := Lib.hid hxy
          have HX2 := Lib.hid (show bestR stepsI (fixS r st hx) = (x, y) from hxy)
          clear hxy
          have HFL := Lib.hid (fixS_len r st hx)
          obtain ⟨rf, hrf⟩ : ∃ rf, fixS r st hx = rf := ⟨_, rfl⟩
          have HRF := Lib.hid hrf
          have hrm : rf.room = r.room := by rw [← hrf]; rfl
          rw [hrf] at S HX HX2 HFL hso2
          clear hrf
          have HRM := Lib.hid hrm
          clear hrm
          have HRO := Lib.hid (show Strs w8' (.slice (some ⟨g, 0, none⟩) rf.strs.length cap) rf.strs from (by
            have q := S.out.row 0 rfl
            rw [← HFL.out] at q
            exact q))
          have HROS := Lib.hid (show RosAt w8' (.agg #[.slice A1 r.room.length c1, .slice (some ⟨g, 0, none⟩) r.strs.length cap]) rf from ⟨_, _, rfl, by rw [HRM.out]; exact HR.out.below S.out.bel, by have q := HRO.out; rw [HFL.out] at q; exact q⟩)
          refine (hire_any _ (.func 64) #[] #[] rf (fun k l => bestP stepsI (rf.strs.drop k) l) _ HROS.out).mono ?_
          rintro e w8 ⟨c, m2, rv', sv', he, rfl, hS⟩
          simp only [Value.agg.injEq] at he
          have he := congrArg Array.toList he
          simp only [List.cons.injEq, and_true] at he
          obtain ⟨rfl, rfl⟩ := he
          have hS := hS.perm (List.Perm.swap ..)
          rw [← HFL.out] at hS
          have HS8 := Lib.hid hS
          clear hS
          go_wp2_with fail
          refine (leastSteps_any w8' rf.strs rf.room (.slice A1 r.room.length c1) (some ⟨g, 0, none⟩) cap c m2 HRO.out (by rw [HFL.out]; exact HVD.out.sl) hso2.out (by rw [HRM.out]; exact HR.out.below S.out.bel) (by rw [HRM.out]; exact HVD.out.rl) (fun x hx => by rw [HRM.out] at hx; have := HVD.out.rm x hx; omega) w8 [] HS8.out).mono ?_
          rintro e w9 ⟨rfl, hS9⟩
          rw [show bestP stepsI rf.strs (pad rf.room) = (x, y) by rw [HRM.out]; exact HX.out]
          have S := Lib.hid ((S.out.call hS9.bel).tail.tail)
          clear hS9 HS8 HRO HROS
          have hstay := staysTo_succ r st m (⟨has, (fr : Int), to, cost⟩ : Str) j
          have hgo := goesTo_succ r st m (⟨has, (fr : Int), to, cost⟩ : Str) j
          have hhit : bHit r st m (((⟨has, (fr : Int), to, cost⟩ : Str)).frm + (j : Int)) = (decide (0 ≤ y) && (x == m)) := by
            unfold bHit
            rw [show ((⟨has, (fr : Int), to, cost⟩ : Str)).frm + (j : Int) = hx from HXJ.out, HRF.out, HX2.out]
          rw [hhit, show ((⟨has, (fr : Int), to, cost⟩ : Str)).frm + (j : Int) = hx from HXJ.out] at hstay hgo
          have HST := Lib.hid hstay
          have HGO := Lib.hid hgo
          clear hstay hgo hhit
          cases hy : decide (0 ≤ y)
          · have HY2 := Lib.hid hy
            have e1 := Lib.hid (show (staysTo r st m (⟨has, (fr : Int), to, cost⟩ : Str) (j + 1)) = (staysTo r st m (⟨has, (fr : Int), to, cost⟩ : Str) j) by rw [HST.out, HY2.out]; simp)
            have e2 := Lib.hid (show (goesTo r st m (⟨has, (fr : Int), to, cost⟩ : Str) (j + 1)) = (goesTo r st m (⟨has, (fr : Int), to, cost⟩ : Str) j) by rw [HGO.out, HY2.out]; simp)
            clear hy
            go_wp2_with fail
            go_roundw
            case rel => exact ⟨j + 1, by rw [← HHX.out]; go_num, by have := HXJ.out; omega, by rw [e1.out], by rw [e2.out], Lib.hid (S.out)⟩
            case measure => simp [intOf]; omega
          · cases hxm : (x == m)
            · have HY2 := Lib.hid hy
              have HX3 := Lib.hid hxm
              have e1 := Lib.hid (show (staysTo r st m (⟨has, (fr : Int), to, cost⟩ : Str) (j + 1)) = (staysTo r st m (⟨has, (fr : Int), to, cost⟩ : Str) j) by rw [HST.out, HY2.out, HX3.out]; simp)
              have e2 := Lib.hid (show (goesTo r st m (⟨has, (fr : Int), to, cost⟩ : Str) (j + 1)) = (goesTo r st m (⟨has, (fr : Int), to, cost⟩ : Str) j) by rw [HGO.out, HY2.out, HX3.out]; simp)
              clear hy
              go_wp2_with fail
              go_roundw
              case rel => exact ⟨j + 1, by rw [← HHX.out]; go_num, by have := HXJ.out; omega, by rw [e1.out], by rw [e2.out], Lib.hid (S.out)⟩
              case measure => simp [intOf]; omega
            · have HY2 := Lib.hid hy
              have HX3 := Lib.hid hxm
              have e1 := Lib.hid (show (staysTo r st m (⟨has, (fr : Int), to, cost⟩ : Str) (j + 1)) = ((staysTo r st m (⟨has, (fr : Int), to, cost⟩ : Str) j) || (hx == has)) by rw [HST.out, HY2.out, HX3.out]; simp)
              have e2 := Lib.hid (show (goesTo r st m (⟨has, (fr : Int), to, cost⟩ : Str) (j + 1)) = ((goesTo r st m (⟨has, (fr : Int), to, cost⟩ : Str) j) || (hx != has)) by rw [HGO.out, HY2.out, HX3.out]; simp)
              clear hy
              obtain ⟨us, hus⟩ : ∃ b, (staysTo r st m (⟨has, (fr : Int), to, cost⟩ : Str) j) = b := ⟨_, rfl⟩
              obtain ⟨ug, hug⟩ : ∃ b, (goesTo r st m (⟨has, (fr : Int), to, cost⟩ : Str) j) = b := ⟨_, rfl⟩
              have HUS := Lib.hid hus
              have HUG := Lib.hid hug
              rw [hus, hug]
              clear hus hug
              by_cases hh : hx = has
              · have hb1 : (hx == has) = true := by rw [hh]; simp
                have hb2 : (hx != has) = false := by rw [hh]; simp
                have e1' := Lib.hid (show (staysTo r st m (⟨has, (fr : Int), to, cost⟩ : Str) (j + 1)) = (us || true) by rw [e1.out, HUS.out, hb1])
                have e2' := Lib.hid (show (goesTo r st m (⟨has, (fr : Int), to, cost⟩ : Str) (j + 1)) = (ug || false) by rw [e2.out, HUG.out, hb2])
                clear hh
                cases us <;> cases ug
                all_goals
                  go_wp2_with fail
                  refine wp_region_seg [] [0, 1, 2, 3, 4, 5, 6, 7, 8, 9, 10, 11, 12, 13, 14, 15] [] 16 (by kernel_rfl) (by kernel_rfl) ?_
                  intro KQ hKQ w9 hb
                  have S := Lib.hid (S.out.call hb)
                  clear hb
                  have q0_0 := cell_regrown (S.out.get 0 0 rfl rfl)
                  refine seg_last ?_
                  simp only [opsAt, List.filterMap_cons, List.filterMap_nil, List.getElem?_toArray, List.getElem?_cons_succ, List.getElem?_cons_zero]
                  repeat (first | go_big_quiet_step (fail) | quiet_step (fail))
                  refine wpQuiet_nil ?_
                  clear q0_0
                  go_wp2_with fail
                  go_roundw
                  case rel => exact ⟨j + 1, by rw [← HHX.out]; go_num, by have := HXJ.out; omega, by rw [e1'.out]; rfl, by rw [e2'.out]; rfl, Lib.hid (S.out)⟩
                  case measure => simp [intOf]; omega
              · have hb1 : (hx == has) = false := by simp; omega
                have hb2 : (hx != has) = true := by simp; omega
                have e1' := Lib.hid (show (staysTo r st m (⟨has, (fr : Int), to, cost⟩ : Str) (j + 1)) = (us || false) by rw [e1.out, HUS.out, hb1])
                have e2' := Lib.hid (show (goesTo r st m (⟨has, (fr : Int), to, cost⟩ : Str) (j + 1)) = (ug || true) by rw [e2.out, HUG.out, hb2])
                clear hh
                cases us <;> cases ug
                all_goals
                  go_wp2_with fail
                  refine wp_region_seg [] [0, 1, 2, 3, 4, 5, 6, 7, 8, 9, 10, 11, 12, 13, 14, 15] [] 16 (by kernel_rfl) (by kernel_rfl) ?_
                  intro KQ hKQ w9 hb
                  have S := Lib.hid (S.out.call hb)
                  clear hb
                  have q0_0 := cell_regrown (S.out.get 0 0 rfl rfl)
                  refine seg_last ?_
                  simp only [opsAt, List.filterMap_cons, List.filterMap_nil, List.getElem?_toArray, List.getElem?_cons_succ, List.getElem?_cons_zero]
                  repeat (first | go_big_quiet_step (fail) | quiet_step (fail))
                  refine wpQuiet_nil ?_
                  clear q0_0
                  go_wp2_with fail
                  go_roundw
                  case rel => exact ⟨j + 1, by rw [← HHX.out]; go_num, by have := HXJ.out; omega, by rw [e1'.out]; rfl, by rw [e2'.out]; rfl, Lib.hid (S.out)⟩
                  case measure => simp [intOf]; omega
        · have hjw : wide (⟨has, (fr : Int), to, cost⟩ : Str) = j := by have := HXJ.out; unfold wide; simp only; omega
          rw [hjw] at HE
          cases hgo : (goesTo r st m (⟨has, (fr : Int), to, cost⟩ : Str) j)
          · have HEE := Lib.hid (show boundR r (st : Int) = (1, 0) by rw [HE.out, hgo]; rfl)
            go_wp2_with fail
            go_ret2
            exact ⟨by rw [HEE.out]; rfl, S.out.bel⟩
          · cases hst : (staysTo r st m (⟨has, (fr : Int), to, cost⟩ : Str) j)
            · have HEE := Lib.hid (show boundR r (st : Int) = (2, 0) by rw [HE.out, hgo, hst]; rfl)
              go_wp2_with fail
              go_ret2
              exact ⟨by rw [HEE.out]; rfl, S.out.bel⟩
            · have HEE := Lib.hid (show boundR r (st : Int) = (3, 0) by rw [HE.out, hgo, hst]; rfl)
              go_wp2_with fail
              go_ret2
              exact ⟨by rw [HEE.out]; rfl, S.out.bel⟩
  · have HE := Lib.hid (show boundR r st = (0, er) by unfold boundR; rw [hk]; exact if_neg her)
    have hq : (er != 0) = true := by simpa using her
    have HK := Lib.hid hk
    clear hk her
    go_enter Try.func35, Try.ntmps35
    go_wp2_with fail
    refine wp_region_seg [([0, 1, 2], 3), ([], 4)] [5, 6, 7, 8, 9, 10, 11] [] 12 (by kernel_rfl) (by kernel_rfl) ?_
    intro KQ hKQ w2 hb
    have S := Lib.hid (S.out.call hb)
    clear hb
    have q0_0 := cell_regrown (S.out.get 0 0 rfl rfl)
    have q0_1 := cell_regrown (S.out.get 0 1 rfl rfl)
    refine seg_next ?_
    simp only [opsAt, List.filterMap_cons, List.filterMap_nil, List.getElem?_toArray, List.getElem?_cons_succ, List.getElem?_cons_zero]
    repeat (first | go_big_quiet_step (fail) | quiet_step (fail))
    refine wpQuiet_nil ?_
    intro K hK
    refine loud_op rfl rfl ?_
    go_simp
    refine (isStreet_any _ r st _ ⟨_, _, rfl, HR.out.below S.out.bel, HS.out.below S.out.bel⟩).mono ?_
    rintro e w3 ⟨rfl, hb⟩
    have S := Lib.hid (S.out.call hb)
    refine hK _ _ hb ?_
    clear hK K hb
    refine seg_next ?_
    simp only [opsAt, List.filterMap_nil]
    refine wpQuiet_nil ?_
    intro K hK
    refine loud_op rfl rfl ?_
    go_simp
    refine (knownSteps_any _ r (isStreet r st) _ ⟨_, _, rfl, HR.out.below S.out.bel, HS.out.below S.out.bel⟩).mono ?_
    rintro e w4 ⟨p, rfl, hb⟩
    rw [HK.out]
    have S := Lib.hid (S.out.call hb)
    refine hK _ _ hb ?_
    clear hK K hb q0_0 q0_1
    refine seg_last ?_
    simp only [opsAt, List.filterMap_cons, List.filterMap_nil, List.getElem?_toArray, List.getElem?_cons_succ, List.getElem?_cons_zero]
    repeat (first | go_big_quiet_step (fail) | quiet_step (fail))
    refine wpQuiet_nil ?_
    go_wp2_with fail
    go_ret2
    exact ⟨by rw [HE.out]; rfl, S.out.bel⟩

end Go.Proofs.Ytokendenofbnhaa
