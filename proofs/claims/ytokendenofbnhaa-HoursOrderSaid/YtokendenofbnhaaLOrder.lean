/- HoursOrder: the law walked. -/
import Derived.Test.YtokendenofbnhaaW22
import Derived.Test.YtokendenofbnhaaW25
import Derived.Test.YtokendenofbnhaaW18
import Derived.Test.YtokendenofbnhaaW19
import Derived.Test.YtokendenofbnhaaW28
import Derived.Test.YtokendenofbnhaaPlain16
namespace Go.Proofs.Ytokendenofbnhaa
open Go.RowKit Go.Sort

theorem thr_tuple (r : Ros) : (if someR r = true then Value.tuple #[I (bestR stepsI r).1, I (farN r : Int), I (bestR onceI r).1, .bool true, .bool false] else .tuple #[I 0, I 0, I 0, .bool false, .bool false]) = .tuple #[I (thr r).1, I (thr r).2.1, I (thr r).2.2.1, .bool (thr r).2.2.2, .bool false] := by
  unfold thr
  by_cases h : someR r = true
  · rw [if_pos h, if_pos h]
  · rw [if_neg h, if_neg h]
theorem strCells_set4 : ∀ (ss : List Str) (i : Nat) (s : Str), i < ss.length → ((((strCells ss).set (i * 4) (I s.has)).set (i * 4 + 1) (I s.frm)).set (i * 4 + 2) (I s.to)).set (i * 4 + 3) (I s.cost) = strCells (ss.set i s)
  | [], i, _, h => absurd h (by simp)
  | s :: ss, 0, x, _ => rfl
  | s :: ss, i + 1, x, h => by
    have := strCells_set4 ss i x (by simpa using h)
    have e : strCells (s :: ss) = I s.has :: I s.frm :: I s.to :: I s.cost :: strCells ss := rfl
    rw [e, show (i + 1) * 4 = i * 4 + 4 from by omega, show i * 4 + 4 + 1 = i * 4 + 1 + 4 from by omega, show i * 4 + 4 + 2 = i * 4 + 2 + 4 from by omega, show i * 4 + 4 + 3 = i * 4 + 3 + 4 from by omega]
    simp only [List.set_cons_succ, this]
    rfl

theorem lack_of {r : Ros} (h : ROk r) {a : (Int × Int) × Int} (ha : lackR r a) : LackIs r a := by
  unfold lackR at ha
  rwa [if_pos (valid_iff.2 h)] at ha

set_option maxRecDepth 20000 in
set_option maxHeartbeats 4000000 in
theorem lawOrder_any (v : Value) (r : Ros) (by_ z : Int) (w : World) (hv : RosAt w v r) :
    Calls Try.prog 11 #[v, I by_, I z] w fun e w' => e = .returned (.bool true) ∧ Below w.heap.size w w' := by
  obtain ⟨rv, sv, rfl, hr, hs⟩ := hv
  obtain ⟨A1, c1, rfl, hr1, hr2, -⟩ := hr.open_
  obtain ⟨A2, c2, rfl, hs1, hs2, -⟩ := hs.open_
  have HR := Lib.hid hr
  have HS := Lib.hid hs
  clear hr hs
  have S := Lib.hid (show St w (w.alloc (.cells #[.slice A1 r.room.length c1, .slice A2 r.strs.length c2] 25)) (w.heap.size + 1) [.box w.heap.size [.slice A1 r.room.length c1, .slice A2 r.strs.length c2]] from (St.init w).alloc [.slice A1 r.room.length c1, .slice A2 r.strs.length c2] 25)
  obtain ⟨_, _, e, _, _, hrc⟩ := HR.out.open_
  injection e with e1 e2 e3
  subst e1
  have HRC := Lib.hid hrc
  clear hrc e2 e3
  obtain ⟨_, _, e, _, _, hsc⟩ := HS.out.open_
  injection e with e1 e2 e3
  subst e1
  have HSC := Lib.hid hsc
  clear hsc e2 e3
  have q0 := S.out.get 0 0 rfl rfl
  have q1 := S.out.get 0 1 rfl rfl
  go_enter Try.func11, Try.ntmps11
  go_wp2_with fail
  clear q0 q1
  refine (ready_any _ r _ ⟨_, _, rfl, HR.out.below S.out.bel, HS.out.below S.out.bel⟩).mono ?_
  rintro e w1 ⟨⟨bb, rfl, hok⟩, hb⟩
  have S := Lib.hid (S.out.call hb)
  clear hb
  cases bb
  · clear hok
    go_wp2_with fail
    refine (works_any _).mono ?_
    rintro e w2 ⟨rfl, hb⟩
    have S := Lib.hid (S.out.call hb)
    clear hb
    go_wp2_with fail
    go_ret
    exact ⟨rfl, S.out.bel⟩
  · have hvd := hok rfl
    have HVD := Lib.hid hvd
    clear hok
    by_cases h0 : by_ < 0
    · go_wp2_with fail
      refine (works_any _).mono ?_
      rintro e w2 ⟨rfl, hb⟩
      have S := Lib.hid (S.out.call hb)
      clear hb
      go_wp2_with fail
      go_ret
      exact ⟨rfl, S.out.bel⟩
    by_cases h1 : 100 < by_
    · go_wp2_with fail
      refine (works_any _).mono ?_
      rintro e w2 ⟨rfl, hb⟩
      have S := Lib.hid (S.out.call hb)
      clear hb
      go_wp2_with fail
      go_ret
      exact ⟨rfl, S.out.bel⟩
    have q0 := S.out.get 0 0 rfl rfl
    have q1 := S.out.get 0 1 rfl rfl
    go_wp2_with fail
    clear q0 q1
    refine (rIsStreet_any _ r _ _ ⟨_, _, rfl, HR.out.below S.out.bel, HS.out.below S.out.bel⟩).mono ?_
    rintro e w2 ⟨rfl, hb⟩
    cases hst : isStreet r z
    · have S := Lib.hid (S.out.call hb)
      clear hb
      go_wp2_with fail
      refine (works_any _).mono ?_
      rintro e w3 ⟨rfl, hb⟩
      have S := Lib.hid (S.out.call hb)
      clear hb
      go_wp2_with fail
      go_ret
      exact ⟨rfl, S.out.bel⟩
    · have S := Lib.hid (S.out.call hb)
      clear hb
      obtain ⟨z, rfl⟩ := Int.eq_ofNat_of_zero_le (isStreet_spec hst).1
      have hz : z < r.strs.length := by have := (isStreet_spec hst).2; omega
      obtain ⟨b, rfl⟩ := Int.eq_ofNat_of_zero_le (show 0 ≤ by_ by omega)
      obtain ⟨b2, o2, e, hb2, hcell2⟩ := HSC.out (by omega)
      subst e
      have HSC := Lib.hid hcell2
      have hn0 : ¬ (r.strs.length : Int) = 0 := by omega
      have hn1 : ¬ r.strs.length = 0 := by omega
      have hn2 : ¬ r.strs = [] := fun e => hn1 (by rw [e]; rfl)
      have hsl := HVD.out.sl
      clear hcell2 hb2 hst
      have q0 := S.out.get 0 0 rfl rfl
      have q1 := S.out.get 0 1 rfl rfl
      go_wp2_with fail
      clear q0 q1
      refine (copy_any _ r _ ⟨_, _, rfl, HR.out.below S.out.bel, HS.out.below S.out.bel⟩ (by have := HVD.out.rl; omega) (by have := HVD.out.sl; omega)).mono ?_
      rintro e w3 ⟨v', rfl, ⟨rv', sv', rfl, ho1, ho2⟩, hb⟩
      obtain ⟨Ax, cx, rfl⟩ := own_shape ho1
      obtain ⟨g, cy, rfl, hg1, hg2⟩ := own_shape_pos ho2 (by omega)
      obtain ⟨bo, hbo⟩ : ∃ x, w3.heap.size = x := ⟨_, rfl⟩
      have S := Lib.hid ((S.out.take2 hb ho1 ho2 (by decide)).alloc [.slice Ax r.room.length cx, .slice (some ⟨g, 0, none⟩) r.strs.length cy] 25)
      rw [hbo] at S
      clear hb ho1 ho2 hg1 hg2
      have q0 := S.out.get 3 0 rfl rfl
      have q1 := S.out.get 3 1 rfl rfl
      go_wp2_with fail
      clear q0 q1
      try rw [hbo]
      go_loopw [9] (fun i wr => ∃ k : Nat, k ≤ r.strs.length ∧ i = I k ∧ Hid (St w wr wr.heap.size [.box bo [.slice Ax r.room.length cx, .slice (some ⟨g, 0, none⟩) r.strs.length cy], .own 3 1 (.slice Ax r.room.length cx) r.room.length (r.room.map I), .own 33 4 (.slice (some ⟨g, 0, none⟩) r.strs.length cy) r.strs.length (strCells (rotTo r.strs b k)), .box w.heap.size [.slice A1 r.room.length c1, .slice (some ⟨b2, o2, none⟩) r.strs.length c2]])) (fun i _ => r.strs.length - (intOf i).toNat)
      case atStart => exact ⟨0, by omega, rfl, Lib.hid (by rw [rotTo_zero]; exact S.out.fix)⟩
      case round =>
        clear S
        obtain ⟨k, hk, rfl, S⟩ := hrel
        by_cases hkl : k < r.strs.length
        · have HM := Lib.hid (Nat.mod_lt (k + b) (show 0 < r.strs.length by omega))
          have hjb := HM.out
          obtain ⟨j, hj⟩ : ∃ x, (k + b) % r.strs.length = x := ⟨_, rfl⟩
          rw [hj] at hjb
          obtain ⟨y0, y1, y2, y3⟩ := HSC.out j hjb
          have HJ := Lib.hid hj
          have hsk := strCells_at (rotTo r.strs b k) k (by rw [rotTo_len _ _ _ hk]; exact hkl)
          obtain ⟨sk, hske⟩ : ∃ x, (rotTo r.strs b k)[k]'(by rw [rotTo_len _ _ _ hk]; exact hkl) = x := ⟨_, rfl⟩
          rw [hske] at hsk
          have HZ := Lib.hid hsk
          obtain ⟨s, hse⟩ : ∃ x, r.strs[j] = x := ⟨_, rfl⟩
          rw [hse] at y0 y1 y2 y3
          have HSU := Lib.hid (show (rotTo r.strs b k).set k s = rotTo r.strs b (k + 1) by
            rw [← rotTo_succ r.strs b k hkl HM.out, ← hse]
            congr 1
            simp only [HJ.out])
          have HL := Lib.hid (rotTo_len r.strs b k hk)
          have hki : (k : Int) < (r.strs.length : Int) := by omega
          have hji : (j : Int) < (r.strs.length : Int) := by omega
          have e1 : IntKind.i64.wrap ((k : Int) + (b : Int)) = (k : Int) + (b : Int) := IntWalk.i64_in _ (by omega)
          have e2 : Int.tmod ((k : Int) + (b : Int)) (r.strs.length : Int) = (j : Int) := by rw [← HJ.out]; rfl
          have Y0 := Lib.hid y0
          have Y1 := Lib.hid y1
          have Y2 := Lib.hid y2
          have Y3 := Lib.hid y3
          clear hj hske hsk hse y0 y1 y2 y3
          go_wp2_with fail
          refine wp_region_seg [] [0, 1, 2, 3, 4, 5, 6, 7, 8, 9, 10, 11, 12] [13] 13 (by kernel_rfl) (by kernel_rfl) ?_
          intro KQ hKQ w5 hb
          have S := Lib.hid (S.out.call hb)
          clear hb
          have q1 := cell_regrown (S.out.get 3 1 rfl rfl)
          have p1 := cell_regrown (S.out.get 0 1 rfl rfl)
          have y0 := cell_regrown (keep_cell S.out.bel Y0.out)
          have y1 := cell_regrown (keep_cell S.out.bel Y1.out)
          have y2 := cell_regrown (keep_cell S.out.bel Y2.out)
          have y3 := cell_regrown (keep_cell S.out.bel Y3.out)
          refine seg_last ?_
          simp only [opsAt, List.filterMap_cons, List.filterMap_nil, List.getElem?_toArray, List.getElem?_cons_succ, List.getElem?_cons_zero]
          repeat (first | go_big_quiet_step (fail) | quiet_step (fail))
          refine wpQuiet_nil ?_
          clear q1 p1 y0 y1 y2 y3
          have z0 := (S.out.own 2 rfl).cells (g := g) rfl (k * 4) (I sk.has) HZ.out.1
          have z1 := (S.out.own 2 rfl).cells (g := g) rfl (k * 4 + 1) (I sk.frm) HZ.out.2.1
          have z2 := (S.out.own 2 rfl).cells (g := g) rfl (k * 4 + 2) (I sk.to) HZ.out.2.2.1
          have z3 := (S.out.own 2 rfl).cells (g := g) rfl (k * 4 + 3) (I sk.cost) HZ.out.2.2.2
          rw [add_plain, Nat.zero_add] at z0 z1 z2 z3
          have f0 := (S.out.own 2 rfl).frozenAt (k * 4)
          have f1 := (S.out.own 2 rfl).frozenAt (k * 4 + 1)
          have f2 := (S.out.own 2 rfl).frozenAt (k * 4 + 2)
          have f3 := (S.out.own 2 rfl).frozenAt (k * 4 + 3)
          have S4 := (((S.out.put 2 (k * 4) (I s.has) rfl).put 2 (k * 4 + 1) (I s.frm) rfl).put 2 (k * 4 + 2) (I s.to) rfl).put 2 (k * 4 + 3) (I s.cost) rfl
          go_wp2_with fail
          clear z0 z1 z2 z3 f0 f1 f2 f3
          have S := Lib.hid (show St w _ _ [.box bo [.slice Ax r.room.length cx, .slice (some ⟨g, 0, none⟩) r.strs.length cy], .own 3 1 (.slice Ax r.room.length cx) r.room.length (r.room.map I), .own 33 4 (.slice (some ⟨g, 0, none⟩) r.strs.length cy) r.strs.length (strCells (rotTo r.strs b (k + 1))), .box w.heap.size [.slice A1 r.room.length c1, .slice (some ⟨b2, o2, none⟩) r.strs.length c2]] from (by
            rw [← HSU.out, ← strCells_set4 _ k s (by rw [HL.out]; exact hkl)]
            exact S4))
          go_roundw
          case rel => exact ⟨k + 1, by omega, by go_num, Lib.hid S.out.fix⟩
          case measure => first | (simp [intOf]; done) | (simp [intOf]; omega)
        · obtain rfl : k = r.strs.length := by omega
          have S := Lib.hid (show St w _ _ [.box bo [.slice Ax r.room.length cx, .slice (some ⟨g, 0, none⟩) r.strs.length cy], .own 3 1 (.slice Ax r.room.length cx) r.room.length (r.room.map I), .own 33 4 (.slice (some ⟨g, 0, none⟩) r.strs.length cy) (rotR r (b % r.strs.length)).strs.length (strCells (rotR r (b % r.strs.length)).strs), .box w.heap.size [.slice A1 r.room.length c1, .slice (some ⟨b2, o2, none⟩) r.strs.length c2]] from (by
            simp only [rotR]
            rw [rotL_len, ← rotTo_all]
            exact S.out))
          have HOD := Lib.hid (rotR_ok HVD.out (b % r.strs.length))
          have hbn : b % r.strs.length ≤ r.strs.length := Nat.le_of_lt (Nat.mod_lt _ (by omega))
          have HTS := Lib.hid (thr_same (sim_rot HVD.out hbn) (sim_rot_back HVD.out) HVD.out HOD.out)
          have HLK := Lib.hid (fun a c (ha : lackR r a) (hc : lackR (rotR r (b % r.strs.length)) c) => LackIs.eq (r := r) (o := rotR r (b % r.strs.length)) rfl (fun lo hi _ _ => lacks_rot r _ lo hi) (lack_of HVD.out ha) (lack_of HOD.out hc))
          have HBD := Lib.hid (bound_rot (B := b) HVD.out hz)
          have HRM := Lib.hid (show (rotR r (b % r.strs.length)).room = r.room from rfl)
          obtain ⟨ro, hro⟩ : ∃ x, rotR r (b % r.strs.length) = x := ⟨_, rfl⟩
          rw [hro] at S HOD HTS HLK HBD HRM
          clear hro hbn
          have S := Lib.hid (show St w _ _ [.box bo [.slice Ax r.room.length cx, .slice (some ⟨g, 0, none⟩) r.strs.length cy], .own 3 1 (.slice Ax r.room.length cx) r.room.length (ro.room.map I), .own 33 4 (.slice (some ⟨g, 0, none⟩) r.strs.length cy) ro.strs.length (strCells ro.strs), .box w.heap.size [.slice A1 r.room.length c1, .slice (some ⟨b2, o2, none⟩) r.strs.length c2]] from (by
            rw [HRM.out]
            exact S.out))
          have q0 := S.out.get 3 0 rfl rfl
          have q1 := S.out.get 3 1 rfl rfl
          go_wp2_with fail
          clear q0 q1
          refine (three_any _ r _ ⟨_, _, rfl, HR.out.below S.out.bel, HS.out.below S.out.bel⟩ HVD.out).mono ?_
          rintro e w20 ⟨rfl, hb⟩
          rw [thr_tuple]
          obtain ⟨⟨t1, t2, t3, t4⟩, ht⟩ : ∃ x, thr r = x := ⟨_, rfl⟩
          have HT := Lib.hid ht
          rw [ht]
          clear ht
          have S := Lib.hid (S.out.call hb)
          clear hb
          have p0 := S.out.get 0 0 rfl rfl
          have p1 := S.out.get 0 1 rfl rfl
          go_wp2_with fail
          clear p0 p1
          refine (three_any _ ro _ ⟨_, _, rfl, S.out.ints 1 rfl, S.out.row 2 rfl⟩ HOD.out).mono ?_
          rintro e w21 ⟨rfl, hb⟩
          rw [thr_tuple, HTS.out, HT.out]
          have S := Lib.hid (S.out.call hb)
          clear hb
          have q0 := S.out.get 3 0 rfl rfl
          have q1 := S.out.get 3 1 rfl rfl
          go_wp2_with fail
          clear q0 q1
          refine (lack_any _ r _ ⟨_, _, rfl, HR.out.below S.out.bel, HS.out.below S.out.bel⟩).mono ?_
          rintro e w22 ⟨⟨res, hr1, rfl⟩, hb⟩
          have HR1 := Lib.hid hr1
          have S := Lib.hid (S.out.call hb)
          clear hb
          clear hr1
          have p0 := S.out.get 0 0 rfl rfl
          have p1 := S.out.get 0 1 rfl rfl
          have S := Lib.hid (S.out.alloc [I res.1.1, I res.1.2] 61)
          have p0 := S.out.get 1 0 rfl rfl
          have p1 := S.out.get 1 1 rfl rfl
          go_wp2_with fail
          clear p0 p1
          refine (lack_any _ ro _ ⟨_, _, rfl, S.out.ints 2 rfl, S.out.row 3 rfl⟩).mono ?_
          rintro e w23 ⟨⟨res2, hr2, rfl⟩, hb⟩
          obtain rfl := HLK.out _ _ HR1.out hr2
          clear hr2
          have S := Lib.hid (S.out.call hb)
          clear hb
          have S := Lib.hid (S.out.alloc [I res.1.1, I res.1.2] 61)
          have p0 := S.out.get 2 0 rfl rfl
          have p1 := S.out.get 2 1 rfl rfl
          go_wp2_with fail
          clear p0 p1
          refine (bound_any _ ro _ _ ⟨_, _, rfl, S.out.ints 3 rfl, S.out.row 4 rfl⟩).mono ?_
          rintro e w24 ⟨rfl, hb⟩
          rw [HBD.out]
          have S := Lib.hid (S.out.call hb)
          clear hb
          obtain ⟨j, hj⟩ : ∃ x, (z + b) % r.strs.length = x := ⟨_, rfl⟩
          have HJ := Lib.hid hj
          have e1 : IntKind.i64.wrap ((z : Int) + (b : Int)) = (z : Int) + (b : Int) := IntWalk.i64_in _ (by omega)
          have e2 : Int.tmod ((z : Int) + (b : Int)) (r.strs.length : Int) = (j : Int) := by rw [← HJ.out]; rfl
          rw [hj]
          clear hj
          obtain ⟨⟨v1, v2⟩, hv⟩ : ∃ x, boundR r (j : Int) = x := ⟨_, rfl⟩
          rw [hv]
          have HV := Lib.hid hv
          clear hv
          go_wp2_with fail
          refine wp_region_seg [([0, 1, 2, 3, 4, 5], 6)] [7, 8, 9, 10, 11] [] 12 (by kernel_rfl) (by kernel_rfl) ?_
          intro KQ hKQ w25 hb
          have S := Lib.hid (S.out.call hb)
          clear hb
          have q0 := cell_regrown (S.out.get 5 0 rfl rfl)
          have q1 := cell_regrown (S.out.get 5 1 rfl rfl)
          refine seg_next ?_
          simp only [opsAt, List.filterMap_cons, List.filterMap_nil, List.getElem?_toArray, List.getElem?_cons_succ, List.getElem?_cons_zero]
          repeat (first | go_big_quiet_step (fail) | quiet_step (fail))
          refine wpQuiet_nil ?_
          intro K hK
          refine loud_op rfl rfl ?_
          go_simp
          refine (bound_any _ r _ _ ⟨_, _, rfl, HR.out.below S.out.bel, HS.out.below S.out.bel⟩).mono ?_
          rintro e w26 ⟨rfl, hb⟩
          rw [HV.out]
          have S := Lib.hid (S.out.call hb)
          refine hK _ _ hb ?_
          clear hK K hb
          refine seg_last ?_
          simp only [opsAt, List.filterMap_cons, List.filterMap_nil, List.getElem?_toArray, List.getElem?_cons_succ, List.getElem?_cons_zero]
          repeat (first | go_big_quiet_step (fail) | quiet_step (fail))
          refine wpQuiet_nil ?_
          have x0 := S.out.get 0 0 rfl rfl
          have x1 := S.out.get 0 1 rfl rfl
          have x2 := S.out.get 1 0 rfl rfl
          have x3 := S.out.get 1 1 rfl rfl
          clear q0 q1
          go_wp2_with fail
          refine (works_any _).mono ?_
          rintro e w27 ⟨rfl, hb⟩
          have S := Lib.hid (S.out.call hb)
          clear hb
          go_wp2_with fail
          go_ret
          exact ⟨rfl, S.out.bel⟩

end Go.Proofs.Ytokendenofbnhaa
