/- HoursBack: the law walked. -/
import Derived.Test.YtokendenofbnhaaW22
import Derived.Test.YtokendenofbnhaaW25
import Derived.Test.YtokendenofbnhaaW18
import Derived.Test.YtokendenofbnhaaW19
import Derived.Test.YtokendenofbnhaaW28
import Derived.Test.YtokendenofbnhaaPlain18
import Derived.Test.YtokendenofbnhaaW17
namespace Go.Proofs.Ytokendenofbnhaa
open Go.RowKit Go.Sort

theorem thr_tuple (r : Ros) : (if someR r = true then Value.tuple #[I (bestR stepsI r).1, I (farN r : Int), I (bestR onceI r).1, .bool true, .bool false] else .tuple #[I 0, I 0, I 0, .bool false, .bool false]) = .tuple #[I (thr r).1, I (thr r).2.1, I (thr r).2.2.1, .bool (thr r).2.2.2, .bool false] := by
  unfold thr
  by_cases h : someR r = true
  · rw [if_pos h, if_pos h]
  · rw [if_neg h, if_neg h]
theorem strCells_set4 : ∀ (ss : List Str) (i : Nat) (s : Str), i < ss.length → ((((strCells ss).set (i * 4) (I s.has)).set (i * 4 + 1) (I s.frm)).set (i * 4 + 2) (I s.to)).set (i * 4 + 3) (I s.cost) = strCells (ss.set i s)
  | [], i, _, h => absurd h (by simp)
  | s :: ss, 0, x, _ => rfl
  | s :: ss, i + 1, x, h => by
    have := strCells_set4 ss i x (by simpa using h)
    have e : strCells (s :: ss) = I s.has :: I s.frm :: I s.to :: I s.cost :: strCells ss := rfl
    rw [e, show (i + 1) * 4 = i * 4 + 4 from by omega, show i * 4 + 4 + 1 = i * 4 + 1 + 4 from by omega, show i * 4 + 4 + 2 = i * 4 + 2 + 4 from by omega, show i * 4 + 4 + 3 = i * 4 + 3 + 4 from by omega]
    simp only [List.set_cons_succ, this]
    rfl

theorem lack_of {r : Ros} (h : ROk r) {a : (Int × Int) × Int} (ha : lackR r a) : LackIs r a := by
  unfold lackR at ha
  rwa [if_pos (valid_iff.2 h)] at ha

set_option maxRecDepth 20000 in
set_option maxHeartbeats 4000000 in
theorem lawBack_any (v : Value) (r : Ros) (z h : Int) (w : World) (hv : RosAt w v r) :
    Calls Try.prog 10 #[v, I z, I h] w fun e w' => e = .returned (.bool true) ∧ Below w.heap.size w w' := by
  obtain ⟨rv, sv, rfl, hr, hs⟩ := hv
  obtain ⟨A1, c1, rfl, hr1, hr2, -⟩ := hr.open_
  obtain ⟨A2, c2, rfl, hs1, hs2, -⟩ := hs.open_
  have HR := Lib.hid hr
  have HS := Lib.hid hs
  clear hr hs
  have S := Lib.hid (show St w (w.alloc (.cells #[.slice A1 r.room.length c1, .slice A2 r.strs.length c2] 25)) (w.heap.size + 1) [.box w.heap.size [.slice A1 r.room.length c1, .slice A2 r.strs.length c2]] from (St.init w).alloc [.slice A1 r.room.length c1, .slice A2 r.strs.length c2] 25)
  obtain ⟨_, _, e, _, _, hrc⟩ := HR.out.open_
  injection e with e1 e2 e3
  subst e1
  have HRC := Lib.hid hrc
  clear hrc e2 e3
  obtain ⟨_, _, e, _, _, hsc⟩ := HS.out.open_
  injection e with e1 e2 e3
  subst e1
  have HSC := Lib.hid hsc
  clear hsc e2 e3
  have q0 := S.out.get 0 0 rfl rfl
  have q1 := S.out.get 0 1 rfl rfl
  go_enter Try.func10, Try.ntmps10
  go_wp2_with fail
  clear q0 q1
  refine (ready_any _ r _ ⟨_, _, rfl, HR.out.below S.out.bel, HS.out.below S.out.bel⟩).mono ?_
  rintro e w1 ⟨⟨bb, rfl, hok⟩, hb⟩
  have S := Lib.hid (S.out.call hb)
  clear hb
  cases bb
  · clear hok
    go_wp2_with fail
    refine (works_any _).mono ?_
    rintro e w2 ⟨rfl, hb⟩
    have S := Lib.hid (S.out.call hb)
    clear hb
    go_wp2_with fail
    go_ret
    exact ⟨rfl, S.out.bel⟩
  · have hvd := hok rfl
    have HVD := Lib.hid hvd
    clear hok
    have q0 := S.out.get 0 0 rfl rfl
    have q1 := S.out.get 0 1 rfl rfl
    go_wp2_with fail
    clear q0 q1
    refine (rIsStreet_any _ r _ _ ⟨_, _, rfl, HR.out.below S.out.bel, HS.out.below S.out.bel⟩).mono ?_
    rintro e w2 ⟨rfl, hb⟩
    cases hst : isStreet r z
    · have S := Lib.hid (S.out.call hb)
      clear hb
      go_wp2_with fail
      refine (works_any _).mono ?_
      rintro e w3 ⟨rfl, hb⟩
      have S := Lib.hid (S.out.call hb)
      clear hb
      go_wp2_with fail
      go_ret
      exact ⟨rfl, S.out.bel⟩
    · have S := Lib.hid (S.out.call hb)
      clear hb
      have q0 := S.out.get 0 0 rfl rfl
      have q1 := S.out.get 0 1 rfl rfl
      go_wp2_with fail
      clear q0 q1
      refine (rIsHour_any _ r _ _ ⟨_, _, rfl, HR.out.below S.out.bel, HS.out.below S.out.bel⟩).mono ?_
      rintro e w2 ⟨rfl, hb⟩
      cases hh : isHour r h
      · have S := Lib.hid (S.out.call hb)
        clear hb
        go_wp2_with fail
        refine (works_any _).mono ?_
        rintro e w3 ⟨rfl, hb⟩
        have S := Lib.hid (S.out.call hb)
        clear hb
        go_wp2_with fail
        go_ret
        exact ⟨rfl, S.out.bel⟩
      · have S := Lib.hid (S.out.call hb)
        clear hb
        obtain ⟨z, rfl⟩ := Int.eq_ofNat_of_zero_le (isStreet_spec hst).1
        have hz : z < r.strs.length := by have := (isStreet_spec hst).2; omega
        obtain ⟨h, rfl⟩ := Int.eq_ofNat_of_zero_le (isHour_spec hh).1
        have hhl : h < r.room.length := by have := (isHour_spec hh).2; omega
        obtain ⟨b2, o2, e, hb2, hcell2⟩ := HSC.out (by omega)
        subst e
        have HSC := Lib.hid hcell2
        obtain ⟨b1, o1, e, hb1, hcell1⟩ := HRC.out (by omega)
        subst e
        have HRC := Lib.hid hcell1
        have hsl := HVD.out.sl
        have hrl := HVD.out.rl
        obtain ⟨n0, hn0⟩ : ∃ m, r.room.length - 1 = m := ⟨_, rfl⟩
        have hnn : IntKind.i64.wrap ((r.room.length : Int) - 1) = (n0 : Int) := by rw [IntWalk.i64_in _ (by omega)]; omega
        have HN := Lib.hid (show lastH r = (n0 : Int) by unfold lastH; omega)
        clear hcell2 hb2 hst hcell1 hb1 hh
        have q0 := S.out.get 0 0 rfl rfl
        have q1 := S.out.get 0 1 rfl rfl
        go_wp2_with fail
        clear q0 q1
        refine (copy_any _ r _ ⟨_, _, rfl, HR.out.below S.out.bel, HS.out.below S.out.bel⟩ (by have := HVD.out.rl; omega) (by have := HVD.out.sl; omega)).mono ?_
        rintro e w3 ⟨v', rfl, ⟨rv', sv', rfl, ho1, ho2⟩, hb⟩
        obtain ⟨gr, cx, rfl, hg1, hg2⟩ := own_shape_pos ho1 (by omega)
        obtain ⟨g, cy, rfl, hg3, hg4⟩ := own_shape_pos ho2 (by omega)
        obtain ⟨bo, hbo⟩ : ∃ x, w3.heap.size = x := ⟨_, rfl⟩
        have S := Lib.hid ((S.out.take2 hb ho1 ho2 (by decide)).alloc [.slice (some ⟨gr, 0, none⟩) r.room.length cx, .slice (some ⟨g, 0, none⟩) r.strs.length cy] 25)
        rw [hbo] at S
        clear hb ho1 ho2 hg1 hg2 hg3 hg4
        have q0 := S.out.get 3 0 rfl rfl
        have q1 := S.out.get 3 1 rfl rfl
        go_wp2_with fail
        clear q0 q1
        try rw [hbo]
        go_loopw [9] (fun i wr => ∃ k : Nat, k ≤ r.room.length ∧ i = I k ∧ Hid (St w wr wr.heap.size [.box bo [.slice (some ⟨gr, 0, none⟩) r.room.length cx, .slice (some ⟨g, 0, none⟩) r.strs.length cy], .own 3 1 (.slice (some ⟨gr, 0, none⟩) r.room.length cx) r.room.length ((mixL r.room.reverse r.room k).map I), .own 33 4 (.slice (some ⟨g, 0, none⟩) r.strs.length cy) r.strs.length (strCells r.strs), .box w.heap.size [.slice (some ⟨b1, o1, none⟩) r.room.length c1, .slice (some ⟨b2, o2, none⟩) r.strs.length c2]])) (fun i _ => r.room.length - (intOf i).toNat)
        case atStart => exact ⟨0, by omega, rfl, Lib.hid (by rw [mixL_zero]; exact S.out.fix)⟩
        case round =>
          clear S
          obtain ⟨k, hk, rfl, S⟩ := hrel
          by_cases hkn : k ≤ n0
          · have hkn' : (k : Int) ≤ (n0 : Int) := by omega
            have hkl : k < r.room.length := by omega
            have hki : (k : Int) < (r.room.length : Int) := by omega
            obtain ⟨j, hj⟩ : ∃ j, n0 - k = j := ⟨_, rfl⟩
            have hjl : j < r.room.length := by omega
            have hji : (j : Int) < (r.room.length : Int) := by omega
            have e1 : IntKind.i64.wrap ((n0 : Int) - (k : Int)) = (j : Int) := by rw [IntWalk.i64_in _ (by omega)]; omega
            have y0 := HRC.out j hjl
            obtain ⟨x, hx⟩ : ∃ x, r.room[j] = x := ⟨_, rfl⟩
            rw [hx] at y0
            have HXJ := Lib.hid hx
            have Y0 := Lib.hid y0
            have hml := mixL_len r.room.reverse r.room k (by simp) (by simpa using hk)
            obtain ⟨u, hu⟩ : ∃ x, (mixL r.room.reverse r.room k)[k]'(by rw [hml]; exact hkl) = x := ⟨_, rfl⟩
            have HU := Lib.hid (show ((mixL r.room.reverse r.room k).map I)[k]? = some (I u) by rw [List.getElem?_map, List.getElem?_eq_getElem (by rw [hml]; exact hkl), hu]; rfl)
            have HSU := Lib.hid (show (mixL r.room.reverse r.room k).set k x = (mixL r.room.reverse r.room (k + 1)) by
              rw [← mixL_succ r.room.reverse r.room k (by simp) (by simpa using hkl), ← HXJ.out]
              congr 1
              rw [List.getElem_reverse]
              congr 1
              omega)
            clear hx y0 hu
            go_wp2_with fail
            refine wp_region_seg [] [0, 1, 2, 3, 4, 5, 6, 7, 8, 9, 10] [11] 11 (by kernel_rfl) (by kernel_rfl) ?_
            intro KQ hKQ w5 hb
            have S := Lib.hid (S.out.call hb)
            clear hb
            have q0 := cell_regrown (S.out.get 3 0 rfl rfl)
            have p0 := cell_regrown (S.out.get 0 0 rfl rfl)
            have y0 := cell_regrown (keep_cell S.out.bel Y0.out)
            refine seg_last ?_
            simp only [opsAt, List.filterMap_cons, List.filterMap_nil, List.getElem?_toArray, List.getElem?_cons_succ, List.getElem?_cons_zero]
            repeat (first | go_big_quiet_step (fail) | quiet_step (fail))
            refine wpQuiet_nil ?_
            clear q0 p0 y0
            have z0 := (S.out.own 1 rfl).cells (g := gr) rfl k (I u) HU.out
            rw [add_plain, Nat.zero_add] at z0
            have f0 := (S.out.own 1 rfl).frozenAt k
            have S4 := S.out.put 1 k (I x) rfl
            go_wp2_with fail
            clear z0 f0
            have S := Lib.hid (show St w _ _ [.box bo [.slice (some ⟨gr, 0, none⟩) r.room.length cx, .slice (some ⟨g, 0, none⟩) r.strs.length cy], .own 3 1 (.slice (some ⟨gr, 0, none⟩) r.room.length cx) r.room.length ((mixL r.room.reverse r.room (k + 1)).map I), .own 33 4 (.slice (some ⟨g, 0, none⟩) r.strs.length cy) r.strs.length (strCells r.strs), .box w.heap.size [.slice (some ⟨b1, o1, none⟩) r.room.length c1, .slice (some ⟨b2, o2, none⟩) r.strs.length c2]] from (by
              rw [← HSU.out, List.map_set]
              exact S4))
            go_roundw
            case rel => exact ⟨k + 1, by omega, by go_num, Lib.hid S.out.fix⟩
            case measure => first | (simp [intOf]; done) | (simp [intOf]; omega)
          · have hkn' : ¬ (k : Int) ≤ (n0 : Int) := by omega
            obtain rfl : k = r.room.length := by omega
            have S := Lib.hid (show St w _ _ [.box bo [.slice (some ⟨gr, 0, none⟩) r.room.length cx, .slice (some ⟨g, 0, none⟩) r.strs.length cy], .own 3 1 (.slice (some ⟨gr, 0, none⟩) r.room.length cx) r.room.length (r.room.reverse.map I), .own 33 4 (.slice (some ⟨g, 0, none⟩) r.strs.length cy) r.strs.length (strCells r.strs), .box w.heap.size [.slice (some ⟨b1, o1, none⟩) r.room.length c1, .slice (some ⟨b2, o2, none⟩) r.strs.length c2]] from (by
              have q := S.out
              rw [mixL_all _ _ (by simp)] at q
              exact q))
            obtain ⟨n, hnE⟩ : ∃ x : Int, (n0 : Int) = x := ⟨_, rfl⟩
            have hnb : 0 ≤ n ∧ n ≤ 8 := by omega
            rw [hnE] at HN ⊢
            clear hnn hkn hkn'
            go_wp2_with fail
            obtain ⟨wz, rfl⟩ : ∃ wz : World, wz = wr := ⟨_, rfl⟩
            go_loopw [10] (fun i wr => ∃ k : Nat, k ≤ r.strs.length ∧ i = I k ∧ Hid (St w wr wr.heap.size [.box bo [.slice (some ⟨gr, 0, none⟩) r.room.length cx, .slice (some ⟨g, 0, none⟩) r.strs.length cy], .own 3 1 (.slice (some ⟨gr, 0, none⟩) r.room.length cx) r.room.length (r.room.reverse.map I), .own 33 4 (.slice (some ⟨g, 0, none⟩) r.strs.length cy) r.strs.length (strCells (mixL (r.strs.map (backS n)) r.strs k)), .box w.heap.size [.slice (some ⟨b1, o1, none⟩) r.room.length c1, .slice (some ⟨b2, o2, none⟩) r.strs.length c2]])) (fun i _ => r.strs.length - (intOf i).toNat)
            case atStart => exact ⟨0, by omega, rfl, Lib.hid (by rw [mixL_zero]; exact S.out.fix)⟩
            case round =>
              clear S
              obtain ⟨k, hk, rfl, S⟩ := hrel
              by_cases hkl : k < r.strs.length
              · have hki : (k : Int) < (r.strs.length : Int) := by omega
                obtain ⟨y0, y1, y2, y3⟩ := HSC.out k hkl
                have hsk := strCells_at (mixL (r.strs.map (backS n)) r.strs k) k (by rw [mixL_len _ _ _ (by simp) (by simpa using hk)]; exact hkl)
                obtain ⟨sk, hske⟩ : ∃ x, (mixL (r.strs.map (backS n)) r.strs k)[k]'(by rw [mixL_len _ _ _ (by simp) (by simpa using hk)]; exact hkl) = x := ⟨_, rfl⟩
                rw [hske] at hsk
                have HZ := Lib.hid hsk
                have hso := HVD.out.so _ (List.getElem_mem hkl)
                obtain ⟨s, hse⟩ : ∃ x, r.strs[k] = x := ⟨_, rfl⟩
                rw [hse] at y0 y1 y2 y3 hso
                have HSU := Lib.hid (show (mixL (r.strs.map (backS n)) r.strs k).set k (backS n s) = (mixL (r.strs.map (backS n)) r.strs (k + 1)) by
                  rw [← mixL_succ (r.strs.map (backS n)) r.strs k (by simp) (by simpa using hkl), ← hse]
                  congr 1
                  simp)
                have HML := Lib.hid (mixL_len (r.strs.map (backS n)) r.strs k (by simp) (by simpa using hk))
                have sb1 := hso.1.frm0
                have sb2 := hso.1.to1
                have sb3 := hso.1.has0
                have sb4 := hso.1.has1
                have sb5 := hso.1.ft
                have e1 : IntKind.i64.wrap (n - s.to) = n - s.to := IntWalk.i64_in _ (by omega)
                have e2 : IntKind.i64.wrap (n - s.frm) = n - s.frm := IntWalk.i64_in _ (by omega)
                have e3 : IntKind.i64.wrap (n - s.has) = n - s.has := IntWalk.i64_in _ (by omega)
                clear hske hsk hse hso
                have y0 := keep_cell S.out.bel y0
                have y1 := keep_cell S.out.bel y1
                have y2 := keep_cell S.out.bel y2
                have y3 := keep_cell S.out.bel y3
                have q0 := S.out.get 3 0 rfl rfl
                have q1 := S.out.get 3 1 rfl rfl
                by_cases hhas : s.has = -1
                · have hq : (s.has == -1) = true := by simp [hhas]
                  have HHA := Lib.hid hhas
                  clear hhas
                  have S0 := S.out.alloc [I s.has, I s.frm, I s.to, I s.cost] 33
                  have a1 := S0.get 0 1 rfl rfl
                  have a2 := S0.get 0 2 rfl rfl
                  have a3 := S0.free 0 1 rfl
                  have S1 := S.out.alloc [I s.has, I (n - s.to), I s.to, I s.cost] 33
                  have a4 := S1.get 0 2 rfl rfl
                  have a5 := S1.free 0 2 rfl
                  have S2 := S.out.alloc [I s.has, I (n - s.to), I (n - s.frm), I s.cost] 33
                  have a6 := S2.get 0 0 rfl rfl
                  have d0 := S2.get 0 0 rfl rfl
                  have d1 := S2.get 0 1 rfl rfl
                  have d2 := S2.get 0 2 rfl rfl
                  have d3 := S2.get 0 3 rfl rfl
                  have p1 := S2.get 1 1 rfl rfl
                  have z0 := (S2.own 3 rfl).cells (g := g) rfl (k * 4) (I sk.has) HZ.out.1
                  have z1 := (S2.own 3 rfl).cells (g := g) rfl (k * 4 + 1) (I sk.frm) HZ.out.2.1
                  have z2 := (S2.own 3 rfl).cells (g := g) rfl (k * 4 + 2) (I sk.to) HZ.out.2.2.1
                  have z3 := (S2.own 3 rfl).cells (g := g) rfl (k * 4 + 3) (I sk.cost) HZ.out.2.2.2
                  rw [add_plain, Nat.zero_add] at z0 z1 z2 z3
                  have f0 := (S2.own 3 rfl).frozenAt (k * 4)
                  have f1 := (S2.own 3 rfl).frozenAt (k * 4 + 1)
                  have f2 := (S2.own 3 rfl).frozenAt (k * 4 + 2)
                  have f3 := (S2.own 3 rfl).frozenAt (k * 4 + 3)
                  have S4 := (((S2.put 3 (k * 4) (I (s.has)) rfl).put 3 (k * 4 + 1) (I (n - s.to)) rfl).put 3 (k * 4 + 2) (I (n - s.frm)) rfl).put 3 (k * 4 + 3) (I s.cost) rfl
                  go_wp2_with fail
                  have HSB := Lib.hid (show backS n s = ⟨s.has, n - s.to, n - s.frm, s.cost⟩ by unfold backS; rw [if_pos HHA.out])
                  have S := Lib.hid (show St w _ _ [.box bo [.slice (some ⟨gr, 0, none⟩) r.room.length cx, .slice (some ⟨g, 0, none⟩) r.strs.length cy], .own 3 1 (.slice (some ⟨gr, 0, none⟩) r.room.length cx) r.room.length (r.room.reverse.map I), .own 33 4 (.slice (some ⟨g, 0, none⟩) r.strs.length cy) r.strs.length (strCells (mixL (r.strs.map (backS n)) r.strs (k + 1))), .box w.heap.size [.slice (some ⟨b1, o1, none⟩) r.room.length c1, .slice (some ⟨b2, o2, none⟩) r.strs.length c2]] from (by
                    rw [← HSU.out, HSB.out, ← strCells_set4 _ k ⟨s.has, n - s.to, n - s.frm, s.cost⟩ (by rw [HML.out]; exact hkl)]
                    exact S4.tail))
                  clear S4
                  go_roundw
                  case rel => exact ⟨k + 1, by omega, by go_num, Lib.hid S.out.fix⟩
                  case measure => first | (simp [intOf]; done) | (simp [intOf]; omega)
                · have hq : (s.has == -1) = false := by simp [hhas]
                  have HHA := Lib.hid hhas
                  clear hhas
                  have S0 := S.out.alloc [I s.has, I s.frm, I s.to, I s.cost] 33
                  have a1 := S0.get 0 1 rfl rfl
                  have a2 := S0.get 0 2 rfl rfl
                  have a3 := S0.free 0 1 rfl
                  have S1 := S.out.alloc [I s.has, I (n - s.to), I s.to, I s.cost] 33
                  have a4 := S1.get 0 2 rfl rfl
                  have a5 := S1.free 0 2 rfl
                  have S2 := S.out.alloc [I s.has, I (n - s.to), I (n - s.frm), I s.cost] 33
                  have a6 := S2.get 0 0 rfl rfl
                  have a7 := S2.free 0 0 rfl
                  have S3 := S.out.alloc [I (n - s.has), I (n - s.to), I (n - s.frm), I s.cost] 33
                  have d0 := S3.get 0 0 rfl rfl
                  have d1 := S3.get 0 1 rfl rfl
                  have d2 := S3.get 0 2 rfl rfl
                  have d3 := S3.get 0 3 rfl rfl
                  have p1 := S3.get 1 1 rfl rfl
                  have z0 := (S3.own 3 rfl).cells (g := g) rfl (k * 4) (I sk.has) HZ.out.1
                  have z1 := (S3.own 3 rfl).cells (g := g) rfl (k * 4 + 1) (I sk.frm) HZ.out.2.1
                  have z2 := (S3.own 3 rfl).cells (g := g) rfl (k * 4 + 2) (I sk.to) HZ.out.2.2.1
                  have z3 := (S3.own 3 rfl).cells (g := g) rfl (k * 4 + 3) (I sk.cost) HZ.out.2.2.2
                  rw [add_plain, Nat.zero_add] at z0 z1 z2 z3
                  have f0 := (S3.own 3 rfl).frozenAt (k * 4)
                  have f1 := (S3.own 3 rfl).frozenAt (k * 4 + 1)
                  have f2 := (S3.own 3 rfl).frozenAt (k * 4 + 2)
                  have f3 := (S3.own 3 rfl).frozenAt (k * 4 + 3)
                  have S4 := (((S3.put 3 (k * 4) (I (n - s.has)) rfl).put 3 (k * 4 + 1) (I (n - s.to)) rfl).put 3 (k * 4 + 2) (I (n - s.frm)) rfl).put 3 (k * 4 + 3) (I s.cost) rfl
                  go_wp2_with fail
                  have HSB := Lib.hid (show backS n s = ⟨n - s.has, n - s.to, n - s.frm, s.cost⟩ by unfold backS; rw [if_neg HHA.out])
                  have S := Lib.hid (show St w _ _ [.box bo [.slice (some ⟨gr, 0, none⟩) r.room.length cx, .slice (some ⟨g, 0, none⟩) r.strs.length cy], .own 3 1 (.slice (some ⟨gr, 0, none⟩) r.room.length cx) r.room.length (r.room.reverse.map I), .own 33 4 (.slice (some ⟨g, 0, none⟩) r.strs.length cy) r.strs.length (strCells (mixL (r.strs.map (backS n)) r.strs (k + 1))), .box w.heap.size [.slice (some ⟨b1, o1, none⟩) r.room.length c1, .slice (some ⟨b2, o2, none⟩) r.strs.length c2]] from (by
                    rw [← HSU.out, HSB.out, ← strCells_set4 _ k ⟨n - s.has, n - s.to, n - s.frm, s.cost⟩ (by rw [HML.out]; exact hkl)]
                    exact S4.tail))
                  clear S4
                  go_roundw
                  case rel => exact ⟨k + 1, by omega, by go_num, Lib.hid S.out.fix⟩
                  case measure => first | (simp [intOf]; done) | (simp [intOf]; omega)
              · obtain rfl : k = r.strs.length := by omega
                have HRE := Lib.hid (show backR r = ⟨r.room.reverse, r.strs.map (backS n)⟩ by unfold backR; rw [HN.out])
                have S := Lib.hid (show St w _ _ [.box bo [.slice (some ⟨gr, 0, none⟩) r.room.length cx, .slice (some ⟨g, 0, none⟩) r.strs.length cy], .own 3 1 (.slice (some ⟨gr, 0, none⟩) r.room.length cx) r.room.length ((backR r).room.map I), .own 33 4 (.slice (some ⟨g, 0, none⟩) r.strs.length cy) (backR r).strs.length (strCells (backR r).strs), .box w.heap.size [.slice (some ⟨b1, o1, none⟩) r.room.length c1, .slice (some ⟨b2, o2, none⟩) r.strs.length c2]] from (by
                  rw [HRE.out]
                  simp only [List.length_map]
                  have q := S.out
                  rw [mixL_all _ _ (by simp)] at q
                  exact q))
                have HOD := Lib.hid (backR_ok HVD.out)
                have HTS := Lib.hid (thr_same (sim_back HVD.out) (sim_back' HVD.out) HVD.out HOD.out)
                have HLK := Lib.hid (fun a c (ha : lackR r a) (hc : lackR (backR r) c) => lack_back (lack_of HVD.out ha) (lack_of HOD.out hc))
                have HBD := Lib.hid (bound_back HVD.out hz)
                have HGV := Lib.hid (give_back HVD.out hhl)
                rw [HN.out] at HGV
                obtain ⟨ro, hro⟩ : ∃ x, backR r = x := ⟨_, rfl⟩
                rw [hro] at S HOD HTS HLK HBD HGV
                clear hro HRE
                have q0 := S.out.get 3 0 rfl rfl
                have q1 := S.out.get 3 1 rfl rfl
                go_wp2_with fail
                clear q0 q1
                refine (three_any _ r _ ⟨_, _, rfl, HR.out.below S.out.bel, HS.out.below S.out.bel⟩ HVD.out).mono ?_
                rintro e w20 ⟨rfl, hb⟩
                rw [thr_tuple]
                obtain ⟨⟨t1, t2, t3, t4⟩, ht⟩ : ∃ x, thr r = x := ⟨_, rfl⟩
                have HT := Lib.hid ht
                rw [ht]
                clear ht
                have S := Lib.hid (S.out.call hb)
                clear hb
                have p0 := S.out.get 0 0 rfl rfl
                have p1 := S.out.get 0 1 rfl rfl
                go_wp2_with fail
                clear p0 p1
                refine (three_any _ ro _ ⟨_, _, rfl, S.out.ints 1 rfl, S.out.row 2 rfl⟩ HOD.out).mono ?_
                rintro e w21 ⟨rfl, hb⟩
                rw [thr_tuple, HTS.out, HT.out]
                have S := Lib.hid (S.out.call hb)
                clear hb
                have q0 := S.out.get 3 0 rfl rfl
                have q1 := S.out.get 3 1 rfl rfl
                go_wp2_with fail
                clear q0 q1
                refine (bound_any _ r _ _ ⟨_, _, rfl, HR.out.below S.out.bel, HS.out.below S.out.bel⟩).mono ?_
                rintro e w22 ⟨rfl, hb⟩
                rw [HBD.out]
                obtain ⟨⟨v1, v2⟩, hv⟩ : ∃ x, boundR ro (z : Int) = x := ⟨_, rfl⟩
                rw [hv]
                have HV := Lib.hid hv
                clear hv
                have S := Lib.hid (S.out.call hb)
                clear hb
                have p0 := S.out.get 0 0 rfl rfl
                have p1 := S.out.get 0 1 rfl rfl
                go_wp2_with fail
                clear p0 p1
                refine (bound_any _ ro _ _ ⟨_, _, rfl, S.out.ints 1 rfl, S.out.row 2 rfl⟩).mono ?_
                rintro e w23 ⟨rfl, hb⟩
                rw [HV.out]
                have S := Lib.hid (S.out.call hb)
                clear hb
                have q0 := S.out.get 3 0 rfl rfl
                have q1 := S.out.get 3 1 rfl rfl
                go_wp2_with fail
                clear q0 q1
                refine (give_any _ r _ _ ⟨_, _, rfl, HR.out.below S.out.bel, HS.out.below S.out.bel⟩).mono ?_
                rintro e w24 ⟨rfl, hb⟩
                rw [HGV.out]
                obtain ⟨j, hj⟩ : ∃ j : Int, n - (h : Int) = j := ⟨_, rfl⟩
                have e1 : IntKind.i64.wrap (n - (h : Int)) = j := by rw [IntWalk.i64_in _ (by omega)]; exact hj
                rw [hj]
                obtain ⟨⟨m1, m2⟩, hg⟩ : ∃ x, giveR ro j = x := ⟨_, rfl⟩
                rw [hg]
                have HG := Lib.hid hg
                clear hg hj
                have S := Lib.hid (S.out.call hb)
                clear hb
                have p0 := S.out.get 0 0 rfl rfl
                have p1 := S.out.get 0 1 rfl rfl
                go_wp2_with fail
                clear p0 p1
                refine (give_any _ ro _ _ ⟨_, _, rfl, S.out.ints 1 rfl, S.out.row 2 rfl⟩).mono ?_
                rintro e w25 ⟨rfl, hb⟩
                rw [HG.out]
                have S := Lib.hid (S.out.call hb)
                clear hb
                have q0 := S.out.get 3 0 rfl rfl
                have q1 := S.out.get 3 1 rfl rfl
                go_wp2_with fail
                clear q0 q1
                refine (lack_any _ r _ ⟨_, _, rfl, HR.out.below S.out.bel, HS.out.below S.out.bel⟩).mono ?_
                rintro e w26 ⟨⟨res, hr1, rfl⟩, hb⟩
                have HR1 := Lib.hid hr1
                have S := Lib.hid (S.out.call hb)
                clear hb
                clear hr1
                have S := Lib.hid (S.out.alloc [I res.1.1, I res.1.2] 61)
                have p0 := S.out.get 1 0 rfl rfl
                have p1 := S.out.get 1 1 rfl rfl
                go_wp2_with fail
                clear p0 p1
                refine (lack_any _ ro _ ⟨_, _, rfl, S.out.ints 2 rfl, S.out.row 3 rfl⟩).mono ?_
                rintro e w27 ⟨⟨res2, hr2, rfl⟩, hb⟩
                have he := HLK.out _ _ HR1.out hr2
                rw [← he]
                clear hr2
                have S := Lib.hid (S.out.call hb)
                clear hb
                have S := Lib.hid (S.out.alloc [I res2.1.1, I res2.1.2] 61)
                go_wp2_with fail
                refine (works_any _).mono ?_
                rintro e w28 ⟨rfl, hb⟩
                have S := Lib.hid (S.out.call hb)
                clear hb
                go_wp2_with fail
                go_ret
                exact ⟨rfl, S.out.bel⟩

end Go.Proofs.Ytokendenofbnhaa
