/- Walks: the reference's Roomier; street, Example. -/
import Derived.Test.YtldcehhhndlhdaaGreatDoorC29
import Derived.Test.YtldcehhhndlhdaaGreatDoorC3
import Derived.Test.YtldcehhhndlhdaaGreatDoorC26
import Derived.Test.YtldcehhhndlhdaaGreatDoorC12
import Derived.Test.YtldcehhhndlhdaaGreatDoorC5
namespace Go.Proofs.YtldcehhhndlhdaaGreatDoor.Hr
open Go.RowKit Go.Sort

/-- A struct of two integers in the call's own box: what two stores leave. -/
theorem res2 {w : World} {g : Nat} {u0 u1 : Value} (h0 : w.cell? ⟨g, 0, none⟩ = some u0) (h1 : w.cell? ⟨g, 1, none⟩ = some u1) :
    (∀ v1, (w.setCell ⟨g, 0, none⟩ v1).cell? ⟨g, 0, none⟩ = some v1) ∧ ∀ v1 v2, ((w.setCell ⟨g, 0, none⟩ v1).setCell ⟨g, 1, none⟩ v2).cell? ⟨g, 1, none⟩ = some v2 :=
  ⟨fun _ => World.cell?_setCell_same _ _ _ h0, fun _ _ => World.cell?_setCell_same _ _ _ (by rw [World.cell?_setCell_other _ _ _ _ (by simp)]; exact h1)⟩

set_option maxRecDepth 20000 in
set_option maxHeartbeats 4000000 in
theorem roomier_any (v : Value) (r : Ros) (h : Nat) (m : Int) (w : World) (hv : RosAt w v r) (hlen : r.room.length ≤ 1000) (hlen' : r.strs.length ≤ 1000) (hh : h < r.room.length) (hm : -100 ≤ m ∧ m ≤ 100) (hbd : ∀ x ∈ r.room, -100 ≤ x ∧ x ≤ 100) :
    Calls Tryz.prog 17 #[v, I (h : Int), I m] w fun e w' => ∃ v', e = .returned v' ∧ OwnRos w' w.heap.size v' (roomier r h m) ∧ Below w.heap.size w w' := by
  obtain ⟨rv, sv, rfl, hr, hs⟩ := hv
  obtain ⟨A1, c1, rfl, hr1, hr2, -⟩ := hr.open_
  obtain ⟨A2, c2, rfl, hs1, hs2, -⟩ := hs.open_
  have HR := Lib.hid hr
  have HS := Lib.hid hs
  clear hr hs
  have S := Lib.hid (show St w (w.alloc (.cells #[.slice A1 r.room.length c1, .slice A2 r.strs.length c2] 25)) (w.heap.size + 1) [.box w.heap.size [.slice A1 r.room.length c1, .slice A2 r.strs.length c2]] from (St.init w).alloc [.slice A1 r.room.length c1, .slice A2 r.strs.length c2] 25)
  have S := Lib.hid (S.out.alloc [.slice none 0 0, .slice none 0 0] 25)
  have hhi : (h : Int) < (r.room.length : Int) := by omega
  obtain ⟨x, hx⟩ : ∃ x, r.room[h] = x := ⟨_, rfl⟩
  have hxb := hbd x (by rw [← hx]; exact List.getElem_mem hh)
  have HX := Lib.hid hx
  clear hx hbd
  have q0 := S.out.get 1 0 rfl rfl
  have q1 := S.out.get 1 1 rfl rfl
  go_enter Tryz.func17, Tryz.ntmps17
  go_wp2_with fail
  clear q0 q1
  refine (copy_any _ r _ ⟨_, _, rfl, HR.out.below S.out.bel, HS.out.below S.out.bel⟩ hlen hlen').mono ?_
  rintro e w1 ⟨v', rfl, ⟨rv', sv', rfl, ho1, ho2⟩, hb⟩
  obtain ⟨g, cap, rfl, hg1, hg2⟩ := own_shape_pos ho1 (show 0 < r.room.length by omega)
  obtain ⟨Av2, cv2, rfl⟩ := own_shape ho2
  have S0 := Lib.hid (S.out.take2H hb ho1 ho2 (by decide))
  have S := Lib.hid (S0.out.alloc [.slice (some ⟨g, 0, none⟩) r.room.length cap, .slice Av2 r.strs.length cv2] 25)
  clear hb ho1 ho2
  have z0 := S.out.get 0 0 rfl rfl
  have z1 := S.out.get 0 1 rfl rfl
  have y0 := own_cell (S.out.own 1 rfl) h x (by rw [List.getElem?_eq_getElem hh, HX.out])
  have y1 := (S.out.own 1 rfl).frozenAt h
  have S2 := (S0.out.put 0 h (I (x + m)) rfl).alloc [.slice (some ⟨g, 0, none⟩) r.room.length cap, .slice Av2 r.strs.length cv2] 25
  have z2 := S2.get 0 0 rfl rfl
  have z3 := S2.get 0 1 rfl rfl
  have z4 := S2.get 3 0 rfl rfl
  have z5 := S2.get 3 1 rfl rfl
  have z6 := S2.free 3 0 rfl
  have z7 := S2.free 3 1 rfl
  have S3 := (S2.set 3 0 (.slice (some ⟨g, 0, none⟩) r.room.length cap) rfl).set 3 1 (.slice Av2 r.strs.length cv2) rfl
  have r0 := S3.get 3 0 rfl rfl
  have r1 := S3.get 3 1 rfl rfl
  go_wp2_with fail
  refine bodyPost_ret (v := .agg #[.slice (some ⟨g, 0, none⟩) r.room.length cap, .slice Av2 r.strs.length cv2]) (by simp [results, Tryz.results17, go_sem, r0, r1]) rfl ⟨_, rfl, ⟨_, _, rfl, ?_, S3.own 2 rfl⟩, S3.bel⟩
  have e : (roomier r h m).room = r.room.set h (x + m) := by unfold roomier; simp only; rw [List.getD_eq_getElem?_getD, List.getElem?_eq_getElem hh, HX.out]; rfl
  rw [e, List.map_set, List.length_set]
  exact S3.own 1 rfl

set_option maxRecDepth 20000 in
set_option maxHeartbeats 1000000 in
theorem street_any (a b c d : Int) (w : World) :
    Calls Tryz.prog 47 #[I a, I b, I c, I d] w fun e w' => e = .returned (.agg #[I a, I b, I c, I d]) ∧ Below w.heap.size w w' := by
  go_enter Tryz.func47, Tryz.ntmps47
  go_wp2_with fail
  refine bodyPost_ret (v := .agg #[I a, I b, I c, I d]) (by simp [results, Tryz.results47, go_sem]) rfl ⟨rfl, ?_⟩
  repeat (first | exact Below.refl _ _ | refine Below.setCell ?_ (by simp) _ | exact (Below.refl _ _).alloc (Nat.le_refl _) _)

/-- A box reads as a slice of all its cells. -/
theorem _root_.Go.Proofs.YtldcehhhndlhdaaGreatDoor.St.boxReadsH {w0 w : World} {n : Nat} {L : List Item} (h : St w0 w n L) (i : Nat) {b : Nat} {cs : List Value} (hi : L[i]? = some (.box b cs)) {size m : Nat} (hm : cs.length = m * size) (hl : m ≤ 1000) : Reads w size (.slice (some ⟨b, 0, none⟩) m m) m cs := by
  refine ⟨hm, _, _, rfl, Nat.le_refl _, by omega, fun _ => ⟨b, 0, rfl, fun j u hu => ?_⟩⟩
  rw [Nat.zero_add]
  exact h.get i j hi hu

set_option maxRecDepth 20000 in
set_option maxHeartbeats 4000000 in
theorem example_any (w : World) :
    Calls Tryz.prog 23 #[] w fun e w' => ∃ v1 v2, e = .returned (.tuple #[v1, v2]) ∧ RosAt w' v1 exR ∧ RosAt w' v2 exQ ∧ Below w.heap.size w w' := by
  have S := Lib.hid (((St.init w).alloc [.slice none 0 0, .slice none 0 0] 25).alloc [.slice none 0 0, .slice none 0 0] 25)
  go_enter Tryz.func23, Tryz.ntmps23
  go_wp2_with fail
  have S := Lib.hid (S.out.alloc [I 1, I 2, I 1, I 1] 3)
  refine (street_any 0 0 2 2 _).mono ?_
  rintro e w1 ⟨rfl, hb⟩
  have S := Lib.hid (S.out.call hb)
  clear hb
  go_wp2_with fail
  refine (street_any 0 0 1 3 _).mono ?_
  rintro e w2 ⟨rfl, hb⟩
  have S := Lib.hid (S.out.call hb)
  clear hb
  go_wp2_with fail
  refine (street_any 1 0 3 1 _).mono ?_
  rintro e w3 ⟨rfl, hb⟩
  have S := Lib.hid (S.out.call hb)
  clear hb
  go_wp2_with fail
  refine (street_any 2 1 2 2 _).mono ?_
  rintro e w4 ⟨rfl, hb⟩
  have S := Lib.hid ((S.out.call hb).alloc [I 0, I 0, I 2, I 2, I 0, I 0, I 1, I 3, I 1, I 0, I 3, I 1, I 2, I 1, I 2, I 2] 53)
  clear hb
  have q0 := S.out.get 3 0 rfl rfl
  have q1 := S.out.get 3 1 rfl rfl
  have q2 := S.out.free 3 0 rfl
  have q3 := S.out.free 3 1 rfl
  have S2 := (S.out.set 3 0 (.slice (some ⟨w.heap.size + 1 + 1, 0, none⟩) 4 4) rfl).set 3 1 (.slice (some ⟨w4.heap.size, 0, none⟩) 4 4) rfl
  have S := Lib.hid S2
  clear S2
  go_wp2_with fail
  clear q0 q1 q2 q3
  refine wp_region_seg [([0, 1], 2)] [] [3, 4] 3 (by kernel_rfl) (by kernel_rfl) ?_
  intro KQ hKQ w5 hb
  have S := Lib.hid (S.out.call hb)
  clear hb
  have k0 := cell_regrown (S.out.get 3 0 rfl rfl)
  have k1 := cell_regrown (S.out.get 3 1 rfl rfl)
  refine seg_next ?_
  simp only [opsAt, List.filterMap_cons, List.filterMap_nil, List.getElem?_toArray, List.getElem?_cons_succ, List.getElem?_cons_zero]
  repeat (first | go_big_quiet_step (fail) | quiet_step (fail))
  refine wpQuiet_nil ?_
  intro K hK
  refine loud_op rfl rfl ?_
  go_simp
  have hr : RosAt w5 (.agg #[.slice (some ⟨w.heap.size + 1 + 1, 0, none⟩) 4 4, .slice (some ⟨w4.heap.size, 0, none⟩) 4 4]) exR := ⟨_, _, rfl, S.out.boxReadsH 1 rfl rfl (by omega), S.out.boxReadsH 0 rfl rfl (by omega)⟩
  have HRR := Lib.hid hr
  refine (roomier_any _ exR 0 (-1) _ hr (by decide) (by decide) (by decide) (by decide) (by decide)).mono ?_
  rintro e w6 ⟨v', rfl, ⟨rv', sv', rfl, ho1, ho2⟩, hb⟩
  obtain ⟨Av1, cv1, rfl⟩ := own_shape ho1
  obtain ⟨Av2, cv2, rfl⟩ := own_shape ho2
  have S := Lib.hid (S.out.take2H hb ho1 ho2 (by decide))
  have HRR := Lib.hid (HRR.out.below hb)
  refine hK _ _ hb ?_
  clear hK K hb ho1 ho2 hr k0 k1
  refine seg_last ?_
  simp only [opsAt, List.filterMap_cons, List.filterMap_nil, List.getElem?_toArray, List.getElem?_cons_succ, List.getElem?_cons_zero]
  refine wpQuiet_nil ?_
  have u0 := S.out.get 5 0 rfl rfl
  have u1 := S.out.get 5 1 rfl rfl
  have u2 := S.out.free 5 0 rfl
  have u3 := S.out.free 5 1 rfl
  have S1 := (S.out.set 5 0 (.slice (some ⟨w.heap.size + 1 + 1, 0, none⟩) 4 4) rfl).set 5 1 (.slice (some ⟨w4.heap.size, 0, none⟩) 4 4) rfl
  have v0 := S1.get 4 0 rfl rfl
  have v1 := S1.get 4 1 rfl rfl
  have v2 := S1.free 4 0 rfl
  have v3 := S1.free 4 1 rfl
  have S2 := (S1.set 4 0 (.slice Av1 exQ.room.length cv1) rfl).set 4 1 (.slice Av2 exQ.strs.length cv2) rfl
  obtain ⟨r0, r1⟩ := res2 u0 u1
  obtain ⟨r2, r3⟩ := res2 v0 v1
  go_wp2_with fail
  refine bodyPost_ret (v := .tuple #[.agg #[.slice (some ⟨w.heap.size + 1 + 1, 0, none⟩) 4 4, .slice (some ⟨w4.heap.size, 0, none⟩) 4 4], .agg #[.slice Av1 exQ.room.length cv1, .slice Av2 exQ.strs.length cv2]]) (by simp [results, Tryz.results23, go_sem, r0, r1, r2, r3, exQ]) rfl ⟨_, _, rfl, ⟨_, _, rfl, S2.boxReadsH 3 rfl rfl (by omega), S2.boxReadsH 2 rfl rfl (by omega)⟩, ⟨_, _, rfl, Ints.of_own (S2.own 0 rfl), Reads.of_own (S2.own 1 rfl)⟩, S2.bel⟩

end Go.Proofs.YtldcehhhndlhdaaGreatDoor.Hr
/- Walks: rostered. -/
namespace Go.Proofs.YtldcehhhndlhdaaGreatDoor
open Go.RowKit Go.Sort Go.Shelf

theorem ex_val3 : bVal exT3 = true := by decide +kernel
theorem ex_short : bestTo exT3 (2 ^ exT3.hs.length) = some [0] := by decide +kernel
theorem ex_ros : Hr.rosterR Hr.exR = ([1, 0, 1, 2], 0) := by decide +kernel

set_option maxRecDepth 100000 in
set_option maxHeartbeats 8000000 in
theorem rostered_any (w : World) (hT : TzAt w) :
    Calls Tryz.prog 6 #[] w fun e w' => e = .returned (.bool true) ∧ Below w.heap.size w w' := by
  have HT := Lib.hid hT
  clear hT
  go_enter Tryz.func6, Tryz.ntmps6
  go_wp2_with fail
  refine (example3_any _).mono ?_
  rintro e w2 ⟨v1, v2, v3, rfl, ⟨ha, wa, ya, rfl, h1, h2, h3⟩, ⟨hb', wb, yb, rfl, u1, u2, u3⟩, ⟨hc, wc, yc, rfl, x1, x2, x3⟩, hb⟩
  obtain ⟨A5, c5, rfl, -, -, -⟩ := id h1.open_
  obtain ⟨A6, c6, rfl, -, -, -⟩ := id h2.open_
  obtain ⟨A7, c7, rfl, -, -, -⟩ := id h3.open_
  obtain ⟨B5, d5, rfl, -, -, -⟩ := id u1.open_
  obtain ⟨B6, d6, rfl, -, -, -⟩ := id u2.open_
  obtain ⟨B7, d7, rfl, -, -, -⟩ := id u3.open_
  obtain ⟨C5, e5, rfl, -, -, -⟩ := id x1.open_
  obtain ⟨C6, e6, rfl, -, -, -⟩ := id x2.open_
  obtain ⟨C7, e7, rfl, -, -, -⟩ := id x3.open_
  have HX := Lib.hid (show BAt w2 (.agg #[.slice A5 exT3.hs.length c5, .slice A6 exT3.ws.length c6, .slice A7 exT3.ys.length c7]) exT3 from ⟨_, _, _, rfl, h1, h2, h3⟩)
  clear h1 h2 h3 u1 u2 u3 x1 x2 x3
  have HBX := Lib.hid (Below.refl w2.heap.size w2)
  have S := Lib.hid (((((St.init w).call hb).alloc [.slice A5 exT3.hs.length c5, .slice A6 exT3.ws.length c6, .slice A7 exT3.ys.length c7] 32).alloc [.slice B5 exU3.hs.length d5, .slice B6 exU3.ws.length d6, .slice B7 exU3.ys.length d7] 32).alloc [.slice C5 exV3.hs.length e5, .slice C6 exV3.ws.length e6, .slice C7 exV3.ys.length e7] 32)
  replace HBX := Lib.hid (((HBX.out.alloc (Nat.le_refl _) (.cells #[.slice A5 exT3.hs.length c5, .slice A6 exT3.ws.length c6, .slice A7 exT3.ys.length c7] 32)).alloc (by simp) (.cells #[.slice B5 exU3.hs.length d5, .slice B6 exU3.ws.length d6, .slice B7 exU3.ys.length d7] 32)).alloc (by simp; omega) (.cells #[.slice C5 exV3.hs.length e5, .slice C6 exV3.ws.length e6, .slice C7 exV3.ys.length e7] 32))
  clear hb
  go_wp2_with fail
  refine (Hr.example_any _).mono ?_
  rintro e w3 ⟨v1, v2, rfl, ⟨ra, sa, rfl, h1, h2⟩, ⟨rb, sb, rfl, u1, u2⟩, hb⟩
  obtain ⟨A8, c8, rfl, -, -, -⟩ := id h1.open_
  obtain ⟨A9, c9, rfl, -, -, -⟩ := id h2.open_
  obtain ⟨B8, d8, rfl, -, -, -⟩ := id u1.open_
  obtain ⟨B9, d9, rfl, -, -, -⟩ := id u2.open_
  have HR := Lib.hid (show Hr.RosAt w3 (.agg #[.slice A8 Hr.exR.room.length c8, .slice A9 Hr.exR.strs.length c9]) Hr.exR from ⟨_, _, rfl, h1, h2⟩)
  clear h1 h2 u1 u2
  have HBR := Lib.hid ((((Below.refl w3.heap.size w3).alloc (Nat.le_refl _) (.cells #[.slice A8 Hr.exR.room.length c8, .slice A9 Hr.exR.strs.length c9] 25)).alloc (by simp) (.cells #[.slice B8 Hr.exQ.room.length d8, .slice B9 Hr.exQ.strs.length d9] 25)))
  replace HBX := Lib.hid (bto HBX.out hb)
  replace S := Lib.hid (((S.out.call hb).alloc [.slice A8 Hr.exR.room.length c8, .slice A9 Hr.exR.strs.length c9] 25).alloc [.slice B8 Hr.exQ.room.length d8, .slice B9 Hr.exQ.strs.length d9] 25)
  replace HBX := Lib.hid ((HBX.out.alloc (by have := HBX.out.size; exact this) (.cells #[.slice A8 Hr.exR.room.length c8, .slice A9 Hr.exR.strs.length c9] 25)).alloc (by have := HBX.out.size; simp; omega) (.cells #[.slice B8 Hr.exQ.room.length d8, .slice B9 Hr.exQ.strs.length d9] 25))
  clear hb
  have k0 := S.out.get 4 0 rfl rfl
  have k1 := S.out.get 4 1 rfl rfl
  have k2 := S.out.get 4 2 rfl rfl
  go_wp2_with fail
  clear k0 k1 k2
  refine (short_any _ exT3 _ (HX.out.below HBX.out) ex_val3 (by decide) (HT.out.below S.out.bel)).mono ?_
  rintro e w4 hr
  rw [ex_short] at hr
  obtain ⟨⟨v, rfl, hl⟩, hb⟩ := hr
  obtain ⟨-, D1, f1, rfl, hi1⟩ := hl
  have HI1 := Lib.hid hi1
  replace S := Lib.hid (S.out.call hb)
  replace HBR := Lib.hid (bto HBR.out hb)
  clear hi1 hb HBX
  have k0 := S.out.get 1 0 rfl rfl
  have k1 := S.out.get 1 1 rfl rfl
  go_wp2_with fail
  clear k0 k1
  refine (Hr.pRoster_any _ Hr.exR _ (HR.out.below HBR.out)).mono ?_
  rintro e w5 ⟨v, rfl, ho, hb⟩
  rw [ex_ros] at ho ⊢
  obtain ⟨D2, f2, rfl⟩ := own_shape ho
  have HI2 := Lib.hid (show Ints w5 _ [1, 0, 1, 2] from Ints.of_own ho)
  replace HI1 := Lib.hid (HI1.out.below hb)
  replace S := Lib.hid (S.out.call hb)
  clear ho hb HBR
  have U := Lib.hid ((St.init w5).alloc [I 0] 3)
  replace S := Lib.hid (S.out.alloc [I 0] 3)
  go_wp2_with fail
  refine (sameInts_any _ _ [0] [0] _ (HI1.out.below U.out.bel) (U.out.boxReads 0 rfl rfl (by decide)) (by decide) (by decide)).mono ?_
  rintro e w6 ⟨rfl, hb⟩
  replace U := Lib.hid ((U.out.call hb).alloc [I 1, I 0, I 1, I 2] 3)
  replace S := Lib.hid ((S.out.call hb).alloc [I 1, I 0, I 1, I 2] 3)
  clear hb
  go_wp2_with fail
  refine (sameInts_any _ _ [1, 0, 1, 2] [1, 0, 1, 2] _ (HI2.out.below U.out.bel) (U.out.boxReads 0 rfl rfl (by decide)) (by decide) (by decide)).mono ?_
  rintro e w7 ⟨rfl, hb⟩
  replace S := Lib.hid (S.out.call hb)
  clear hb
  go_wp2_with fail
  go_ret
  exact ⟨by simp, S.out.bel⟩
end Go.Proofs.YtldcehhhndlhdaaGreatDoor
/- Walks: cost, given, Good, Cost. -/
namespace Go.Proofs.YtldcehhhndlhdaaGreatDoor.Hr
open Go.RowKit Go.Sort

theorem StrOk.sml' {s : Str} (h : StrOk s) {x : Int} (h0 : s.frm ≤ x) (h1 : x ≤ s.to) : Sml s x := by
  obtain ⟨a, b, c, d, e, g, i⟩ := h
  exact ⟨by omega, by omega, by omega, by omega, by omega, by omega⟩
theorem InL.sml {ss : List Str} {l : List Int} (h : InL ss l) (hok : ∀ s ∈ ss, StrOk s) (k : Nat) (h1 : k < ss.length) (h2 : k < l.length) : Sml ss[k] l[k] := (hok _ (List.getElem_mem h1)).sml' (h.inn k h1 h2).1 (h.inn k h1 h2).2
theorem costTo_bd {ss : List Str} {l : List Int} (h : InL ss l) (hok : ∀ s ∈ ss, StrOk s) (hsl : ss.length ≤ 6) (k : Nat) : 0 ≤ sumW stepsI (ss.take k) (l.take k) ∧ sumW stepsI (ss.take k) (l.take k) ≤ 10800 := by
  have := sumW_bd (w := stepsI) (M := 1800) (by omega) (ss.take k) (l.take k) (fun j h1 h2 => by
    rw [List.getElem_take, List.getElem_take]
    exact stepsI_bd (h.sml hok j (by simp at h1; omega) (by simp at h2; omega)))
  have hl : (ss.take k).length ≤ 6 := by simp; omega
  omega

def pGoodR (r : Ros) (l : List Int) : Bool × Int := if valid r then (newB r l, 0) else (false, 80)
end Go.Proofs.YtldcehhhndlhdaaGreatDoor.Hr
/- Walk of Lack. -/
namespace Go.Proofs.YtldcehhhndlhdaaGreatDoor.Hr
open Go.RowKit Go.Sort

def lackR (r : Ros) (res : (Int × Int) × Int) : Prop := if valid r = true then LackIs r res else res = ((0, 0), 80)
def roomTo (rm : List Int) (lo k : Nat) : Int := ((rm.drop lo).take k).sum
theorem roomTo_succ {rm : List Int} {lo k : Nat} (h : lo + k < rm.length) : roomTo rm lo (k + 1) = roomTo rm lo k + rm[lo + k] := by
  unfold roomTo
  rw [List.take_succ_eq_append_getElem (by rw [List.length_drop]; omega), List.sum_append, List.getElem_drop]
  simp
theorem roomTo_bd {rm : List Int} (hr : ∀ x ∈ rm, 0 ≤ x ∧ x ≤ 6) (lo : Nat) : ∀ k, lo + k ≤ rm.length → 0 ≤ roomTo rm lo k ∧ roomTo rm lo k ≤ 6 * k
  | 0, _ => by simp [roomTo]
  | k + 1, h => by
    have h1 := roomTo_bd hr lo k (by omega)
    have h2 := hr _ (List.getElem_mem (show lo + k < rm.length by omega))
    rw [roomTo_succ (by omega)]
    omega
def wantTo (ss : List Str) (lo hi : Int) (k : Nat) : Nat := wants (ss.take k) lo hi
theorem wantTo_succ {ss : List Str} {lo hi : Int} {k : Nat} (h : k < ss.length) : wantTo ss lo hi (k + 1) = wantTo ss lo hi k + if lo ≤ ss[k].frm ∧ ss[k].to ≤ hi then 1 else 0 := by
  unfold wantTo wants
  rw [List.take_succ_eq_append_getElem h, List.countP_append]
  by_cases e : lo ≤ ss[k].frm ∧ ss[k].to ≤ hi
  · rw [if_pos e]; simp [e.1, e.2]
  · rw [if_neg e]
    simp only [List.countP_cons, List.countP_nil, Nat.zero_add]
    rw [if_neg (by simpa using e)]
theorem wantTo_bd (ss : List Str) (lo hi : Int) (k : Nat) : wantTo ss lo hi k ≤ k := by
  unfold wantTo wants
  refine Nat.le_trans List.countP_le_length ?_
  rw [List.length_take]
  omega

set_option maxRecDepth 20000 in
set_option maxHeartbeats 8000000 in
theorem lack_any (v : Value) (r : Ros) (w : World) (hv : RosAt w v r) :
    Calls Tryz.prog 13 #[v] w fun e w' => (∃ res, lackR r res ∧ e = .returned (.tuple #[.agg #[I res.1.1, I res.1.2], I res.2])) ∧ Below w.heap.size w w' := by
  obtain ⟨rv, sv, rfl, hr, hs⟩ := hv
  obtain ⟨A1, c1, rfl, hr1, hr2, -⟩ := hr.open_
  obtain ⟨A2, c2, rfl, hs1, hs2, -⟩ := hs.open_
  have HR := Lib.hid hr
  have HS := Lib.hid hs
  obtain ⟨_, _, e, _, _, hrc⟩ := HR.out.open_
  injection e with e1 e2 e3
  subst e1
  have HRC := Lib.hid hrc
  clear hrc e2 e3
  obtain ⟨_, _, e, _, _, hsc⟩ := HS.out.open_
  injection e with e1 e2 e3
  subst e1
  have HSC := Lib.hid hsc
  clear hsc e2 e3
  clear hr hs
  have S := Lib.hid (show St w (w.alloc (.cells #[.slice A1 r.room.length c1, .slice A2 r.strs.length c2] 25)) (w.heap.size + 1) [.box w.heap.size [.slice A1 r.room.length c1, .slice A2 r.strs.length c2]] from (St.init w).alloc [.slice A1 r.room.length c1, .slice A2 r.strs.length c2] 25)
  have S := Lib.hid (S.out.alloc [I 0, I 0] 42)
  have q0 := S.out.get 1 0 rfl rfl
  have q1 := S.out.get 1 1 rfl rfl
  go_enter Tryz.func13, Tryz.ntmps13
  go_wp2_with fail
  clear q0 q1
  refine (check_any _ r _ ⟨_, _, rfl, HR.out.below S.out.bel, HS.out.below S.out.bel⟩).mono ?_
  rintro e w1 ⟨rfl, hb⟩
  have S := Lib.hid (S.out.call hb)
  clear hb
  by_cases hval : valid r = true
  · have hvd := valid_iff.1 hval
    have HVD := Lib.hid hvd
    have HLK := Lib.hid (show ∀ res, LackIs r res → lackR r res from fun res h => by unfold lackR; rw [if_pos hval]; exact h)
    rw [show chk r = 0 by unfold chk; rw [if_pos hval]]
    clear hval
    have hrl := hvd.rl
    have hsl := hvd.sl
    have q0 := S.out.get 1 0 rfl rfl
    have q1 := S.out.get 1 1 rfl rfl
    go_wp2_with fail
    clear q0 q1
    go_loopw [21] (fun i wr => ∃ hi : Nat, i = I hi ∧ hi ≤ r.room.length ∧ Hid (∀ y : Nat, y < hi → ∀ x : Nat, x ≤ y → lacksB r x y = false) ∧ Hid (St w wr wr.heap.size [.box (w.heap.size + 1) [I 0, I 0], .box w.heap.size [.slice A1 r.room.length c1, .slice A2 r.strs.length c2]])) (fun i _ => r.room.length - (intOf i).toNat)
    case atStart => exact ⟨0, rfl, by omega, Lib.hid (fun y h => absurd h (by omega)), Lib.hid S.out.fix⟩
    case round =>
      clear S
      obtain ⟨hi, rfl, hhi, HP, S⟩ := hrel
      by_cases hlt : hi < r.room.length
      · have hii : (hi : Int) < (r.room.length : Int) := by omega
        obtain ⟨b1, o1, rfl, hb1, hcell1⟩ := HRC.out (by omega)
        have HC1 := Lib.hid hcell1
        clear hcell1
        go_wp2_with fail
        obtain ⟨wo, rfl⟩ : ∃ wo : World, wo = wr := ⟨_, rfl⟩
        go_loopw [6] (fun u wr => ∃ lo : Int, u = I lo ∧ -1 ≤ lo ∧ lo ≤ (hi : Int) ∧ Hid (∀ x : Nat, lo < (x : Int) → x ≤ hi → lacksB r x hi = false) ∧ Hid (St w wr wr.heap.size [.box (w.heap.size + 1) [I 0, I 0], .box w.heap.size [.slice (some ⟨b1, o1, none⟩) r.room.length c1, .slice A2 r.strs.length c2]])) (fun u _ => (intOf u + 1).toNat)
        case atStart => exact ⟨hi, rfl, by omega, by omega, Lib.hid (fun x h1 h2 => absurd h1 (by omega)), S⟩
        case round =>
          clear S
          obtain ⟨lo, rfl, hlo1, hlo2, HB, S⟩ := hrel
          by_cases hge : 0 ≤ lo
          · obtain ⟨lo, rfl⟩ := Int.eq_ofNat_of_zero_le hge
            have hloi : (lo : Int) ≤ (hi : Int) := by omega
            have hlo0 : (0 : Int) ≤ (lo : Int) := by omega
            have hhi1 : IntKind.i64.wrap ((hi : Int) + 1) = ((hi + 1 : Nat) : Int) := by rw [IntWalk.i64_in _ (by omega)]; omega
            have hhc : ((hi + 1 : Nat) : Int) ≤ (c1 : Int) := by omega
            have hlh : (lo : Int) ≤ ((hi + 1 : Nat) : Int) := by omega
            obtain ⟨m, hm⟩ : ∃ m, hi + 1 - lo = m := ⟨_, rfl⟩
            have q0 := S.out.get 1 0 rfl rfl
            have q1 := S.out.get 1 1 rfl rfl
            go_wp2_with fail
            clear q0 q1
            obtain ⟨we, rfl⟩ : ∃ we : World, we = wr := ⟨_, rfl⟩
            go_loopw [7, 36] (fun n i wr => ∃ k : Nat, k ≤ m ∧ i = I k ∧ n = I (- roomTo r.room lo k) ∧ Hid (St w wr wr.heap.size [.box (w.heap.size + 1) [I 0, I 0], .box w.heap.size [.slice (some ⟨b1, o1, none⟩) r.room.length c1, .slice A2 r.strs.length c2]])) (fun _ i _ => m - (intOf i).toNat)
            case atStart => exact ⟨0, by omega, rfl, by simp [roomTo], S⟩
            case round =>
              clear S
              obtain ⟨k, hk, rfl, rfl, S⟩ := hrel
              have hbd := roomTo_bd HVD.out.rm lo k (by omega)
              by_cases hkm : k < m
              · have hki : (k : Int) < (m : Int) := by omega
                have y0 := HC1.out (lo + k) (by omega)
                obtain ⟨x, hx⟩ : ∃ x, r.room[lo + k]'(by omega) = x := ⟨_, rfl⟩
                have hxb := HVD.out.rm x (by rw [← hx]; exact List.getElem_mem _)
                have hsu := roomTo_succ (rm := r.room) (lo := lo) (k := k) (by omega)
                rw [hx] at y0 hsu
                rw [← Nat.add_assoc] at y0
                have y0 := keep_cell S.out.bel y0
                obtain ⟨z, hz⟩ : ∃ x, roomTo r.room lo k = x := ⟨_, rfl⟩
                rw [hz] at hbd hsu
                rw [hz]
                have hw : IntKind.i64.wrap (-z - x) = -(z + x) := by rw [IntWalk.i64_in _ (by omega)]; omega
                have HSU := Lib.hid hsu
                clear hz hx hsu
                go_wp2_with fail
                go_roundw
                case rel => exact ⟨k + 1, by omega, by go_num, by rw [HSU.out], S⟩
                case measure => first | (simp [intOf]; done) | (simp [intOf]; omega)
              · obtain rfl : k = m := by omega
                have q0 := S.out.get 1 0 rfl rfl
                have q1 := S.out.get 1 1 rfl rfl
                go_wp2_with fail
                clear q0 q1
                have hrm : roomTo r.room lo k = roomIn r.room lo hi := by unfold roomTo roomIn; rw [← hm]
                rw [hrm] at hbd
                obtain ⟨z, hz⟩ : ∃ x, roomIn r.room lo hi = x := ⟨_, rfl⟩
                rw [hz] at hbd
                rw [hrm, hz]
                have HZ := Lib.hid hz
                clear hrm hz
                obtain ⟨wf, rfl⟩ : ∃ wf : World, wf = wr := ⟨_, rfl⟩
                go_loopw [7, 47] (fun n i wr => ∃ j : Nat, j ≤ r.strs.length ∧ i = I j ∧ n = I (- z + (wantTo r.strs lo hi j : Int)) ∧ Hid (St w wr wr.heap.size [.box (w.heap.size + 1) [I 0, I 0], .box w.heap.size [.slice (some ⟨b1, o1, none⟩) r.room.length c1, .slice A2 r.strs.length c2]])) (fun _ i _ => r.strs.length - (intOf i).toNat)
                case atStart => exact ⟨0, by omega, rfl, by simp [wantTo, wants], S⟩
                case round =>
                  clear S
                  obtain ⟨j, hj, rfl, rfl, S⟩ := hrel
                  have hwb := wantTo_bd r.strs lo hi j
                  by_cases hjl : j < r.strs.length
                  · have hji : (j : Int) < (r.strs.length : Int) := by omega
                    obtain ⟨b2, o2, rfl, hb2, hcell2⟩ := HSC.out (by omega)
                    obtain ⟨y0, y1, y2, y3⟩ := hcell2 j hjl
                    clear hcell2 hb2
                    have hsu := wantTo_succ (ss := r.strs) (lo := lo) (hi := hi) hjl
                    obtain ⟨s, hs⟩ : ∃ s, r.strs[j] = s := ⟨_, rfl⟩
                    rw [hs] at y0 y1 y2 y3 hsu
                    clear hs
                    have y0 := keep_cell S.out.bel y0
                    have y1 := keep_cell S.out.bel y1
                    have y2 := keep_cell S.out.bel y2
                    have y3 := keep_cell S.out.bel y3
                    obtain ⟨u, hu⟩ : ∃ x, wantTo r.strs lo hi j = x := ⟨_, rfl⟩
                    rw [hu] at hwb hsu
                    rw [hu]
                    have HSU := Lib.hid hsu
                    clear hu hsu
                    have S := Lib.hid (S.out.alloc [I s.has, I s.frm, I s.to, I s.cost] 53)
                    have z1 := S.out.get 0 1 rfl rfl
                    have z2 := S.out.get 0 2 rfl rfl
                    have hw : IntKind.i64.wrap (-z + (u : Int) + 1) = -z + ((u + 1 : Nat) : Int) := by rw [IntWalk.i64_in _ (by omega)]; omega
                    by_cases hA : (lo : Int) ≤ s.frm
                    · by_cases hB : s.to ≤ (hi : Int)
                      · go_wp2_with fail
                        go_roundw
                        case rel => exact ⟨j + 1, by omega, by go_num, by rw [HSU.out, if_pos ⟨hA, hB⟩, Int.natCast_add]; rfl, Lib.hid S.out.tail.fix⟩
                        case measure => first | (simp [intOf]; done) | (simp [intOf]; omega)
                      · go_wp2_with fail
                        go_roundw
                        case rel => exact ⟨j + 1, by omega, by go_num, by rw [HSU.out, if_neg (fun h => hB h.2), Nat.add_zero], Lib.hid S.out.tail.fix⟩
                        case measure => first | (simp [intOf]; done) | (simp [intOf]; omega)
                    · go_wp2_with fail
                      go_roundw
                      case rel => exact ⟨j + 1, by omega, by go_num, by rw [HSU.out, if_neg (fun h => hA h.1), Nat.add_zero], Lib.hid S.out.tail.fix⟩
                      case measure => first | (simp [intOf]; done) | (simp [intOf]; omega)
                  · obtain rfl : j = r.strs.length := by omega
                    obtain ⟨u, hu⟩ : ∃ x, wantTo r.strs lo hi r.strs.length = x := ⟨_, rfl⟩
                    have hwu : wants r.strs lo hi = u := by rw [← hu]; unfold wantTo; rw [List.take_length]
                    rw [hu]
                    clear hu hwb
                    by_cases hpos : 0 < -z + (u : Int)
                    · have HL := Lib.hid (show lacksB r lo hi = true by unfold lacksB; rw [hwu, HZ.out, decide_eq_true_eq]; omega)
                      clear hwu
                      have S2 := (S.out.set 0 0 (I (lo : Int)) rfl).set 0 1 (I (hi : Int)) rfl
                      have u0 := S.out.get 0 0 rfl rfl
                      have u1 := S.out.get 0 1 rfl rfl
                      have u2 := S.out.free 0 0 rfl
                      have u3 := S.out.free 0 1 rfl
                      have r0 := S2.get 0 0 rfl rfl
                      have r1 := S2.get 0 1 rfl rfl
                      go_wp2_with fail
                      refine bodyPost_ret (v := .tuple #[.agg #[I (lo : Int), I (hi : Int)], I (0)]) (by simp [results, Tryz.results13, go_sem, r0, r1]) rfl ⟨⟨(((lo : Int), (hi : Int)), 0), HLK.out _ (.inl ⟨lo, hi, by omega, hlt, rfl, HL.out, fun x h1 h2 => HB.out x (by omega) h2, HP.out⟩), rfl⟩, S2.bel⟩
                    · have HL := Lib.hid (show lacksB r lo hi = false by unfold lacksB; rw [hwu, HZ.out, decide_eq_false_iff_not]; omega)
                      clear hwu
                      go_wp2_with fail
                      go_roundw
                      case rel => exact ⟨(lo : Int) - 1, by go_num, by omega, by omega, Lib.hid (fun x h1 h2 => by
                        by_cases e : x = lo
                        · subst e; exact HL.out
                        · exact HB.out x (by omega) h2), S⟩
                      case measure => first | (simp [intOf]; done) | (simp [intOf]; omega)
          · go_wp2_with fail
            go_roundw
            case rel => exact ⟨hi + 1, by go_num, by omega, Lib.hid (fun y h1 x h2 => by
              rcases Nat.lt_or_ge y hi with h | h
              · exact HP.out y h x h2
              · obtain rfl : y = hi := by omega
                exact HB.out x (by omega) h2), S⟩
            case measure => first | (simp [intOf]; done) | (simp [intOf]; omega)
      · obtain rfl : hi = r.room.length := by omega
        have S2 := (S.out.set 0 0 (I 0) rfl).set 0 1 (I 0) rfl
        have u0 := S.out.get 0 0 rfl rfl
        have u1 := S.out.get 0 1 rfl rfl
        have u2 := S.out.free 0 0 rfl
        have u3 := S.out.free 0 1 rfl
        have r0 := S2.get 0 0 rfl rfl
        have r1 := S2.get 0 1 rfl rfl
        go_wp2_with fail
        refine bodyPost_ret (v := .tuple #[.agg #[I 0, I 0], I (3)]) (by simp [results, Tryz.results13, go_sem, r0, r1]) rfl ⟨⟨((0, 0), 3), HLK.out _ (.inr ⟨rfl, HP.out⟩), rfl⟩, S2.bel⟩
  · have HLK := Lib.hid (show lackR r ((0, 0), 80) by unfold lackR; rw [if_neg hval])
    rw [show chk r = 80 by unfold chk; rw [if_neg hval]]
    have S2 := (S.out.set 0 0 (I 0) rfl).set 0 1 (I 0) rfl
    have u0 := S.out.get 0 0 rfl rfl
    have u1 := S.out.get 0 1 rfl rfl
    have u2 := S.out.free 0 0 rfl
    have u3 := S.out.free 0 1 rfl
    have r0 := S2.get 0 0 rfl rfl
    have r1 := S2.get 0 1 rfl rfl
    go_wp2_with fail
    refine bodyPost_ret (v := .tuple #[.agg #[I 0, I 0], I (80)]) (by simp [results, Tryz.results13, go_sem, r0, r1]) rfl ⟨⟨((0, 0), 80), HLK.out, rfl⟩, S2.bel⟩

end Go.Proofs.YtldcehhhndlhdaaGreatDoor.Hr
/- The plain law of TopRostered. -/
namespace Go.Proofs.YtldcehhhndlhdaaGreatDoor
open Go.RowKit Go.Sort Go.Shelf

theorem lacks_mem {t : BTown} {d : Nat → Int} {x : Int} : x ∈ descL (Bk.lacksL t.bt d) ↔ ∃ h, h < t.hs.length ∧ x = Bk.lackH t.bt d h := by
  rw [(descL_perm _).mem_iff]
  unfold Bk.lacksL
  rw [List.mem_map]
  constructor
  · rintro ⟨h, hh, rfl⟩; exact ⟨h, List.mem_range.1 hh, rfl⟩
  · rintro ⟨h, hh, rfl⟩; exact ⟨h, List.mem_range.2 hh, rfl⟩
theorem lacks_len {t : BTown} {d : Nat → Int} : (descL (Bk.lacksL t.bt d)).length = t.hs.length := by
  rw [descL_len]; simp [Bk.lacksL]; rfl
theorem lacks_zero {t : BTown} {d : Nat → Int} (hd : Bk.Div t.bt d) : (descL (Bk.lacksL t.bt d)).getD 0 0 = 0 ↔ ∀ h, h < t.hs.length → Bk.lackH t.bt d h = 0 := by
  constructor
  · intro h0 h hh
    have hm := (lacks_mem (t := t) (d := d)).2 ⟨h, hh, rfl⟩
    have hs := descL_sorted (Bk.lacksL t.bt d)
    have hp := hd.lack h hh
    cases hl : descL (Bk.lacksL t.bt d) with
    | nil => rw [hl] at hm; simp at hm
    | cons x xs =>
      rw [hl] at hm hs h0
      have h0 : x = 0 := h0
      rcases List.mem_cons.1 hm with h | h
      · omega
      · have := (List.pairwise_cons.1 hs).1 _ h
        omega
  · intro h0
    cases hl : descL (Bk.lacksL t.bt d) with
    | nil => rfl
    | cons x xs =>
      obtain ⟨h, hh, e⟩ := (lacks_mem (t := t) (d := d)).1 (by rw [hl]; exact List.mem_cons_self)
      show x = 0
      rw [e]
      exact h0 h hh
section
variable {r : Hr.Ros}
theorem worst_iff (hr : Hr.ROk r) (hv : bVal (streetsT r) = true) {d : Nat → Int} (hd : Bk.Best (streetsT r).bt d) : (descL (Bk.lacksL (streetsT r).bt d)).getD 0 0 = 0 ↔ Hr.someR r = true := by
  rw [lacks_zero hd.div, Bk.some_iff hr (streets_rb hr hv) hd]
  exact Iff.rfl
/-- A group by its houses. -/
theorem group_of (S : Nat → Bool) : ∀ n, ∃ g, g < 2 ^ n ∧ ∀ h, h < n → bitB g h = S h
  | 0 => ⟨0, by simp, fun h hh => absurd hh (by omega)⟩
  | n + 1 => by
    obtain ⟨g, hg, hb⟩ := group_of S n
    refine ⟨g + (if S n = true then 2 ^ n else 0), ?_, fun h hh => ?_⟩
    · rw [Nat.pow_succ]
      split <;> omega
    · by_cases e : h = n
      · subst e
        unfold bitB
        cases hs : S h with
        | true =>
          rw [if_pos rfl, Nat.add_div_right _ (Nat.two_pow_pos h), Nat.div_eq_of_lt hg]
          rfl
        | false =>
          rw [if_neg (by simp), Nat.add_zero, Nat.div_eq_of_lt hg]
          rfl
      · have hlt : h < n := by omega
        rw [← hb h hlt]
        unfold bitB
        split
        · have e2 : 2 ^ n = 2 ^ h * (2 * 2 ^ (n - h - 1)) := by
            rw [← Nat.mul_assoc, ← Nat.pow_succ, ← Nat.pow_add]
            congr 1
            omega
          rw [e2, Nat.add_mul_div_left _ _ (Nat.two_pow_pos h), Nat.add_mul_mod_self_left]
        · rfl
theorem sum_list (f : Nat → Int) (p : Nat → Bool) : ∀ n, (((List.range n).filter p).map f).sum = Bk.sumR n fun i => if p i = true then f i else 0
  | 0 => rfl
  | n + 1 => by
    show _ = Bk.sumR n _ + (if p n = true then f n else 0)
    rw [List.range_succ, List.filter_append, List.map_append, List.sum_append, sum_list f p n]
    by_cases h : p n = true
    · rw [if_pos h, List.filter_cons_of_pos h]
      simp
    · rw [if_neg h, List.filter_cons_of_neg h]
      simp
theorem sumR_cut (f : Nat → Int) {n : Nat} : ∀ m, n ≤ m → (∀ i, n ≤ i → i < m → f i = 0) → Bk.sumR m f = Bk.sumR n f
  | 0, h, _ => by rw [show n = 0 from by omega]
  | m + 1, h, h0 => by
    by_cases e : n = m + 1
    · rw [e]
    · show Bk.sumR m f + f m = _
      rw [sumR_cut f m (by omega) (fun i h1 h2 => h0 i h1 (by omega)), h0 m (by omega) (by omega)]
      omega
/-- What a group wants and has. -/
theorem want_group {t : BTown} (hv : bVal t = true) {g : Nat} (hg : g < 2 ^ t.hs.length) : wantL t g (listN g).length = Bk.wantG t.bt (bitB g) := by
  have h6 := (bVal_spec hv).1
  unfold wantL
  rw [List.take_length]
  unfold listN
  rw [List.map_map]
  have e : ((fun h : Int => t.hs.getD h.toNat 0) ∘ fun i : Nat => (i : Int)) = fun i : Nat => t.hs.getD i 0 := by
    funext i
    simp
  rw [e]
  have := sum_list (fun i => t.hs.getD i 0) (bitB g) 6
  unfold bitB at this
  rw [this]
  rw [sumR_cut (n := t.hs.length) _ 6 h6 (fun i h1 _ => if_neg (fun hb => by
    have := bit_lt hg (i := i) (by unfold bitB; exact hb)
    omega))]
  rfl
theorem any_at {t : BTown} (p : Sp → Bool) : t.ys.any p = (List.range t.ys.length).any fun j => p (spAt t.ys j) := by
  rw [Bool.eq_iff_iff, List.any_eq_true, List.any_eq_true]
  constructor
  · rintro ⟨y, hy, h⟩
    obtain ⟨j, hj, rfl⟩ := List.getElem_of_mem hy
    exact ⟨j, List.mem_range.2 hj, by rw [spAt_len _ _ hj]; exact h⟩
  · rintro ⟨j, hj, h⟩
    have hj := List.mem_range.1 hj
    rw [spAt_len _ _ hj] at h
    exact ⟨_, List.getElem_mem hj, h⟩
theorem adj_group {t : BTown} (hv : bVal t = true) (g x : Nat) : t.ys.any (mayB g (x : Int)) = Bk.adj t.bt (bitB g) x := by
  rw [any_at]
  unfold Bk.adj
  rw [Bool.eq_iff_iff, List.any_eq_true, List.any_eq_true]
  have key : ∀ j, j < t.ys.length → (mayB g (x : Int) (spAt t.ys j) = true ↔ (t.bt.ww j == x && bitB g (t.bt.hh j)) = true) := fun j hj => by
    obtain ⟨a, c, e, -, -⟩ := okY_nat hv hj
    show (decide ((spAt t.ys j).high = (x : Int)) && bitB g (spAt t.ys j).low.toNat) = true ↔ ((spAt t.ys j).high.toNat == x && bitB g (spAt t.ys j).low.toNat) = true
    rw [spAt_len _ _ hj, e]
    simp only [Bool.and_eq_true, decide_eq_true_eq, beq_iff_eq, Int.toNat_natCast]
    constructor
    · rintro ⟨h1, h2⟩; exact ⟨by omega, h2⟩
    · rintro ⟨h1, h2⟩; exact ⟨by omega, h2⟩
  constructor
  · rintro ⟨j, hj, h⟩; exact ⟨j, hj, (key j (List.mem_range.1 hj)).1 h⟩
  · rintro ⟨j, hj, h⟩; exact ⟨j, hj, (key j (List.mem_range.1 hj)).2 h⟩
theorem have_group {t : BTown} (hv : bVal t = true) (g : Nat) : haveL t g t.ws.length = Bk.haveG t.bt (bitB g) := by
  unfold haveL Bk.haveG
  exact Bk.sumR_congr fun x _ => by rw [adj_group hv]; rfl
theorem short_group {t : BTown} (hv : bVal t = true) {g : Nat} (hg : g < 2 ^ t.hs.length) : shortB t g = decide (Bk.haveG t.bt (bitB g) < Bk.wantG t.bt (bitB g)) := by
  unfold shortB
  rw [want_group hv hg, have_group hv]
  exact decide_eq_decide.2 (by omega)
theorem wantG_congr {t : Bk.BT} {S S' : Nat → Bool} (h : ∀ x, x < t.nH → S x = S' x) : Bk.wantG t S = Bk.wantG t S' := by
  unfold Bk.wantG
  exact Bk.sumR_congr fun x hx => by rw [h x hx]
theorem haveG_congr {t : Bk.BT} (hk : Bk.BOk t) {S S' : Nat → Bool} (h : ∀ x, x < t.nH → S x = S' x) : Bk.haveG t S = Bk.haveG t S' := by
  have e : ∀ w, Bk.adj t S w = Bk.adj t S' w := fun w => by
    unfold Bk.adj
    rw [Bool.eq_iff_iff, List.any_eq_true, List.any_eq_true]
    constructor
    · rintro ⟨j, hj, hp⟩; exact ⟨j, hj, by rw [← h _ (hk.hh j (List.mem_range.1 hj))]; exact hp⟩
    · rintro ⟨j, hj, hp⟩; exact ⟨j, hj, by rw [h _ (hk.hh j (List.mem_range.1 hj))]; exact hp⟩
  unfold Bk.haveG
  exact Bk.sumR_congr fun w _ => by rw [e]
theorem best_none {t : BTown} : ∀ n, (bestTo t n = none ↔ ∀ g, g < n → shortB t g = false)
  | 0 => ⟨fun _ g hg => absurd hg (by omega), fun _ => rfl⟩
  | n + 1 => by
    have ih := best_none (t := t) n
    cases hs : shortB t n with
    | false =>
      rw [bestTo_no hs, ih]
      constructor
      · intro h g hg
        by_cases e : g = n
        · rw [e]; exact hs
        · exact h g (by omega)
      · intro h g hg; exact h g (by omega)
    | true =>
      constructor
      · intro h
        exfalso
        cases hb : bestTo t n with
        | none => rw [bestTo_first hs hb] at h; exact absurd h (by simp)
        | some b =>
          cases hx : betterB (listN n) b with
          | true => rw [bestTo_yes hs hb hx] at h; exact absurd h (by simp)
          | false => rw [bestTo_keep hs hb hx] at h; exact absurd h (by simp)
      · intro h
        have := h n (by omega)
        rw [hs] at this
        exact absurd this (by simp)
theorem short_iff (hr : Hr.ROk r) (hv : bVal (streetsT r) = true) : bestTo (streetsT r) (2 ^ (streetsT r).hs.length) = none ↔ Hr.someR r = true := by
  have hb := streets_rb hr hv
  rw [best_none]
  constructor
  · intro h
    refine Classical.byContradiction fun hn => ?_
    have hn : Hr.someR r = false := by cases e : Hr.someR r with
      | true => exact absurd e hn
      | false => rfl
    obtain ⟨S, hS⟩ := Bk.some_short hr hb hn
    obtain ⟨g, hg, he⟩ := group_of S (streetsT r).hs.length
    have h1 := h g hg
    rw [short_group hv hg, wantG_congr (S := bitB g) (S' := S) he, haveG_congr hb.ok (S := bitB g) (S' := S) he] at h1
    exact absurd hS (of_decide_eq_false h1)
  · intro hs g hg
    rw [short_group hv hg]
    exact decide_eq_false (Int.not_lt.2 (Bk.no_short hr hb hs _))
theorem lack_code (hr : Hr.ROk r) {res : (Int × Int) × Int} (h : Hr.lackR r res) : res.2 = if Hr.someR r = true then 3 else 0 := by
  unfold Hr.lackR at h
  rw [if_pos (Hr.valid_iff.2 hr)] at h
  rcases h.code with ⟨h1, lo, hi, h2, h3, h4⟩ | ⟨h1, h2⟩
  · rw [h1, if_neg]
    intro hs
    have := (Hr.hall hr).1 hs lo hi h2 h3
    rw [h4] at this
    exact absurd this (by simp)
  · rw [h1, if_pos ((Hr.hall hr).2 fun lo hi h3 h4 => h2 hi h4 lo h3)]
theorem roster_code (hr : Hr.ROk r) : (Hr.rosterR r).2 = if Hr.someR r = true then 0 else 3 := by
  cases hs : Hr.someR r with
  | true => obtain ⟨l, e, -⟩ := Hr.roster_said hr hs; rw [e]; rfl
  | false => rw [(Hr.none_said hr hs).1]; rfl
/-- Where one bucket more makes a roster, it makes the town fairer. -/
theorem helps_said (hr : Hr.ROk r) (hv : bVal (streetsT r) = true) (hs : Hr.someR r = false) {k : Nat} (hk : k < r.room.length) (h6 : r.room[k] ≠ 6) (hk2 : Hr.someR (Hr.roomier r k 1) = true) {d e : Nat → Int} (hd : Bk.Best (wetT (streetsT r) k).bt d) (he : Bk.Best (streetsT r).bt e) :
    cmpLL (descL (Bk.lacksL (wetT (streetsT r) k).bt d)) (descL (Bk.lacksL (streetsT r).bt e)) < 0 := by
  have hro := Hr.roomier_ok hr hk h6
  have h19 : ∀ x ∈ (streetsT r).ws, x ≤ 19 := fun x hx => by have := (hr.rm x hx).2; omega
  have hv2 : bVal (streetsT (Hr.roomier r k 1)) = true := wet_val hv h19 k
  have z1 := (Bk.some_iff hro (streets_rb hro hv2) (d := d) hd).1 hk2
  have n2 : ¬ (descL (Bk.lacksL (streetsT r).bt e)).getD 0 0 = 0 := fun h => by
    have := (worst_iff hr hv he).1 h
    rw [hs] at this
    exact absurd this (by simp)
  have l1 : (descL (Bk.lacksL (wetT (streetsT r) k).bt d)).length = (streetsT r).hs.length := lacks_len
  have l2 : (descL (Bk.lacksL (streetsT r).bt e)).length = (streetsT r).hs.length := lacks_len
  cases hl : descL (Bk.lacksL (streetsT r).bt e) with
  | nil => rw [hl] at n2; exact absurd rfl n2
  | cons y ys =>
    cases hm : descL (Bk.lacksL (wetT (streetsT r) k).bt d) with
    | nil => rw [hm] at l1; rw [hl] at l2; simp at l1 l2; omega
    | cons x xs =>
      obtain ⟨h, hh, ex⟩ := (lacks_mem (t := wetT (streetsT r) k) (d := d)).1 (by rw [hm]; exact List.mem_cons_self)
      obtain ⟨h', hh', ey⟩ := (lacks_mem (t := streetsT r) (d := e)).1 (by rw [hl]; exact List.mem_cons_self)
      have hx : x = 0 := by rw [ex]; exact z1 h hh
      have hy0 := he.div.lack h' hh'
      rw [← ey] at hy0
      rw [hl] at n2
      have hy : ¬ y = 0 := n2
      subst hx
      show (if cmpI 0 y = 0 then _ else cmpI 0 y) < 0
      have hc : cmpI 0 y = -1 := by unfold cmpI; rw [if_pos (by omega)]
      rw [hc, if_neg (by decide)]
      decide
/-- The division that a roster names. -/
theorem pick_at {l : List Int} (hv : bVal (streetsT r) = true) {i : Nat} (hi : i < (streetsT r).ys.length) : Bk.pickD (streetsT r).bt l i = if l.getD (streetsT r).ys[i].low.toNat 0 = (streetsT r).ys[i].high then 1 else 0 := by
  obtain ⟨a, c, e, -, -⟩ := okY_nat hv hi
  show (if l.getD (spAt (streetsT r).ys i).low.toNat 0 = (((spAt (streetsT r).ys i).high.toNat : Nat) : Int) then _ else _) = _
  rw [spAt_len _ _ hi, e]
  simp
end
end Go.Proofs.YtldcehhhndlhdaaGreatDoor
