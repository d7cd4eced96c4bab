/- Walks: the reference's Roomier; street, Example. -/
import Derived.Test.YtokendenofbnhaaW19
import Derived.Test.YtokendenofbnhaaPlain6
namespace Go.Proofs.Ytokendenofbnhaa
open Go.RowKit Go.Sort

/-- A struct of two integers in the call's own box: what two stores leave. -/
theorem res2 {w : World} {g : Nat} {u0 u1 : Value} (h0 : w.cell? ⟨g, 0, none⟩ = some u0) (h1 : w.cell? ⟨g, 1, none⟩ = some u1) :
    (∀ v1, (w.setCell ⟨g, 0, none⟩ v1).cell? ⟨g, 0, none⟩ = some v1) ∧ ∀ v1 v2, ((w.setCell ⟨g, 0, none⟩ v1).setCell ⟨g, 1, none⟩ v2).cell? ⟨g, 1, none⟩ = some v2 :=
  ⟨fun _ => World.cell?_setCell_same _ _ _ h0, fun _ _ => World.cell?_setCell_same _ _ _ (by rw [World.cell?_setCell_other _ _ _ _ (by simp)]; exact h1)⟩

set_option maxRecDepth 20000 in
set_option maxHeartbeats 4000000 in
theorem roomier_any (v : Value) (r : Ros) (h : Nat) (m : Int) (w : World) (hv : RosAt w v r) (hlen : r.room.length ≤ 1000) (hlen' : r.strs.length ≤ 1000) (hh : h < r.room.length) (hm : -100 ≤ m ∧ m ≤ 100) (hbd : ∀ x ∈ r.room, -100 ≤ x ∧ x ≤ 100) :
    Calls Try.prog 31 #[v, I (h : Int), I m] w fun e w' => ∃ v', e = .returned v' ∧ OwnRos w' w.heap.size v' (roomier r h m) ∧ Below w.heap.size w w' := by
  obtain ⟨rv, sv, rfl, hr, hs⟩ := hv
  obtain ⟨A1, c1, rfl, hr1, hr2, -⟩ := hr.open_
  obtain ⟨A2, c2, rfl, hs1, hs2, -⟩ := hs.open_
  have HR := Lib.hid hr
  have HS := Lib.hid hs
  clear hr hs
  have S := Lib.hid (show St w (w.alloc (.cells #[.slice A1 r.room.length c1, .slice A2 r.strs.length c2] 25)) (w.heap.size + 1) [.box w.heap.size [.slice A1 r.room.length c1, .slice A2 r.strs.length c2]] from (St.init w).alloc [.slice A1 r.room.length c1, .slice A2 r.strs.length c2] 25)
  have S := Lib.hid (S.out.alloc [.slice none 0 0, .slice none 0 0] 25)
  have hhi : (h : Int) < (r.room.length : Int) := by omega
  obtain ⟨x, hx⟩ : ∃ x, r.room[h] = x := ⟨_, rfl⟩
  have hxb := hbd x (by rw [← hx]; exact List.getElem_mem hh)
  have HX := Lib.hid hx
  clear hx hbd
  have q0 := S.out.get 1 0 rfl rfl
  have q1 := S.out.get 1 1 rfl rfl
  go_enter Try.func31, Try.ntmps31
  go_wp2_with fail
  clear q0 q1
  refine (copy_any _ r _ ⟨_, _, rfl, HR.out.below S.out.bel, HS.out.below S.out.bel⟩ hlen hlen').mono ?_
  rintro e w1 ⟨v', rfl, ⟨rv', sv', rfl, ho1, ho2⟩, hb⟩
  obtain ⟨g, cap, rfl, hg1, hg2⟩ := own_shape_pos ho1 (show 0 < r.room.length by omega)
  obtain ⟨Av2, cv2, rfl⟩ := own_shape ho2
  have S0 := Lib.hid (S.out.take2 hb ho1 ho2 (by decide))
  have S := Lib.hid (S0.out.alloc [.slice (some ⟨g, 0, none⟩) r.room.length cap, .slice Av2 r.strs.length cv2] 25)
  clear hb ho1 ho2
  have z0 := S.out.get 0 0 rfl rfl
  have z1 := S.out.get 0 1 rfl rfl
  have y0 := own_cell (S.out.own 1 rfl) h x (by rw [List.getElem?_eq_getElem hh, HX.out])
  have y1 := (S.out.own 1 rfl).frozenAt h
  have S2 := (S0.out.put 0 h (I (x + m)) rfl).alloc [.slice (some ⟨g, 0, none⟩) r.room.length cap, .slice Av2 r.strs.length cv2] 25
  have z2 := S2.get 0 0 rfl rfl
  have z3 := S2.get 0 1 rfl rfl
  have z4 := S2.get 3 0 rfl rfl
  have z5 := S2.get 3 1 rfl rfl
  have z6 := S2.free 3 0 rfl
  have z7 := S2.free 3 1 rfl
  have S3 := (S2.set 3 0 (.slice (some ⟨g, 0, none⟩) r.room.length cap) rfl).set 3 1 (.slice Av2 r.strs.length cv2) rfl
  have r0 := S3.get 3 0 rfl rfl
  have r1 := S3.get 3 1 rfl rfl
  go_wp2_with fail
  refine bodyPost_ret (v := .agg #[.slice (some ⟨g, 0, none⟩) r.room.length cap, .slice Av2 r.strs.length cv2]) (by simp [results, Try.results31, go_sem, r0, r1]) rfl ⟨_, rfl, ⟨_, _, rfl, ?_, S3.own 2 rfl⟩, S3.bel⟩
  have e : (roomier r h m).room = r.room.set h (x + m) := by unfold roomier; simp only; rw [List.getD_eq_getElem?_getD, List.getElem?_eq_getElem hh, HX.out]; rfl
  rw [e, List.map_set, List.length_set]
  exact S3.own 1 rfl

set_option maxRecDepth 20000 in
set_option maxHeartbeats 1000000 in
theorem street_any (a b c d : Int) (w : World) :
    Calls Try.prog 90 #[I a, I b, I c, I d] w fun e w' => e = .returned (.agg #[I a, I b, I c, I d]) ∧ Below w.heap.size w w' := by
  go_enter Try.func90, Try.ntmps90
  go_wp2_with fail
  refine bodyPost_ret (v := .agg #[I a, I b, I c, I d]) (by simp [results, Try.results90, go_sem]) rfl ⟨rfl, ?_⟩
  repeat (first | exact Below.refl _ _ | refine Below.setCell ?_ (by simp) _ | exact (Below.refl _ _).alloc (Nat.le_refl _) _)

/-- A box reads as a slice of all its cells. -/
theorem St.boxReads {w0 w : World} {n : Nat} {L : List Item} (h : St w0 w n L) (i : Nat) {b : Nat} {cs : List Value} (hi : L[i]? = some (.box b cs)) {size m : Nat} (hm : cs.length = m * size) (hl : m ≤ 1000) : Reads w size (.slice (some ⟨b, 0, none⟩) m m) m cs := by
  refine ⟨hm, _, _, rfl, Nat.le_refl _, by omega, fun _ => ⟨b, 0, rfl, fun j u hu => ?_⟩⟩
  rw [Nat.zero_add]
  exact h.get i j hi hu

set_option maxRecDepth 20000 in
set_option maxHeartbeats 4000000 in
theorem example_any (w : World) :
    Calls Try.prog 61 #[] w fun e w' => ∃ v1 v2, e = .returned (.tuple #[v1, v2]) ∧ RosAt w' v1 exR ∧ RosAt w' v2 exQ ∧ Below w.heap.size w w' := by
  have S := Lib.hid (((St.init w).alloc [.slice none 0 0, .slice none 0 0] 25).alloc [.slice none 0 0, .slice none 0 0] 25)
  go_enter Try.func61, Try.ntmps61
  go_wp2_with fail
  have S := Lib.hid (S.out.alloc [I 1, I 2, I 1, I 1] 3)
  refine (street_any 0 0 2 2 _).mono ?_
  rintro e w1 ⟨rfl, hb⟩
  have S := Lib.hid (S.out.call hb)
  clear hb
  go_wp2_with fail
  refine (street_any 0 0 1 3 _).mono ?_
  rintro e w2 ⟨rfl, hb⟩
  have S := Lib.hid (S.out.call hb)
  clear hb
  go_wp2_with fail
  refine (street_any 1 0 3 1 _).mono ?_
  rintro e w3 ⟨rfl, hb⟩
  have S := Lib.hid (S.out.call hb)
  clear hb
  go_wp2_with fail
  refine (street_any 2 1 2 2 _).mono ?_
  rintro e w4 ⟨rfl, hb⟩
  have S := Lib.hid ((S.out.call hb).alloc [I 0, I 0, I 2, I 2, I 0, I 0, I 1, I 3, I 1, I 0, I 3, I 1, I 2, I 1, I 2, I 2] 33)
  clear hb
  have q0 := S.out.get 3 0 rfl rfl
  have q1 := S.out.get 3 1 rfl rfl
  have q2 := S.out.free 3 0 rfl
  have q3 := S.out.free 3 1 rfl
  have S2 := (S.out.set 3 0 (.slice (some ⟨w.heap.size + 1 + 1, 0, none⟩) 4 4) rfl).set 3 1 (.slice (some ⟨w4.heap.size, 0, none⟩) 4 4) rfl
  have S := Lib.hid S2
  clear S2
  go_wp2_with fail
  clear q0 q1 q2 q3
  refine wp_region_seg [([0, 1], 2)] [] [3, 4] 3 (by kernel_rfl) (by kernel_rfl) ?_
  intro KQ hKQ w5 hb
  have S := Lib.hid (S.out.call hb)
  clear hb
  have k0 := cell_regrown (S.out.get 3 0 rfl rfl)
  have k1 := cell_regrown (S.out.get 3 1 rfl rfl)
  refine seg_next ?_
  simp only [opsAt, List.filterMap_cons, List.filterMap_nil, List.getElem?_toArray, List.getElem?_cons_succ, List.getElem?_cons_zero]
  repeat (first | go_big_quiet_step (fail) | quiet_step (fail))
  refine wpQuiet_nil ?_
  intro K hK
  refine loud_op rfl rfl ?_
  go_simp
  have hr : RosAt w5 (.agg #[.slice (some ⟨w.heap.size + 1 + 1, 0, none⟩) 4 4, .slice (some ⟨w4.heap.size, 0, none⟩) 4 4]) exR := ⟨_, _, rfl, S.out.boxReads 1 rfl rfl (by omega), S.out.boxReads 0 rfl rfl (by omega)⟩
  have HRR := Lib.hid hr
  refine (roomier_any _ exR 0 (-1) _ hr (by decide) (by decide) (by decide) (by decide) (by decide)).mono ?_
  rintro e w6 ⟨v', rfl, ⟨rv', sv', rfl, ho1, ho2⟩, hb⟩
  obtain ⟨Av1, cv1, rfl⟩ := own_shape ho1
  obtain ⟨Av2, cv2, rfl⟩ := own_shape ho2
  have S := Lib.hid (S.out.take2 hb ho1 ho2 (by decide))
  have HRR := Lib.hid (HRR.out.below hb)
  refine hK _ _ hb ?_
  clear hK K hb ho1 ho2 hr k0 k1
  refine seg_last ?_
  simp only [opsAt, List.filterMap_cons, List.filterMap_nil, List.getElem?_toArray, List.getElem?_cons_succ, List.getElem?_cons_zero]
  refine wpQuiet_nil ?_
  have u0 := S.out.get 5 0 rfl rfl
  have u1 := S.out.get 5 1 rfl rfl
  have u2 := S.out.free 5 0 rfl
  have u3 := S.out.free 5 1 rfl
  have S1 := (S.out.set 5 0 (.slice (some ⟨w.heap.size + 1 + 1, 0, none⟩) 4 4) rfl).set 5 1 (.slice (some ⟨w4.heap.size, 0, none⟩) 4 4) rfl
  have v0 := S1.get 4 0 rfl rfl
  have v1 := S1.get 4 1 rfl rfl
  have v2 := S1.free 4 0 rfl
  have v3 := S1.free 4 1 rfl
  have S2 := (S1.set 4 0 (.slice Av1 exQ.room.length cv1) rfl).set 4 1 (.slice Av2 exQ.strs.length cv2) rfl
  obtain ⟨r0, r1⟩ := res2 u0 u1
  obtain ⟨r2, r3⟩ := res2 v0 v1
  go_wp2_with fail
  refine bodyPost_ret (v := .tuple #[.agg #[.slice (some ⟨w.heap.size + 1 + 1, 0, none⟩) 4 4, .slice (some ⟨w4.heap.size, 0, none⟩) 4 4], .agg #[.slice Av1 exQ.room.length cv1, .slice Av2 exQ.strs.length cv2]]) (by simp [results, Try.results61, go_sem, r0, r1, r2, r3, exQ]) rfl ⟨_, _, rfl, ⟨_, _, rfl, S2.boxReads 3 rfl rfl (by omega), S2.boxReads 2 rfl rfl (by omega)⟩, ⟨_, _, rfl, Ints.of_own (S2.own 0 rfl), Reads.of_own (S2.own 1 rfl)⟩, S2.bel⟩

end Go.Proofs.Ytokendenofbnhaa
