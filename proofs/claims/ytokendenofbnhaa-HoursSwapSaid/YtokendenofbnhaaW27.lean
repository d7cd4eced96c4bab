/- Walks: Exchanged. -/
import Derived.Test.YtokendenofbnhaaW26
namespace Go.Proofs.Ytokendenofbnhaa
open Go.RowKit Go.Sort

set_option maxRecDepth 20000 in
set_option maxHeartbeats 1000000 in
theorem exchanged_any (v : Value) (l : List Int) (a b : Nat) (w : World) (hl : Ints w v l) (hlen : l.length ≤ 1000) (hab : a < b) (hbl : b < l.length) :
    Calls Try.prog 28 #[v, .agg #[I (a : Int), I (b : Int)]] w fun e w' => ∃ v', e = .returned v' ∧ w'.ownsRow w.heap.size 3 1 v' l.length ((exch l a b).map I) ∧ Below w.heap.size w w' := by
  obtain ⟨i0, hi, hz0, hz1, hz2⟩ := info_parts Try.info3
  obtain ⟨Al, cl, rfl, hl1, hl2, hlc⟩ := id hl.open_
  have HL := Lib.hid hl
  clear hl
  obtain ⟨b1, o1, rfl, hb1, hcell⟩ := hlc (by omega)
  obtain ⟨xa, hxa⟩ : ∃ x, l[a] = x := ⟨_, rfl⟩
  obtain ⟨xb, hxb⟩ : ∃ x, l[b] = x := ⟨_, rfl⟩
  have ya := hcell a (by omega)
  have yb := hcell b hbl
  rw [hxa] at ya
  rw [hxb] at yb
  have HLA := Lib.hid (show l[a]? = some xa by rw [List.getElem?_eq_getElem (by omega), hxa])
  have HLB := Lib.hid (show l[b]? = some xb by rw [List.getElem?_eq_getElem hbl, hxb])
  have YA := Lib.hid ya
  have YB := Lib.hid yb
  have XE := Lib.hid (show exch l a b = (l.set a xb).set b xa by unfold exch; rw [List.getD_eq_getElem?_getD, List.getD_eq_getElem?_getD, List.getElem?_eq_getElem hbl, List.getElem?_eq_getElem (show a < l.length by omega), hxa, hxb]; rfl)
  have hai : (a : Int) < (l.length : Int) := by omega
  have hbi : (b : Int) < (l.length : Int) := by omega
  clear hcell hlc ya yb hxa hxb
  have S := Lib.hid (show St w (w.alloc (.cells #[I (a : Int), I (b : Int)] 41)) (w.heap.size + 1) [.box w.heap.size [I (a : Int), I (b : Int)]] from (St.init w).alloc [I (a : Int), I (b : Int)] 41)
  have hs1 : (w.alloc (.cells #[I (a : Int), I (b : Int)] 41)).heap.size = w.heap.size + 1 := by simp
  have hg := heap_alloc_new (w.alloc (.cells #[I (a : Int), I (b : Int)] 41)) (.cells #[] 3)
  rw [hs1] at hg
  have hb0 := (Below.refl (w.alloc (.cells #[I (a : Int), I (b : Int)] 41)).heap.size _).alloc (Nat.le_refl _) (.cells #[] 3)
  have HG := Lib.hid hg
  have HB := Lib.hid hb0
  have HS1 := Lib.hid hs1
  clear hg hb0 hs1
  go_enter Try.func28, Try.ntmps28
  go_wp2_with (at_builtin; refine wpList_plain rfl fun K hK => ?_; refine wp_append_fresh _ (.tmp 6) (.tmp 7) 22 rfl (w.alloc (.cells #[I (a : Int), I (b : Int)] 41)).heap.size 3 i0 (.int .i64 0) 1 8 Try.underlying22 hi hz0 hz1 hz2 rfl (by omega) (w.heap.size + 1) rfl HG.out (Nat.le_of_eq HS1.out) _ l.length (l.map I) rfl (HL.out.below (bto S.out.bel HB.out)) (ints_one l) (by simp only [maxLen]; omega) (by omega) HB.out.size ?_; intro v1 w2 hown hb; have HB2 := Lib.hid (bto HB.out hb); obtain ⟨g, cap, rfl, hg1, hg2⟩ := own_shape_pos hown (show 0 < l.length by omega); have S := Lib.hid (S.out.take HB2.out hown); refine hK _ _ ?_; clear hb hown hK)
  refine wp_region_seg [] [0, 1, 2, 3, 4, 5, 6, 7, 8] [9] 9 (by kernel_rfl) (by kernel_rfl) ?_
  intro KQ hKQ w3 hb
  have S := Lib.hid (S.out.call hb)
  clear hb
  have q0 := cell_regrown (S.out.get 1 0 rfl rfl)
  have q1 := cell_regrown (S.out.get 1 1 rfl rfl)
  have y0 := cell_regrown (keep_cell S.out.bel YB.out)
  refine seg_last ?_
  simp only [opsAt, List.filterMap_cons, List.filterMap_nil, List.getElem?_toArray, List.getElem?_cons_succ, List.getElem?_cons_zero]
  repeat (first | go_big_quiet_step (fail) | quiet_step (fail))
  refine wpQuiet_nil ?_
  clear q0 q1 y0
  have u0 := (S.out.own 0 rfl).frozenAt a
  have u1 := (S.out.own 0 rfl).cells (g := g) rfl a (I xa) (by rw [List.getElem?_map, HLA.out]; rfl)
  rw [add_plain, Nat.zero_add] at u1
  have S2 := Lib.hid (S.out.put 0 a (I xb) rfl)
  go_wp2_with fail
  clear u0 u1
  have S := Lib.hid S2.out.fix
  clear S2
  obtain ⟨w4, hw4⟩ : ∃ x, w3.setCell ⟨g, a, none⟩ (I xb) = x := ⟨_, rfl⟩
  rw [hw4] at S ⊢
  clear hw4
  refine wp_region_seg [] [0, 1, 2, 3, 4, 5, 6, 7, 8] [9] 9 (by kernel_rfl) (by kernel_rfl) ?_
  intro KQ hKQ w5 hb
  have S := Lib.hid (S.out.call hb)
  clear hb
  have q0 := cell_regrown (S.out.get 1 0 rfl rfl)
  have q1 := cell_regrown (S.out.get 1 1 rfl rfl)
  have y0 := cell_regrown (keep_cell S.out.bel YA.out)
  refine seg_last ?_
  simp only [opsAt, List.filterMap_cons, List.filterMap_nil, List.getElem?_toArray, List.getElem?_cons_succ, List.getElem?_cons_zero]
  repeat (first | go_big_quiet_step (fail) | quiet_step (fail))
  refine wpQuiet_nil ?_
  clear q0 q1 y0
  have u0 := (S.out.own 0 rfl).frozenAt b
  have u1 := (S.out.own 0 rfl).cells (g := g) rfl b (I xb) (by rw [List.getElem?_set_ne (by omega), List.getElem?_map, HLB.out]; rfl)
  rw [add_plain, Nat.zero_add] at u1
  have S2 := Lib.hid (S.out.put 0 b (I xa) rfl)
  go_wp2_with fail
  go_ret
  refine ⟨_, rfl, ?_, S2.out.bel⟩
  rw [XE.out, List.map_set, List.map_set]
  have q := S2.out.own 0 rfl
  simpa using q

end Go.Proofs.Ytokendenofbnhaa
