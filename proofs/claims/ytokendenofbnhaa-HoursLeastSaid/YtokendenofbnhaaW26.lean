/- Walks: copied, CostOf. -/
import Derived.Test.YtokendenofbnhaaW25
import Derived.Test.YtokendenofbnhaaW19
namespace Go.Proofs.Ytokendenofbnhaa
open Go.RowKit Go.Sort

set_option maxRecDepth 20000 in
set_option maxHeartbeats 1000000 in
theorem copied_any (v : Value) (l : List Int) (w : World) (hl : Ints w v l) (hlen : l.length ≤ 1000) :
    Calls Try.prog 25 #[v] w fun e w' => ∃ v', e = .returned v' ∧ w'.ownsRow w.heap.size 3 1 v' l.length (l.map I) ∧ Below w.heap.size w w' := by
  obtain ⟨i0, hi, hz0, hz1, hz2⟩ := info_parts Try.info3
  obtain ⟨Al, cl, rfl, hl1, hl2, -⟩ := id hl.open_
  have HL := Lib.hid hl
  clear hl
  have hg := heap_alloc_new w (.cells #[] 3)
  have hb0 := (Below.refl w.heap.size w).alloc (Nat.le_refl _) (.cells #[] 3)
  have HG := Lib.hid hg
  have HB := Lib.hid hb0
  clear hg hb0
  go_enter Try.func25, Try.ntmps25
  go_wp2_with (at_builtin; refine wpList_plain rfl fun K hK => ?_; refine wp_append_fresh _ (.tmp 3) (.tmp 4) 22 rfl w.heap.size 3 i0 (.int .i64 0) 1 8 Try.underlying22 hi hz0 hz1 hz2 rfl (by omega) w.heap.size rfl HG.out (Nat.le_refl _) _ l.length (l.map I) rfl (HL.out.below HB.out) (ints_one l) (by simp only [maxLen]; omega) (by omega) HB.out.size ?_; intro v1 w2 hown hb; have HB2 := Lib.hid (bto HB.out hb); have O1 := Lib.hid hown; refine hK _ _ ?_; clear hb hown hK)
  try go_ret
  exact ⟨_, rfl, O1.out, HB2.out⟩

set_option maxRecDepth 20000 in
set_option maxHeartbeats 4000000 in
theorem costOf_any (v v2 : Value) (r : Ros) (l : List Int) (w : World) (hv : RosAt w v r) (hvd : ROk r) (hl : Ints w v2 l) (hin : InL r.strs l) :
    Calls Try.prog 27 #[v, v2] w fun e w' => e = .returned (I (costL r.strs l)) ∧ Below w.heap.size w w' := by
  obtain ⟨rv, sv, rfl, hr, hs⟩ := hv
  obtain ⟨A1, c1, rfl, hr1, hr2, -⟩ := hr.open_
  obtain ⟨A2, c2, rfl, hs1, hs2, -⟩ := hs.open_
  have HR := Lib.hid hr
  have HS := Lib.hid hs
  clear hr hs
  have S := Lib.hid (show St w (w.alloc (.cells #[.slice A1 r.room.length c1, .slice A2 r.strs.length c2] 25)) (w.heap.size + 1) [.box w.heap.size [.slice A1 r.room.length c1, .slice A2 r.strs.length c2]] from (St.init w).alloc [.slice A1 r.room.length c1, .slice A2 r.strs.length c2] 25)
  obtain ⟨Al, cl, rfl, hl1, hl2, hlc⟩ := hl.open_
  have HLC := Lib.hid hlc
  obtain ⟨_, _, e, _, _, hsc⟩ := HS.out.open_
  injection e with e1 e2 e3
  subst e1
  have HSC := Lib.hid hsc
  have hl6 : l.length ≤ 6 := by rw [hin.len]; exact hvd.sl
  have HN := Lib.hid hin.len
  have HIN := Lib.hid hin
  have HVD := Lib.hid hvd
  clear e2 e3 hlc hl hsc hin hvd
  go_enter Try.func27, Try.ntmps27
  go_wp2_with fail
  go_loopw [5, 6] (fun u i wr => ∃ (k : Nat), k ≤ l.length ∧ i = I k ∧ u = I (sumW stepsI (r.strs.take k) (l.take k)) ∧ Hid (St w wr wr.heap.size [.box w.heap.size [.slice A1 r.room.length c1, .slice A2 r.strs.length c2]])) (fun _ i _ => l.length - (intOf i).toNat)
  case atStart => exact ⟨0, by omega, rfl, rfl, Lib.hid S.out.fix⟩
  case round =>
    clear S
    obtain ⟨k, hk, rfl, rfl, S⟩ := hrel
    by_cases hlt : k < l.length
    · have hki : (k : Int) < (l.length : Int) := by omega
      have hlt2 : k < r.strs.length := by have := HN.out; omega
      have hki2 : (k : Int) < (r.strs.length : Int) := by omega
      obtain ⟨b1, o1, rfl, hb1, hcell1⟩ := HLC.out (by omega)
      obtain ⟨b2, o2, rfl, hb2, hcell2⟩ := HSC.out (by omega)
      have hy := hcell2 k hlt2
      have x0 := hcell1 k hlt
      clear hcell1 hcell2
      have hsm := HIN.out.sml (fun s hs => (HVD.out.so s hs).1) k hlt2 hlt
      have hbd := costTo_bd HIN.out HVD.out.strs HVD.out.sl k
      have h72 := steps_bd72 (HVD.out.strs _ (List.getElem_mem hlt2)) (HIN.out.inn k hlt2 hlt).1 (HIN.out.inn k hlt2 hlt).2
      have hstep := sumW_snoc stepsI r.strs l k hlt2 hlt
      generalize sumW stepsI (r.strs.take k) (l.take k) = acc at hstep hbd ⊢
      obtain ⟨s, hs⟩ : ∃ s, r.strs[k] = s := ⟨_, rfl⟩
      obtain ⟨hh, hhe⟩ : ∃ x, l[k] = x := ⟨_, rfl⟩
      rw [hs] at hy hsm hstep h72
      rw [hhe] at x0 hsm hstep h72
      rw [show stepsI s hh = moveI s hh * s.cost from rfl] at hstep h72
      obtain ⟨mv, hmv⟩ : ∃ x, moveI s hh = x := ⟨_, rfl⟩
      rw [hmv] at hstep h72
      have HST := Lib.hid hstep
      have HMV := Lib.hid hmv
      have HY := Lib.hid hy
      have X0 := Lib.hid x0
      have HSM := Lib.hid hsm
      have i1 : IntKind.i64.wrap (mv * s.cost) = mv * s.cost := IntWalk.i64_in _ (by omega)
      have i2 : IntKind.i64.wrap (acc + mv * s.cost) = acc + mv * s.cost := IntWalk.i64_in _ (by omega)
      clear hs hhe hmv hy x0 hsm hstep
      go_wp2_with fail
      refine wp_region_seg [([0, 1, 2, 3, 4, 5, 6, 7, 8, 9, 11, 12, 13, 14, 15, 16], 10)] [17, 18, 19] [] 20 (by kernel_rfl) (by kernel_rfl) ?_
      intro KQ hKQ w2 hb
      have S := Lib.hid (S.out.call hb)
      clear hb
      have q1_1 := cell_regrown (S.out.get 0 1 rfl rfl)
      have y0 := cell_regrown (keep_cell S.out.bel HY.out.1)
      have y1 := cell_regrown (keep_cell S.out.bel HY.out.2.1)
      have y2 := cell_regrown (keep_cell S.out.bel HY.out.2.2.1)
      have y3 := cell_regrown (keep_cell S.out.bel HY.out.2.2.2)
      have y4 := cell_regrown (keep_cell S.out.bel X0.out)
      refine seg_next ?_
      simp only [opsAt, List.filterMap_cons, List.filterMap_nil, List.getElem?_toArray, List.getElem?_cons_succ, List.getElem?_cons_zero]
      repeat (first | go_big_quiet_step (fail) | quiet_step (fail))
      refine wpQuiet_nil ?_
      intro K hK
      refine loud_op rfl rfl ?_
      go_simp
      refine (rMove_any s hh _ HSM.out).mono ?_
      rintro e w3 ⟨rfl, hb⟩
      rw [HMV.out]
      have S := Lib.hid (S.out.call hb)
      refine hK _ _ hb ?_
      clear hK K hb q1_1 y0 y1 y2 y3 y4
      refine seg_last ?_
      simp only [opsAt, List.filterMap_cons, List.filterMap_nil, List.getElem?_toArray, List.getElem?_cons_succ, List.getElem?_cons_zero]
      repeat (first | go_big_quiet_step (fail) | quiet_step (fail))
      refine wpQuiet_nil ?_
      go_wp2_with fail
      try go_frame
      go_roundw
      case rel => exact ⟨k + 1, by omega, by go_num, by rw [HST.out], S⟩
      case measure => first | (simp [intOf]; done) | (simp [intOf]; omega)
    · obtain rfl : k = l.length := by omega
      go_wp2_with fail
      go_ret
      refine ⟨?_, S.out.bel⟩
      rw [List.take_length, HN.out, List.take_length]
      rfl

end Go.Proofs.Ytokendenofbnhaa
