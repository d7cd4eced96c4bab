/- Walks of Flow, Loss, Whole, Lossy. -/
import Derived.Test.YtldcehhhndlhdaaC11
import Derived.Test.YtldcehhhndlhdaaC10
import Derived.Test.YtldcehhhndlhdaaC3
import Derived.Maps.AppendAt
import Derived.Lib.LazyBuf
namespace Go.Proofs.Ytldcehhhndlhdaa
open Go.RowKit Go.Sort

theorem flowsR_bd {d : DLine} {is : Bool} (h : (flowsR d is).2 = 0) : valid d = true ∧ is = true ∧ (flowsR d is).1 = flowsL d ∧ clashO d = none := by
  unfold flowsR at h ⊢
  by_cases h0 : askE d is = 0
  · obtain ⟨h1, h2⟩ := askE_ok h0
    rw [if_pos h0] at h ⊢
    by_cases hc : (clashO d).isSome = true
    · rw [if_pos hc] at h; cases h
    · rw [if_neg hc]; exact ⟨h1, h2, rfl, by simpa using hc⟩
  · rw [if_neg h0] at h; exact absurd h h0
theorem flowsL_bd {d : DLine} (h : valid d = true) : ∀ s ∈ flowsL d, (0 ≤ s.1 ∧ s.1 ≤ 99) ∧ 0 ≤ s.2 ∧ s.2 ≤ 99 := by
  intro s hs
  obtain ⟨i, hi, rfl⟩ := List.mem_map.1 hs
  have hi := List.mem_range.1 hi
  exact ⟨loSuf_bd h (d.pts.length - i) i (by omega), hiPre_bd h (i + 1)⟩
theorem isPt_spec {d : DLine} {n : Int} (h : isPt d n = true) : 0 ≤ n ∧ n < d.pts.length := by
  simp [isPt, inR] at h; omega
theorem isSt_spec {d : DLine} {n : Int} (h : isSt d n = true) : 0 ≤ n ∧ n < d.odds.length := by
  simp [isSt, inR] at h; omega
def flowR (d : DLine) (p : Int) : (Int × Int) × Int := if (flowsR d (isPt d p)).2 = 0 then (flowAt d p.toNat, 0) else ((0, 0), (flowsR d (isPt d p)).2)

set_option maxRecDepth 20000 in
set_option maxHeartbeats 2000000 in
theorem flow_any (v : Value) (d : DLine) (p : Int) (w : World) (hv : LineAt w v d) (hlen : d.odds.length ≤ 1000) (hlen' : d.pts.length ≤ 1000) :
    Calls Try.prog 33 #[v, I p] w fun e w' => e = .returned (.tuple #[.agg #[I (flowR d p).1.1, I (flowR d p).1.2], I (flowR d p).2]) ∧ Below w.heap.size w w' := by
  have HV := Lib.hid hv
  obtain ⟨pv, ov, rfl, hp, ho⟩ := hv
  have hb0 : ∀ x y, Below w.heap.size w ((w.alloc x).alloc y) := fun x y => ((Below.refl _ _).alloc (Nat.le_refl _) _).alloc (by simp) _
  clear hp ho
  have B0 := (Box2.new w pv ov 25).old (.cells #[I 0, I 0] 29)
  have B1 := (Box2.new (w.alloc (.cells #[pv, ov] 25)) (I 0) (I 0) 29).at_ (show _ = w.heap.size + 1 by simp)
  go_enter Try.func33, Try.ntmps33
  go_wp2_with fail
  refine wp_region_seg [([0, 1, 2], 3), ([], 4)] [5, 6, 7, 8] [9] 9 (by kernel_rfl) (by kernel_rfl) ?_
  intro KQ hKQ w1 hb1
  have B0 := B0.keep hb1
  have B1 := B1.keep hb1
  have k0 := cell_regrown B0.c0
  have k1 := cell_regrown B0.c1
  refine seg_next ?_
  simp only [opsAt, List.filterMap_cons, List.filterMap_nil, List.getElem?_toArray, List.getElem?_cons_succ, List.getElem?_cons_zero]
  repeat (first | go_big_quiet_step (fail) | quiet_step (fail))
  refine wpQuiet_nil ?_
  intro K hK
  refine loud_op rfl rfl ?_
  go_simp
  refine (isPt_any _ d _ _ (HV.out.below (bto (hb0 _ _) hb1)) hlen').mono ?_
  rintro e w2 ⟨rfl, hb2⟩
  refine hK _ _ hb2 ?_
  clear hK K k0 k1
  refine seg_next ?_
  simp only [opsAt, List.filterMap_nil]
  refine wpQuiet_nil ?_
  intro K hK
  refine loud_op rfl rfl ?_
  go_simp
  refine (flows_any _ d _ _ (HV.out.below (bto (hb0 _ _) (bto hb1 hb2))) hlen hlen').mono ?_
  rintro e w3 ⟨sv, rfl, hsp, hb3⟩
  refine hK _ _ hb3 ?_
  clear hK K
  refine seg_last ?_
  simp only [opsAt, List.filterMap_cons, List.filterMap_nil, List.getElem?_toArray, List.getElem?_cons_succ, List.getElem?_cons_zero]
  repeat (first | go_big_quiet_step (fail) | quiet_step (fail))
  refine wpQuiet_nil ?_
  obtain ⟨x0, x1, x2, x3⟩ := (B1.keep hb2).keep hb3
  obtain ⟨r1, r2⟩ := res2 x0 x1
  have HW := Lib.hid (bto (hb0 (.cells #[pv, ov] 25) (.cells #[I 0, I 0] 29)) (bto hb1 (bto hb2 hb3)))
  clear hb1 hb2 hb3 B0 B1
  by_cases h0 : (flowsR d (isPt d p)).2 = 0
  · obtain ⟨hvd, hpt, hfl, _⟩ := flowsR_bd h0
    obtain ⟨hp0, hp1⟩ := isPt_spec hpt
    have hR : flowR d p = (flowAt d p.toNat, 0) := by unfold flowR; rw [if_pos h0]
    have HR := Lib.hid hR
    rw [hfl] at hsp
    obtain ⟨p, rfl⟩ := Int.eq_ofNat_of_zero_le hp0
    obtain ⟨A, c, rfl, _, _, hcell⟩ := hsp.open_
    have hpl : p < (flowsL d).length := by simp [flowsL]; omega
    obtain ⟨b, o, rfl, hbl, hcell⟩ := hcell (by omega)
    obtain ⟨y1, y2⟩ := hcell p hpl
    have hfe : (flowsL d)[p] = flowAt d p := by simp [flowsL]
    rw [hfe] at y1 y2
    have hpl' : (p : Int) < ((flowsL d).length : Int) := by omega
    clear hcell hfe hfl hpt hR
    go_wp2_with fail
    refine bodyPost_ret (v := .tuple #[.agg #[I (flowAt d p).1, I (flowAt d p).2], I 0]) (by simp [results, Try.results33, go_sem, r1, r2]) rfl ⟨by rw [HR.out]; simp only [Int.toNat_natCast], ?_⟩
    exact (HW.out.setCell (p := ⟨w.heap.size + 1, 0, none⟩) (by simp) _).setCell (p := ⟨w.heap.size + 1, 1, none⟩) (by simp) _
  · have hR : flowR d p = ((0, 0), (flowsR d (isPt d p)).2) := by unfold flowR; rw [if_neg h0]
    have HR := Lib.hid hR
    have h0' : ((flowsR d (isPt d p)).2 != 0) = true := by simpa using h0
    clear hR h0 hsp
    go_wp2_with fail
    refine bodyPost_ret (v := .tuple #[.agg #[I 0, I 0], I (flowsR d (isPt d p)).2]) (by simp [results, Try.results33, go_sem, r1, r2]) rfl ⟨by rw [HR.out], ?_⟩
    exact (HW.out.setCell (p := ⟨w.heap.size + 1, 0, none⟩) (by simp) _).setCell (p := ⟨w.heap.size + 1, 1, none⟩) (by simp) _
end Go.Proofs.Ytldcehhhndlhdaa
/- append from whatever source; slices.Clone; a line in new memory (Copy, Freed). -/
namespace Go.Proofs.Ytldcehhhndlhdaa
open Go.RowKit Go.Sort

theorem Try.info39 : (Try.prog.info? 39).map (fun i => (i.zero, i.size, i.bytes)) = some (some (.agg #[.int .i64 0, .int .i64 0, .int .i64 0]), 3, 24) := by kernel_rfl
theorem pts_one (ps : List Pt) : ∀ u ∈ ptCells ps, u.oneCell' = true := fun u hu => by
  obtain ⟨p, _, hu⟩ := List.mem_flatMap.1 hu
  simp [Pt.cells] at hu
  rcases hu with rfl | rfl | rfl <;> rfl
/-- A line in memory that the call has made. -/
def OwnLine (w : World) (base : Nat) (v : Value) (d : DLine) : Prop := ∃ pv ov, v = .agg #[pv, ov] ∧ w.ownsRow base 39 3 pv d.pts.length (ptCells d.pts) ∧ w.ownsRow base 3 1 ov d.odds.length (d.odds.map I)
theorem OwnLine.line {w : World} {base : Nat} {v : Value} {d : DLine} (h : OwnLine w base v d) : LineAt w v d := by
  obtain ⟨pv, ov, rfl, hp, ho⟩ := h
  exact ⟨pv, ov, rfl, Reads.of_own hp, Reads.of_own ho⟩
theorem OwnLine.below {w w' : World} {base : Nat} {v : Value} {d : DLine} (h : OwnLine w base v d) (hb : Below w.heap.size w w') : OwnLine w' base v d := by
  obtain ⟨pv, ov, rfl, hp, ho⟩ := h
  exact ⟨pv, ov, rfl, own_below hp hb, own_below ho hb⟩

set_option maxRecDepth 20000 in
set_option maxHeartbeats 2000000 in
theorem copy_any (v : Value) (d : DLine) (w : World) (hv : LineAt w v d) (hlen : d.odds.length ≤ 1000) (hlen' : d.pts.length ≤ 1000) :
    Calls Try.prog 14 #[v] w fun e w' => ∃ v', e = .returned v' ∧ OwnLine w' w.heap.size v' d ∧ Below w.heap.size w w' := by
  obtain ⟨pv, ov, rfl, hp, ho⟩ := hv
  obtain ⟨iP, hiP, hiP0, hiP1, hiP2⟩ := info_parts Try.info39
  obtain ⟨iO, hiO, hiO0, hiO1, hiO2⟩ := info_parts Try.info3
  have hiP3 : 0 < 3 := by omega
  have hiO3 : 0 < 1 := by omega
  have hiP4 : d.pts.length ≤ maxLen := by simp only [maxLen]; omega
  have hiP5 : d.pts.length * 24 ≤ 140737488355328 := by omega
  have hiO4 : d.odds.length ≤ maxLen := by simp only [maxLen]; omega
  have hiO5 : d.odds.length * 8 ≤ 140737488355328 := by omega
  have hb0 : ∀ x y, Below w.heap.size w ((w.alloc x).alloc y) := fun x y => ((Below.refl _ _).alloc (Nat.le_refl _) _).alloc (by simp) _
  have B0 := (Box2.new w pv ov 25).old (.cells #[.slice none 0 0, .slice none 0 0] 25)
  have B1 := (Box2.new (w.alloc (.cells #[pv, ov] 25)) (.slice none 0 0) (.slice none 0 0) 25).at_ (show _ = w.heap.size + 1 by simp)
  go_enter Try.func14, Try.ntmps14
  go_wp2_with fail
  refine wp_region_tree (.node [1, 2, 5, 6] [0, 4] fun l => if l = 0 then .node [] [3, 4] (fun l => if l = 3 then .node [] [4] (fun _ => .node [] [7] fun _ => .node [] [8] fun _ => .last [] [9]) else .node [] [3] (fun _ => .node [] [7] fun _ => .node [] [8] fun _ => .last [] [9])) else .node [] [0] (fun _ => .node [] [3] fun _ => .node [] [7] fun _ => .node [] [8] fun _ => .last [] [9])) 9 (by kernel_rfl) (by kernel_rfl) ?_
  intro KQ hKQ w1 hb1
  have B0 := B0.keep hb1
  have B1 := B1.keep hb1
  have k0 := cell_regrown B0.c0
  have k1 := cell_regrown B0.c1
  refine tree_node ?_
  simp only [opsAt, List.filterMap_cons, List.filterMap_nil, List.getElem?_toArray, List.getElem?_cons_succ, List.getElem?_cons_zero]
  repeat (first | go_big_quiet_step (fail) | quiet_step (fail))
  refine wpQuiet_nil ?_
  have hbw : Below w.heap.size w w1 := bto (hb0 _ _) hb1
  have hlt : w.heap.size + 1 < w1.heap.size := B1.lt
  have c1 := Below.refl w1.heap.size w1
  clear k0 k1 B0
  refine all_two ?_ ?_
  · intro K hK
    refine loud_op rfl rfl ?_
    go_simp
    have hst : Below w1.heap.size w1 (w1.alloc (.cells #[] 39)) := (Below.refl _ _).alloc (Nat.le_refl _) _
    refine hK _ _ hst ?_
    have hgP : (w1.alloc (.cells #[] 39)).heap[w1.heap.size]? = some (.cells #[] 39 (0, 0)) := heap_alloc_new w1 _
    have hbP : w1.heap.size ≤ w1.heap.size := c1.size
    have hlP : w1.heap.size < (w1.alloc (.cells #[] 39)).heap.size := by simp
    obtain ⟨v2, hv2⟩ : ∃ y, w1.alloc (.cells #[] 39) = y := ⟨_, rfl⟩
    rw [hv2] at hst hgP hlP ⊢
    clear hv2 hK K
    have B1 := B1.keep hst
    have cv2 := bto c1 hst
    clear hst
    refine tree_node ?_
    simp only [opsAt, List.filterMap_nil]
    refine wpQuiet_nil ?_
    refine all_two ?_ ?_
    · intro K hK
      refine loud_op rfl rfl ?_
      refine wp_append_fresh _ _ _ 22 rfl w1.heap.size 39 iP (.agg #[.int .i64 0, .int .i64 0, .int .i64 0]) 3 24 Try.underlying22 hiP hiP0 hiP1 hiP2 rfl hiP3 _ rfl hgP hbP _ _ _ rfl (Reads.below hp (bto hbw cv2)) (pts_one _) hiP4 hiP5 cv2.size ?_
      intro rP v3 ownP hst
      go_simp
      refine hK _ _ hst ?_
      clear hK K
      have B1 := B1.keep hst
      have cv3 := bto cv2 hst
      have hgP := (hst.block _ hlP).trans hgP
      have hlP := Nat.lt_of_lt_of_le hlP hst.size
      clear hst
      refine tree_node ?_
      simp only [opsAt, List.filterMap_nil]
      refine wpQuiet_nil ?_
      refine all_one ?_
      intro K hK
      refine loud_op rfl rfl ?_
      go_simp
      have hst : Below v3.heap.size v3 (v3.alloc (.cells #[] 3)) := (Below.refl _ _).alloc (Nat.le_refl _) _
      refine hK _ _ hst ?_
      have hgO : (v3.alloc (.cells #[] 3)).heap[v3.heap.size]? = some (.cells #[] 3 (0, 0)) := heap_alloc_new v3 _
      have hbO : w1.heap.size ≤ v3.heap.size := cv3.size
      have hlO : v3.heap.size < (v3.alloc (.cells #[] 3)).heap.size := by simp
      obtain ⟨v4, hv4⟩ : ∃ y, v3.alloc (.cells #[] 3) = y := ⟨_, rfl⟩
      rw [hv4] at hst hgO hlO ⊢
      clear hv4 hK K
      have B1 := B1.keep hst
      have cv4 := bto cv3 hst
      have ownP := own_below ownP hst
      clear hst
      refine tree_node ?_
      simp only [opsAt, List.filterMap_nil]
      refine wpQuiet_nil ?_
      refine all_one ?_
      intro K hK
      refine loud_op rfl rfl ?_
      refine wp_append_fresh _ _ _ 23 rfl w1.heap.size 3 iO (.int .i64 0) 1 8 Try.underlying23 hiO hiO0 hiO1 hiO2 rfl hiO3 _ rfl hgO hbO _ _ _ rfl (Reads.below ho (bto hbw cv4)) (ints_one _) hiO4 hiO5 cv4.size ?_
      intro rO v5 ownO hst
      go_simp
      refine hK _ _ hst ?_
      clear hK K
      have B1 := B1.keep hst
      have cv5 := bto cv4 hst
      have ownP := own_below ownP hst
      have hgO := (hst.block _ hlO).trans hgO
      have hlO := Nat.lt_of_lt_of_le hlO hst.size
      clear hst
      refine tree_node ?_
      simp only [opsAt, List.filterMap_nil]
      refine wpQuiet_nil ?_
      refine all_one ?_
      obtain ⟨aP, cP, rfl⟩ := own_shape ownP
      obtain ⟨aO, cO, rfl⟩ := own_shape ownO
      intro K hK
      refine loud_op rfl rfl ?_
      go_simp
      refine hK _ _ (Below.refl _ _) ?_
      clear hK K
      refine tree_last ?_
      simp only [opsAt, List.filterMap_nil, List.filterMap_cons, List.getElem?_toArray, List.getElem?_cons_succ, List.getElem?_cons_zero]
      refine wpQuiet_nil ?_
      obtain ⟨x0, x1, x2, x3⟩ := B1
      obtain ⟨r1, r2⟩ := res2 x0 x1
      go_wp2_with fail
      refine bodyPost_ret (v := .agg #[.slice aP d.pts.length cP, .slice aO d.odds.length cO]) (by simp [results, Try.results14, go_sem, r1, r2]) rfl ⟨_, rfl, ⟨_, _, rfl, own_base' (own_setCell (own_setCell ownP _ _ hlt) _ _ hlt) hbw.size, own_base' (own_setCell (own_setCell ownO _ _ hlt) _ _ hlt) hbw.size⟩, ?_⟩
      exact ((bto hbw cv5).setCell (p := ⟨w.heap.size + 1, 0, none⟩) (by simp) _).setCell (p := ⟨w.heap.size + 1, 1, none⟩) (by simp) _
    · intro K hK
      refine loud_op rfl rfl ?_
      go_simp
      have hst : Below v2.heap.size v2 (v2.alloc (.cells #[] 3)) := (Below.refl _ _).alloc (Nat.le_refl _) _
      refine hK _ _ hst ?_
      have hgO : (v2.alloc (.cells #[] 3)).heap[v2.heap.size]? = some (.cells #[] 3 (0, 0)) := heap_alloc_new v2 _
      have hbO : w1.heap.size ≤ v2.heap.size := cv2.size
      have hlO : v2.heap.size < (v2.alloc (.cells #[] 3)).heap.size := by simp
      obtain ⟨v3, hv3⟩ : ∃ y, v2.alloc (.cells #[] 3) = y := ⟨_, rfl⟩
      rw [hv3] at hst hgO hlO ⊢
      clear hv3 hK K
      have B1 := B1.keep hst
      have cv3 := bto cv2 hst
      have hgP := (hst.block _ hlP).trans hgP
      have hlP := Nat.lt_of_lt_of_le hlP hst.size
      clear hst
      refine tree_node ?_
      simp only [opsAt, List.filterMap_nil]
      refine wpQuiet_nil ?_
      refine all_one ?_
      intro K hK
      refine loud_op rfl rfl ?_
      refine wp_append_fresh _ _ _ 22 rfl w1.heap.size 39 iP (.agg #[.int .i64 0, .int .i64 0, .int .i64 0]) 3 24 Try.underlying22 hiP hiP0 hiP1 hiP2 rfl hiP3 _ rfl hgP hbP _ _ _ rfl (Reads.below hp (bto hbw cv3)) (pts_one _) hiP4 hiP5 cv3.size ?_
      intro rP v4 ownP hst
      go_simp
      refine hK _ _ hst ?_
      clear hK K
      have B1 := B1.keep hst
      have cv4 := bto cv3 hst
      have hgP := (hst.block _ hlP).trans hgP
      have hlP := Nat.lt_of_lt_of_le hlP hst.size
      have hgO := (hst.block _ hlO).trans hgO
      have hlO := Nat.lt_of_lt_of_le hlO hst.size
      clear hst
      refine tree_node ?_
      simp only [opsAt, List.filterMap_nil]
      refine wpQuiet_nil ?_
      refine all_one ?_
      intro K hK
      refine loud_op rfl rfl ?_
      refine wp_append_fresh _ _ _ 23 rfl w1.heap.size 3 iO (.int .i64 0) 1 8 Try.underlying23 hiO hiO0 hiO1 hiO2 rfl hiO3 _ rfl hgO hbO _ _ _ rfl (Reads.below ho (bto hbw cv4)) (ints_one _) hiO4 hiO5 cv4.size ?_
      intro rO v5 ownO hst
      go_simp
      refine hK _ _ hst ?_
      clear hK K
      have B1 := B1.keep hst
      have cv5 := bto cv4 hst
      have hgO := (hst.block _ hlO).trans hgO
      have hlO := Nat.lt_of_lt_of_le hlO hst.size
      have ownP := own_below ownP hst
      clear hst
      refine tree_node ?_
      simp only [opsAt, List.filterMap_nil]
      refine wpQuiet_nil ?_
      refine all_one ?_
      obtain ⟨aP, cP, rfl⟩ := own_shape ownP
      obtain ⟨aO, cO, rfl⟩ := own_shape ownO
      intro K hK
      refine loud_op rfl rfl ?_
      go_simp
      refine hK _ _ (Below.refl _ _) ?_
      clear hK K
      refine tree_last ?_
      simp only [opsAt, List.filterMap_nil, List.filterMap_cons, List.getElem?_toArray, List.getElem?_cons_succ, List.getElem?_cons_zero]
      refine wpQuiet_nil ?_
      obtain ⟨x0, x1, x2, x3⟩ := B1
      obtain ⟨r1, r2⟩ := res2 x0 x1
      go_wp2_with fail
      refine bodyPost_ret (v := .agg #[.slice aP d.pts.length cP, .slice aO d.odds.length cO]) (by simp [results, Try.results14, go_sem, r1, r2]) rfl ⟨_, rfl, ⟨_, _, rfl, own_base' (own_setCell (own_setCell ownP _ _ hlt) _ _ hlt) hbw.size, own_base' (own_setCell (own_setCell ownO _ _ hlt) _ _ hlt) hbw.size⟩, ?_⟩
      exact ((bto hbw cv5).setCell (p := ⟨w.heap.size + 1, 0, none⟩) (by simp) _).setCell (p := ⟨w.heap.size + 1, 1, none⟩) (by simp) _
  · intro K hK
    refine loud_op rfl rfl ?_
    go_simp
    have hst : Below w1.heap.size w1 (w1.alloc (.cells #[] 3)) := (Below.refl _ _).alloc (Nat.le_refl _) _
    refine hK _ _ hst ?_
    have hgO : (w1.alloc (.cells #[] 3)).heap[w1.heap.size]? = some (.cells #[] 3 (0, 0)) := heap_alloc_new w1 _
    have hbO : w1.heap.size ≤ w1.heap.size := c1.size
    have hlO : w1.heap.size < (w1.alloc (.cells #[] 3)).heap.size := by simp
    obtain ⟨v2, hv2⟩ : ∃ y, w1.alloc (.cells #[] 3) = y := ⟨_, rfl⟩
    rw [hv2] at hst hgO hlO ⊢
    clear hv2 hK K
    have B1 := B1.keep hst
    have cv2 := bto c1 hst
    clear hst
    refine tree_node ?_
    simp only [opsAt, List.filterMap_nil]
    refine wpQuiet_nil ?_
    refine all_one ?_
    intro K hK
    refine loud_op rfl rfl ?_
    go_simp
    have hst : Below v2.heap.size v2 (v2.alloc (.cells #[] 39)) := (Below.refl _ _).alloc (Nat.le_refl _) _
    refine hK _ _ hst ?_
    have hgP : (v2.alloc (.cells #[] 39)).heap[v2.heap.size]? = some (.cells #[] 39 (0, 0)) := heap_alloc_new v2 _
    have hbP : w1.heap.size ≤ v2.heap.size := cv2.size
    have hlP : v2.heap.size < (v2.alloc (.cells #[] 39)).heap.size := by simp
    obtain ⟨v3, hv3⟩ : ∃ y, v2.alloc (.cells #[] 39) = y := ⟨_, rfl⟩
    rw [hv3] at hst hgP hlP ⊢
    clear hv3 hK K
    have B1 := B1.keep hst
    have cv3 := bto cv2 hst
    have hgO := (hst.block _ hlO).trans hgO
    have hlO := Nat.lt_of_lt_of_le hlO hst.size
    clear hst
    refine tree_node ?_
    simp only [opsAt, List.filterMap_nil]
    refine wpQuiet_nil ?_
    refine all_one ?_
    intro K hK
    refine loud_op rfl rfl ?_
    refine wp_append_fresh _ _ _ 22 rfl w1.heap.size 39 iP (.agg #[.int .i64 0, .int .i64 0, .int .i64 0]) 3 24 Try.underlying22 hiP hiP0 hiP1 hiP2 rfl hiP3 _ rfl hgP hbP _ _ _ rfl (Reads.below hp (bto hbw cv3)) (pts_one _) hiP4 hiP5 cv3.size ?_
    intro rP v4 ownP hst
    go_simp
    refine hK _ _ hst ?_
    clear hK K
    have B1 := B1.keep hst
    have cv4 := bto cv3 hst
    have hgO := (hst.block _ hlO).trans hgO
    have hlO := Nat.lt_of_lt_of_le hlO hst.size
    have hgP := (hst.block _ hlP).trans hgP
    have hlP := Nat.lt_of_lt_of_le hlP hst.size
    clear hst
    refine tree_node ?_
    simp only [opsAt, List.filterMap_nil]
    refine wpQuiet_nil ?_
    refine all_one ?_
    intro K hK
    refine loud_op rfl rfl ?_
    refine wp_append_fresh _ _ _ 23 rfl w1.heap.size 3 iO (.int .i64 0) 1 8 Try.underlying23 hiO hiO0 hiO1 hiO2 rfl hiO3 _ rfl hgO hbO _ _ _ rfl (Reads.below ho (bto hbw cv4)) (ints_one _) hiO4 hiO5 cv4.size ?_
    intro rO v5 ownO hst
    go_simp
    refine hK _ _ hst ?_
    clear hK K
    have B1 := B1.keep hst
    have cv5 := bto cv4 hst
    have hgO := (hst.block _ hlO).trans hgO
    have hlO := Nat.lt_of_lt_of_le hlO hst.size
    have ownP := own_below ownP hst
    clear hst
    refine tree_node ?_
    simp only [opsAt, List.filterMap_nil]
    refine wpQuiet_nil ?_
    refine all_one ?_
    obtain ⟨aP, cP, rfl⟩ := own_shape ownP
    obtain ⟨aO, cO, rfl⟩ := own_shape ownO
    intro K hK
    refine loud_op rfl rfl ?_
    go_simp
    refine hK _ _ (Below.refl _ _) ?_
    clear hK K
    refine tree_last ?_
    simp only [opsAt, List.filterMap_nil, List.filterMap_cons, List.getElem?_toArray, List.getElem?_cons_succ, List.getElem?_cons_zero]
    refine wpQuiet_nil ?_
    obtain ⟨x0, x1, x2, x3⟩ := B1
    obtain ⟨r1, r2⟩ := res2 x0 x1
    go_wp2_with fail
    refine bodyPost_ret (v := .agg #[.slice aP d.pts.length cP, .slice aO d.odds.length cO]) (by simp [results, Try.results14, go_sem, r1, r2]) rfl ⟨_, rfl, ⟨_, _, rfl, own_base' (own_setCell (own_setCell ownP _ _ hlt) _ _ hlt) hbw.size, own_base' (own_setCell (own_setCell ownO _ _ hlt) _ _ hlt) hbw.size⟩, ?_⟩
    exact ((bto hbw cv5).setCell (p := ⟨w.heap.size + 1, 0, none⟩) (by simp) _).setCell (p := ⟨w.heap.size + 1, 1, none⟩) (by simp) _
end Go.Proofs.Ytldcehhhndlhdaa
/- Walks of Loss, Whole, Free. -/
namespace Go.Proofs.Ytldcehhhndlhdaa
open Go.RowKit Go.Sort

def lossR (d : DLine) (p : Int) : (Int × Int) × Int := if (flowsR d (isSt d p)).2 = 0 then (lostF (flowsL d) p.toNat (p.toNat + 1), 0) else ((0, 0), (flowsR d (isSt d p)).2)
def wholeR (d : DLine) : (Int × Int) × Int := if (flowsR d true).2 = 0 then (lostF (flowsL d) 0 d.odds.length, 0) else ((0, 0), (flowsR d true).2)
/-- A line one of whose points costs so much. -/
def setCost (d : DLine) (p : Nat) (c : Int) : DLine := { d with pts := d.pts.modify p fun x => { x with cost := c } }
def freeR (d : DLine) (p : Int) : Int × Int := if askE d (isPt d p) = 0 then (if d.odds.length = 0 then (0, 3) else (worstN d 0 d.odds.length - worstN (setCost d p.toNat 0) 0 d.odds.length, 0)) else (0, askE d (isPt d p))

set_option maxRecDepth 20000 in
set_option maxHeartbeats 2000000 in
theorem whole_any (v : Value) (d : DLine) (w : World) (hv : LineAt w v d) (hlen : d.odds.length ≤ 1000) (hlen' : d.pts.length ≤ 1000) :
    Calls Try.prog 30 #[v] w fun e w' => e = .returned (.tuple #[.agg #[I (wholeR d).1.1, I (wholeR d).1.2], I (wholeR d).2]) ∧ Below w.heap.size w w' := by
  have HV := Lib.hid hv
  obtain ⟨pv, ov, rfl, hp, ho⟩ := hv
  obtain ⟨A, c, rfl, hac, hcm, _⟩ := ho.open_
  have hb0 : ∀ x y, Below w.heap.size w ((w.alloc x).alloc y) := fun x y => ((Below.refl _ _).alloc (Nat.le_refl _) _).alloc (by simp) _
  clear hp ho
  have B0 := (Box2.new w pv (.slice A d.odds.length c) 25).old (.cells #[I 0, I 0] 29)
  have B1 := (Box2.new (w.alloc (.cells #[pv, .slice A d.odds.length c] 25)) (I 0) (I 0) 29).at_ (show _ = w.heap.size + 1 by simp)
  by_cases h0 : (flowsR d true).2 = 0
  · obtain ⟨hvd, _, hfl, _⟩ := flowsR_bd h0
    have hR : wholeR d = (lostF (flowsL d) 0 d.odds.length, 0) := by unfold wholeR; rw [if_pos h0]
    have HR := Lib.hid hR
    obtain ⟨hv7, hvl, _⟩ := valid_spec hvd
    have hpl : (flowsL d).length = d.pts.length := by simp [flowsL]
    have HBD := Lib.hid (flowsL_bd hvd)
    have hx1 : (d.odds.length : Int) < ((flowsL d).length : Int) := by omega
    have hx2 : (0 : Int) < ((flowsL d).length : Int) := by omega
    have HX := Lib.hid (And.intro (Int.le_refl 0) (And.intro (Int.natCast_nonneg d.odds.length) (And.intro hx2 hx1)))
    have HE := Lib.hid hfl
    clear hx1 hx2 hfl hR hpl
    go_enter Try.func30, Try.ntmps30
    go_wp2_with (first | (go_at_call 52; refine (flows_any _ d _ _ (HV.out.below (hb0 _ _)) hlen hlen').mono ?_; rintro e w3 ⟨sv, rfl, hsp, hb3⟩; rw [HE.out] at hsp; have B2 := B0.keep hb3; have B3 := B1.keep hb3; obtain ⟨y0, y1, y2, y3⟩ := B2; obtain ⟨x0, x1, x2, x3⟩ := B3; have HSP := Lib.hid hsp; have HB3 := Lib.hid hb3; clear hsp hb3) | (go_at_call 53; refine (lost_any _ (flowsL d) _ _ _ HSP.out HX.out.1 HX.out.2.1 HX.out.2.2.1 HX.out.2.2.2 HBD.out).mono ?_; rintro e w4 ⟨rfl, hb4⟩; have B4 := (Box2.mk x0 x1 x2 x3).keep hb4; obtain ⟨z0, z1, z2, z3⟩ := B4; obtain ⟨s1, s2⟩ := res2 z0 z1; have HB4 := Lib.hid hb4; clear hb4; rw [Int.toNat_natCast, Int.toNat_zero]))
    refine bodyPost_ret (v := .tuple #[.agg #[I (lostF (flowsL d) 0 d.odds.length).1, I (lostF (flowsL d) 0 d.odds.length).2], I 0]) (by simp [results, Try.results30, go_sem, s1, s2]) rfl ⟨by rw [HR.out], ?_⟩
    exact ((bto (hb0 _ _) (bto HB3.out HB4.out)).setCell (p := ⟨w.heap.size + 1, 0, none⟩) (by simp) _).setCell (p := ⟨w.heap.size + 1, 1, none⟩) (by simp) _
  · have hR : wholeR d = ((0, 0), (flowsR d true).2) := by unfold wholeR; rw [if_neg h0]
    have HR := Lib.hid hR
    have h0' : ((flowsR d true).2 != 0) = true := by simpa using h0
    clear hR h0
    go_enter Try.func30, Try.ntmps30
    go_wp2_with (go_at_call 52; refine (flows_any _ d _ _ (HV.out.below (hb0 _ _)) hlen hlen').mono ?_; rintro e w3 ⟨sv, rfl, hsp, hb3⟩; have B3 := B1.keep hb3; obtain ⟨x0, x1, x2, x3⟩ := B3; obtain ⟨s1, s2⟩ := res2 x0 x1; have HB3 := Lib.hid hb3; clear hsp hb3)
    refine bodyPost_ret (v := .tuple #[.agg #[I 0, I 0], I (flowsR d true).2]) (by simp [results, Try.results30, go_sem, s1, s2]) rfl ⟨by rw [HR.out], ?_⟩
    exact ((bto (hb0 _ _) HB3.out).setCell (p := ⟨w.heap.size + 1, 0, none⟩) (by simp) _).setCell (p := ⟨w.heap.size + 1, 1, none⟩) (by simp) _
end Go.Proofs.Ytldcehhhndlhdaa
