/- Walks: the reference's Copy of a town of buckets. -/
import Derived.Test.YtldcehhhndlhdaaDoorC26
namespace Go.Proofs.YtldcehhhndlhdaaDoor
open Go.RowKit Go.Sort Go.Shelf

theorem wp_append_St {P : Program} {w0 w : World} {n : Nat} {L : List Item} (S : St w0 w n L) (i : Nat) {o : Oper} {a : Act} {K : Act → World → Prop} {Q : Exit → Act → World → Prop} (s x : Operand) (t : TypeId)
    (ho : o.op = .call { callee := .builtin .append, args := #[s, x], argTypes := #[t, t] })
    (e : TypeId) (inf : TypeInfo) (z : Value) (size bytes : Nat) (ht : P.underlying t = some (.slice e)) (hinf : P.info? e = some inf) (hz : inf.zero = some z)
    (hsize : inf.size = size) (hby : inf.bytes = bytes) (hzs : z.cells.size = size) (hsz : 0 < size)
    {v : Value} {len : Nat} {xs : List Value} (hi : L[i]? = some (.own e size v len xs)) (hs : a.eval s = v)
    (sv : Value) (m : Nat) (news : List Value) (hx : a.eval x = sv) (hr : Reads w size sv m news) (h1 : ∀ u ∈ news, u.oneCell' = true)
    (h63 : len + m ≤ maxLen) (hbytes : (len + m) * bytes ≤ 140737488355328)
    (h : ∀ v' w', St w0 w' w'.heap.size (L.set i (.own e size v' (len + m) (xs ++ news))) → w.grownBy w' v.ownBlock → K (a.put o.dst v') w') : o.wp P a w K Q :=
  wp_append_src w s x t ho w0.heap.size e inf z size bytes ht hinf hz hsize hby hzs hsz v len xs hs (S.own i hi) sv m news hx hr h1 h63 hbytes S.bel.size
    fun v' w' hown hg hv => h v' w' (S.grown i hi hown hg hv) hg
theorem sps_one (ss : List Sp) : ∀ u ∈ spCells ss, u.oneCell' = true := fun u hu => by
  obtain ⟨p, _, hu⟩ := List.mem_flatMap.1 hu
  simp at hu
  rcases hu with rfl | rfl <;> rfl
/-- A town of buckets in memory of the call's own. -/
def OwnB (w w' : World) (v : Value) (t : BTown) : Prop := ∃ hv wv yv, v = .agg #[hv, wv, yv] ∧ St w w' w'.heap.size [.own 3 1 hv t.hs.length (t.hs.map I), .own 3 1 wv t.ws.length (t.ws.map I), .own 102 2 yv t.ys.length (spCells t.ys)]

set_option maxRecDepth 20000 in
set_option maxHeartbeats 8000000 in
theorem copy3_any (v : Value) (t : BTown) (w : World) (hv : BAt w v t) (h1 : t.hs.length ≤ 1000) (h2 : t.ws.length ≤ 1000) (h3 : t.ys.length ≤ 1000) :
    Calls Tryd.prog 53 #[v] w fun e w' => ∃ v', e = .returned v' ∧ OwnB w w' v' t := by
  obtain ⟨hv0, wv, yv, rfl, hh, hw, hy⟩ := hv
  obtain ⟨A1, c1, rfl, -, -, -⟩ := id hh.open_
  obtain ⟨A2, c2, rfl, -, -, -⟩ := id hw.open_
  obtain ⟨A3, c3, rfl, -, -, -⟩ := id hy.open_
  have HH := Lib.hid (show Reads w 1 _ _ _ from hh)
  have HW := Lib.hid (show Reads w 1 _ _ _ from hw)
  have HY := Lib.hid (show Reads w 2 _ _ _ from hy)
  clear hh hw hy
  have S := Lib.hid (((St.init w).alloc [.slice A1 t.hs.length c1, .slice A2 t.ws.length c2, .slice A3 t.ys.length c3] 62).alloc [.slice none 0 0, .slice none 0 0, .slice none 0 0] 62)
  obtain ⟨hi0, hi, hz0, hz1, hz2⟩ := info_parts (P := Tryd.prog) (e := 3) (z := .int .i64 0) (size := 1) (bytes := 8) (by kernel_rfl)
  obtain ⟨ki0, ki, kz0, kz1, kz2⟩ := info_parts (P := Tryd.prog) (e := 102) (z := .agg #[.int .i64 0, .int .i64 0]) (size := 2) (bytes := 16) (by kernel_rfl)
  have hm0 : (0 : Nat) ≤ maxLen := by omega
  go_enter Tryd.func53, Tryd.ntmps53
  go_wp2_with fail
  refine wp_region_treeB (.node [1, 2, 5, 6, 9, 10] [0, 4, 8] (fun l => if l = 0 then .node [] [3, 4, 8] (fun l => if l = 3 then .node [] [4, 8] (fun l => if l = 4 then .node [] [7, 8] (fun l => if l = 7 then .node [] [8] (fun _ => .node [] [11] (fun _ => .last [12] [13])) else .node [] [7] (fun _ => .node [] [11] (fun _ => .last [12] [13]))) else .node [] [4] (fun _ => .node [] [7] (fun _ => .node [] [11] (fun _ => .last [12] [13])))) else if l = 4 then .node [] [3, 8] (fun l => if l = 3 then .node [] [7, 8] (fun l => if l = 7 then .node [] [8] (fun _ => .node [] [11] (fun _ => .last [12] [13])) else .node [] [7] (fun _ => .node [] [11] (fun _ => .last [12] [13]))) else .node [] [3] (fun _ => .node [] [7] (fun _ => .node [] [11] (fun _ => .last [12] [13])))) else .node [] [3, 4] (fun l => if l = 3 then .node [] [4] (fun _ => .node [] [7] (fun _ => .node [] [11] (fun _ => .last [12] [13]))) else .node [] [3] (fun _ => .node [] [7] (fun _ => .node [] [11] (fun _ => .last [12] [13]))))) else if l = 4 then .node [] [0, 8] (fun l => if l = 0 then .node [] [3, 8] (fun l => if l = 3 then .node [] [7, 8] (fun l => if l = 7 then .node [] [8] (fun _ => .node [] [11] (fun _ => .last [12] [13])) else .node [] [7] (fun _ => .node [] [11] (fun _ => .last [12] [13]))) else .node [] [3] (fun _ => .node [] [7] (fun _ => .node [] [11] (fun _ => .last [12] [13])))) else .node [] [0] (fun _ => .node [] [3] (fun _ => .node [] [7] (fun _ => .node [] [11] (fun _ => .last [12] [13]))))) else .node [] [0, 4] (fun l => if l = 0 then .node [] [3, 4] (fun l => if l = 3 then .node [] [4] (fun _ => .node [] [7] (fun _ => .node [] [11] (fun _ => .last [12] [13]))) else .node [] [3] (fun _ => .node [] [7] (fun _ => .node [] [11] (fun _ => .last [12] [13])))) else .node [] [0] (fun _ => .node [] [3] (fun _ => .node [] [7] (fun _ => .node [] [11] (fun _ => .last [12] [13]))))))) 13 (by kernel_rfl) (by kernel_rfl) ?_
  intro KQ hKQ v0 hbv
  have S := Lib.hid (S.out.call hbv)
  have HB := Lib.hid (Below.refl v0.heap.size v0)
  clear hbv
  have k0 := cell_regrown (S.out.get 1 0 rfl rfl)
  have k1 := cell_regrown (S.out.get 1 1 rfl rfl)
  have k2 := cell_regrown (S.out.get 1 2 rfl rfl)
  refine treeB_node ?_
  simp only [opsAt, List.filterMap_cons, List.filterMap_nil, List.getElem?_toArray, List.getElem?_cons_succ, List.getElem?_cons_zero]
  show wpQuiet _ _ _ _ [_, _, _, _, _, _] _
  repeat (first | go_big_quiet_step (fail) | quiet_step (fail))
  refine wpQuiet_nil ?_
  clear k0 k1 k2
  refine all_three ?_ ?_ ?_
  · intro K hK
    refine loud_op rfl rfl ?_
    go_simp
    have hbq := (Below.refl v0.heap.size v0).alloc (Nat.le_refl _) (.cells #[] 3)
    have HLH := Lib.hid HB.out.size
    have S := Lib.hid (S.out.made' (grown_of_below hbq none) (World.ownsRow_made (e := 3) (size := 1) v0 #[] 0 S.out.bel.size hm0 rfl))
    obtain ⟨v1, hwd⟩ : ∃ x, v0.alloc (.cells #[] 3) = x := ⟨_, rfl⟩
    rw [hwd] at S hbq ⊢
    have HB := Lib.hid (bto HB.out hbq)
    refine hK _ _ HB.out ?_
    clear hK K hbq hwd
    refine treeB_node ?_
    simp only [opsAt, List.filterMap_nil]
    refine wpQuiet_nil ?_
    refine all_three ?_ ?_ ?_
    · intro K hK
      refine loud_op rfl rfl ?_
      refine wp_append_St S.out 0 (.tmp 3) (.tmp 5) 53 rfl 3 hi0 (.int .i64 0) 1 8 Tryd.underlying53 hi hz0 hz1 hz2 rfl (by omega) rfl rfl _ t.hs.length (t.hs.map I) rfl (HH.out.below S.out.bel) (ints_one _) (by simp only [maxLen]; omega) (by omega) ?_
      intro v' v2 hS hg
      have HB := Lib.hid (below_grown HB.out hg HLH.out HB.out.size)
      rw [Nat.zero_add, List.nil_append] at hS
      have S := Lib.hid hS
      obtain ⟨Ah, ch, rfl⟩ := own_shape (hS.own 0 rfl)
      refine hK _ _ HB.out ?_
      clear hK K hS hg
      refine treeB_node ?_
      simp only [opsAt, List.filterMap_nil]
      refine wpQuiet_nil ?_
      refine all_two ?_ ?_
      · intro K hK
        refine loud_op rfl rfl ?_
        go_simp
        have hbq := (Below.refl v2.heap.size v2).alloc (Nat.le_refl _) (.cells #[] 3)
        have HLW := Lib.hid HB.out.size
        have S := Lib.hid (S.out.made' (grown_of_below hbq none) (World.ownsRow_made (e := 3) (size := 1) v2 #[] 0 S.out.bel.size hm0 rfl))
        obtain ⟨v3, hwd⟩ : ∃ x, v2.alloc (.cells #[] 3) = x := ⟨_, rfl⟩
        rw [hwd] at S hbq ⊢
        have HB := Lib.hid (bto HB.out hbq)
        refine hK _ _ HB.out ?_
        clear hK K hbq hwd
        refine treeB_node ?_
        simp only [opsAt, List.filterMap_nil]
        refine wpQuiet_nil ?_
        refine all_two ?_ ?_
        · intro K hK
          refine loud_op rfl rfl ?_
          refine wp_append_St S.out 0 (.tmp 7) (.tmp 9) 53 rfl 3 hi0 (.int .i64 0) 1 8 Tryd.underlying53 hi hz0 hz1 hz2 rfl (by omega) rfl rfl _ t.ws.length (t.ws.map I) rfl (HW.out.below S.out.bel) (ints_one _) (by simp only [maxLen]; omega) (by omega) ?_
          intro v' v4 hS hg
          have HB := Lib.hid (below_grown HB.out hg HLW.out HB.out.size)
          rw [Nat.zero_add, List.nil_append] at hS
          have S := Lib.hid hS
          obtain ⟨Aw, cw, rfl⟩ := own_shape (hS.own 0 rfl)
          refine hK _ _ HB.out ?_
          clear hK K hS hg
          refine treeB_node ?_
          simp only [opsAt, List.filterMap_nil]
          refine wpQuiet_nil ?_
          refine all_one ?_
          · intro K hK
            refine loud_op rfl rfl ?_
            go_simp
            have hbq := (Below.refl v4.heap.size v4).alloc (Nat.le_refl _) (.cells #[] 102)
            have HLY := Lib.hid HB.out.size
            have S := Lib.hid (S.out.made' (grown_of_below hbq none) (World.ownsRow_made (e := 102) (size := 2) v4 #[] 0 S.out.bel.size hm0 rfl))
            obtain ⟨v5, hwd⟩ : ∃ x, v4.alloc (.cells #[] 102) = x := ⟨_, rfl⟩
            rw [hwd] at S hbq ⊢
            have HB := Lib.hid (bto HB.out hbq)
            refine hK _ _ HB.out ?_
            clear hK K hbq hwd
            refine treeB_node ?_
            simp only [opsAt, List.filterMap_nil]
            refine wpQuiet_nil ?_
            refine all_one ?_
            · intro K hK
              refine loud_op rfl rfl ?_
              refine wp_append_St S.out 0 (.tmp 11) (.tmp 13) 60 rfl 102 ki0 (.agg #[.int .i64 0, .int .i64 0]) 2 16 Tryd.underlying60 ki kz0 kz1 kz2 rfl (by omega) rfl rfl _ t.ys.length (spCells t.ys) rfl (HY.out.below S.out.bel) (sps_one _) (by simp only [maxLen]; omega) (by omega) ?_
              intro v' v6 hS hg
              have HB := Lib.hid (below_grown HB.out hg HLY.out HB.out.size)
              rw [Nat.zero_add, List.nil_append] at hS
              have S := Lib.hid hS
              obtain ⟨Ay, cy, rfl⟩ := own_shape (hS.own 0 rfl)
              refine hK _ _ HB.out ?_
              clear hK K hS hg
              refine treeB_last ?_
              simp only [opsAt, List.filterMap_cons, List.filterMap_nil, List.getElem?_toArray, List.getElem?_cons_succ, List.getElem?_cons_zero]
              show wpQuiet _ _ _ _ [_] _
              repeat (first | go_big_quiet_step (fail) | quiet_step (fail))
              refine wpQuiet_nil ?_
              have S2 := ((S.out.set 3 0 (.slice Ah t.hs.length ch) rfl).set 3 1 (.slice Aw t.ws.length cw) rfl).set 3 2 (.slice Ay t.ys.length cy) rfl
              have u0 := S.out.get 3 0 rfl rfl
              have u1 := S.out.get 3 1 rfl rfl
              have u2 := S.out.get 3 2 rfl rfl
              have u3 := S.out.free 3 0 rfl
              have u4 := S.out.free 3 1 rfl
              have u5 := S.out.free 3 2 rfl
              have r0 := S2.get 3 0 rfl rfl
              have r1 := S2.get 3 1 rfl rfl
              have r2 := S2.get 3 2 rfl rfl
              go_wp2_with fail
              refine bodyPost_ret (v := .agg #[.slice Ah t.hs.length ch, .slice Aw t.ws.length cw, .slice Ay t.ys.length cy]) (by simp [results, Tryd.results53, go_sem, r0, r1, r2]) rfl ⟨_, rfl, _, _, _, rfl, ?_⟩
              exact (S2.fix.cut 3).perm ((List.perm_middle (l₁ := [_, _]) (l₂ := [])).trans (List.Perm.cons _ ((List.perm_middle (l₁ := [_]) (l₂ := [])).trans (List.Perm.cons _ (List.Perm.cons _ (List.Perm.refl _))))))
        · intro K hK
          refine loud_op rfl rfl ?_
          go_simp
          have hbq := (Below.refl v3.heap.size v3).alloc (Nat.le_refl _) (.cells #[] 102)
          have HLY := Lib.hid HB.out.size
          have S := Lib.hid (S.out.made' (grown_of_below hbq none) (World.ownsRow_made (e := 102) (size := 2) v3 #[] 0 S.out.bel.size hm0 rfl))
          obtain ⟨v4, hwd⟩ : ∃ x, v3.alloc (.cells #[] 102) = x := ⟨_, rfl⟩
          rw [hwd] at S hbq ⊢
          have HB := Lib.hid (bto HB.out hbq)
          refine hK _ _ HB.out ?_
          clear hK K hbq hwd
          refine treeB_node ?_
          simp only [opsAt, List.filterMap_nil]
          refine wpQuiet_nil ?_
          refine all_one ?_
          · intro K hK
            refine loud_op rfl rfl ?_
            refine wp_append_St S.out 1 (.tmp 7) (.tmp 9) 53 rfl 3 hi0 (.int .i64 0) 1 8 Tryd.underlying53 hi hz0 hz1 hz2 rfl (by omega) rfl rfl _ t.ws.length (t.ws.map I) rfl (HW.out.below S.out.bel) (ints_one _) (by simp only [maxLen]; omega) (by omega) ?_
            intro v' v5 hS hg
            have HB := Lib.hid (below_grown HB.out hg HLW.out HB.out.size)
            rw [Nat.zero_add, List.nil_append] at hS
            have S := Lib.hid hS
            obtain ⟨Aw, cw, rfl⟩ := own_shape (hS.own 1 rfl)
            refine hK _ _ HB.out ?_
            clear hK K hS hg
            refine treeB_node ?_
            simp only [opsAt, List.filterMap_nil]
            refine wpQuiet_nil ?_
            refine all_one ?_
            · intro K hK
              refine loud_op rfl rfl ?_
              refine wp_append_St S.out 0 (.tmp 11) (.tmp 13) 60 rfl 102 ki0 (.agg #[.int .i64 0, .int .i64 0]) 2 16 Tryd.underlying60 ki kz0 kz1 kz2 rfl (by omega) rfl rfl _ t.ys.length (spCells t.ys) rfl (HY.out.below S.out.bel) (sps_one _) (by simp only [maxLen]; omega) (by omega) ?_
              intro v' v6 hS hg
              have HB := Lib.hid (below_grown HB.out hg HLY.out HB.out.size)
              rw [Nat.zero_add, List.nil_append] at hS
              have S := Lib.hid hS
              obtain ⟨Ay, cy, rfl⟩ := own_shape (hS.own 0 rfl)
              refine hK _ _ HB.out ?_
              clear hK K hS hg
              refine treeB_last ?_
              simp only [opsAt, List.filterMap_cons, List.filterMap_nil, List.getElem?_toArray, List.getElem?_cons_succ, List.getElem?_cons_zero]
              show wpQuiet _ _ _ _ [_] _
              repeat (first | go_big_quiet_step (fail) | quiet_step (fail))
              refine wpQuiet_nil ?_
              have S2 := ((S.out.set 3 0 (.slice Ah t.hs.length ch) rfl).set 3 1 (.slice Aw t.ws.length cw) rfl).set 3 2 (.slice Ay t.ys.length cy) rfl
              have u0 := S.out.get 3 0 rfl rfl
              have u1 := S.out.get 3 1 rfl rfl
              have u2 := S.out.get 3 2 rfl rfl
              have u3 := S.out.free 3 0 rfl
              have u4 := S.out.free 3 1 rfl
              have u5 := S.out.free 3 2 rfl
              have r0 := S2.get 3 0 rfl rfl
              have r1 := S2.get 3 1 rfl rfl
              have r2 := S2.get 3 2 rfl rfl
              go_wp2_with fail
              refine bodyPost_ret (v := .agg #[.slice Ah t.hs.length ch, .slice Aw t.ws.length cw, .slice Ay t.ys.length cy]) (by simp [results, Tryd.results53, go_sem, r0, r1, r2]) rfl ⟨_, rfl, _, _, _, rfl, ?_⟩
              exact (S2.fix.cut 3).perm ((List.perm_middle (l₁ := [_, _]) (l₂ := [])).trans (List.Perm.cons _ ((List.perm_middle (l₁ := [_]) (l₂ := [])).trans (List.Perm.cons _ (List.Perm.cons _ (List.Perm.refl _))))))
      · intro K hK
        refine loud_op rfl rfl ?_
        go_simp
        have hbq := (Below.refl v2.heap.size v2).alloc (Nat.le_refl _) (.cells #[] 102)
        have HLY := Lib.hid HB.out.size
        have S := Lib.hid (S.out.made' (grown_of_below hbq none) (World.ownsRow_made (e := 102) (size := 2) v2 #[] 0 S.out.bel.size hm0 rfl))
        obtain ⟨v3, hwd⟩ : ∃ x, v2.alloc (.cells #[] 102) = x := ⟨_, rfl⟩
        rw [hwd] at S hbq ⊢
        have HB := Lib.hid (bto HB.out hbq)
        refine hK _ _ HB.out ?_
        clear hK K hbq hwd
        refine treeB_node ?_
        simp only [opsAt, List.filterMap_nil]
        refine wpQuiet_nil ?_
        refine all_one ?_
        · intro K hK
          refine loud_op rfl rfl ?_
          go_simp
          have hbq := (Below.refl v3.heap.size v3).alloc (Nat.le_refl _) (.cells #[] 3)
          have HLW := Lib.hid HB.out.size
          have S := Lib.hid (S.out.made' (grown_of_below hbq none) (World.ownsRow_made (e := 3) (size := 1) v3 #[] 0 S.out.bel.size hm0 rfl))
          obtain ⟨v4, hwd⟩ : ∃ x, v3.alloc (.cells #[] 3) = x := ⟨_, rfl⟩
          rw [hwd] at S hbq ⊢
          have HB := Lib.hid (bto HB.out hbq)
          refine hK _ _ HB.out ?_
          clear hK K hbq hwd
          refine treeB_node ?_
          simp only [opsAt, List.filterMap_nil]
          refine wpQuiet_nil ?_
          refine all_one ?_
          · intro K hK
            refine loud_op rfl rfl ?_
            refine wp_append_St S.out 0 (.tmp 7) (.tmp 9) 53 rfl 3 hi0 (.int .i64 0) 1 8 Tryd.underlying53 hi hz0 hz1 hz2 rfl (by omega) rfl rfl _ t.ws.length (t.ws.map I) rfl (HW.out.below S.out.bel) (ints_one _) (by simp only [maxLen]; omega) (by omega) ?_
            intro v' v5 hS hg
            have HB := Lib.hid (below_grown HB.out hg HLW.out HB.out.size)
            rw [Nat.zero_add, List.nil_append] at hS
            have S := Lib.hid hS
            obtain ⟨Aw, cw, rfl⟩ := own_shape (hS.own 0 rfl)
            refine hK _ _ HB.out ?_
            clear hK K hS hg
            refine treeB_node ?_
            simp only [opsAt, List.filterMap_nil]
            refine wpQuiet_nil ?_
            refine all_one ?_
            · intro K hK
              refine loud_op rfl rfl ?_
              refine wp_append_St S.out 1 (.tmp 11) (.tmp 13) 60 rfl 102 ki0 (.agg #[.int .i64 0, .int .i64 0]) 2 16 Tryd.underlying60 ki kz0 kz1 kz2 rfl (by omega) rfl rfl _ t.ys.length (spCells t.ys) rfl (HY.out.below S.out.bel) (sps_one _) (by simp only [maxLen]; omega) (by omega) ?_
              intro v' v6 hS hg
              have HB := Lib.hid (below_grown HB.out hg HLY.out HB.out.size)
              rw [Nat.zero_add, List.nil_append] at hS
              have S := Lib.hid hS
              obtain ⟨Ay, cy, rfl⟩ := own_shape (hS.own 1 rfl)
              refine hK _ _ HB.out ?_
              clear hK K hS hg
              refine treeB_last ?_
              simp only [opsAt, List.filterMap_cons, List.filterMap_nil, List.getElem?_toArray, List.getElem?_cons_succ, List.getElem?_cons_zero]
              show wpQuiet _ _ _ _ [_] _
              repeat (first | go_big_quiet_step (fail) | quiet_step (fail))
              refine wpQuiet_nil ?_
              have S2 := ((S.out.set 3 0 (.slice Ah t.hs.length ch) rfl).set 3 1 (.slice Aw t.ws.length cw) rfl).set 3 2 (.slice Ay t.ys.length cy) rfl
              have u0 := S.out.get 3 0 rfl rfl
              have u1 := S.out.get 3 1 rfl rfl
              have u2 := S.out.get 3 2 rfl rfl
              have u3 := S.out.free 3 0 rfl
              have u4 := S.out.free 3 1 rfl
              have u5 := S.out.free 3 2 rfl
              have r0 := S2.get 3 0 rfl rfl
              have r1 := S2.get 3 1 rfl rfl
              have r2 := S2.get 3 2 rfl rfl
              go_wp2_with fail
              refine bodyPost_ret (v := .agg #[.slice Ah t.hs.length ch, .slice Aw t.ws.length cw, .slice Ay t.ys.length cy]) (by simp [results, Tryd.results53, go_sem, r0, r1, r2]) rfl ⟨_, rfl, _, _, _, rfl, ?_⟩
              exact (S2.fix.cut 3).perm ((List.perm_middle (l₁ := [_, _]) (l₂ := [])).trans (List.Perm.cons _ (List.Perm.cons _ (List.Perm.cons _ (List.Perm.refl _)))))
    · intro K hK
      refine loud_op rfl rfl ?_
      go_simp
      have hbq := (Below.refl v1.heap.size v1).alloc (Nat.le_refl _) (.cells #[] 3)
      have HLW := Lib.hid HB.out.size
      have S := Lib.hid (S.out.made' (grown_of_below hbq none) (World.ownsRow_made (e := 3) (size := 1) v1 #[] 0 S.out.bel.size hm0 rfl))
      obtain ⟨v2, hwd⟩ : ∃ x, v1.alloc (.cells #[] 3) = x := ⟨_, rfl⟩
      rw [hwd] at S hbq ⊢
      have HB := Lib.hid (bto HB.out hbq)
      refine hK _ _ HB.out ?_
      clear hK K hbq hwd
      refine treeB_node ?_
      simp only [opsAt, List.filterMap_nil]
      refine wpQuiet_nil ?_
      refine all_two ?_ ?_
      · intro K hK
        refine loud_op rfl rfl ?_
        refine wp_append_St S.out 1 (.tmp 3) (.tmp 5) 53 rfl 3 hi0 (.int .i64 0) 1 8 Tryd.underlying53 hi hz0 hz1 hz2 rfl (by omega) rfl rfl _ t.hs.length (t.hs.map I) rfl (HH.out.below S.out.bel) (ints_one _) (by simp only [maxLen]; omega) (by omega) ?_
        intro v' v3 hS hg
        have HB := Lib.hid (below_grown HB.out hg HLH.out HB.out.size)
        rw [Nat.zero_add, List.nil_append] at hS
        have S := Lib.hid hS
        obtain ⟨Ah, ch, rfl⟩ := own_shape (hS.own 1 rfl)
        refine hK _ _ HB.out ?_
        clear hK K hS hg
        refine treeB_node ?_
        simp only [opsAt, List.filterMap_nil]
        refine wpQuiet_nil ?_
        refine all_two ?_ ?_
        · intro K hK
          refine loud_op rfl rfl ?_
          refine wp_append_St S.out 0 (.tmp 7) (.tmp 9) 53 rfl 3 hi0 (.int .i64 0) 1 8 Tryd.underlying53 hi hz0 hz1 hz2 rfl (by omega) rfl rfl _ t.ws.length (t.ws.map I) rfl (HW.out.below S.out.bel) (ints_one _) (by simp only [maxLen]; omega) (by omega) ?_
          intro v' v4 hS hg
          have HB := Lib.hid (below_grown HB.out hg HLW.out HB.out.size)
          rw [Nat.zero_add, List.nil_append] at hS
          have S := Lib.hid hS
          obtain ⟨Aw, cw, rfl⟩ := own_shape (hS.own 0 rfl)
          refine hK _ _ HB.out ?_
          clear hK K hS hg
          refine treeB_node ?_
          simp only [opsAt, List.filterMap_nil]
          refine wpQuiet_nil ?_
          refine all_one ?_
          · intro K hK
            refine loud_op rfl rfl ?_
            go_simp
            have hbq := (Below.refl v4.heap.size v4).alloc (Nat.le_refl _) (.cells #[] 102)
            have HLY := Lib.hid HB.out.size
            have S := Lib.hid (S.out.made' (grown_of_below hbq none) (World.ownsRow_made (e := 102) (size := 2) v4 #[] 0 S.out.bel.size hm0 rfl))
            obtain ⟨v5, hwd⟩ : ∃ x, v4.alloc (.cells #[] 102) = x := ⟨_, rfl⟩
            rw [hwd] at S hbq ⊢
            have HB := Lib.hid (bto HB.out hbq)
            refine hK _ _ HB.out ?_
            clear hK K hbq hwd
            refine treeB_node ?_
            simp only [opsAt, List.filterMap_nil]
            refine wpQuiet_nil ?_
            refine all_one ?_
            · intro K hK
              refine loud_op rfl rfl ?_
              refine wp_append_St S.out 0 (.tmp 11) (.tmp 13) 60 rfl 102 ki0 (.agg #[.int .i64 0, .int .i64 0]) 2 16 Tryd.underlying60 ki kz0 kz1 kz2 rfl (by omega) rfl rfl _ t.ys.length (spCells t.ys) rfl (HY.out.below S.out.bel) (sps_one _) (by simp only [maxLen]; omega) (by omega) ?_
              intro v' v6 hS hg
              have HB := Lib.hid (below_grown HB.out hg HLY.out HB.out.size)
              rw [Nat.zero_add, List.nil_append] at hS
              have S := Lib.hid hS
              obtain ⟨Ay, cy, rfl⟩ := own_shape (hS.own 0 rfl)
              refine hK _ _ HB.out ?_
              clear hK K hS hg
              refine treeB_last ?_
              simp only [opsAt, List.filterMap_cons, List.filterMap_nil, List.getElem?_toArray, List.getElem?_cons_succ, List.getElem?_cons_zero]
              show wpQuiet _ _ _ _ [_] _
              repeat (first | go_big_quiet_step (fail) | quiet_step (fail))
              refine wpQuiet_nil ?_
              have S2 := ((S.out.set 3 0 (.slice Ah t.hs.length ch) rfl).set 3 1 (.slice Aw t.ws.length cw) rfl).set 3 2 (.slice Ay t.ys.length cy) rfl
              have u0 := S.out.get 3 0 rfl rfl
              have u1 := S.out.get 3 1 rfl rfl
              have u2 := S.out.get 3 2 rfl rfl
              have u3 := S.out.free 3 0 rfl
              have u4 := S.out.free 3 1 rfl
              have u5 := S.out.free 3 2 rfl
              have r0 := S2.get 3 0 rfl rfl
              have r1 := S2.get 3 1 rfl rfl
              have r2 := S2.get 3 2 rfl rfl
              go_wp2_with fail
              refine bodyPost_ret (v := .agg #[.slice Ah t.hs.length ch, .slice Aw t.ws.length cw, .slice Ay t.ys.length cy]) (by simp [results, Tryd.results53, go_sem, r0, r1, r2]) rfl ⟨_, rfl, _, _, _, rfl, ?_⟩
              exact (S2.fix.cut 3).perm ((List.perm_middle (l₁ := [_, _]) (l₂ := [])).trans (List.Perm.cons _ ((List.perm_middle (l₁ := [_]) (l₂ := [])).trans (List.Perm.cons _ (List.Perm.cons _ (List.Perm.refl _))))))
        · intro K hK
          refine loud_op rfl rfl ?_
          go_simp
          have hbq := (Below.refl v3.heap.size v3).alloc (Nat.le_refl _) (.cells #[] 102)
          have HLY := Lib.hid HB.out.size
          have S := Lib.hid (S.out.made' (grown_of_below hbq none) (World.ownsRow_made (e := 102) (size := 2) v3 #[] 0 S.out.bel.size hm0 rfl))
          obtain ⟨v4, hwd⟩ : ∃ x, v3.alloc (.cells #[] 102) = x := ⟨_, rfl⟩
          rw [hwd] at S hbq ⊢
          have HB := Lib.hid (bto HB.out hbq)
          refine hK _ _ HB.out ?_
          clear hK K hbq hwd
          refine treeB_node ?_
          simp only [opsAt, List.filterMap_nil]
          refine wpQuiet_nil ?_
          refine all_one ?_
          · intro K hK
            refine loud_op rfl rfl ?_
            refine wp_append_St S.out 1 (.tmp 7) (.tmp 9) 53 rfl 3 hi0 (.int .i64 0) 1 8 Tryd.underlying53 hi hz0 hz1 hz2 rfl (by omega) rfl rfl _ t.ws.length (t.ws.map I) rfl (HW.out.below S.out.bel) (ints_one _) (by simp only [maxLen]; omega) (by omega) ?_
            intro v' v5 hS hg
            have HB := Lib.hid (below_grown HB.out hg HLW.out HB.out.size)
            rw [Nat.zero_add, List.nil_append] at hS
            have S := Lib.hid hS
            obtain ⟨Aw, cw, rfl⟩ := own_shape (hS.own 1 rfl)
            refine hK _ _ HB.out ?_
            clear hK K hS hg
            refine treeB_node ?_
            simp only [opsAt, List.filterMap_nil]
            refine wpQuiet_nil ?_
            refine all_one ?_
            · intro K hK
              refine loud_op rfl rfl ?_
              refine wp_append_St S.out 0 (.tmp 11) (.tmp 13) 60 rfl 102 ki0 (.agg #[.int .i64 0, .int .i64 0]) 2 16 Tryd.underlying60 ki kz0 kz1 kz2 rfl (by omega) rfl rfl _ t.ys.length (spCells t.ys) rfl (HY.out.below S.out.bel) (sps_one _) (by simp only [maxLen]; omega) (by omega) ?_
              intro v' v6 hS hg
              have HB := Lib.hid (below_grown HB.out hg HLY.out HB.out.size)
              rw [Nat.zero_add, List.nil_append] at hS
              have S := Lib.hid hS
              obtain ⟨Ay, cy, rfl⟩ := own_shape (hS.own 0 rfl)
              refine hK _ _ HB.out ?_
              clear hK K hS hg
              refine treeB_last ?_
              simp only [opsAt, List.filterMap_cons, List.filterMap_nil, List.getElem?_toArray, List.getElem?_cons_succ, List.getElem?_cons_zero]
              show wpQuiet _ _ _ _ [_] _
              repeat (first | go_big_quiet_step (fail) | quiet_step (fail))
              refine wpQuiet_nil ?_
              have S2 := ((S.out.set 3 0 (.slice Ah t.hs.length ch) rfl).set 3 1 (.slice Aw t.ws.length cw) rfl).set 3 2 (.slice Ay t.ys.length cy) rfl
              have u0 := S.out.get 3 0 rfl rfl
              have u1 := S.out.get 3 1 rfl rfl
              have u2 := S.out.get 3 2 rfl rfl
              have u3 := S.out.free 3 0 rfl
              have u4 := S.out.free 3 1 rfl
              have u5 := S.out.free 3 2 rfl
              have r0 := S2.get 3 0 rfl rfl
              have r1 := S2.get 3 1 rfl rfl
              have r2 := S2.get 3 2 rfl rfl
              go_wp2_with fail
              refine bodyPost_ret (v := .agg #[.slice Ah t.hs.length ch, .slice Aw t.ws.length cw, .slice Ay t.ys.length cy]) (by simp [results, Tryd.results53, go_sem, r0, r1, r2]) rfl ⟨_, rfl, _, _, _, rfl, ?_⟩
              exact (S2.fix.cut 3).perm ((List.perm_middle (l₁ := [_, _]) (l₂ := [])).trans (List.Perm.cons _ ((List.perm_middle (l₁ := [_]) (l₂ := [])).trans (List.Perm.cons _ (List.Perm.cons _ (List.Perm.refl _))))))
      · intro K hK
        refine loud_op rfl rfl ?_
        go_simp
        have hbq := (Below.refl v2.heap.size v2).alloc (Nat.le_refl _) (.cells #[] 102)
        have HLY := Lib.hid HB.out.size
        have S := Lib.hid (S.out.made' (grown_of_below hbq none) (World.ownsRow_made (e := 102) (size := 2) v2 #[] 0 S.out.bel.size hm0 rfl))
        obtain ⟨v3, hwd⟩ : ∃ x, v2.alloc (.cells #[] 102) = x := ⟨_, rfl⟩
        rw [hwd] at S hbq ⊢
        have HB := Lib.hid (bto HB.out hbq)
        refine hK _ _ HB.out ?_
        clear hK K hbq hwd
        refine treeB_node ?_
        simp only [opsAt, List.filterMap_nil]
        refine wpQuiet_nil ?_
        refine all_one ?_
        · intro K hK
          refine loud_op rfl rfl ?_
          refine wp_append_St S.out 2 (.tmp 3) (.tmp 5) 53 rfl 3 hi0 (.int .i64 0) 1 8 Tryd.underlying53 hi hz0 hz1 hz2 rfl (by omega) rfl rfl _ t.hs.length (t.hs.map I) rfl (HH.out.below S.out.bel) (ints_one _) (by simp only [maxLen]; omega) (by omega) ?_
          intro v' v4 hS hg
          have HB := Lib.hid (below_grown HB.out hg HLH.out HB.out.size)
          rw [Nat.zero_add, List.nil_append] at hS
          have S := Lib.hid hS
          obtain ⟨Ah, ch, rfl⟩ := own_shape (hS.own 2 rfl)
          refine hK _ _ HB.out ?_
          clear hK K hS hg
          refine treeB_node ?_
          simp only [opsAt, List.filterMap_nil]
          refine wpQuiet_nil ?_
          refine all_one ?_
          · intro K hK
            refine loud_op rfl rfl ?_
            refine wp_append_St S.out 1 (.tmp 7) (.tmp 9) 53 rfl 3 hi0 (.int .i64 0) 1 8 Tryd.underlying53 hi hz0 hz1 hz2 rfl (by omega) rfl rfl _ t.ws.length (t.ws.map I) rfl (HW.out.below S.out.bel) (ints_one _) (by simp only [maxLen]; omega) (by omega) ?_
            intro v' v5 hS hg
            have HB := Lib.hid (below_grown HB.out hg HLW.out HB.out.size)
            rw [Nat.zero_add, List.nil_append] at hS
            have S := Lib.hid hS
            obtain ⟨Aw, cw, rfl⟩ := own_shape (hS.own 1 rfl)
            refine hK _ _ HB.out ?_
            clear hK K hS hg
            refine treeB_node ?_
            simp only [opsAt, List.filterMap_nil]
            refine wpQuiet_nil ?_
            refine all_one ?_
            · intro K hK
              refine loud_op rfl rfl ?_
              refine wp_append_St S.out 0 (.tmp 11) (.tmp 13) 60 rfl 102 ki0 (.agg #[.int .i64 0, .int .i64 0]) 2 16 Tryd.underlying60 ki kz0 kz1 kz2 rfl (by omega) rfl rfl _ t.ys.length (spCells t.ys) rfl (HY.out.below S.out.bel) (sps_one _) (by simp only [maxLen]; omega) (by omega) ?_
              intro v' v6 hS hg
              have HB := Lib.hid (below_grown HB.out hg HLY.out HB.out.size)
              rw [Nat.zero_add, List.nil_append] at hS
              have S := Lib.hid hS
              obtain ⟨Ay, cy, rfl⟩ := own_shape (hS.own 0 rfl)
              refine hK _ _ HB.out ?_
              clear hK K hS hg
              refine treeB_last ?_
              simp only [opsAt, List.filterMap_cons, List.filterMap_nil, List.getElem?_toArray, List.getElem?_cons_succ, List.getElem?_cons_zero]
              show wpQuiet _ _ _ _ [_] _
              repeat (first | go_big_quiet_step (fail) | quiet_step (fail))
              refine wpQuiet_nil ?_
              have S2 := ((S.out.set 3 0 (.slice Ah t.hs.length ch) rfl).set 3 1 (.slice Aw t.ws.length cw) rfl).set 3 2 (.slice Ay t.ys.length cy) rfl
              have u0 := S.out.get 3 0 rfl rfl
              have u1 := S.out.get 3 1 rfl rfl
              have u2 := S.out.get 3 2 rfl rfl
              have u3 := S.out.free 3 0 rfl
              have u4 := S.out.free 3 1 rfl
              have u5 := S.out.free 3 2 rfl
              have r0 := S2.get 3 0 rfl rfl
              have r1 := S2.get 3 1 rfl rfl
              have r2 := S2.get 3 2 rfl rfl
              go_wp2_with fail
              refine bodyPost_ret (v := .agg #[.slice Ah t.hs.length ch, .slice Aw t.ws.length cw, .slice Ay t.ys.length cy]) (by simp [results, Tryd.results53, go_sem, r0, r1, r2]) rfl ⟨_, rfl, _, _, _, rfl, ?_⟩
              exact (S2.fix.cut 3).perm ((List.perm_middle (l₁ := [_, _]) (l₂ := [])).trans (List.Perm.cons _ ((List.perm_middle (l₁ := [_]) (l₂ := [])).trans (List.Perm.cons _ (List.Perm.cons _ (List.Perm.refl _))))))
    · intro K hK
      refine loud_op rfl rfl ?_
      go_simp
      have hbq := (Below.refl v1.heap.size v1).alloc (Nat.le_refl _) (.cells #[] 102)
      have HLY := Lib.hid HB.out.size
      have S := Lib.hid (S.out.made' (grown_of_below hbq none) (World.ownsRow_made (e := 102) (size := 2) v1 #[] 0 S.out.bel.size hm0 rfl))
      obtain ⟨v2, hwd⟩ : ∃ x, v1.alloc (.cells #[] 102) = x := ⟨_, rfl⟩
      rw [hwd] at S hbq ⊢
      have HB := Lib.hid (bto HB.out hbq)
      refine hK _ _ HB.out ?_
      clear hK K hbq hwd
      refine treeB_node ?_
      simp only [opsAt, List.filterMap_nil]
      refine wpQuiet_nil ?_
      refine all_two ?_ ?_
      · intro K hK
        refine loud_op rfl rfl ?_
        refine wp_append_St S.out 1 (.tmp 3) (.tmp 5) 53 rfl 3 hi0 (.int .i64 0) 1 8 Tryd.underlying53 hi hz0 hz1 hz2 rfl (by omega) rfl rfl _ t.hs.length (t.hs.map I) rfl (HH.out.below S.out.bel) (ints_one _) (by simp only [maxLen]; omega) (by omega) ?_
        intro v' v3 hS hg
        have HB := Lib.hid (below_grown HB.out hg HLH.out HB.out.size)
        rw [Nat.zero_add, List.nil_append] at hS
        have S := Lib.hid hS
        obtain ⟨Ah, ch, rfl⟩ := own_shape (hS.own 1 rfl)
        refine hK _ _ HB.out ?_
        clear hK K hS hg
        refine treeB_node ?_
        simp only [opsAt, List.filterMap_nil]
        refine wpQuiet_nil ?_
        refine all_one ?_
        · intro K hK
          refine loud_op rfl rfl ?_
          go_simp
          have hbq := (Below.refl v3.heap.size v3).alloc (Nat.le_refl _) (.cells #[] 3)
          have HLW := Lib.hid HB.out.size
          have S := Lib.hid (S.out.made' (grown_of_below hbq none) (World.ownsRow_made (e := 3) (size := 1) v3 #[] 0 S.out.bel.size hm0 rfl))
          obtain ⟨v4, hwd⟩ : ∃ x, v3.alloc (.cells #[] 3) = x := ⟨_, rfl⟩
          rw [hwd] at S hbq ⊢
          have HB := Lib.hid (bto HB.out hbq)
          refine hK _ _ HB.out ?_
          clear hK K hbq hwd
          refine treeB_node ?_
          simp only [opsAt, List.filterMap_nil]
          refine wpQuiet_nil ?_
          refine all_one ?_
          · intro K hK
            refine loud_op rfl rfl ?_
            refine wp_append_St S.out 0 (.tmp 7) (.tmp 9) 53 rfl 3 hi0 (.int .i64 0) 1 8 Tryd.underlying53 hi hz0 hz1 hz2 rfl (by omega) rfl rfl _ t.ws.length (t.ws.map I) rfl (HW.out.below S.out.bel) (ints_one _) (by simp only [maxLen]; omega) (by omega) ?_
            intro v' v5 hS hg
            have HB := Lib.hid (below_grown HB.out hg HLW.out HB.out.size)
            rw [Nat.zero_add, List.nil_append] at hS
            have S := Lib.hid hS
            obtain ⟨Aw, cw, rfl⟩ := own_shape (hS.own 0 rfl)
            refine hK _ _ HB.out ?_
            clear hK K hS hg
            refine treeB_node ?_
            simp only [opsAt, List.filterMap_nil]
            refine wpQuiet_nil ?_
            refine all_one ?_
            · intro K hK
              refine loud_op rfl rfl ?_
              refine wp_append_St S.out 1 (.tmp 11) (.tmp 13) 60 rfl 102 ki0 (.agg #[.int .i64 0, .int .i64 0]) 2 16 Tryd.underlying60 ki kz0 kz1 kz2 rfl (by omega) rfl rfl _ t.ys.length (spCells t.ys) rfl (HY.out.below S.out.bel) (sps_one _) (by simp only [maxLen]; omega) (by omega) ?_
              intro v' v6 hS hg
              have HB := Lib.hid (below_grown HB.out hg HLY.out HB.out.size)
              rw [Nat.zero_add, List.nil_append] at hS
              have S := Lib.hid hS
              obtain ⟨Ay, cy, rfl⟩ := own_shape (hS.own 1 rfl)
              refine hK _ _ HB.out ?_
              clear hK K hS hg
              refine treeB_last ?_
              simp only [opsAt, List.filterMap_cons, List.filterMap_nil, List.getElem?_toArray, List.getElem?_cons_succ, List.getElem?_cons_zero]
              show wpQuiet _ _ _ _ [_] _
              repeat (first | go_big_quiet_step (fail) | quiet_step (fail))
              refine wpQuiet_nil ?_
              have S2 := ((S.out.set 3 0 (.slice Ah t.hs.length ch) rfl).set 3 1 (.slice Aw t.ws.length cw) rfl).set 3 2 (.slice Ay t.ys.length cy) rfl
              have u0 := S.out.get 3 0 rfl rfl
              have u1 := S.out.get 3 1 rfl rfl
              have u2 := S.out.get 3 2 rfl rfl
              have u3 := S.out.free 3 0 rfl
              have u4 := S.out.free 3 1 rfl
              have u5 := S.out.free 3 2 rfl
              have r0 := S2.get 3 0 rfl rfl
              have r1 := S2.get 3 1 rfl rfl
              have r2 := S2.get 3 2 rfl rfl
              go_wp2_with fail
              refine bodyPost_ret (v := .agg #[.slice Ah t.hs.length ch, .slice Aw t.ws.length cw, .slice Ay t.ys.length cy]) (by simp [results, Tryd.results53, go_sem, r0, r1, r2]) rfl ⟨_, rfl, _, _, _, rfl, ?_⟩
              exact (S2.fix.cut 3).perm ((List.perm_middle (l₁ := [_, _]) (l₂ := [])).trans (List.Perm.cons _ (List.Perm.cons _ (List.Perm.cons _ (List.Perm.refl _)))))
      · intro K hK
        refine loud_op rfl rfl ?_
        go_simp
        have hbq := (Below.refl v2.heap.size v2).alloc (Nat.le_refl _) (.cells #[] 3)
        have HLW := Lib.hid HB.out.size
        have S := Lib.hid (S.out.made' (grown_of_below hbq none) (World.ownsRow_made (e := 3) (size := 1) v2 #[] 0 S.out.bel.size hm0 rfl))
        obtain ⟨v3, hwd⟩ : ∃ x, v2.alloc (.cells #[] 3) = x := ⟨_, rfl⟩
        rw [hwd] at S hbq ⊢
        have HB := Lib.hid (bto HB.out hbq)
        refine hK _ _ HB.out ?_
        clear hK K hbq hwd
        refine treeB_node ?_
        simp only [opsAt, List.filterMap_nil]
        refine wpQuiet_nil ?_
        refine all_one ?_
        · intro K hK
          refine loud_op rfl rfl ?_
          refine wp_append_St S.out 2 (.tmp 3) (.tmp 5) 53 rfl 3 hi0 (.int .i64 0) 1 8 Tryd.underlying53 hi hz0 hz1 hz2 rfl (by omega) rfl rfl _ t.hs.length (t.hs.map I) rfl (HH.out.below S.out.bel) (ints_one _) (by simp only [maxLen]; omega) (by omega) ?_
          intro v' v4 hS hg
          have HB := Lib.hid (below_grown HB.out hg HLH.out HB.out.size)
          rw [Nat.zero_add, List.nil_append] at hS
          have S := Lib.hid hS
          obtain ⟨Ah, ch, rfl⟩ := own_shape (hS.own 2 rfl)
          refine hK _ _ HB.out ?_
          clear hK K hS hg
          refine treeB_node ?_
          simp only [opsAt, List.filterMap_nil]
          refine wpQuiet_nil ?_
          refine all_one ?_
          · intro K hK
            refine loud_op rfl rfl ?_
            refine wp_append_St S.out 0 (.tmp 7) (.tmp 9) 53 rfl 3 hi0 (.int .i64 0) 1 8 Tryd.underlying53 hi hz0 hz1 hz2 rfl (by omega) rfl rfl _ t.ws.length (t.ws.map I) rfl (HW.out.below S.out.bel) (ints_one _) (by simp only [maxLen]; omega) (by omega) ?_
            intro v' v5 hS hg
            have HB := Lib.hid (below_grown HB.out hg HLW.out HB.out.size)
            rw [Nat.zero_add, List.nil_append] at hS
            have S := Lib.hid hS
            obtain ⟨Aw, cw, rfl⟩ := own_shape (hS.own 0 rfl)
            refine hK _ _ HB.out ?_
            clear hK K hS hg
            refine treeB_node ?_
            simp only [opsAt, List.filterMap_nil]
            refine wpQuiet_nil ?_
            refine all_one ?_
            · intro K hK
              refine loud_op rfl rfl ?_
              refine wp_append_St S.out 1 (.tmp 11) (.tmp 13) 60 rfl 102 ki0 (.agg #[.int .i64 0, .int .i64 0]) 2 16 Tryd.underlying60 ki kz0 kz1 kz2 rfl (by omega) rfl rfl _ t.ys.length (spCells t.ys) rfl (HY.out.below S.out.bel) (sps_one _) (by simp only [maxLen]; omega) (by omega) ?_
              intro v' v6 hS hg
              have HB := Lib.hid (below_grown HB.out hg HLY.out HB.out.size)
              rw [Nat.zero_add, List.nil_append] at hS
              have S := Lib.hid hS
              obtain ⟨Ay, cy, rfl⟩ := own_shape (hS.own 1 rfl)
              refine hK _ _ HB.out ?_
              clear hK K hS hg
              refine treeB_last ?_
              simp only [opsAt, List.filterMap_cons, List.filterMap_nil, List.getElem?_toArray, List.getElem?_cons_succ, List.getElem?_cons_zero]
              show wpQuiet _ _ _ _ [_] _
              repeat (first | go_big_quiet_step (fail) | quiet_step (fail))
              refine wpQuiet_nil ?_
              have S2 := ((S.out.set 3 0 (.slice Ah t.hs.length ch) rfl).set 3 1 (.slice Aw t.ws.length cw) rfl).set 3 2 (.slice Ay t.ys.length cy) rfl
              have u0 := S.out.get 3 0 rfl rfl
              have u1 := S.out.get 3 1 rfl rfl
              have u2 := S.out.get 3 2 rfl rfl
              have u3 := S.out.free 3 0 rfl
              have u4 := S.out.free 3 1 rfl
              have u5 := S.out.free 3 2 rfl
              have r0 := S2.get 3 0 rfl rfl
              have r1 := S2.get 3 1 rfl rfl
              have r2 := S2.get 3 2 rfl rfl
              go_wp2_with fail
              refine bodyPost_ret (v := .agg #[.slice Ah t.hs.length ch, .slice Aw t.ws.length cw, .slice Ay t.ys.length cy]) (by simp [results, Tryd.results53, go_sem, r0, r1, r2]) rfl ⟨_, rfl, _, _, _, rfl, ?_⟩
              exact (S2.fix.cut 3).perm ((List.perm_middle (l₁ := [_, _]) (l₂ := [])).trans (List.Perm.cons _ (List.Perm.cons _ (List.Perm.cons _ (List.Perm.refl _)))))
  · intro K hK
    refine loud_op rfl rfl ?_
    go_simp
    have hbq := (Below.refl v0.heap.size v0).alloc (Nat.le_refl _) (.cells #[] 3)
    have HLW := Lib.hid HB.out.size
    have S := Lib.hid (S.out.made' (grown_of_below hbq none) (World.ownsRow_made (e := 3) (size := 1) v0 #[] 0 S.out.bel.size hm0 rfl))
    obtain ⟨v1, hwd⟩ : ∃ x, v0.alloc (.cells #[] 3) = x := ⟨_, rfl⟩
    rw [hwd] at S hbq ⊢
    have HB := Lib.hid (bto HB.out hbq)
    refine hK _ _ HB.out ?_
    clear hK K hbq hwd
    refine treeB_node ?_
    simp only [opsAt, List.filterMap_nil]
    refine wpQuiet_nil ?_
    refine all_two ?_ ?_
    · intro K hK
      refine loud_op rfl rfl ?_
      go_simp
      have hbq := (Below.refl v1.heap.size v1).alloc (Nat.le_refl _) (.cells #[] 3)
      have HLH := Lib.hid HB.out.size
      have S := Lib.hid (S.out.made' (grown_of_below hbq none) (World.ownsRow_made (e := 3) (size := 1) v1 #[] 0 S.out.bel.size hm0 rfl))
      obtain ⟨v2, hwd⟩ : ∃ x, v1.alloc (.cells #[] 3) = x := ⟨_, rfl⟩
      rw [hwd] at S hbq ⊢
      have HB := Lib.hid (bto HB.out hbq)
      refine hK _ _ HB.out ?_
      clear hK K hbq hwd
      refine treeB_node ?_
      simp only [opsAt, List.filterMap_nil]
      refine wpQuiet_nil ?_
      refine all_two ?_ ?_
      · intro K hK
        refine loud_op rfl rfl ?_
        refine wp_append_St S.out 0 (.tmp 3) (.tmp 5) 53 rfl 3 hi0 (.int .i64 0) 1 8 Tryd.underlying53 hi hz0 hz1 hz2 rfl (by omega) rfl rfl _ t.hs.length (t.hs.map I) rfl (HH.out.below S.out.bel) (ints_one _) (by simp only [maxLen]; omega) (by omega) ?_
        intro v' v3 hS hg
        have HB := Lib.hid (below_grown HB.out hg HLH.out HB.out.size)
        rw [Nat.zero_add, List.nil_append] at hS
        have S := Lib.hid hS
        obtain ⟨Ah, ch, rfl⟩ := own_shape (hS.own 0 rfl)
        refine hK _ _ HB.out ?_
        clear hK K hS hg
        refine treeB_node ?_
        simp only [opsAt, List.filterMap_nil]
        refine wpQuiet_nil ?_
        refine all_two ?_ ?_
        · intro K hK
          refine loud_op rfl rfl ?_
          refine wp_append_St S.out 1 (.tmp 7) (.tmp 9) 53 rfl 3 hi0 (.int .i64 0) 1 8 Tryd.underlying53 hi hz0 hz1 hz2 rfl (by omega) rfl rfl _ t.ws.length (t.ws.map I) rfl (HW.out.below S.out.bel) (ints_one _) (by simp only [maxLen]; omega) (by omega) ?_
          intro v' v4 hS hg
          have HB := Lib.hid (below_grown HB.out hg HLW.out HB.out.size)
          rw [Nat.zero_add, List.nil_append] at hS
          have S := Lib.hid hS
          obtain ⟨Aw, cw, rfl⟩ := own_shape (hS.own 1 rfl)
          refine hK _ _ HB.out ?_
          clear hK K hS hg
          refine treeB_node ?_
          simp only [opsAt, List.filterMap_nil]
          refine wpQuiet_nil ?_
          refine all_one ?_
          · intro K hK
            refine loud_op rfl rfl ?_
            go_simp
            have hbq := (Below.refl v4.heap.size v4).alloc (Nat.le_refl _) (.cells #[] 102)
            have HLY := Lib.hid HB.out.size
            have S := Lib.hid (S.out.made' (grown_of_below hbq none) (World.ownsRow_made (e := 102) (size := 2) v4 #[] 0 S.out.bel.size hm0 rfl))
            obtain ⟨v5, hwd⟩ : ∃ x, v4.alloc (.cells #[] 102) = x := ⟨_, rfl⟩
            rw [hwd] at S hbq ⊢
            have HB := Lib.hid (bto HB.out hbq)
            refine hK _ _ HB.out ?_
            clear hK K hbq hwd
            refine treeB_node ?_
            simp only [opsAt, List.filterMap_nil]
            refine wpQuiet_nil ?_
            refine all_one ?_
            · intro K hK
              refine loud_op rfl rfl ?_
              refine wp_append_St S.out 0 (.tmp 11) (.tmp 13) 60 rfl 102 ki0 (.agg #[.int .i64 0, .int .i64 0]) 2 16 Tryd.underlying60 ki kz0 kz1 kz2 rfl (by omega) rfl rfl _ t.ys.length (spCells t.ys) rfl (HY.out.below S.out.bel) (sps_one _) (by simp only [maxLen]; omega) (by omega) ?_
              intro v' v6 hS hg
              have HB := Lib.hid (below_grown HB.out hg HLY.out HB.out.size)
              rw [Nat.zero_add, List.nil_append] at hS
              have S := Lib.hid hS
              obtain ⟨Ay, cy, rfl⟩ := own_shape (hS.own 0 rfl)
              refine hK _ _ HB.out ?_
              clear hK K hS hg
              refine treeB_last ?_
              simp only [opsAt, List.filterMap_cons, List.filterMap_nil, List.getElem?_toArray, List.getElem?_cons_succ, List.getElem?_cons_zero]
              show wpQuiet _ _ _ _ [_] _
              repeat (first | go_big_quiet_step (fail) | quiet_step (fail))
              refine wpQuiet_nil ?_
              have S2 := ((S.out.set 3 0 (.slice Ah t.hs.length ch) rfl).set 3 1 (.slice Aw t.ws.length cw) rfl).set 3 2 (.slice Ay t.ys.length cy) rfl
              have u0 := S.out.get 3 0 rfl rfl
              have u1 := S.out.get 3 1 rfl rfl
              have u2 := S.out.get 3 2 rfl rfl
              have u3 := S.out.free 3 0 rfl
              have u4 := S.out.free 3 1 rfl
              have u5 := S.out.free 3 2 rfl
              have r0 := S2.get 3 0 rfl rfl
              have r1 := S2.get 3 1 rfl rfl
              have r2 := S2.get 3 2 rfl rfl
              go_wp2_with fail
              refine bodyPost_ret (v := .agg #[.slice Ah t.hs.length ch, .slice Aw t.ws.length cw, .slice Ay t.ys.length cy]) (by simp [results, Tryd.results53, go_sem, r0, r1, r2]) rfl ⟨_, rfl, _, _, _, rfl, ?_⟩
              exact (S2.fix.cut 3).perm ((List.perm_middle (l₁ := [_]) (l₂ := [_])).trans (List.Perm.cons _ ((List.perm_middle (l₁ := [_]) (l₂ := [])).trans (List.Perm.cons _ (List.Perm.cons _ (List.Perm.refl _))))))
        · intro K hK
          refine loud_op rfl rfl ?_
          go_simp
          have hbq := (Below.refl v3.heap.size v3).alloc (Nat.le_refl _) (.cells #[] 102)
          have HLY := Lib.hid HB.out.size
          have S := Lib.hid (S.out.made' (grown_of_below hbq none) (World.ownsRow_made (e := 102) (size := 2) v3 #[] 0 S.out.bel.size hm0 rfl))
          obtain ⟨v4, hwd⟩ : ∃ x, v3.alloc (.cells #[] 102) = x := ⟨_, rfl⟩
          rw [hwd] at S hbq ⊢
          have HB := Lib.hid (bto HB.out hbq)
          refine hK _ _ HB.out ?_
          clear hK K hbq hwd
          refine treeB_node ?_
          simp only [opsAt, List.filterMap_nil]
          refine wpQuiet_nil ?_
          refine all_one ?_
          · intro K hK
            refine loud_op rfl rfl ?_
            refine wp_append_St S.out 2 (.tmp 7) (.tmp 9) 53 rfl 3 hi0 (.int .i64 0) 1 8 Tryd.underlying53 hi hz0 hz1 hz2 rfl (by omega) rfl rfl _ t.ws.length (t.ws.map I) rfl (HW.out.below S.out.bel) (ints_one _) (by simp only [maxLen]; omega) (by omega) ?_
            intro v' v5 hS hg
            have HB := Lib.hid (below_grown HB.out hg HLW.out HB.out.size)
            rw [Nat.zero_add, List.nil_append] at hS
            have S := Lib.hid hS
            obtain ⟨Aw, cw, rfl⟩ := own_shape (hS.own 2 rfl)
            refine hK _ _ HB.out ?_
            clear hK K hS hg
            refine treeB_node ?_
            simp only [opsAt, List.filterMap_nil]
            refine wpQuiet_nil ?_
            refine all_one ?_
            · intro K hK
              refine loud_op rfl rfl ?_
              refine wp_append_St S.out 0 (.tmp 11) (.tmp 13) 60 rfl 102 ki0 (.agg #[.int .i64 0, .int .i64 0]) 2 16 Tryd.underlying60 ki kz0 kz1 kz2 rfl (by omega) rfl rfl _ t.ys.length (spCells t.ys) rfl (HY.out.below S.out.bel) (sps_one _) (by simp only [maxLen]; omega) (by omega) ?_
              intro v' v6 hS hg
              have HB := Lib.hid (below_grown HB.out hg HLY.out HB.out.size)
              rw [Nat.zero_add, List.nil_append] at hS
              have S := Lib.hid hS
              obtain ⟨Ay, cy, rfl⟩ := own_shape (hS.own 0 rfl)
              refine hK _ _ HB.out ?_
              clear hK K hS hg
              refine treeB_last ?_
              simp only [opsAt, List.filterMap_cons, List.filterMap_nil, List.getElem?_toArray, List.getElem?_cons_succ, List.getElem?_cons_zero]
              show wpQuiet _ _ _ _ [_] _
              repeat (first | go_big_quiet_step (fail) | quiet_step (fail))
              refine wpQuiet_nil ?_
              have S2 := ((S.out.set 3 0 (.slice Ah t.hs.length ch) rfl).set 3 1 (.slice Aw t.ws.length cw) rfl).set 3 2 (.slice Ay t.ys.length cy) rfl
              have u0 := S.out.get 3 0 rfl rfl
              have u1 := S.out.get 3 1 rfl rfl
              have u2 := S.out.get 3 2 rfl rfl
              have u3 := S.out.free 3 0 rfl
              have u4 := S.out.free 3 1 rfl
              have u5 := S.out.free 3 2 rfl
              have r0 := S2.get 3 0 rfl rfl
              have r1 := S2.get 3 1 rfl rfl
              have r2 := S2.get 3 2 rfl rfl
              go_wp2_with fail
              refine bodyPost_ret (v := .agg #[.slice Ah t.hs.length ch, .slice Aw t.ws.length cw, .slice Ay t.ys.length cy]) (by simp [results, Tryd.results53, go_sem, r0, r1, r2]) rfl ⟨_, rfl, _, _, _, rfl, ?_⟩
              exact (S2.fix.cut 3).perm ((List.perm_middle (l₁ := [_]) (l₂ := [_])).trans (List.Perm.cons _ ((List.perm_middle (l₁ := [_]) (l₂ := [])).trans (List.Perm.cons _ (List.Perm.cons _ (List.Perm.refl _))))))
      · intro K hK
        refine loud_op rfl rfl ?_
        go_simp
        have hbq := (Below.refl v2.heap.size v2).alloc (Nat.le_refl _) (.cells #[] 102)
        have HLY := Lib.hid HB.out.size
        have S := Lib.hid (S.out.made' (grown_of_below hbq none) (World.ownsRow_made (e := 102) (size := 2) v2 #[] 0 S.out.bel.size hm0 rfl))
        obtain ⟨v3, hwd⟩ : ∃ x, v2.alloc (.cells #[] 102) = x := ⟨_, rfl⟩
        rw [hwd] at S hbq ⊢
        have HB := Lib.hid (bto HB.out hbq)
        refine hK _ _ HB.out ?_
        clear hK K hbq hwd
        refine treeB_node ?_
        simp only [opsAt, List.filterMap_nil]
        refine wpQuiet_nil ?_
        refine all_one ?_
        · intro K hK
          refine loud_op rfl rfl ?_
          refine wp_append_St S.out 1 (.tmp 3) (.tmp 5) 53 rfl 3 hi0 (.int .i64 0) 1 8 Tryd.underlying53 hi hz0 hz1 hz2 rfl (by omega) rfl rfl _ t.hs.length (t.hs.map I) rfl (HH.out.below S.out.bel) (ints_one _) (by simp only [maxLen]; omega) (by omega) ?_
          intro v' v4 hS hg
          have HB := Lib.hid (below_grown HB.out hg HLH.out HB.out.size)
          rw [Nat.zero_add, List.nil_append] at hS
          have S := Lib.hid hS
          obtain ⟨Ah, ch, rfl⟩ := own_shape (hS.own 1 rfl)
          refine hK _ _ HB.out ?_
          clear hK K hS hg
          refine treeB_node ?_
          simp only [opsAt, List.filterMap_nil]
          refine wpQuiet_nil ?_
          refine all_one ?_
          · intro K hK
            refine loud_op rfl rfl ?_
            refine wp_append_St S.out 2 (.tmp 7) (.tmp 9) 53 rfl 3 hi0 (.int .i64 0) 1 8 Tryd.underlying53 hi hz0 hz1 hz2 rfl (by omega) rfl rfl _ t.ws.length (t.ws.map I) rfl (HW.out.below S.out.bel) (ints_one _) (by simp only [maxLen]; omega) (by omega) ?_
            intro v' v5 hS hg
            have HB := Lib.hid (below_grown HB.out hg HLW.out HB.out.size)
            rw [Nat.zero_add, List.nil_append] at hS
            have S := Lib.hid hS
            obtain ⟨Aw, cw, rfl⟩ := own_shape (hS.own 2 rfl)
            refine hK _ _ HB.out ?_
            clear hK K hS hg
            refine treeB_node ?_
            simp only [opsAt, List.filterMap_nil]
            refine wpQuiet_nil ?_
            refine all_one ?_
            · intro K hK
              refine loud_op rfl rfl ?_
              refine wp_append_St S.out 0 (.tmp 11) (.tmp 13) 60 rfl 102 ki0 (.agg #[.int .i64 0, .int .i64 0]) 2 16 Tryd.underlying60 ki kz0 kz1 kz2 rfl (by omega) rfl rfl _ t.ys.length (spCells t.ys) rfl (HY.out.below S.out.bel) (sps_one _) (by simp only [maxLen]; omega) (by omega) ?_
              intro v' v6 hS hg
              have HB := Lib.hid (below_grown HB.out hg HLY.out HB.out.size)
              rw [Nat.zero_add, List.nil_append] at hS
              have S := Lib.hid hS
              obtain ⟨Ay, cy, rfl⟩ := own_shape (hS.own 0 rfl)
              refine hK _ _ HB.out ?_
              clear hK K hS hg
              refine treeB_last ?_
              simp only [opsAt, List.filterMap_cons, List.filterMap_nil, List.getElem?_toArray, List.getElem?_cons_succ, List.getElem?_cons_zero]
              show wpQuiet _ _ _ _ [_] _
              repeat (first | go_big_quiet_step (fail) | quiet_step (fail))
              refine wpQuiet_nil ?_
              have S2 := ((S.out.set 3 0 (.slice Ah t.hs.length ch) rfl).set 3 1 (.slice Aw t.ws.length cw) rfl).set 3 2 (.slice Ay t.ys.length cy) rfl
              have u0 := S.out.get 3 0 rfl rfl
              have u1 := S.out.get 3 1 rfl rfl
              have u2 := S.out.get 3 2 rfl rfl
              have u3 := S.out.free 3 0 rfl
              have u4 := S.out.free 3 1 rfl
              have u5 := S.out.free 3 2 rfl
              have r0 := S2.get 3 0 rfl rfl
              have r1 := S2.get 3 1 rfl rfl
              have r2 := S2.get 3 2 rfl rfl
              go_wp2_with fail
              refine bodyPost_ret (v := .agg #[.slice Ah t.hs.length ch, .slice Aw t.ws.length cw, .slice Ay t.ys.length cy]) (by simp [results, Tryd.results53, go_sem, r0, r1, r2]) rfl ⟨_, rfl, _, _, _, rfl, ?_⟩
              exact (S2.fix.cut 3).perm ((List.perm_middle (l₁ := [_]) (l₂ := [_])).trans (List.Perm.cons _ ((List.perm_middle (l₁ := [_]) (l₂ := [])).trans (List.Perm.cons _ (List.Perm.cons _ (List.Perm.refl _))))))
    · intro K hK
      refine loud_op rfl rfl ?_
      go_simp
      have hbq := (Below.refl v1.heap.size v1).alloc (Nat.le_refl _) (.cells #[] 102)
      have HLY := Lib.hid HB.out.size
      have S := Lib.hid (S.out.made' (grown_of_below hbq none) (World.ownsRow_made (e := 102) (size := 2) v1 #[] 0 S.out.bel.size hm0 rfl))
      obtain ⟨v2, hwd⟩ : ∃ x, v1.alloc (.cells #[] 102) = x := ⟨_, rfl⟩
      rw [hwd] at S hbq ⊢
      have HB := Lib.hid (bto HB.out hbq)
      refine hK _ _ HB.out ?_
      clear hK K hbq hwd
      refine treeB_node ?_
      simp only [opsAt, List.filterMap_nil]
      refine wpQuiet_nil ?_
      refine all_one ?_
      · intro K hK
        refine loud_op rfl rfl ?_
        go_simp
        have hbq := (Below.refl v2.heap.size v2).alloc (Nat.le_refl _) (.cells #[] 3)
        have HLH := Lib.hid HB.out.size
        have S := Lib.hid (S.out.made' (grown_of_below hbq none) (World.ownsRow_made (e := 3) (size := 1) v2 #[] 0 S.out.bel.size hm0 rfl))
        obtain ⟨v3, hwd⟩ : ∃ x, v2.alloc (.cells #[] 3) = x := ⟨_, rfl⟩
        rw [hwd] at S hbq ⊢
        have HB := Lib.hid (bto HB.out hbq)
        refine hK _ _ HB.out ?_
        clear hK K hbq hwd
        refine treeB_node ?_
        simp only [opsAt, List.filterMap_nil]
        refine wpQuiet_nil ?_
        refine all_one ?_
        · intro K hK
          refine loud_op rfl rfl ?_
          refine wp_append_St S.out 0 (.tmp 3) (.tmp 5) 53 rfl 3 hi0 (.int .i64 0) 1 8 Tryd.underlying53 hi hz0 hz1 hz2 rfl (by omega) rfl rfl _ t.hs.length (t.hs.map I) rfl (HH.out.below S.out.bel) (ints_one _) (by simp only [maxLen]; omega) (by omega) ?_
          intro v' v4 hS hg
          have HB := Lib.hid (below_grown HB.out hg HLH.out HB.out.size)
          rw [Nat.zero_add, List.nil_append] at hS
          have S := Lib.hid hS
          obtain ⟨Ah, ch, rfl⟩ := own_shape (hS.own 0 rfl)
          refine hK _ _ HB.out ?_
          clear hK K hS hg
          refine treeB_node ?_
          simp only [opsAt, List.filterMap_nil]
          refine wpQuiet_nil ?_
          refine all_one ?_
          · intro K hK
            refine loud_op rfl rfl ?_
            refine wp_append_St S.out 2 (.tmp 7) (.tmp 9) 53 rfl 3 hi0 (.int .i64 0) 1 8 Tryd.underlying53 hi hz0 hz1 hz2 rfl (by omega) rfl rfl _ t.ws.length (t.ws.map I) rfl (HW.out.below S.out.bel) (ints_one _) (by simp only [maxLen]; omega) (by omega) ?_
            intro v' v5 hS hg
            have HB := Lib.hid (below_grown HB.out hg HLW.out HB.out.size)
            rw [Nat.zero_add, List.nil_append] at hS
            have S := Lib.hid hS
            obtain ⟨Aw, cw, rfl⟩ := own_shape (hS.own 2 rfl)
            refine hK _ _ HB.out ?_
            clear hK K hS hg
            refine treeB_node ?_
            simp only [opsAt, List.filterMap_nil]
            refine wpQuiet_nil ?_
            refine all_one ?_
            · intro K hK
              refine loud_op rfl rfl ?_
              refine wp_append_St S.out 1 (.tmp 11) (.tmp 13) 60 rfl 102 ki0 (.agg #[.int .i64 0, .int .i64 0]) 2 16 Tryd.underlying60 ki kz0 kz1 kz2 rfl (by omega) rfl rfl _ t.ys.length (spCells t.ys) rfl (HY.out.below S.out.bel) (sps_one _) (by simp only [maxLen]; omega) (by omega) ?_
              intro v' v6 hS hg
              have HB := Lib.hid (below_grown HB.out hg HLY.out HB.out.size)
              rw [Nat.zero_add, List.nil_append] at hS
              have S := Lib.hid hS
              obtain ⟨Ay, cy, rfl⟩ := own_shape (hS.own 1 rfl)
              refine hK _ _ HB.out ?_
              clear hK K hS hg
              refine treeB_last ?_
              simp only [opsAt, List.filterMap_cons, List.filterMap_nil, List.getElem?_toArray, List.getElem?_cons_succ, List.getElem?_cons_zero]
              show wpQuiet _ _ _ _ [_] _
              repeat (first | go_big_quiet_step (fail) | quiet_step (fail))
              refine wpQuiet_nil ?_
              have S2 := ((S.out.set 3 0 (.slice Ah t.hs.length ch) rfl).set 3 1 (.slice Aw t.ws.length cw) rfl).set 3 2 (.slice Ay t.ys.length cy) rfl
              have u0 := S.out.get 3 0 rfl rfl
              have u1 := S.out.get 3 1 rfl rfl
              have u2 := S.out.get 3 2 rfl rfl
              have u3 := S.out.free 3 0 rfl
              have u4 := S.out.free 3 1 rfl
              have u5 := S.out.free 3 2 rfl
              have r0 := S2.get 3 0 rfl rfl
              have r1 := S2.get 3 1 rfl rfl
              have r2 := S2.get 3 2 rfl rfl
              go_wp2_with fail
              refine bodyPost_ret (v := .agg #[.slice Ah t.hs.length ch, .slice Aw t.ws.length cw, .slice Ay t.ys.length cy]) (by simp [results, Tryd.results53, go_sem, r0, r1, r2]) rfl ⟨_, rfl, _, _, _, rfl, ?_⟩
              exact (S2.fix.cut 3).perm (List.Perm.cons _ ((List.perm_middle (l₁ := [_]) (l₂ := [])).trans (List.Perm.cons _ (List.Perm.cons _ (List.Perm.refl _)))))
  · intro K hK
    refine loud_op rfl rfl ?_
    go_simp
    have hbq := (Below.refl v0.heap.size v0).alloc (Nat.le_refl _) (.cells #[] 102)
    have HLY := Lib.hid HB.out.size
    have S := Lib.hid (S.out.made' (grown_of_below hbq none) (World.ownsRow_made (e := 102) (size := 2) v0 #[] 0 S.out.bel.size hm0 rfl))
    obtain ⟨v1, hwd⟩ : ∃ x, v0.alloc (.cells #[] 102) = x := ⟨_, rfl⟩
    rw [hwd] at S hbq ⊢
    have HB := Lib.hid (bto HB.out hbq)
    refine hK _ _ HB.out ?_
    clear hK K hbq hwd
    refine treeB_node ?_
    simp only [opsAt, List.filterMap_nil]
    refine wpQuiet_nil ?_
    refine all_two ?_ ?_
    · intro K hK
      refine loud_op rfl rfl ?_
      go_simp
      have hbq := (Below.refl v1.heap.size v1).alloc (Nat.le_refl _) (.cells #[] 3)
      have HLH := Lib.hid HB.out.size
      have S := Lib.hid (S.out.made' (grown_of_below hbq none) (World.ownsRow_made (e := 3) (size := 1) v1 #[] 0 S.out.bel.size hm0 rfl))
      obtain ⟨v2, hwd⟩ : ∃ x, v1.alloc (.cells #[] 3) = x := ⟨_, rfl⟩
      rw [hwd] at S hbq ⊢
      have HB := Lib.hid (bto HB.out hbq)
      refine hK _ _ HB.out ?_
      clear hK K hbq hwd
      refine treeB_node ?_
      simp only [opsAt, List.filterMap_nil]
      refine wpQuiet_nil ?_
      refine all_two ?_ ?_
      · intro K hK
        refine loud_op rfl rfl ?_
        refine wp_append_St S.out 0 (.tmp 3) (.tmp 5) 53 rfl 3 hi0 (.int .i64 0) 1 8 Tryd.underlying53 hi hz0 hz1 hz2 rfl (by omega) rfl rfl _ t.hs.length (t.hs.map I) rfl (HH.out.below S.out.bel) (ints_one _) (by simp only [maxLen]; omega) (by omega) ?_
        intro v' v3 hS hg
        have HB := Lib.hid (below_grown HB.out hg HLH.out HB.out.size)
        rw [Nat.zero_add, List.nil_append] at hS
        have S := Lib.hid hS
        obtain ⟨Ah, ch, rfl⟩ := own_shape (hS.own 0 rfl)
        refine hK _ _ HB.out ?_
        clear hK K hS hg
        refine treeB_node ?_
        simp only [opsAt, List.filterMap_nil]
        refine wpQuiet_nil ?_
        refine all_one ?_
        · intro K hK
          refine loud_op rfl rfl ?_
          go_simp
          have hbq := (Below.refl v3.heap.size v3).alloc (Nat.le_refl _) (.cells #[] 3)
          have HLW := Lib.hid HB.out.size
          have S := Lib.hid (S.out.made' (grown_of_below hbq none) (World.ownsRow_made (e := 3) (size := 1) v3 #[] 0 S.out.bel.size hm0 rfl))
          obtain ⟨v4, hwd⟩ : ∃ x, v3.alloc (.cells #[] 3) = x := ⟨_, rfl⟩
          rw [hwd] at S hbq ⊢
          have HB := Lib.hid (bto HB.out hbq)
          refine hK _ _ HB.out ?_
          clear hK K hbq hwd
          refine treeB_node ?_
          simp only [opsAt, List.filterMap_nil]
          refine wpQuiet_nil ?_
          refine all_one ?_
          · intro K hK
            refine loud_op rfl rfl ?_
            refine wp_append_St S.out 0 (.tmp 7) (.tmp 9) 53 rfl 3 hi0 (.int .i64 0) 1 8 Tryd.underlying53 hi hz0 hz1 hz2 rfl (by omega) rfl rfl _ t.ws.length (t.ws.map I) rfl (HW.out.below S.out.bel) (ints_one _) (by simp only [maxLen]; omega) (by omega) ?_
            intro v' v5 hS hg
            have HB := Lib.hid (below_grown HB.out hg HLW.out HB.out.size)
            rw [Nat.zero_add, List.nil_append] at hS
            have S := Lib.hid hS
            obtain ⟨Aw, cw, rfl⟩ := own_shape (hS.own 0 rfl)
            refine hK _ _ HB.out ?_
            clear hK K hS hg
            refine treeB_node ?_
            simp only [opsAt, List.filterMap_nil]
            refine wpQuiet_nil ?_
            refine all_one ?_
            · intro K hK
              refine loud_op rfl rfl ?_
              refine wp_append_St S.out 2 (.tmp 11) (.tmp 13) 60 rfl 102 ki0 (.agg #[.int .i64 0, .int .i64 0]) 2 16 Tryd.underlying60 ki kz0 kz1 kz2 rfl (by omega) rfl rfl _ t.ys.length (spCells t.ys) rfl (HY.out.below S.out.bel) (sps_one _) (by simp only [maxLen]; omega) (by omega) ?_
              intro v' v6 hS hg
              have HB := Lib.hid (below_grown HB.out hg HLY.out HB.out.size)
              rw [Nat.zero_add, List.nil_append] at hS
              have S := Lib.hid hS
              obtain ⟨Ay, cy, rfl⟩ := own_shape (hS.own 2 rfl)
              refine hK _ _ HB.out ?_
              clear hK K hS hg
              refine treeB_last ?_
              simp only [opsAt, List.filterMap_cons, List.filterMap_nil, List.getElem?_toArray, List.getElem?_cons_succ, List.getElem?_cons_zero]
              show wpQuiet _ _ _ _ [_] _
              repeat (first | go_big_quiet_step (fail) | quiet_step (fail))
              refine wpQuiet_nil ?_
              have S2 := ((S.out.set 3 0 (.slice Ah t.hs.length ch) rfl).set 3 1 (.slice Aw t.ws.length cw) rfl).set 3 2 (.slice Ay t.ys.length cy) rfl
              have u0 := S.out.get 3 0 rfl rfl
              have u1 := S.out.get 3 1 rfl rfl
              have u2 := S.out.get 3 2 rfl rfl
              have u3 := S.out.free 3 0 rfl
              have u4 := S.out.free 3 1 rfl
              have u5 := S.out.free 3 2 rfl
              have r0 := S2.get 3 0 rfl rfl
              have r1 := S2.get 3 1 rfl rfl
              have r2 := S2.get 3 2 rfl rfl
              go_wp2_with fail
              refine bodyPost_ret (v := .agg #[.slice Ah t.hs.length ch, .slice Aw t.ws.length cw, .slice Ay t.ys.length cy]) (by simp [results, Tryd.results53, go_sem, r0, r1, r2]) rfl ⟨_, rfl, _, _, _, rfl, ?_⟩
              exact (S2.fix.cut 3).perm ((List.perm_middle (l₁ := [_]) (l₂ := [_])).trans (List.Perm.cons _ (List.Perm.cons _ (List.Perm.cons _ (List.Perm.refl _)))))
      · intro K hK
        refine loud_op rfl rfl ?_
        go_simp
        have hbq := (Below.refl v2.heap.size v2).alloc (Nat.le_refl _) (.cells #[] 3)
        have HLW := Lib.hid HB.out.size
        have S := Lib.hid (S.out.made' (grown_of_below hbq none) (World.ownsRow_made (e := 3) (size := 1) v2 #[] 0 S.out.bel.size hm0 rfl))
        obtain ⟨v3, hwd⟩ : ∃ x, v2.alloc (.cells #[] 3) = x := ⟨_, rfl⟩
        rw [hwd] at S hbq ⊢
        have HB := Lib.hid (bto HB.out hbq)
        refine hK _ _ HB.out ?_
        clear hK K hbq hwd
        refine treeB_node ?_
        simp only [opsAt, List.filterMap_nil]
        refine wpQuiet_nil ?_
        refine all_one ?_
        · intro K hK
          refine loud_op rfl rfl ?_
          refine wp_append_St S.out 1 (.tmp 3) (.tmp 5) 53 rfl 3 hi0 (.int .i64 0) 1 8 Tryd.underlying53 hi hz0 hz1 hz2 rfl (by omega) rfl rfl _ t.hs.length (t.hs.map I) rfl (HH.out.below S.out.bel) (ints_one _) (by simp only [maxLen]; omega) (by omega) ?_
          intro v' v4 hS hg
          have HB := Lib.hid (below_grown HB.out hg HLH.out HB.out.size)
          rw [Nat.zero_add, List.nil_append] at hS
          have S := Lib.hid hS
          obtain ⟨Ah, ch, rfl⟩ := own_shape (hS.own 1 rfl)
          refine hK _ _ HB.out ?_
          clear hK K hS hg
          refine treeB_node ?_
          simp only [opsAt, List.filterMap_nil]
          refine wpQuiet_nil ?_
          refine all_one ?_
          · intro K hK
            refine loud_op rfl rfl ?_
            refine wp_append_St S.out 0 (.tmp 7) (.tmp 9) 53 rfl 3 hi0 (.int .i64 0) 1 8 Tryd.underlying53 hi hz0 hz1 hz2 rfl (by omega) rfl rfl _ t.ws.length (t.ws.map I) rfl (HW.out.below S.out.bel) (ints_one _) (by simp only [maxLen]; omega) (by omega) ?_
            intro v' v5 hS hg
            have HB := Lib.hid (below_grown HB.out hg HLW.out HB.out.size)
            rw [Nat.zero_add, List.nil_append] at hS
            have S := Lib.hid hS
            obtain ⟨Aw, cw, rfl⟩ := own_shape (hS.own 0 rfl)
            refine hK _ _ HB.out ?_
            clear hK K hS hg
            refine treeB_node ?_
            simp only [opsAt, List.filterMap_nil]
            refine wpQuiet_nil ?_
            refine all_one ?_
            · intro K hK
              refine loud_op rfl rfl ?_
              refine wp_append_St S.out 2 (.tmp 11) (.tmp 13) 60 rfl 102 ki0 (.agg #[.int .i64 0, .int .i64 0]) 2 16 Tryd.underlying60 ki kz0 kz1 kz2 rfl (by omega) rfl rfl _ t.ys.length (spCells t.ys) rfl (HY.out.below S.out.bel) (sps_one _) (by simp only [maxLen]; omega) (by omega) ?_
              intro v' v6 hS hg
              have HB := Lib.hid (below_grown HB.out hg HLY.out HB.out.size)
              rw [Nat.zero_add, List.nil_append] at hS
              have S := Lib.hid hS
              obtain ⟨Ay, cy, rfl⟩ := own_shape (hS.own 2 rfl)
              refine hK _ _ HB.out ?_
              clear hK K hS hg
              refine treeB_last ?_
              simp only [opsAt, List.filterMap_cons, List.filterMap_nil, List.getElem?_toArray, List.getElem?_cons_succ, List.getElem?_cons_zero]
              show wpQuiet _ _ _ _ [_] _
              repeat (first | go_big_quiet_step (fail) | quiet_step (fail))
              refine wpQuiet_nil ?_
              have S2 := ((S.out.set 3 0 (.slice Ah t.hs.length ch) rfl).set 3 1 (.slice Aw t.ws.length cw) rfl).set 3 2 (.slice Ay t.ys.length cy) rfl
              have u0 := S.out.get 3 0 rfl rfl
              have u1 := S.out.get 3 1 rfl rfl
              have u2 := S.out.get 3 2 rfl rfl
              have u3 := S.out.free 3 0 rfl
              have u4 := S.out.free 3 1 rfl
              have u5 := S.out.free 3 2 rfl
              have r0 := S2.get 3 0 rfl rfl
              have r1 := S2.get 3 1 rfl rfl
              have r2 := S2.get 3 2 rfl rfl
              go_wp2_with fail
              refine bodyPost_ret (v := .agg #[.slice Ah t.hs.length ch, .slice Aw t.ws.length cw, .slice Ay t.ys.length cy]) (by simp [results, Tryd.results53, go_sem, r0, r1, r2]) rfl ⟨_, rfl, _, _, _, rfl, ?_⟩
              exact (S2.fix.cut 3).perm ((List.perm_middle (l₁ := [_]) (l₂ := [_])).trans (List.Perm.cons _ (List.Perm.cons _ (List.Perm.cons _ (List.Perm.refl _)))))
    · intro K hK
      refine loud_op rfl rfl ?_
      go_simp
      have hbq := (Below.refl v1.heap.size v1).alloc (Nat.le_refl _) (.cells #[] 3)
      have HLW := Lib.hid HB.out.size
      have S := Lib.hid (S.out.made' (grown_of_below hbq none) (World.ownsRow_made (e := 3) (size := 1) v1 #[] 0 S.out.bel.size hm0 rfl))
      obtain ⟨v2, hwd⟩ : ∃ x, v1.alloc (.cells #[] 3) = x := ⟨_, rfl⟩
      rw [hwd] at S hbq ⊢
      have HB := Lib.hid (bto HB.out hbq)
      refine hK _ _ HB.out ?_
      clear hK K hbq hwd
      refine treeB_node ?_
      simp only [opsAt, List.filterMap_nil]
      refine wpQuiet_nil ?_
      refine all_one ?_
      · intro K hK
        refine loud_op rfl rfl ?_
        go_simp
        have hbq := (Below.refl v2.heap.size v2).alloc (Nat.le_refl _) (.cells #[] 3)
        have HLH := Lib.hid HB.out.size
        have S := Lib.hid (S.out.made' (grown_of_below hbq none) (World.ownsRow_made (e := 3) (size := 1) v2 #[] 0 S.out.bel.size hm0 rfl))
        obtain ⟨v3, hwd⟩ : ∃ x, v2.alloc (.cells #[] 3) = x := ⟨_, rfl⟩
        rw [hwd] at S hbq ⊢
        have HB := Lib.hid (bto HB.out hbq)
        refine hK _ _ HB.out ?_
        clear hK K hbq hwd
        refine treeB_node ?_
        simp only [opsAt, List.filterMap_nil]
        refine wpQuiet_nil ?_
        refine all_one ?_
        · intro K hK
          refine loud_op rfl rfl ?_
          refine wp_append_St S.out 0 (.tmp 3) (.tmp 5) 53 rfl 3 hi0 (.int .i64 0) 1 8 Tryd.underlying53 hi hz0 hz1 hz2 rfl (by omega) rfl rfl _ t.hs.length (t.hs.map I) rfl (HH.out.below S.out.bel) (ints_one _) (by simp only [maxLen]; omega) (by omega) ?_
          intro v' v4 hS hg
          have HB := Lib.hid (below_grown HB.out hg HLH.out HB.out.size)
          rw [Nat.zero_add, List.nil_append] at hS
          have S := Lib.hid hS
          obtain ⟨Ah, ch, rfl⟩ := own_shape (hS.own 0 rfl)
          refine hK _ _ HB.out ?_
          clear hK K hS hg
          refine treeB_node ?_
          simp only [opsAt, List.filterMap_nil]
          refine wpQuiet_nil ?_
          refine all_one ?_
          · intro K hK
            refine loud_op rfl rfl ?_
            refine wp_append_St S.out 1 (.tmp 7) (.tmp 9) 53 rfl 3 hi0 (.int .i64 0) 1 8 Tryd.underlying53 hi hz0 hz1 hz2 rfl (by omega) rfl rfl _ t.ws.length (t.ws.map I) rfl (HW.out.below S.out.bel) (ints_one _) (by simp only [maxLen]; omega) (by omega) ?_
            intro v' v5 hS hg
            have HB := Lib.hid (below_grown HB.out hg HLW.out HB.out.size)
            rw [Nat.zero_add, List.nil_append] at hS
            have S := Lib.hid hS
            obtain ⟨Aw, cw, rfl⟩ := own_shape (hS.own 1 rfl)
            refine hK _ _ HB.out ?_
            clear hK K hS hg
            refine treeB_node ?_
            simp only [opsAt, List.filterMap_nil]
            refine wpQuiet_nil ?_
            refine all_one ?_
            · intro K hK
              refine loud_op rfl rfl ?_
              refine wp_append_St S.out 2 (.tmp 11) (.tmp 13) 60 rfl 102 ki0 (.agg #[.int .i64 0, .int .i64 0]) 2 16 Tryd.underlying60 ki kz0 kz1 kz2 rfl (by omega) rfl rfl _ t.ys.length (spCells t.ys) rfl (HY.out.below S.out.bel) (sps_one _) (by simp only [maxLen]; omega) (by omega) ?_
              intro v' v6 hS hg
              have HB := Lib.hid (below_grown HB.out hg HLY.out HB.out.size)
              rw [Nat.zero_add, List.nil_append] at hS
              have S := Lib.hid hS
              obtain ⟨Ay, cy, rfl⟩ := own_shape (hS.own 2 rfl)
              refine hK _ _ HB.out ?_
              clear hK K hS hg
              refine treeB_last ?_
              simp only [opsAt, List.filterMap_cons, List.filterMap_nil, List.getElem?_toArray, List.getElem?_cons_succ, List.getElem?_cons_zero]
              show wpQuiet _ _ _ _ [_] _
              repeat (first | go_big_quiet_step (fail) | quiet_step (fail))
              refine wpQuiet_nil ?_
              have S2 := ((S.out.set 3 0 (.slice Ah t.hs.length ch) rfl).set 3 1 (.slice Aw t.ws.length cw) rfl).set 3 2 (.slice Ay t.ys.length cy) rfl
              have u0 := S.out.get 3 0 rfl rfl
              have u1 := S.out.get 3 1 rfl rfl
              have u2 := S.out.get 3 2 rfl rfl
              have u3 := S.out.free 3 0 rfl
              have u4 := S.out.free 3 1 rfl
              have u5 := S.out.free 3 2 rfl
              have r0 := S2.get 3 0 rfl rfl
              have r1 := S2.get 3 1 rfl rfl
              have r2 := S2.get 3 2 rfl rfl
              go_wp2_with fail
              refine bodyPost_ret (v := .agg #[.slice Ah t.hs.length ch, .slice Aw t.ws.length cw, .slice Ay t.ys.length cy]) (by simp [results, Tryd.results53, go_sem, r0, r1, r2]) rfl ⟨_, rfl, _, _, _, rfl, ?_⟩
              exact (S2.fix.cut 3).perm (List.Perm.cons _ (List.Perm.cons _ (List.Perm.cons _ (List.Perm.refl _))))

end Go.Proofs.YtldcehhhndlhdaaDoor
