/- Walks: the reference's Copy and Roomier; street, Example. -/
import Derived.Test.YtokendenofbnhaaW14
import Derived.Test.YtokendenofbnhaaPlain5
import Derived.Test.YtokendenofbnhaaSegT
namespace Go.Proofs.Ytokendenofbnhaa
open Go.RowKit Go.Sort

/-- A roster in memory that the call has made. -/
def OwnRos (w : World) (base : Nat) (v : Value) (r : Ros) : Prop := ∃ rv sv, v = .agg #[rv, sv] ∧ w.ownsRow base 3 1 rv r.room.length (r.room.map I) ∧ w.ownsRow base 33 4 sv r.strs.length (strCells r.strs)
theorem OwnRos.ros {w : World} {base : Nat} {v : Value} {r : Ros} (h : OwnRos w base v r) : RosAt w v r := by
  obtain ⟨rv, sv, rfl, h1, h2⟩ := h
  exact ⟨rv, sv, rfl, Ints.of_own h1, Reads.of_own h2⟩
theorem OwnRos.below {w w' : World} {base : Nat} {v : Value} {r : Ros} (h : OwnRos w base v r) (hb : Below w.heap.size w w') : OwnRos w' base v r := by
  obtain ⟨rv, sv, rfl, h1, h2⟩ := h
  exact ⟨rv, sv, rfl, own_below h1 hb, own_below h2 hb⟩
theorem own_ne {W : World} {B B' e e' s s' n n' : Nat} {v v' : Value} {xs xs' : List Value} (h : W.ownsRow B e s v n xs) (h' : W.ownsRow B' e' s' v' n' xs') (hne : e ≠ e') {g : Nat} (hg : v.ownBlock = some g) : v'.ownBlock ≠ some g := by
  intro hg'
  rcases h.2 with ⟨rfl, _⟩ | ⟨g1, cap, cur, rfl, _, hh, _⟩
  · cases hg
  · rcases h'.2 with ⟨rfl, _⟩ | ⟨g2, cap', cur', rfl, _, hh', _⟩
    · cases hg'
    · have e1 : g1 = g := by simpa [Value.ownBlock] using hg
      have e2 : g2 = g := by simpa [Value.ownBlock] using hg'
      rw [e1] at hh
      rw [e2] at hh'
      rw [hh] at hh'
      injection hh' with hh'
      injection hh' with _ ht
      exact hne ht
/-- Two rows in new memory, of two kinds. -/
theorem St.take2 {w0 w w' : World} {n : Nat} {L : List Item} (h : St w0 w n L) (hb : Below w.heap.size w w') {e e' s s' m m' : Nat} {v v' : Value} {xs xs' : List Value} (ho : w'.ownsRow w.heap.size e s v m xs) (ho' : w'.ownsRow w.heap.size e' s' v' m' xs') (hne : e ≠ e') : St w0 w' w'.heap.size (.own e s v m xs :: .own e' s' v' m' xs' :: L) := by
  have h1 := h.take hb ho'
  refine ⟨rfl, h1.bel, fun x hx => ?_, ?_⟩
  · rcases List.mem_cons.1 hx with hx | hx
    · rw [hx]; exact own_base' ho h.bel.size
    · exact h1.ok x hx
  · rw [List.filterMap_cons]
    split
    · exact h1.apart
    · rename_i b hb'
      refine List.nodup_cons.2 ⟨fun hm => ?_, h1.apart⟩
      rw [List.filterMap_cons] at hm
      split at hm
      · have h3 := (ho.lt b hb').1
        have h4 := (h.lt_of hm).2
        have := h.size
        omega
      · rename_i c hc
        rcases List.mem_cons.1 hm with rfl | hm
        · exact own_ne ho ho' hne hb' hc
        · have h3 := (ho.lt b hb').1
          have h4 := (h.lt_of hm).2
          have := h.size
          omega

set_option maxRecDepth 20000 in
set_option maxHeartbeats 4000000 in
theorem copy_any (v : Value) (r : Ros) (w : World) (hv : RosAt w v r) (hlen : r.room.length ≤ 1000) (hlen' : r.strs.length ≤ 1000) :
    Calls Try.prog 21 #[v] w fun e w' => ∃ v', e = .returned v' ∧ OwnRos w' w.heap.size v' r ∧ Below w.heap.size w w' := by
  obtain ⟨rv, sv, rfl, hr, hs⟩ := hv
  obtain ⟨A1, c1, rfl, hr1, hr2, -⟩ := hr.open_
  obtain ⟨A2, c2, rfl, hs1, hs2, -⟩ := hs.open_
  have HR := Lib.hid hr
  have HS := Lib.hid hs
  clear hr hs
  have S := Lib.hid (show St w (w.alloc (.cells #[.slice A1 r.room.length c1, .slice A2 r.strs.length c2] 25)) (w.heap.size + 1) [.box w.heap.size [.slice A1 r.room.length c1, .slice A2 r.strs.length c2]] from (St.init w).alloc [.slice A1 r.room.length c1, .slice A2 r.strs.length c2] 25)
  obtain ⟨i0, hi, hz0, hz1, hz2⟩ := info_parts Try.info3
  obtain ⟨j0, ki, kz0, kz1, kz2⟩ := info_parts Try.info33
  have S := Lib.hid (S.out.alloc [.slice none 0 0, .slice none 0 0] 25)
  go_enter Try.func21, Try.ntmps21
  go_wp2_with fail
  refine wp_region_treeB (.node [1, 2, 5, 6] [0, 4] (fun l => if l = 0 then .node [] [3, 4] (fun l => if l = 3 then .node [] [4] (fun _ => .node [] [7] (fun _ => .last [8] [9])) else .node [] [3] (fun _ => .node [] [7] (fun _ => .last [8] [9]))) else .node [] [0] (fun _ => .node [] [3] (fun _ => .node [] [7] (fun _ => .last [8] [9]))))) 9 (by kernel_rfl) (by kernel_rfl) ?_
  intro KQ hKQ w1 hb
  have S := Lib.hid (S.out.call hb)
  clear hb
  have k0 := cell_regrown (S.out.get 1 0 rfl rfl)
  have k1 := cell_regrown (S.out.get 1 1 rfl rfl)
  have HB := Lib.hid (Below.refl w1.heap.size w1)
  refine treeB_node ?_
  simp only [opsAt, List.filterMap_cons, List.filterMap_nil, List.getElem?_toArray, List.getElem?_cons_succ, List.getElem?_cons_zero]
  repeat (first | go_big_quiet_step (fail) | quiet_step (fail))
  refine wpQuiet_nil ?_
  refine all_two ?_ ?_
  · have le0 := Lib.hid HB.out.size
    intro K hK
    refine loud_op rfl rfl ?_
    go_simp
    have hb := (Below.refl w1.heap.size w1).alloc (Nat.le_refl _) (.cells #[] 3)
    have hg := heap_alloc_new w1 (.cells #[] 3)
    obtain ⟨w2, hwd⟩ : ∃ x, w1.alloc (.cells #[] 3) = x := ⟨_, rfl⟩
    rw [hwd] at hb hg ⊢
    clear hwd
    have HB := Lib.hid (bto HB.out hb)
    have G0 := Lib.hid hg
    refine hK _ _ HB.out ?_
    clear hK K hb hg
    refine treeB_node ?_
    simp only [opsAt, List.filterMap_nil]
    refine wpQuiet_nil ?_
    refine all_two ?_ ?_
    · intro K hK
      refine loud_op rfl rfl ?_
      have hrd : Reads w2 1 _ r.room.length (r.room.map I) := (HR.out.below (bto S.out.bel HB.out))
      refine wp_append_fresh _ (.tmp 3) (.tmp 5) 22 rfl w1.heap.size 3 i0 (.int .i64 0) 1 8 Try.underlying22 hi hz0 hz1 hz2 rfl (by omega) w1.heap.size rfl G0.out le0.out _ r.room.length (r.room.map I) rfl hrd (ints_one r.room) (by simp only [maxLen]; omega) (by omega) HB.out.size ?_
      intro v1 w3 hown hb
      have HB := Lib.hid (bto HB.out hb)
      have O1 := Lib.hid hown
      refine hK _ _ HB.out ?_
      clear hK K hb hown hrd
      refine treeB_node ?_
      simp only [opsAt, List.filterMap_nil]
      refine wpQuiet_nil ?_
      refine all_one ?_
      have le4 := Lib.hid HB.out.size
      intro K hK
      refine loud_op rfl rfl ?_
      go_simp
      have hb := (Below.refl w3.heap.size w3).alloc (Nat.le_refl _) (.cells #[] 33)
      have hg := heap_alloc_new w3 (.cells #[] 33)
      obtain ⟨w4, hwd⟩ : ∃ x, w3.alloc (.cells #[] 33) = x := ⟨_, rfl⟩
      rw [hwd] at hb hg ⊢
      clear hwd
      have O1 := Lib.hid (own_below O1.out hb)
      have HB := Lib.hid (bto HB.out hb)
      have G4 := Lib.hid hg
      refine hK _ _ HB.out ?_
      clear hK K hb hg
      refine treeB_node ?_
      simp only [opsAt, List.filterMap_nil]
      refine wpQuiet_nil ?_
      refine all_one ?_
      intro K hK
      refine loud_op rfl rfl ?_
      have hrd : Reads w4 4 _ r.strs.length (strCells r.strs) := (HS.out.below (bto S.out.bel HB.out))
      refine wp_append_fresh _ (.tmp 7) (.tmp 9) 23 rfl w1.heap.size 33 j0 (.agg #[.int .i64 0, .int .i64 0, .int .i64 0, .int .i64 0]) 4 32 Try.underlying23 ki kz0 kz1 kz2 rfl (by omega) w3.heap.size rfl G4.out le4.out _ r.strs.length (strCells r.strs) rfl hrd (strs_one r.strs) (by simp only [maxLen]; omega) (by omega) HB.out.size ?_
      intro v2 w5 hown hb
      have O1 := Lib.hid (own_below O1.out hb)
      have HB := Lib.hid (bto HB.out hb)
      have O2 := Lib.hid hown
      refine hK _ _ HB.out ?_
      clear hK K hb hown hrd
      obtain ⟨Av1, cv1, rfl⟩ := own_shape O1.out
      obtain ⟨Av2, cv2, rfl⟩ := own_shape O2.out
      refine treeB_last ?_
      simp only [opsAt, List.filterMap_cons, List.filterMap_nil, List.getElem?_toArray, List.getElem?_cons_succ, List.getElem?_cons_zero]
      repeat (first | go_big_quiet_step (fail) | quiet_step (fail))
      refine wpQuiet_nil ?_
      have S := Lib.hid (S.out.take2 HB.out O1.out O2.out (by decide))
      have S2 := (S.out.set 2 0 (.slice Av1 r.room.length cv1) rfl).set 2 1 (.slice Av2 r.strs.length cv2) rfl
      have u0 := S.out.get 2 0 rfl rfl
      have u1 := S.out.get 2 1 rfl rfl
      have u2 := S.out.free 2 0 rfl
      have u3 := S.out.free 2 1 rfl
      have r0 := S2.get 2 0 rfl rfl
      have r1 := S2.get 2 1 rfl rfl
      clear k0 k1
      go_wp2_with fail
      refine bodyPost_ret (v := .agg #[.slice Av1 r.room.length cv1, .slice Av2 r.strs.length cv2]) (by simp [results, Try.results21, go_sem, r0, r1]) rfl ⟨_, rfl, ⟨_, _, rfl, S2.own 0 rfl, S2.own 1 rfl⟩, S2.bel⟩
    · have le4 := Lib.hid HB.out.size
      intro K hK
      refine loud_op rfl rfl ?_
      go_simp
      have hb := (Below.refl w2.heap.size w2).alloc (Nat.le_refl _) (.cells #[] 33)
      have hg := heap_alloc_new w2 (.cells #[] 33)
      have ho := (heap_alloc_old w2 (.cells #[] 33) (r := w1.heap.size) (lt_of_block G0.out)).trans G0.out
      obtain ⟨w3, hwd⟩ : ∃ x, w2.alloc (.cells #[] 33) = x := ⟨_, rfl⟩
      rw [hwd] at hb hg ho ⊢
      clear hwd
      have HB := Lib.hid (bto HB.out hb)
      have G4 := Lib.hid hg
      have G0 := Lib.hid ho
      clear ho
      refine hK _ _ HB.out ?_
      clear hK K hb hg
      refine treeB_node ?_
      simp only [opsAt, List.filterMap_nil]
      refine wpQuiet_nil ?_
      refine all_one ?_
      intro K hK
      refine loud_op rfl rfl ?_
      have hrd : Reads w3 1 _ r.room.length (r.room.map I) := (HR.out.below (bto S.out.bel HB.out))
      refine wp_append_fresh _ (.tmp 3) (.tmp 5) 22 rfl w1.heap.size 3 i0 (.int .i64 0) 1 8 Try.underlying22 hi hz0 hz1 hz2 rfl (by omega) w1.heap.size rfl G0.out le0.out _ r.room.length (r.room.map I) rfl hrd (ints_one r.room) (by simp only [maxLen]; omega) (by omega) HB.out.size ?_
      intro v1 w4 hown hb
      have G4 := Lib.hid ((hb.block _ (lt_of_block G4.out)).trans G4.out)
      have HB := Lib.hid (bto HB.out hb)
      have O1 := Lib.hid hown
      refine hK _ _ HB.out ?_
      clear hK K hb hown hrd
      refine treeB_node ?_
      simp only [opsAt, List.filterMap_nil]
      refine wpQuiet_nil ?_
      refine all_one ?_
      intro K hK
      refine loud_op rfl rfl ?_
      have hrd : Reads w4 4 _ r.strs.length (strCells r.strs) := (HS.out.below (bto S.out.bel HB.out))
      refine wp_append_fresh _ (.tmp 7) (.tmp 9) 23 rfl w1.heap.size 33 j0 (.agg #[.int .i64 0, .int .i64 0, .int .i64 0, .int .i64 0]) 4 32 Try.underlying23 ki kz0 kz1 kz2 rfl (by omega) w2.heap.size rfl G4.out le4.out _ r.strs.length (strCells r.strs) rfl hrd (strs_one r.strs) (by simp only [maxLen]; omega) (by omega) HB.out.size ?_
      intro v2 w5 hown hb
      have O1 := Lib.hid (own_below O1.out hb)
      have HB := Lib.hid (bto HB.out hb)
      have O2 := Lib.hid hown
      refine hK _ _ HB.out ?_
      clear hK K hb hown hrd
      obtain ⟨Av1, cv1, rfl⟩ := own_shape O1.out
      obtain ⟨Av2, cv2, rfl⟩ := own_shape O2.out
      refine treeB_last ?_
      simp only [opsAt, List.filterMap_cons, List.filterMap_nil, List.getElem?_toArray, List.getElem?_cons_succ, List.getElem?_cons_zero]
      repeat (first | go_big_quiet_step (fail) | quiet_step (fail))
      refine wpQuiet_nil ?_
      have S := Lib.hid (S.out.take2 HB.out O1.out O2.out (by decide))
      have S2 := (S.out.set 2 0 (.slice Av1 r.room.length cv1) rfl).set 2 1 (.slice Av2 r.strs.length cv2) rfl
      have u0 := S.out.get 2 0 rfl rfl
      have u1 := S.out.get 2 1 rfl rfl
      have u2 := S.out.free 2 0 rfl
      have u3 := S.out.free 2 1 rfl
      have r0 := S2.get 2 0 rfl rfl
      have r1 := S2.get 2 1 rfl rfl
      clear k0 k1
      go_wp2_with fail
      refine bodyPost_ret (v := .agg #[.slice Av1 r.room.length cv1, .slice Av2 r.strs.length cv2]) (by simp [results, Try.results21, go_sem, r0, r1]) rfl ⟨_, rfl, ⟨_, _, rfl, S2.own 0 rfl, S2.own 1 rfl⟩, S2.bel⟩
  · have le4 := Lib.hid HB.out.size
    intro K hK
    refine loud_op rfl rfl ?_
    go_simp
    have hb := (Below.refl w1.heap.size w1).alloc (Nat.le_refl _) (.cells #[] 33)
    have hg := heap_alloc_new w1 (.cells #[] 33)
    obtain ⟨w2, hwd⟩ : ∃ x, w1.alloc (.cells #[] 33) = x := ⟨_, rfl⟩
    rw [hwd] at hb hg ⊢
    clear hwd
    have HB := Lib.hid (bto HB.out hb)
    have G4 := Lib.hid hg
    refine hK _ _ HB.out ?_
    clear hK K hb hg
    refine treeB_node ?_
    simp only [opsAt, List.filterMap_nil]
    refine wpQuiet_nil ?_
    refine all_one ?_
    have le0 := Lib.hid HB.out.size
    intro K hK
    refine loud_op rfl rfl ?_
    go_simp
    have hb := (Below.refl w2.heap.size w2).alloc (Nat.le_refl _) (.cells #[] 3)
    have hg := heap_alloc_new w2 (.cells #[] 3)
    have ho := (heap_alloc_old w2 (.cells #[] 3) (r := w1.heap.size) (lt_of_block G4.out)).trans G4.out
    obtain ⟨w3, hwd⟩ : ∃ x, w2.alloc (.cells #[] 3) = x := ⟨_, rfl⟩
    rw [hwd] at hb hg ho ⊢
    clear hwd
    have HB := Lib.hid (bto HB.out hb)
    have G0 := Lib.hid hg
    have G4 := Lib.hid ho
    clear ho
    refine hK _ _ HB.out ?_
    clear hK K hb hg
    refine treeB_node ?_
    simp only [opsAt, List.filterMap_nil]
    refine wpQuiet_nil ?_
    refine all_one ?_
    intro K hK
    refine loud_op rfl rfl ?_
    have hrd : Reads w3 1 _ r.room.length (r.room.map I) := (HR.out.below (bto S.out.bel HB.out))
    refine wp_append_fresh _ (.tmp 3) (.tmp 5) 22 rfl w1.heap.size 3 i0 (.int .i64 0) 1 8 Try.underlying22 hi hz0 hz1 hz2 rfl (by omega) w2.heap.size rfl G0.out le0.out _ r.room.length (r.room.map I) rfl hrd (ints_one r.room) (by simp only [maxLen]; omega) (by omega) HB.out.size ?_
    intro v1 w4 hown hb
    have G4 := Lib.hid ((hb.block _ (lt_of_block G4.out)).trans G4.out)
    have HB := Lib.hid (bto HB.out hb)
    have O1 := Lib.hid hown
    refine hK _ _ HB.out ?_
    clear hK K hb hown hrd
    refine treeB_node ?_
    simp only [opsAt, List.filterMap_nil]
    refine wpQuiet_nil ?_
    refine all_one ?_
    intro K hK
    refine loud_op rfl rfl ?_
    have hrd : Reads w4 4 _ r.strs.length (strCells r.strs) := (HS.out.below (bto S.out.bel HB.out))
    refine wp_append_fresh _ (.tmp 7) (.tmp 9) 23 rfl w1.heap.size 33 j0 (.agg #[.int .i64 0, .int .i64 0, .int .i64 0, .int .i64 0]) 4 32 Try.underlying23 ki kz0 kz1 kz2 rfl (by omega) w1.heap.size rfl G4.out le4.out _ r.strs.length (strCells r.strs) rfl hrd (strs_one r.strs) (by simp only [maxLen]; omega) (by omega) HB.out.size ?_
    intro v2 w5 hown hb
    have O1 := Lib.hid (own_below O1.out hb)
    have HB := Lib.hid (bto HB.out hb)
    have O2 := Lib.hid hown
    refine hK _ _ HB.out ?_
    clear hK K hb hown hrd
    obtain ⟨Av1, cv1, rfl⟩ := own_shape O1.out
    obtain ⟨Av2, cv2, rfl⟩ := own_shape O2.out
    refine treeB_last ?_
    simp only [opsAt, List.filterMap_cons, List.filterMap_nil, List.getElem?_toArray, List.getElem?_cons_succ, List.getElem?_cons_zero]
    repeat (first | go_big_quiet_step (fail) | quiet_step (fail))
    refine wpQuiet_nil ?_
    have S := Lib.hid (S.out.take2 HB.out O1.out O2.out (by decide))
    have S2 := (S.out.set 2 0 (.slice Av1 r.room.length cv1) rfl).set 2 1 (.slice Av2 r.strs.length cv2) rfl
    have u0 := S.out.get 2 0 rfl rfl
    have u1 := S.out.get 2 1 rfl rfl
    have u2 := S.out.free 2 0 rfl
    have u3 := S.out.free 2 1 rfl
    have r0 := S2.get 2 0 rfl rfl
    have r1 := S2.get 2 1 rfl rfl
    clear k0 k1
    go_wp2_with fail
    refine bodyPost_ret (v := .agg #[.slice Av1 r.room.length cv1, .slice Av2 r.strs.length cv2]) (by simp [results, Try.results21, go_sem, r0, r1]) rfl ⟨_, rfl, ⟨_, _, rfl, S2.own 0 rfl, S2.own 1 rfl⟩, S2.bel⟩

end Go.Proofs.Ytokendenofbnhaa
