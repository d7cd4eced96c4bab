/- Walks: the reference's Copy, Many; Huge, isKnown, inside. -/
import Derived.Test.YtplbaijdnpfdgaaW14
namespace Go.Proofs.Ytplbaijdnpfdgaa
open Go.RowKit Go.Sort

theorem snds_one (ss : List Snd) : ∀ u ∈ sndCells ss, u.oneCell' = true := fun u hu => by
  obtain ⟨p, _, hu⟩ := List.mem_flatMap.1 hu
  simp at hu
  rcases hu with rfl | rfl | rfl <;> rfl
theorem slps_one (ss : List Slp) : ∀ u ∈ slpCells ss, u.oneCell' = true := fun u hu => by
  obtain ⟨p, _, hu⟩ := List.mem_flatMap.1 hu
  simp at hu
  rcases hu with rfl | rfl | rfl | rfl <;> rfl
/-- A town in memory that the call has made. -/
def OwnTwn (w : World) (base : Nat) (v : Value) (t : Twn) : Prop := ∃ sv pv, v = .agg #[I t.wells, sv, pv] ∧ w.ownsRow base 57 3 sv t.snd.length (sndCells t.snd) ∧ w.ownsRow base 47 4 pv t.slp.length (slpCells t.slp)
theorem OwnTwn.twn {w : World} {base : Nat} {v : Value} {t : Twn} (h : OwnTwn w base v t) : TwnAt w v t := by
  obtain ⟨sv, pv, rfl, h1, h2⟩ := h
  exact ⟨sv, pv, rfl, Reads.of_own h1, Reads.of_own h2⟩
theorem OwnTwn.below {w w' : World} {base : Nat} {v : Value} {t : Twn} (h : OwnTwn w base v t) (hb : Below w.heap.size w w') : OwnTwn w' base v t := by
  obtain ⟨sv, pv, rfl, h1, h2⟩ := h
  exact ⟨sv, pv, rfl, own_below h1 hb, own_below h2 hb⟩
theorem own_ne {W : World} {B B' e e' s s' n n' : Nat} {v v' : Value} {xs xs' : List Value} (h : W.ownsRow B e s v n xs) (h' : W.ownsRow B' e' s' v' n' xs') (hne : e ≠ e') {g : Nat} (hg : v.ownBlock = some g) : v'.ownBlock ≠ some g := by
  intro hg'
  rcases h.2 with ⟨rfl, _⟩ | ⟨g1, cap, cur, rfl, _, hh, _⟩
  · cases hg
  · rcases h'.2 with ⟨rfl, _⟩ | ⟨g2, cap', cur', rfl, _, hh', _⟩
    · cases hg'
    · have e1 : g1 = g := by simpa [Value.ownBlock] using hg
      have e2 : g2 = g := by simpa [Value.ownBlock] using hg'
      rw [e1] at hh
      rw [e2] at hh'
      rw [hh] at hh'
      injection hh' with hh'
      injection hh' with _ ht
      exact hne ht
/-- Two rows in new memory, of two kinds. -/
theorem St.take2 {w0 w w' : World} {n : Nat} {L : List Item} (h : St w0 w n L) (hb : Below w.heap.size w w') {e e' s s' m m' : Nat} {v v' : Value} {xs xs' : List Value} (ho : w'.ownsRow w.heap.size e s v m xs) (ho' : w'.ownsRow w.heap.size e' s' v' m' xs') (hne : e ≠ e') : St w0 w' w'.heap.size (.own e s v m xs :: .own e' s' v' m' xs' :: L) := by
  have h1 := h.take hb ho'
  refine ⟨rfl, h1.bel, fun x hx => ?_, ?_⟩
  · rcases List.mem_cons.1 hx with hx | hx
    · rw [hx]; exact own_base' ho h.bel.size
    · exact h1.ok x hx
  · rw [List.filterMap_cons]
    split
    · exact h1.apart
    · rename_i b hb'
      refine List.nodup_cons.2 ⟨fun hm => ?_, h1.apart⟩
      rw [List.filterMap_cons] at hm
      split at hm
      · have h3 := (ho.lt b hb').1
        have h4 := (h.lt_of hm).2
        have := h.size
        omega
      · rename_i c hc
        rcases List.mem_cons.1 hm with rfl | hm
        · exact own_ne ho ho' hne hb' hc
        · have h3 := (ho.lt b hb').1
          have h4 := (h.lt_of hm).2
          have := h.size
          omega

set_option maxRecDepth 20000 in
set_option maxHeartbeats 4000000 in
theorem copy_any (v : Value) (t : Twn) (w : World) (hv : TwnAt w v t) (hlen : t.snd.length ≤ 1000) (hlen' : t.slp.length ≤ 1000) :
    Calls Try.prog 20 #[v] w fun e w' => ∃ v', e = .returned v' ∧ OwnTwn w' w.heap.size v' t ∧ Below w.heap.size w w' := by
  obtain ⟨sv, pv, rfl, hs, hp⟩ := hv
  have HSN := Lib.hid hs
  have HSP := Lib.hid hp
  obtain ⟨A1, c1, rfl, -, -, -⟩ := id hs.open_
  obtain ⟨A2, c2, rfl, -, -, -⟩ := id hp.open_
  clear hs hp
  have S := Lib.hid (show St w (w.alloc (.cells #[I t.wells, .slice A1 t.snd.length c1, .slice A2 t.slp.length c2] 25)) (w.heap.size + 1) [.box w.heap.size [I t.wells, .slice A1 t.snd.length c1, .slice A2 t.slp.length c2]] from (St.init w).alloc [I t.wells, .slice A1 t.snd.length c1, .slice A2 t.slp.length c2] 25)
  obtain ⟨i0, hi, hz0, hz1, hz2⟩ := info_parts (P := Try.prog) (e := 57) (z := .agg #[.int .i64 0, .int .i64 0, .int .i64 0]) (size := 3) (bytes := 24) (by kernel_rfl)
  obtain ⟨j0, ki, kz0, kz1, kz2⟩ := info_parts (P := Try.prog) (e := 47) (z := .agg #[.int .i64 0, .int .i64 0, .int .i64 0, .int .i64 0]) (size := 4) (bytes := 32) (by kernel_rfl)
  have S := Lib.hid (S.out.alloc [I 0, .slice none 0 0, .slice none 0 0] 25)
  go_enter Try.func20, Try.ntmps20
  go_wp2_with fail
  refine wp_region_treeB (.node [0, 1, 3, 4, 7, 8] [2, 6] (fun l => if l = 2 then .node [] [5, 6] (fun l => if l = 5 then .node [] [6] (fun _ => .node [] [9] (fun _ => .last [10] [11])) else .node [] [5] (fun _ => .node [] [9] (fun _ => .last [10] [11]))) else .node [] [2] (fun _ => .node [] [5] (fun _ => .node [] [9] (fun _ => .last [10] [11]))))) 11 (by kernel_rfl) (by kernel_rfl) ?_
  intro KQ hKQ w1 hb
  have S := Lib.hid (S.out.call hb)
  clear hb
  have k0 := cell_regrown (S.out.get 1 0 rfl rfl)
  have k1 := cell_regrown (S.out.get 1 1 rfl rfl)
  have k2 := cell_regrown (S.out.get 1 2 rfl rfl)
  have HB := Lib.hid (Below.refl w1.heap.size w1)
  refine treeB_node ?_
  simp only [opsAt, List.filterMap_cons, List.filterMap_nil, List.getElem?_toArray, List.getElem?_cons_succ, List.getElem?_cons_zero]
  repeat (first | go_big_quiet_step (fail) | quiet_step (fail))
  refine wpQuiet_nil ?_
  refine all_two ?_ ?_
  · have le2 := Lib.hid HB.out.size
    intro K hK
    refine loud_op rfl rfl ?_
    go_simp
    have hb := (Below.refl w1.heap.size w1).alloc (Nat.le_refl _) (.cells #[] 57)
    have hg := heap_alloc_new w1 (.cells #[] 57)
    obtain ⟨w2, hwd⟩ : ∃ x, w1.alloc (.cells #[] 57) = x := ⟨_, rfl⟩
    rw [hwd] at hb hg ⊢
    clear hwd
    have HB := Lib.hid (bto HB.out hb)
    have G2 := Lib.hid hg
    refine hK _ _ HB.out ?_
    clear hK K hb hg
    refine treeB_node ?_
    simp only [opsAt, List.filterMap_nil]
    refine wpQuiet_nil ?_
    refine all_two ?_ ?_
    · intro K hK
      refine loud_op rfl rfl ?_
      have hrd : Reads w2 3 _ t.snd.length (sndCells t.snd) := (HSN.out.below (bto S.out.bel HB.out))
      refine wp_append_fresh _ (.tmp 5) (.tmp 7) 22 rfl w1.heap.size 57 i0 (.agg #[.int .i64 0, .int .i64 0, .int .i64 0]) 3 24 Try.underlying22 hi hz0 hz1 hz2 rfl (by omega) w1.heap.size rfl G2.out le2.out _ t.snd.length (sndCells t.snd) rfl hrd (snds_one t.snd) (by simp only [maxLen]; omega) (by omega) HB.out.size ?_
      intro v1 w3 hown hb
      have HB := Lib.hid (bto HB.out hb)
      have O1 := Lib.hid hown
      refine hK _ _ HB.out ?_
      clear hK K hb hown hrd
      refine treeB_node ?_
      simp only [opsAt, List.filterMap_nil]
      refine wpQuiet_nil ?_
      refine all_one ?_
      have le6 := Lib.hid HB.out.size
      intro K hK
      refine loud_op rfl rfl ?_
      go_simp
      have hb := (Below.refl w3.heap.size w3).alloc (Nat.le_refl _) (.cells #[] 47)
      have hg := heap_alloc_new w3 (.cells #[] 47)
      obtain ⟨w4, hwd⟩ : ∃ x, w3.alloc (.cells #[] 47) = x := ⟨_, rfl⟩
      rw [hwd] at hb hg ⊢
      clear hwd
      have O1 := Lib.hid (own_below O1.out hb)
      have HB := Lib.hid (bto HB.out hb)
      have G6 := Lib.hid hg
      refine hK _ _ HB.out ?_
      clear hK K hb hg
      refine treeB_node ?_
      simp only [opsAt, List.filterMap_nil]
      refine wpQuiet_nil ?_
      refine all_one ?_
      intro K hK
      refine loud_op rfl rfl ?_
      have hrd : Reads w4 4 _ t.slp.length (slpCells t.slp) := (HSP.out.below (bto S.out.bel HB.out))
      refine wp_append_fresh _ (.tmp 9) (.tmp 11) 23 rfl w1.heap.size 47 j0 (.agg #[.int .i64 0, .int .i64 0, .int .i64 0, .int .i64 0]) 4 32 Try.underlying23 ki kz0 kz1 kz2 rfl (by omega) w3.heap.size rfl G6.out le6.out _ t.slp.length (slpCells t.slp) rfl hrd (slps_one t.slp) (by simp only [maxLen]; omega) (by omega) HB.out.size ?_
      intro v2 w5 hown hb
      have O1 := Lib.hid (own_below O1.out hb)
      have HB := Lib.hid (bto HB.out hb)
      have O2 := Lib.hid hown
      refine hK _ _ HB.out ?_
      clear hK K hb hown hrd
      obtain ⟨Av1, cv1, rfl⟩ := own_shape O1.out
      obtain ⟨Av2, cv2, rfl⟩ := own_shape O2.out
      refine treeB_last ?_
      simp only [opsAt, List.filterMap_cons, List.filterMap_nil, List.getElem?_toArray, List.getElem?_cons_succ, List.getElem?_cons_zero]
      repeat (first | go_big_quiet_step (fail) | quiet_step (fail))
      refine wpQuiet_nil ?_
      have S := Lib.hid (S.out.take2 HB.out O1.out O2.out (by decide))
      have S2 := ((S.out.set 2 0 (I t.wells) rfl).set 2 1 (.slice Av1 t.snd.length cv1) rfl).set 2 2 (.slice Av2 t.slp.length cv2) rfl
      have u0 := S.out.get 2 0 rfl rfl
      have u1 := S.out.get 2 1 rfl rfl
      have u2 := S.out.get 2 2 rfl rfl
      have u3 := S.out.free 2 0 rfl
      have u4 := S.out.free 2 1 rfl
      have u5 := S.out.free 2 2 rfl
      have r0 := S2.get 2 0 rfl rfl
      have r1 := S2.get 2 1 rfl rfl
      have r2 := S2.get 2 2 rfl rfl
      clear k0 k1 k2
      go_wp2_with fail
      refine bodyPost_ret (v := .agg #[I t.wells, .slice Av1 t.snd.length cv1, .slice Av2 t.slp.length cv2]) (by simp [results, Try.results20, go_sem, r0, r1, r2]) rfl ⟨_, rfl, ⟨_, _, rfl, S2.own 0 rfl, S2.own 1 rfl⟩, S2.bel⟩
    · have le6 := Lib.hid HB.out.size
      intro K hK
      refine loud_op rfl rfl ?_
      go_simp
      have hb := (Below.refl w2.heap.size w2).alloc (Nat.le_refl _) (.cells #[] 47)
      have hg := heap_alloc_new w2 (.cells #[] 47)
      have ho := (heap_alloc_old w2 (.cells #[] 47) (r := w1.heap.size) (lt_of_block G2.out)).trans G2.out
      obtain ⟨w3, hwd⟩ : ∃ x, w2.alloc (.cells #[] 47) = x := ⟨_, rfl⟩
      rw [hwd] at hb hg ho ⊢
      clear hwd
      have HB := Lib.hid (bto HB.out hb)
      have G6 := Lib.hid hg
      have G2 := Lib.hid ho
      clear ho
      refine hK _ _ HB.out ?_
      clear hK K hb hg
      refine treeB_node ?_
      simp only [opsAt, List.filterMap_nil]
      refine wpQuiet_nil ?_
      refine all_one ?_
      intro K hK
      refine loud_op rfl rfl ?_
      have hrd : Reads w3 3 _ t.snd.length (sndCells t.snd) := (HSN.out.below (bto S.out.bel HB.out))
      refine wp_append_fresh _ (.tmp 5) (.tmp 7) 22 rfl w1.heap.size 57 i0 (.agg #[.int .i64 0, .int .i64 0, .int .i64 0]) 3 24 Try.underlying22 hi hz0 hz1 hz2 rfl (by omega) w1.heap.size rfl G2.out le2.out _ t.snd.length (sndCells t.snd) rfl hrd (snds_one t.snd) (by simp only [maxLen]; omega) (by omega) HB.out.size ?_
      intro v1 w4 hown hb
      have G6 := Lib.hid ((hb.block _ (lt_of_block G6.out)).trans G6.out)
      have HB := Lib.hid (bto HB.out hb)
      have O1 := Lib.hid hown
      refine hK _ _ HB.out ?_
      clear hK K hb hown hrd
      refine treeB_node ?_
      simp only [opsAt, List.filterMap_nil]
      refine wpQuiet_nil ?_
      refine all_one ?_
      intro K hK
      refine loud_op rfl rfl ?_
      have hrd : Reads w4 4 _ t.slp.length (slpCells t.slp) := (HSP.out.below (bto S.out.bel HB.out))
      refine wp_append_fresh _ (.tmp 9) (.tmp 11) 23 rfl w1.heap.size 47 j0 (.agg #[.int .i64 0, .int .i64 0, .int .i64 0, .int .i64 0]) 4 32 Try.underlying23 ki kz0 kz1 kz2 rfl (by omega) w2.heap.size rfl G6.out le6.out _ t.slp.length (slpCells t.slp) rfl hrd (slps_one t.slp) (by simp only [maxLen]; omega) (by omega) HB.out.size ?_
      intro v2 w5 hown hb
      have O1 := Lib.hid (own_below O1.out hb)
      have HB := Lib.hid (bto HB.out hb)
      have O2 := Lib.hid hown
      refine hK _ _ HB.out ?_
      clear hK K hb hown hrd
      obtain ⟨Av1, cv1, rfl⟩ := own_shape O1.out
      obtain ⟨Av2, cv2, rfl⟩ := own_shape O2.out
      refine treeB_last ?_
      simp only [opsAt, List.filterMap_cons, List.filterMap_nil, List.getElem?_toArray, List.getElem?_cons_succ, List.getElem?_cons_zero]
      repeat (first | go_big_quiet_step (fail) | quiet_step (fail))
      refine wpQuiet_nil ?_
      have S := Lib.hid (S.out.take2 HB.out O1.out O2.out (by decide))
      have S2 := ((S.out.set 2 0 (I t.wells) rfl).set 2 1 (.slice Av1 t.snd.length cv1) rfl).set 2 2 (.slice Av2 t.slp.length cv2) rfl
      have u0 := S.out.get 2 0 rfl rfl
      have u1 := S.out.get 2 1 rfl rfl
      have u2 := S.out.get 2 2 rfl rfl
      have u3 := S.out.free 2 0 rfl
      have u4 := S.out.free 2 1 rfl
      have u5 := S.out.free 2 2 rfl
      have r0 := S2.get 2 0 rfl rfl
      have r1 := S2.get 2 1 rfl rfl
      have r2 := S2.get 2 2 rfl rfl
      clear k0 k1 k2
      go_wp2_with fail
      refine bodyPost_ret (v := .agg #[I t.wells, .slice Av1 t.snd.length cv1, .slice Av2 t.slp.length cv2]) (by simp [results, Try.results20, go_sem, r0, r1, r2]) rfl ⟨_, rfl, ⟨_, _, rfl, S2.own 0 rfl, S2.own 1 rfl⟩, S2.bel⟩
  · have le6 := Lib.hid HB.out.size
    intro K hK
    refine loud_op rfl rfl ?_
    go_simp
    have hb := (Below.refl w1.heap.size w1).alloc (Nat.le_refl _) (.cells #[] 47)
    have hg := heap_alloc_new w1 (.cells #[] 47)
    obtain ⟨w2, hwd⟩ : ∃ x, w1.alloc (.cells #[] 47) = x := ⟨_, rfl⟩
    rw [hwd] at hb hg ⊢
    clear hwd
    have HB := Lib.hid (bto HB.out hb)
    have G6 := Lib.hid hg
    refine hK _ _ HB.out ?_
    clear hK K hb hg
    refine treeB_node ?_
    simp only [opsAt, List.filterMap_nil]
    refine wpQuiet_nil ?_
    refine all_one ?_
    have le2 := Lib.hid HB.out.size
    intro K hK
    refine loud_op rfl rfl ?_
    go_simp
    have hb := (Below.refl w2.heap.size w2).alloc (Nat.le_refl _) (.cells #[] 57)
    have hg := heap_alloc_new w2 (.cells #[] 57)
    have ho := (heap_alloc_old w2 (.cells #[] 57) (r := w1.heap.size) (lt_of_block G6.out)).trans G6.out
    obtain ⟨w3, hwd⟩ : ∃ x, w2.alloc (.cells #[] 57) = x := ⟨_, rfl⟩
    rw [hwd] at hb hg ho ⊢
    clear hwd
    have HB := Lib.hid (bto HB.out hb)
    have G2 := Lib.hid hg
    have G6 := Lib.hid ho
    clear ho
    refine hK _ _ HB.out ?_
    clear hK K hb hg
    refine treeB_node ?_
    simp only [opsAt, List.filterMap_nil]
    refine wpQuiet_nil ?_
    refine all_one ?_
    intro K hK
    refine loud_op rfl rfl ?_
    have hrd : Reads w3 3 _ t.snd.length (sndCells t.snd) := (HSN.out.below (bto S.out.bel HB.out))
    refine wp_append_fresh _ (.tmp 5) (.tmp 7) 22 rfl w1.heap.size 57 i0 (.agg #[.int .i64 0, .int .i64 0, .int .i64 0]) 3 24 Try.underlying22 hi hz0 hz1 hz2 rfl (by omega) w2.heap.size rfl G2.out le2.out _ t.snd.length (sndCells t.snd) rfl hrd (snds_one t.snd) (by simp only [maxLen]; omega) (by omega) HB.out.size ?_
    intro v1 w4 hown hb
    have G6 := Lib.hid ((hb.block _ (lt_of_block G6.out)).trans G6.out)
    have HB := Lib.hid (bto HB.out hb)
    have O1 := Lib.hid hown
    refine hK _ _ HB.out ?_
    clear hK K hb hown hrd
    refine treeB_node ?_
    simp only [opsAt, List.filterMap_nil]
    refine wpQuiet_nil ?_
    refine all_one ?_
    intro K hK
    refine loud_op rfl rfl ?_
    have hrd : Reads w4 4 _ t.slp.length (slpCells t.slp) := (HSP.out.below (bto S.out.bel HB.out))
    refine wp_append_fresh _ (.tmp 9) (.tmp 11) 23 rfl w1.heap.size 47 j0 (.agg #[.int .i64 0, .int .i64 0, .int .i64 0, .int .i64 0]) 4 32 Try.underlying23 ki kz0 kz1 kz2 rfl (by omega) w1.heap.size rfl G6.out le6.out _ t.slp.length (slpCells t.slp) rfl hrd (slps_one t.slp) (by simp only [maxLen]; omega) (by omega) HB.out.size ?_
    intro v2 w5 hown hb
    have O1 := Lib.hid (own_below O1.out hb)
    have HB := Lib.hid (bto HB.out hb)
    have O2 := Lib.hid hown
    refine hK _ _ HB.out ?_
    clear hK K hb hown hrd
    obtain ⟨Av1, cv1, rfl⟩ := own_shape O1.out
    obtain ⟨Av2, cv2, rfl⟩ := own_shape O2.out
    refine treeB_last ?_
    simp only [opsAt, List.filterMap_cons, List.filterMap_nil, List.getElem?_toArray, List.getElem?_cons_succ, List.getElem?_cons_zero]
    repeat (first | go_big_quiet_step (fail) | quiet_step (fail))
    refine wpQuiet_nil ?_
    have S := Lib.hid (S.out.take2 HB.out O1.out O2.out (by decide))
    have S2 := ((S.out.set 2 0 (I t.wells) rfl).set 2 1 (.slice Av1 t.snd.length cv1) rfl).set 2 2 (.slice Av2 t.slp.length cv2) rfl
    have u0 := S.out.get 2 0 rfl rfl
    have u1 := S.out.get 2 1 rfl rfl
    have u2 := S.out.get 2 2 rfl rfl
    have u3 := S.out.free 2 0 rfl
    have u4 := S.out.free 2 1 rfl
    have u5 := S.out.free 2 2 rfl
    have r0 := S2.get 2 0 rfl rfl
    have r1 := S2.get 2 1 rfl rfl
    have r2 := S2.get 2 2 rfl rfl
    clear k0 k1 k2
    go_wp2_with fail
    refine bodyPost_ret (v := .agg #[I t.wells, .slice Av1 t.snd.length cv1, .slice Av2 t.slp.length cv2]) (by simp [results, Try.results20, go_sem, r0, r1, r2]) rfl ⟨_, rfl, ⟨_, _, rfl, S2.own 0 rfl, S2.own 1 rfl⟩, S2.bel⟩

set_option maxRecDepth 20000 in
set_option maxHeartbeats 1000000 in
theorem many_any (v : Value) (t : Twn) (w : World) (hv : TwnAt w v t) (hl1 : t.snd.length ≤ 1000) (hl2 : t.slp.length ≤ 1000) :
    Calls Try.prog 31 #[v] w fun e w' => e = .returned (I ((t.snd.length + t.slp.length : Nat) : Int)) ∧ Below w.heap.size w w' := by
  obtain ⟨sv, pv, rfl, hs, hp⟩ := hv
  have HSN := Lib.hid hs
  have HSP := Lib.hid hp
  obtain ⟨A1, c1, rfl, -, -, -⟩ := id hs.open_
  obtain ⟨A2, c2, rfl, -, -, -⟩ := id hp.open_
  clear hs hp
  have S := Lib.hid (show St w (w.alloc (.cells #[I t.wells, .slice A1 t.snd.length c1, .slice A2 t.slp.length c2] 25)) (w.heap.size + 1) [.box w.heap.size [I t.wells, .slice A1 t.snd.length c1, .slice A2 t.slp.length c2]] from (St.init w).alloc [I t.wells, .slice A1 t.snd.length c1, .slice A2 t.slp.length c2] 25)
  have q0 := S.out.get 0 0 rfl rfl
  have q1 := S.out.get 0 1 rfl rfl
  have q2 := S.out.get 0 2 rfl rfl
  go_enter Try.func31, Try.ntmps31
  go_wp2_with fail
  go_ret
  exact ⟨rfl, S.out.bel⟩

def hugeB (t : Twn) : Bool := decide ((40 : Int) < (t.snd.length : Int)) || decide ((40 : Int) < (t.slp.length : Int))
set_option maxRecDepth 20000 in
set_option maxHeartbeats 2000000 in
theorem huge_any (v : Value) (t : Twn) (w : World) (hv : TwnAt w v t) :
    Calls Try.prog 48 #[v] w fun e w' => e = .returned (.bool (hugeB t)) ∧ Below w.heap.size w w' := by
  obtain ⟨sv, pv, rfl, hs, hp⟩ := hv
  have HSN := Lib.hid hs
  have HSP := Lib.hid hp
  obtain ⟨A1, c1, rfl, -, -, -⟩ := id hs.open_
  obtain ⟨A2, c2, rfl, -, -, -⟩ := id hp.open_
  clear hs hp
  have S := Lib.hid (show St w (w.alloc (.cells #[I t.wells, .slice A1 t.snd.length c1, .slice A2 t.slp.length c2] 25)) (w.heap.size + 1) [.box w.heap.size [I t.wells, .slice A1 t.snd.length c1, .slice A2 t.slp.length c2]] from (St.init w).alloc [I t.wells, .slice A1 t.snd.length c1, .slice A2 t.slp.length c2] 25)
  have q0 := S.out.get 0 0 rfl rfl
  have q1 := S.out.get 0 1 rfl rfl
  have q2 := S.out.get 0 2 rfl rfl
  by_cases g1 : 40 < t.snd.length
  · have HE := Lib.hid (show hugeB t = true by simp [hugeB]; omega)
    go_enter Try.func48, Try.ntmps48
    go_wp2_with fail
    all_goals
      go_ret
      refine ⟨?_, S.out.bel⟩
      rw [HE.out]
      first | rfl | (simp; done) | (simp; omega)
  · by_cases g2 : 40 < t.slp.length
    · have HE := Lib.hid (show hugeB t = true by simp [hugeB]; omega)
      go_enter Try.func48, Try.ntmps48
      go_wp2_with fail
      all_goals
        go_ret
        refine ⟨?_, S.out.bel⟩
        rw [HE.out]
        first | rfl | (simp; done) | (simp; omega)
    · have HE := Lib.hid (show hugeB t = false by simp [hugeB]; omega)
      go_enter Try.func48, Try.ntmps48
      go_wp2_with fail
      all_goals
        go_ret
        refine ⟨?_, S.out.bel⟩
        rw [HE.out]
        first | rfl | (simp; done) | (simp; omega)

def isKnownB (n : Int) : Bool := n == 0 || n == 3
set_option maxRecDepth 20000 in
set_option maxHeartbeats 1000000 in
theorem isKnown_any (n : Int) (w : World) :
    Calls Try.prog 37 #[I n] w fun e w' => e = .returned (.bool (isKnownB n)) ∧ w = w' := by
  by_cases h : n = 0
  · subst h
    have HE := Lib.hid (show isKnownB 0 = true by rfl)
    go_enter Try.func37, Try.ntmps37
    go_wp2_with fail
    all_goals
      go_ret
      refine ⟨?_, rfl⟩
      rw [HE.out]
      first | rfl | (simp; done) | (simp; omega)
  · have h1 : (n == 0) = false := by simp [h]
    by_cases h3 : n = 3
    · subst h3
      clear h h1
      have HE := Lib.hid (show isKnownB 3 = true by rfl)
      go_enter Try.func37, Try.ntmps37
      go_wp2_with fail
      all_goals
        go_ret
        refine ⟨?_, rfl⟩
        rw [HE.out]
        first | rfl | (simp; done) | (simp; omega)
    · have h2 : (n == 3) = false := by simp [h3]
      have HE := Lib.hid (show isKnownB n = false by simp [isKnownB, h1, h2])
      clear h h3
      go_enter Try.func37, Try.ntmps37
      go_wp2_with fail
      all_goals
        go_ret
        refine ⟨?_, rfl⟩
        rw [HE.out]
        first | rfl | (simp; done) | (simp; omega)

def insideS (a b : Sp) : Bool := decide (b.low ≤ a.low) && decide (a.low ≤ a.high) && decide (a.high ≤ b.high)
set_option maxRecDepth 20000 in
set_option maxHeartbeats 2000000 in
theorem inside_any (a b : Sp) (w : World) :
    Calls Try.prog 30 #[a.val, b.val] w fun e w' => e = .returned (.bool (insideS a b)) ∧ Below w.heap.size w w' := by
  obtain ⟨a1, a2⟩ := a
  obtain ⟨b1, b2⟩ := b
  have S := Lib.hid (((St.init w).alloc [I a1, I a2] 40).alloc [I b1, I b2] 40)
  have q0 := S.out.get 0 0 rfl rfl
  have q1 := S.out.get 0 1 rfl rfl
  have p0 := S.out.get 1 0 rfl rfl
  have p1 := S.out.get 1 1 rfl rfl
  by_cases h1 : b1 ≤ a1
  · by_cases h2 : a1 ≤ a2
    · by_cases h3 : a2 ≤ b2
      · have HE := Lib.hid (show insideS ⟨a1, a2⟩ ⟨b1, b2⟩ = true by simp [insideS, h1, h2, h3])
        go_enter Try.func30, Try.ntmps30
        go_wp2_with fail
        all_goals
          go_ret
          refine ⟨?_, S.out.bel⟩
          rw [HE.out]
          first | rfl | (simp; done) | (simp; omega)
      · have HE := Lib.hid (show insideS ⟨a1, a2⟩ ⟨b1, b2⟩ = false by simp [insideS, h3])
        go_enter Try.func30, Try.ntmps30
        go_wp2_with fail
        all_goals
          go_ret
          refine ⟨?_, S.out.bel⟩
          rw [HE.out]
          first | rfl | (simp; done) | (simp; omega)
    · have HE := Lib.hid (show insideS ⟨a1, a2⟩ ⟨b1, b2⟩ = false by simp [insideS, h2])
      go_enter Try.func30, Try.ntmps30
      go_wp2_with fail
      all_goals
        go_ret
        refine ⟨?_, S.out.bel⟩
        rw [HE.out]
        first | rfl | (simp; done) | (simp; omega)
  · have HE := Lib.hid (show insideS ⟨a1, a2⟩ ⟨b1, b2⟩ = false by simp [insideS, h1])
    go_enter Try.func30, Try.ntmps30
    go_wp2_with fail
    all_goals
      go_ret
      refine ⟨?_, S.out.bel⟩
      rw [HE.out]
      first | rfl | (simp; done) | (simp; omega)

set_option maxHeartbeats 1000000 in
theorem sameInts_any (va vb : Value) (xs ys : List Int) (w : World) (ha : Ints w va xs) (hb : Ints w vb ys) (hlen : xs.length ≤ 1000) (hlen' : ys.length ≤ 1000) :
    Calls Try.prog 23 #[va, vb] w fun e w' => e = .returned (.bool (decide (xs = ys))) ∧ Below w.heap.size w w' := by
  obtain ⟨A, c, rfl, hac, hcm, ha⟩ := ha.open_
  obtain ⟨A', c', rfl, hac', hcm', ha'⟩ := hb.open_
  have HA := Lib.hid ha
  have HA' := Lib.hid ha'
  clear ha ha' hb
  by_cases hl : xs.length = ys.length
  · have hl1 : ((xs.length : Int) != (ys.length : Int)) = false := by simp; omega
    have HL := Lib.hid hl
    clear hl
    go_enter Try.func23, Try.ntmps23
    go_wp2_with fail
    go_loopw [5] (fun i wr => ∃ k : Nat, k ≤ xs.length ∧ i = I k ∧ Hid (xs.take k = ys.take k) ∧ Hid (Below w.heap.size w wr)) (fun i _ => xs.length - (intOf i).toNat)
    case atStart => exact ⟨0, by omega, rfl, Lib.hid (by simp), Lib.hid (Below.refl _ _)⟩
    case round =>
      obtain ⟨k, hk, rfl, hj, hbw⟩ := hrel
      by_cases hlt : k < xs.length
      · have hlt' : k < ys.length := by have := HL.out; omega
        obtain ⟨b, o, rfl, hbl, hcell⟩ := HA.out (by omega)
        obtain ⟨b', o', rfl, hbl', hcell'⟩ := HA'.out (by omega)
        have y0 := cell_regrown (keep_cell hbw.out (hcell k hlt))
        have y1 := cell_regrown (keep_cell hbw.out (hcell' k hlt'))
        have q1 : (k : Int) < (xs.length : Int) := by omega
        have q2 : (k : Int) < (ys.length : Int) := by omega
        clear hcell hcell'
        by_cases he : xs[k] = ys[k]
        · have hq : (xs[k] != ys[k]) = false := by simp [he]
          have HE := Lib.hid (show xs.take (k + 1) = ys.take (k + 1) by rw [List.take_succ_eq_append_getElem hlt, List.take_succ_eq_append_getElem hlt', hj.out, he])
          clear he
          go_wp2_with fail
          refine wp_region_ext (by kernel_rfl) (by kernel_rfl) ?_
          repeat (first | go_big_quiet_step (fail) | quiet_step (fail))
          refine wpQuiet_nil ?_
          clear y0 y1
          intro w1 hb1
          go_wp2_with fail
          go_roundw
          case rel => exact ⟨k + 1, by omega, by go_num, HE, Lib.hid (bto hbw.out hb1)⟩
          case measure => first | (simp [intOf]; done) | (simp [intOf]; omega)
        · have hq : (xs[k] != ys[k]) = true := by simp [he]
          have HE := Lib.hid (show ¬ xs = ys from fun h => he (by subst h; rfl))
          clear he
          go_wp2_with fail
          refine wp_region_ext (by kernel_rfl) (by kernel_rfl) ?_
          repeat (first | go_big_quiet_step (fail) | quiet_step (fail))
          refine wpQuiet_nil ?_
          clear y0 y1
          intro w1 hb1
          go_wp2_with fail
          go_ret
          exact ⟨by rw [decide_eq_false HE.out]; rfl, bto hbw.out hb1⟩
      · obtain rfl : k = xs.length := by omega
        have HE := Lib.hid (show xs = ys by
          have h1 := hj.out
          have h2 := HL.out
          rw [List.take_length, h2, List.take_length] at h1
          exact h1)
        go_wp2_with fail
        go_ret
        exact ⟨by rw [decide_eq_true HE.out]; rfl, hbw.out⟩
  · have hl1 : ((xs.length : Int) != (ys.length : Int)) = true := by simp; omega
    have HE := Lib.hid (show ¬ xs = ys from fun h => hl (by rw [h]))
    clear hl
    go_enter Try.func23, Try.ntmps23
    go_wp2_with fail
    go_ret
    exact ⟨by rw [decide_eq_false HE.out]; rfl, Below.refl _ _⟩
end Go.Proofs.Ytplbaijdnpfdgaa
