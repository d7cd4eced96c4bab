/- Walks: Why. -/
import Derived.Test.YtplbaijdnpfdgaaW18
namespace Go.Proofs.Ytplbaijdnpfdgaa
open Go.RowKit Go.Sort Go.Shelf
attribute [local go_sem] run_store_func

theorem cut_laterH {p q : Prop} (h1 : Hid p → q) (h2 : p) : q := h1 (Lib.hid h2)
/-- The first list of at most k wells by which the greatest level is known. -/
def whyTo (own bs : List Int) (N well : Nat) (k : Nat) : Option (List Nat) := (List.range k).findSome? fun many => findW own bs N well (many + 1) [] 0
def whyP (t : Twn) (well : Int) : List Nat × Int := if openE t (isWell t.wells well) = 0 then (match whyTo (baseM t) (closeM (baseM t)) t.wells.toNat well.toNat t.wells.toNat with | some l => (l, 0) | none => ([], 3)) else ([], openE t (isWell t.wells well))
theorem whyTo_succ (own bs : List Int) (N well k : Nat) (h : whyTo own bs N well k = none) : whyTo own bs N well (k + 1) = findW own bs N well (k + 1) [] 0 := by
  unfold whyTo at h ⊢
  rw [List.range_succ, List.findSome?_append, h]
  simp

set_option maxRecDepth 100000 in
set_option maxHeartbeats 8000000 in
theorem why_any (v : Value) (t : Twn) (well : Int) (w : World) (hv : TwnAt w v t) :
    Calls Try.prog 25 #[v, I well] w fun e w' => RetL w (ofN (whyP t well).1) (whyP t well).2 e w' := by
  obtain ⟨sv, pv, rfl, hs, hp⟩ := hv
  have HSN := Lib.hid hs
  have HSP := Lib.hid hp
  obtain ⟨A1, c1, rfl, -, -, -⟩ := id hs.open_
  obtain ⟨A2, c2, rfl, -, -, -⟩ := id hp.open_
  clear hs hp
  have S := Lib.hid (show St w ((w.alloc (.cells #[I t.wells, .slice A1 t.snd.length c1, .slice A2 t.slp.length c2] 25)).alloc (.cells #[I well] 3)) (w.heap.size + 1 + 1) [.box (w.heap.size + 1) [I well], .box w.heap.size [I t.wells, .slice A1 t.snd.length c1, .slice A2 t.slp.length c2]] from ((St.init w).alloc [I t.wells, .slice A1 t.snd.length c1, .slice A2 t.slp.length c2] 25).alloc [I well] 3)
  have q0 := S.out.get 1 0 rfl rfl
  have q1 := S.out.get 1 1 rfl rfl
  have q2 := S.out.get 1 2 rfl rfl
  have p0 := S.out.get 0 0 rfl rfl
  cases hvd : valid t
  · have HO := Lib.hid (show ∀ x, openE t x = 10 from fun x => by simp [openE, hvd])
    have HE := Lib.hid (show whyP t well = ([], 10) by unfold whyP; rw [if_neg (by rw [HO.out]; simp), HO.out])
    clear hvd
    go_enter Try.func25, Try.ntmps25
    go_wp2_with fail
    clear q0 q1 q2 p0
    refine wp_region_treeB (.node [0, 1, 2] [3, 8] (fun l => if l = 3 then .node [] [4, 8] (fun l => if l = 4 then .node [5, 6, 7] [8] (fun _ => .last [] [9, 10]) else .node [] [4] (fun _ => .last [5, 6, 7] [9, 10])) else .node [] [3] (fun _ => .node [] [4] (fun _ => .last [5, 6, 7] [9, 10])))) 9 (by kernel_rfl) (by kernel_rfl) ?_
    intro KQ hKQ wq hb
    have S := Lib.hid (S.out.call hb)
    clear hb
    have x0 := cell_regrown (S.out.get 1 0 rfl rfl)
    have x1 := cell_regrown (S.out.get 1 1 rfl rfl)
    have x2 := cell_regrown (S.out.get 1 2 rfl rfl)
    have x3 := cell_regrown (S.out.get 0 0 rfl rfl)
    have HB := Lib.hid (Below.refl wq.heap.size wq)
    refine treeB_node ?_
    simp only [opsAt, List.filterMap_cons, List.filterMap_nil, List.getElem?_toArray, List.getElem?_cons_succ, List.getElem?_cons_zero]
    repeat (first | go_big_quiet_step (fail) | quiet_step (fail))
    refine wpQuiet_nil ?_
    clear x0 x1 x2 x3
    apply cut_laterH
    · intro key
      refine all_two ?_ ?_
      · intro K hK
        refine loud_op rfl rfl ?_
        go_simp
        refine (isWellW_any _ _ _ _ _ ⟨_, _, _, rfl⟩ ⟨_, _, _, rfl⟩).mono ?_
        rintro e wx ⟨rfl, hb⟩
        replace S := Lib.hid (S.out.call hb)
        replace HB := Lib.hid (bto HB.out hb)
        refine hK _ _ HB.out ?_
        clear hK K hb
        refine treeB_node ?_
        simp only [opsAt, List.filterMap_nil]
        refine wpQuiet_nil ?_
        refine all_two ?_ ?_
        · intro K hK
          refine loud_op rfl rfl ?_
          go_simp
          refine (open_no _ t _ _ ⟨_, _, rfl, HSN.out.below S.out.bel, HSP.out.below S.out.bel⟩ (by rw [HO.out]; simp)).mono ?_
          rintro e wy ⟨rfl, hb⟩
          rw [HO.out]
          replace S := Lib.hid (S.out.call hb)
          replace HB := Lib.hid (bto HB.out hb)
          refine hK _ _ HB.out ?_
          clear hK K hb
          refine treeB_node ?_
          simp only [opsAt, List.filterMap_cons, List.filterMap_nil, List.getElem?_toArray, List.getElem?_cons_succ, List.getElem?_cons_zero]
          repeat (first | go_big_quiet_step (fail) | quiet_step (fail))
          refine wpQuiet_nil ?_
          refine all_one ?_
          intro K hK
          refine loud_op rfl rfl ?_
          go_simp
          have hb := (Below.refl wy.heap.size wy).alloc (Nat.le_refl _) (.cells #[.pointer none] 81)
          replace S := Lib.hid (S.out.alloc [.pointer none] 81)
          replace HB := Lib.hid (bto HB.out hb)
          refine hK _ _ HB.out ?_
          clear hK K hb
          obtain ⟨wz, hwa⟩ : ∃ x, wy.alloc (.cells #[.pointer none] 81) = x := ⟨_, rfl⟩
          obtain ⟨p, hp⟩ : ∃ x, wy.heap.size = x := ⟨_, rfl⟩
          rw [hwa, hp] at S
          rw [hwa] at HB
          rw [hwa, hp]
          replace S := Lib.hid S.out.fix
          clear hwa hp
          refine treeB_last ?_
          simp only [opsAt, List.filterMap_cons, List.filterMap_nil, List.getElem?_toArray, List.getElem?_cons_succ, List.getElem?_cons_zero]
          refine wpQuiet_nil ?_
          clear HB
          revert S
          revert wz
          revert p
          exact key.out
        · intro K hK
          refine loud_op rfl rfl ?_
          go_simp
          have hb := (Below.refl wx.heap.size wx).alloc (Nat.le_refl _) (.cells #[.pointer none] 81)
          replace S := Lib.hid (S.out.alloc [.pointer none] 81)
          replace HB := Lib.hid (bto HB.out hb)
          refine hK _ _ HB.out ?_
          clear hK K hb
          obtain ⟨wa, hwa⟩ : ∃ x, wx.alloc (.cells #[.pointer none] 81) = x := ⟨_, rfl⟩
          obtain ⟨p, hp⟩ : ∃ x, wx.heap.size = x := ⟨_, rfl⟩
          rw [hwa, hp] at S
          rw [hwa] at HB
          rw [hwa, hp]
          replace S := Lib.hid S.out.fix
          clear hwa hp
          refine treeB_node ?_
          simp only [opsAt, List.filterMap_nil]
          refine wpQuiet_nil ?_
          refine all_one ?_
          intro K hK
          refine loud_op rfl rfl ?_
          go_simp
          refine (open_no _ t _ _ ⟨_, _, rfl, HSN.out.below S.out.bel, HSP.out.below S.out.bel⟩ (by rw [HO.out]; simp)).mono ?_
          rintro e wz ⟨rfl, hb⟩
          rw [HO.out]
          replace S := Lib.hid (S.out.call hb)
          replace HB := Lib.hid (bto HB.out hb)
          refine hK _ _ HB.out ?_
          clear hK K hb
          refine treeB_last ?_
          simp only [opsAt, List.filterMap_cons, List.filterMap_nil, List.getElem?_toArray, List.getElem?_cons_succ, List.getElem?_cons_zero]
          repeat (first | go_big_quiet_step (fail) | quiet_step (fail))
          refine wpQuiet_nil ?_
          clear HB
          revert S
          revert wz
          revert p
          exact key.out
      · intro K hK
        refine loud_op rfl rfl ?_
        go_simp
        have hb := (Below.refl wq.heap.size wq).alloc (Nat.le_refl _) (.cells #[.pointer none] 81)
        replace S := Lib.hid (S.out.alloc [.pointer none] 81)
        replace HB := Lib.hid (bto HB.out hb)
        refine hK _ _ HB.out ?_
        clear hK K hb
        obtain ⟨wa, hwa⟩ : ∃ x, wq.alloc (.cells #[.pointer none] 81) = x := ⟨_, rfl⟩
        obtain ⟨p, hp⟩ : ∃ x, wq.heap.size = x := ⟨_, rfl⟩
        rw [hwa, hp] at S
        rw [hwa] at HB
        rw [hwa, hp]
        replace S := Lib.hid S.out.fix
        clear hwa hp
        refine treeB_node ?_
        simp only [opsAt, List.filterMap_nil]
        refine wpQuiet_nil ?_
        refine all_one ?_
        intro K hK
        refine loud_op rfl rfl ?_
        go_simp
        refine (isWellW_any _ _ _ _ _ ⟨_, _, _, rfl⟩ ⟨_, _, _, rfl⟩).mono ?_
        rintro e wb ⟨rfl, hb⟩
        replace S := Lib.hid (S.out.call hb)
        replace HB := Lib.hid (bto HB.out hb)
        refine hK _ _ HB.out ?_
        clear hK K hb
        refine treeB_node ?_
        simp only [opsAt, List.filterMap_nil]
        refine wpQuiet_nil ?_
        refine all_one ?_
        intro K hK
        refine loud_op rfl rfl ?_
        go_simp
        refine (open_no _ t _ _ ⟨_, _, rfl, HSN.out.below S.out.bel, HSP.out.below S.out.bel⟩ (by rw [HO.out]; simp)).mono ?_
        rintro e wz ⟨rfl, hb⟩
        rw [HO.out]
        replace S := Lib.hid (S.out.call hb)
        replace HB := Lib.hid (bto HB.out hb)
        refine hK _ _ HB.out ?_
        clear hK K hb
        refine treeB_last ?_
        simp only [opsAt, List.filterMap_cons, List.filterMap_nil, List.getElem?_toArray, List.getElem?_cons_succ, List.getElem?_cons_zero]
        repeat (first | go_big_quiet_step (fail) | quiet_step (fail))
        refine wpQuiet_nil ?_
        clear HB
        revert S
        revert wz
        revert p
        exact key.out
    · clear HB S
      intro p wz S
      have y0 := S.out.get 0 0 rfl rfl
      have z0 := S.out.free 0 0 rfl
      have S := Lib.hid (S.out.set 0 0 (.pointer none) rfl)
      skip
      go_wp2_with fail
      go_ret2
      exact ⟨_, by rw [HE.out]; rfl, by rw [HE.out]; exact ints_nil _, S.out.bel⟩
  · have hvl0 := valid_vl hvd
    have hw0 := hvl0.w0
    have hw6 : t.wells ≤ 1000 := by have := hvl0.w6; omega
    have HV := Lib.hid (valid_iff'.1 hvd)
    clear hvd hvl0
    by_cases h : openE t (isWell t.wells well) = 0
    · have HE := Lib.hid (show whyP t well = _ from if_pos h)
      have HO := Lib.hid h
      clear h
      go_enter Try.func25, Try.ntmps25
      go_wp2_with fail
      clear q0 q1 q2 p0
      refine wp_region_treeB (.node [0, 1, 2] [3, 8] (fun l => if l = 3 then .node [] [4, 8] (fun l => if l = 4 then .node [5, 6, 7] [8] (fun _ => .last [] [9, 10]) else .node [] [4] (fun _ => .last [5, 6, 7] [9, 10])) else .node [] [3] (fun _ => .node [] [4] (fun _ => .last [5, 6, 7] [9, 10])))) 9 (by kernel_rfl) (by kernel_rfl) ?_
      intro KQ hKQ wq hb
      have S := Lib.hid (S.out.call hb)
      clear hb
      have x0 := cell_regrown (S.out.get 1 0 rfl rfl)
      have x1 := cell_regrown (S.out.get 1 1 rfl rfl)
      have x2 := cell_regrown (S.out.get 1 2 rfl rfl)
      have x3 := cell_regrown (S.out.get 0 0 rfl rfl)
      have HB := Lib.hid (Below.refl wq.heap.size wq)
      refine treeB_node ?_
      simp only [opsAt, List.filterMap_cons, List.filterMap_nil, List.getElem?_toArray, List.getElem?_cons_succ, List.getElem?_cons_zero]
      repeat (first | go_big_quiet_step (fail) | quiet_step (fail))
      refine wpQuiet_nil ?_
      clear x0 x1 x2 x3
      apply cut_laterH
      · intro key
        refine all_two ?_ ?_
        · intro K hK
          refine loud_op rfl rfl ?_
          go_simp
          refine (isWell_any _ _ _ _ _ hw0 hw6 ⟨_, _, _, rfl⟩ ⟨_, _, _, rfl⟩).mono ?_
          rintro e wx ⟨rfl, hb⟩
          replace S := Lib.hid (S.out.call hb)
          replace HB := Lib.hid (bto HB.out hb)
          refine hK _ _ HB.out ?_
          clear hK K hb
          refine treeB_node ?_
          simp only [opsAt, List.filterMap_nil]
          refine wpQuiet_nil ?_
          refine all_two ?_ ?_
          · intro K hK
            refine loud_op rfl rfl ?_
            go_simp
            refine (open_yes _ t _ _ ⟨_, _, rfl, HSN.out.below S.out.bel, HSP.out.below S.out.bel⟩ HO.out).mono ?_
            rintro e wy hr
            obtain ⟨B, rfl, hBB, hm, hb⟩ := hr
            replace S := Lib.hid (S.out.takeM hb hBB hm)
            replace HB := Lib.hid (bto HB.out hb)
            refine hK _ _ HB.out ?_
            clear hK K hb hm hBB
            refine treeB_node ?_
            simp only [opsAt, List.filterMap_cons, List.filterMap_nil, List.getElem?_toArray, List.getElem?_cons_succ, List.getElem?_cons_zero]
            repeat (first | go_big_quiet_step (fail) | quiet_step (fail))
            refine wpQuiet_nil ?_
            refine all_one ?_
            intro K hK
            refine loud_op rfl rfl ?_
            go_simp
            have hb := (Below.refl wy.heap.size wy).alloc (Nat.le_refl _) (.cells #[.pointer none] 81)
            replace S := Lib.hid (S.out.alloc [.pointer none] 81)
            replace HB := Lib.hid (bto HB.out hb)
            refine hK _ _ HB.out ?_
            clear hK K hb
            obtain ⟨wz, hwa⟩ : ∃ x, wy.alloc (.cells #[.pointer none] 81) = x := ⟨_, rfl⟩
            obtain ⟨p, hp⟩ : ∃ x, wy.heap.size = x := ⟨_, rfl⟩
            rw [hwa, hp] at S
            rw [hwa] at HB
            rw [hwa, hp]
            replace S := Lib.hid S.out.fix
            clear hwa hp
            refine treeB_last ?_
            simp only [opsAt, List.filterMap_cons, List.filterMap_nil, List.getElem?_toArray, List.getElem?_cons_succ, List.getElem?_cons_zero]
            refine wpQuiet_nil ?_
            clear HB
            revert S
            revert wz
            revert p
            revert B
            exact key.out
          · intro K hK
            refine loud_op rfl rfl ?_
            go_simp
            have hb := (Below.refl wx.heap.size wx).alloc (Nat.le_refl _) (.cells #[.pointer none] 81)
            replace S := Lib.hid (S.out.alloc [.pointer none] 81)
            replace HB := Lib.hid (bto HB.out hb)
            refine hK _ _ HB.out ?_
            clear hK K hb
            obtain ⟨wa, hwa⟩ : ∃ x, wx.alloc (.cells #[.pointer none] 81) = x := ⟨_, rfl⟩
            obtain ⟨p, hp⟩ : ∃ x, wx.heap.size = x := ⟨_, rfl⟩
            rw [hwa, hp] at S
            rw [hwa] at HB
            rw [hwa, hp]
            replace S := Lib.hid S.out.fix
            clear hwa hp
            refine treeB_node ?_
            simp only [opsAt, List.filterMap_nil]
            refine wpQuiet_nil ?_
            refine all_one ?_
            intro K hK
            refine loud_op rfl rfl ?_
            go_simp
            refine (open_yes _ t _ _ ⟨_, _, rfl, HSN.out.below S.out.bel, HSP.out.below S.out.bel⟩ HO.out).mono ?_
            rintro e wz hr
            obtain ⟨B, rfl, hBB, hm, hb⟩ := hr
            replace S := Lib.hid (S.out.takeM hb hBB hm)
            replace HB := Lib.hid (bto HB.out hb)
            refine hK _ _ HB.out ?_
            clear hK K hb hm hBB
            refine treeB_last ?_
            simp only [opsAt, List.filterMap_cons, List.filterMap_nil, List.getElem?_toArray, List.getElem?_cons_succ, List.getElem?_cons_zero]
            repeat (first | go_big_quiet_step (fail) | quiet_step (fail))
            refine wpQuiet_nil ?_
            replace S := Lib.hid (S.out.perm (List.Perm.swap ..))
            clear HB
            revert S
            revert wz
            revert p
            revert B
            exact key.out
        · intro K hK
          refine loud_op rfl rfl ?_
          go_simp
          have hb := (Below.refl wq.heap.size wq).alloc (Nat.le_refl _) (.cells #[.pointer none] 81)
          replace S := Lib.hid (S.out.alloc [.pointer none] 81)
          replace HB := Lib.hid (bto HB.out hb)
          refine hK _ _ HB.out ?_
          clear hK K hb
          obtain ⟨wa, hwa⟩ : ∃ x, wq.alloc (.cells #[.pointer none] 81) = x := ⟨_, rfl⟩
          obtain ⟨p, hp⟩ : ∃ x, wq.heap.size = x := ⟨_, rfl⟩
          rw [hwa, hp] at S
          rw [hwa] at HB
          rw [hwa, hp]
          replace S := Lib.hid S.out.fix
          clear hwa hp
          refine treeB_node ?_
          simp only [opsAt, List.filterMap_nil]
          refine wpQuiet_nil ?_
          refine all_one ?_
          intro K hK
          refine loud_op rfl rfl ?_
          go_simp
          refine (isWell_any _ _ _ _ _ hw0 hw6 ⟨_, _, _, rfl⟩ ⟨_, _, _, rfl⟩).mono ?_
          rintro e wb ⟨rfl, hb⟩
          replace S := Lib.hid (S.out.call hb)
          replace HB := Lib.hid (bto HB.out hb)
          refine hK _ _ HB.out ?_
          clear hK K hb
          refine treeB_node ?_
          simp only [opsAt, List.filterMap_nil]
          refine wpQuiet_nil ?_
          refine all_one ?_
          intro K hK
          refine loud_op rfl rfl ?_
          go_simp
          refine (open_yes _ t _ _ ⟨_, _, rfl, HSN.out.below S.out.bel, HSP.out.below S.out.bel⟩ HO.out).mono ?_
          rintro e wz hr
          obtain ⟨B, rfl, hBB, hm, hb⟩ := hr
          replace S := Lib.hid (S.out.takeM hb hBB hm)
          replace HB := Lib.hid (bto HB.out hb)
          refine hK _ _ HB.out ?_
          clear hK K hb hm hBB
          refine treeB_last ?_
          simp only [opsAt, List.filterMap_cons, List.filterMap_nil, List.getElem?_toArray, List.getElem?_cons_succ, List.getElem?_cons_zero]
          repeat (first | go_big_quiet_step (fail) | quiet_step (fail))
          refine wpQuiet_nil ?_
          replace S := Lib.hid (S.out.perm (List.Perm.swap ..))
          clear HB
          revert S
          revert wz
          revert p
          revert B
          exact key.out
      · clear HB S
        intro B p wz S
        have y0 := S.out.get 0 0 rfl rfl
        have z0 := S.out.free 0 0 rfl
        have S := Lib.hid (S.out.set 0 0 (.pointer (some ⟨B, 0, none⟩)) rfl)
        have q0 := S.out.get 3 0 rfl rfl
        obtain ⟨hvl, hwl, hdg⟩ := openE_zero HO.out
        have hwl2 := isWell_iff.1 hwl
        have h06 := hvl.w6
        have h00 := hvl.w0
        obtain ⟨N, hN⟩ := Int.eq_ofNat_of_zero_le h00
        obtain ⟨wl, hwe⟩ := Int.eq_ofNat_of_zero_le hwl2.1
        have hN6 : N ≤ 6 := by omega
        have hwN : wl < N := by omega
        have HN := Lib.hid hN
        have HWL := Lib.hid hwe
        have HE := Lib.hid (HE.out.trans (show _ = ((match whyTo (baseM t) (closeM (baseM t)) N wl N with | some l => (l, 0) | none => ([], 3)) : List Nat × Int) by rw [hN, hwe]; rfl))
        have HBD := Lib.hid (baseM_bd hvl)
        have hl1 := HV.out.2.1
        have hl2 := HV.out.2.2
        obtain ⟨_, _, e, _, _, hc1⟩ := HSN.out.open_
        injection e with e1 e2 e3
        subst e1
        have HC1 := Lib.hid hc1
        clear e2 e3 hc1
        obtain ⟨_, _, e, _, _, hc2⟩ := HSP.out.open_
        injection e with e1 e2 e3
        subst e1
        have HC2 := Lib.hid hc2
        clear e2 e3 hc2 hvl hwl hdg hwl2 hN hwe
        go_wp2_with fail
        clear y0 z0 q0
        refine (rock_any t.wells _ h00 h06).mono ?_
        rintro e w2 ⟨rfl, hm, hb⟩
        have S := Lib.hid (S.out.takeM hb (Nat.le_refl _) hm)
        obtain ⟨PO, hPO⟩ : ∃ x, (wz.setCell ⟨p, 0, none⟩ (.pointer (some ⟨B, 0, none⟩))).heap.size = x := ⟨_, rfl⟩
        rw [hPO] at S ⊢
        clear hPO hm hb
        have S := Lib.hid (S.out.alloc [.pointer (some ⟨PO, 0, none⟩)] 81)
        obtain ⟨O, hO⟩ : ∃ x, w2.heap.size = x := ⟨_, rfl⟩
        rw [hO] at S
        have q1 := S.out.get 5 1 rfl rfl
        have HOO := Lib.hid hO
        have hbo := S.out.lt 5 rfl
        go_wp2_with fail
        clear hO
        have S := Lib.hid (show St w _ _ (.box O [.pointer (some ⟨PO, 0, none⟩)] :: mat PO (sndTo t (fun _ => true) 0) :: [.box p [.pointer (some ⟨B, 0, none⟩)], mat B (closeM (baseM t)), .box (w.heap.size + 1) [I well], .box w.heap.size [I t.wells, .slice A1 t.snd.length c1, .slice A2 t.slp.length c2]]) from S.out.fix)
        clear q1 hbo
        go_loopw [33] (fun i wr => ∃ k : Nat, k ≤ t.snd.length ∧ i = I k ∧ Hid (St w wr wr.heap.size (.box O [.pointer (some ⟨PO, 0, none⟩)] :: mat PO (sndTo t (fun _ => true) k) :: [.box p [.pointer (some ⟨B, 0, none⟩)], mat B (closeM (baseM t)), .box (w.heap.size + 1) [I well], .box w.heap.size [I t.wells, .slice A1 t.snd.length c1, .slice A2 t.slp.length c2]]))) (fun i _ => t.snd.length - (intOf i).toNat)
        case atStart => exact ⟨0, by omega, rfl, S⟩
        case round =>
          clear S
          obtain ⟨k, hk, rfl, S⟩ := hrel
          by_cases hlt : k < t.snd.length
          · obtain ⟨b1, o1, rfl, hb1, hcell1⟩ := HC1.out (by omega)
            obtain ⟨x0, x1, x2⟩ := hcell1 k hlt
            have x0 := keep_cell S.out.bel x0
            have x1 := keep_cell S.out.bel x1
            have x2 := keep_cell S.out.bel x2
            have hst := (sndTo_succ (fun _ => true) hlt).trans (if_pos rfl)
            have hok := HV.out.1.snd' _ (List.getElem_mem hlt)
            have hlow := HV.out.1.snd _ (List.getElem_mem hlt)
            clear hcell1
            obtain ⟨⟨sw, sl, sh⟩, hs⟩ : ∃ s, t.snd[k] = s := ⟨_, rfl⟩
            rw [hs] at x0 x1 x2 hst hok hlow
            have HST := Lib.hid hst
            have HOK := Lib.hid hok
            have HLOW := Lib.hid hlow
            clear hs hst hok hlow
            dsimp only at x0 x1 x2
            have hlt0 := S.out.lt 0 rfl
            have y0 := S.out.get 0 0 rfl rfl
            have S := Lib.hid (S.out.alloc [I sw, I sl, I sh] 57)
            go_wp2_with fail
            clear x0 x1 x2 hlt0 y0
            refine (sound_any PO ⟨sw, sl, sh⟩ _ _ (S.out.mat 2 rfl) (sndTo_len _ _ _) (by have := HOK.out; dsimp only at this ⊢; omega) (by have := HOK.out; dsimp only at this ⊢; omega) (by have := HLOW.out; dsimp only at this ⊢; omega) (by have := HLOW.out; dsimp only at this ⊢; omega)).mono ?_
            rintro e w3 ⟨rfl, hg, hm⟩
            have S := Lib.hid (S.out.upd 2 rfl hg hm)
            clear hg hm
            go_wp2_with fail
            go_roundw
            case rel => exact ⟨k + 1, by omega, by go_num, Lib.hid (by rw [HST.out]; exact S.out.tail)⟩
            case measure => first | (simp [intOf]; done) | (simp [intOf]; omega)
          · obtain rfl : k = t.snd.length := by omega
            have S := Lib.hid (show St w wr wr.heap.size (.box O [.pointer (some ⟨PO, 0, none⟩)] :: mat PO (slpTo t (fun _ => true) 0) :: [.box p [.pointer (some ⟨B, 0, none⟩)], mat B (closeM (baseM t)), .box (w.heap.size + 1) [I well], .box w.heap.size [I t.wells, .slice A1 t.snd.length c1, .slice A2 t.slp.length c2]]) from S.out)
            have q1 := S.out.get 5 2 rfl rfl
            have hb0 := S.out.lt 5 rfl
            go_wp2_with fail
            clear q1 hb0
            go_loopw [44] (fun i wr => ∃ k : Nat, k ≤ t.slp.length ∧ i = I k ∧ Hid (St w wr wr.heap.size (.box O [.pointer (some ⟨PO, 0, none⟩)] :: mat PO (slpTo t (fun _ => true) k) :: [.box p [.pointer (some ⟨B, 0, none⟩)], mat B (closeM (baseM t)), .box (w.heap.size + 1) [I well], .box w.heap.size [I t.wells, .slice A1 t.snd.length c1, .slice A2 t.slp.length c2]]))) (fun i _ => t.slp.length - (intOf i).toNat)
            case atStart => exact ⟨0, by omega, rfl, S⟩
            case round =>
              clear S
              obtain ⟨k, hk, rfl, S⟩ := hrel
              by_cases hlt : k < t.slp.length
              · obtain ⟨b1, o1, rfl, hb1, hcell1⟩ := HC2.out (by omega)
                obtain ⟨x0, x1, x2, x3⟩ := hcell1 k hlt
                have x0 := keep_cell S.out.bel x0
                have x1 := keep_cell S.out.bel x1
                have x2 := keep_cell S.out.bel x2
                have x3 := keep_cell S.out.bel x3
                have hst := (slpTo_succ (fun _ => true) hlt).trans (if_pos rfl)
                have hok := HV.out.1.slp' _ (List.getElem_mem hlt)
                have hlow := HV.out.1.slp _ (List.getElem_mem hlt)
                clear hcell1
                obtain ⟨⟨sa, sb, sl, sh⟩, hs⟩ : ∃ s, t.slp[k] = s := ⟨_, rfl⟩
                rw [hs] at x0 x1 x2 x3 hst hok hlow
                have HST := Lib.hid hst
                have HOK := Lib.hid hok
                have HLOW := Lib.hid hlow
                clear hs hst hok hlow
                dsimp only at x0 x1 x2 x3
                have hlt0 := S.out.lt 0 rfl
                have y0 := S.out.get 0 0 rfl rfl
                have S := Lib.hid (S.out.alloc [I sa, I sb, I sl, I sh] 47)
                go_wp2_with fail
                clear x0 x1 x2 x3 hlt0 y0
                refine (slope_any PO ⟨sa, sb, sl, sh⟩ _ _ (S.out.mat 2 rfl) (slpTo_len _ _ _) (by have := HOK.out; dsimp only at this ⊢; omega) (by have := HOK.out; dsimp only at this ⊢; omega) (by have := HOK.out; dsimp only at this ⊢; omega) (by have := HOK.out; dsimp only at this ⊢; omega) (by have := HLOW.out; dsimp only at this ⊢; omega) (by have := HLOW.out; dsimp only at this ⊢; omega)).mono ?_
                rintro e w3 ⟨rfl, hg, hm⟩
                have S := Lib.hid (S.out.upd 2 rfl hg hm)
                clear hg hm
                go_wp2_with fail
                go_roundw
                case rel => exact ⟨k + 1, by omega, by go_num, Lib.hid (by rw [HST.out]; exact S.out.tail)⟩
                case measure => first | (simp [intOf]; done) | (simp [intOf]; omega)
              · have hall := slpTo_all t (fun _ => true)
                rw [sub_all, show t.slp.length = k by omega] at hall
                have HALL := Lib.hid hall
                have S := Lib.hid (show St w wr wr.heap.size (.box O [.pointer (some ⟨PO, 0, none⟩)] :: mat PO (baseM t) :: [.box p [.pointer (some ⟨B, 0, none⟩)], mat B (closeM (baseM t)), .box (w.heap.size + 1) [I well], .box w.heap.size [I t.wells, .slice A1 t.snd.length c1, .slice A2 t.slp.length c2]]) from by have h := S.out; rw [HALL.out] at h; exact h)
                clear hall
                have q0 := S.out.get 5 0 rfl rfl
                have hb0 := S.out.lt 5 rfl
                have q1 := S.out.get 0 0 rfl rfl
                obtain ⟨X, hX⟩ : ∃ x, wr.heap.size = x := ⟨_, rfl⟩
                rw [hX] at hb0
                have S := Lib.hid (S.out.alloc [.func (.func 81) #[] #[.pointer (some ⟨w.heap.size + 1, 0, none⟩), .pointer (some ⟨p, 0, none⟩), .pointer (some ⟨w.heap.size, 0, none⟩), .pointer (some ⟨O, 0, none⟩), .pointer (some ⟨wr.heap.size, 0, none⟩)]] 95)
                go_wp2_with fail
                rw [hX] at S
                clear hX q0 q1 hb0
                have S := Lib.hid (show St w _ _ (.box X [.func (.func 81) #[] #[.pointer (some ⟨w.heap.size + 1, 0, none⟩), .pointer (some ⟨p, 0, none⟩), .pointer (some ⟨w.heap.size, 0, none⟩), .pointer (some ⟨O, 0, none⟩), .pointer (some ⟨X, 0, none⟩)]] :: .box O [.pointer (some ⟨PO, 0, none⟩)] :: mat PO (baseM t) :: [.box p [.pointer (some ⟨B, 0, none⟩)], mat B (closeM (baseM t)), .box (w.heap.size + 1) [I well], .box w.heap.size [I t.wells, .slice A1 t.snd.length c1, .slice A2 t.slp.length c2]]) from S.out.fix)
                go_loopw [55] (fun i wr => ∃ k : Nat, k ≤ N ∧ i = I k ∧ Hid (whyTo (baseM t) (closeM (baseM t)) N wl k = none) ∧ Hid (St w wr wr.heap.size (.box X [.func (.func 81) #[] #[.pointer (some ⟨w.heap.size + 1, 0, none⟩), .pointer (some ⟨p, 0, none⟩), .pointer (some ⟨w.heap.size, 0, none⟩), .pointer (some ⟨O, 0, none⟩), .pointer (some ⟨X, 0, none⟩)]] :: .box O [.pointer (some ⟨PO, 0, none⟩)] :: mat PO (baseM t) :: [.box p [.pointer (some ⟨B, 0, none⟩)], mat B (closeM (baseM t)), .box (w.heap.size + 1) [I well], .box w.heap.size [I t.wells, .slice A1 t.snd.length c1, .slice A2 t.slp.length c2]]))) (fun i _ => N - (intOf i).toNat)
                case atStart => exact ⟨0, by omega, rfl, Lib.hid rfl, S⟩
                case round =>
                  clear S
                  obtain ⟨k, hk, rfl, HF, S⟩ := hrel
                  by_cases hlt : k < N
                  · have hlti : (k : Int) < t.wells := by have := HN.out; omega
                    have HS := Lib.hid (whyTo_succ _ _ _ _ _ HF.out)
                    have x0 := S.out.get 0 0 rfl rfl
                    have hc := find_any (w.heap.size + 1) p w.heap.size O X B PO wl N (baseM t) (closeM (baseM t)) hN6 hwN (closeBase_len t) HBD.out (k + 1) [] none 0 0 0 wr rfl (.inl (by omega)) ⟨by omega, by omega⟩ (ints_nil _) ⟨by have := S.out.get 5 0 rfl rfl; rwa [HWL.out] at this, S.out.get 3 0 rfl rfl, by have := S.out.get 6 0 rfl rfl; rwa [HN.out] at this, S.out.get 1 0 rfl rfl, S.out.get 0 0 rfl rfl, S.out.mat 4 rfl, S.out.mat 2 rfl⟩ (by simp) (fun _ => rfl) (by omega)
                    rw [show ((k + 1 : Nat) : Int) = (k : Int) + 1 by omega] at hc
                    have HCC := Lib.hid hc
                    clear hc
                    go_wp2_with fail
                    refine HCC.out.mono ?_
                    rintro e w3 ⟨hb, h3⟩
                    have S := Lib.hid (S.out.call hb)
                    have H3 := Lib.hid h3
                    clear hb h3 HCC x0
                    rcases H3.out with ⟨hn, rfl⟩ | ⟨r, a3, c3, hn, rfl, hI⟩
                    · have HS := Lib.hid (HS.out.trans hn)
                      clear hn H3
                      go_wp2_with fail
                      go_roundw
                      case rel => exact ⟨k + 1, by omega, by go_num, HS, S⟩
                      case measure => first | (simp [intOf]; done) | (simp [intOf]; omega)
                    · have HE := Lib.hid (show whyP t well = (r, 0) by
                        have h := HS.out.trans hn
                        have h2 := findSome_range _ h (N - (k + 1))
                        rw [show k + 1 + (N - (k + 1)) = N by omega] at h2
                        rw [HE.out, show whyTo (baseM t) (closeM (baseM t)) N wl N = some r from h2])
                      have HIR := Lib.hid hI
                      clear hn hI H3
                      go_wp2_with fail
                      go_ret2
                      exact ⟨_, by rw [HE.out]; rfl, by rw [HE.out]; exact (show Ints _ (.slice (some a3) r.length c3) (ofN r) from HIR.out), S.out.bel⟩
                  · have hlti : ¬ (k : Int) < t.wells := by have := HN.out; omega
                    have HE := Lib.hid (show whyP t well = ([], 3) by
                      have h := HF.out
                      rw [show k = N by omega] at h
                      rw [HE.out, h])
                    go_wp2_with fail
                    go_ret2
                    exact ⟨_, by rw [HE.out]; rfl, by rw [HE.out]; exact ints_nil _, S.out.bel⟩
    · have HE := Lib.hid (show whyP t well = _ from if_neg h)
      have HO := Lib.hid h
      clear h
      go_enter Try.func25, Try.ntmps25
      go_wp2_with fail
      clear q0 q1 q2 p0
      refine wp_region_treeB (.node [0, 1, 2] [3, 8] (fun l => if l = 3 then .node [] [4, 8] (fun l => if l = 4 then .node [5, 6, 7] [8] (fun _ => .last [] [9, 10]) else .node [] [4] (fun _ => .last [5, 6, 7] [9, 10])) else .node [] [3] (fun _ => .node [] [4] (fun _ => .last [5, 6, 7] [9, 10])))) 9 (by kernel_rfl) (by kernel_rfl) ?_
      intro KQ hKQ wq hb
      have S := Lib.hid (S.out.call hb)
      clear hb
      have x0 := cell_regrown (S.out.get 1 0 rfl rfl)
      have x1 := cell_regrown (S.out.get 1 1 rfl rfl)
      have x2 := cell_regrown (S.out.get 1 2 rfl rfl)
      have x3 := cell_regrown (S.out.get 0 0 rfl rfl)
      have HB := Lib.hid (Below.refl wq.heap.size wq)
      refine treeB_node ?_
      simp only [opsAt, List.filterMap_cons, List.filterMap_nil, List.getElem?_toArray, List.getElem?_cons_succ, List.getElem?_cons_zero]
      repeat (first | go_big_quiet_step (fail) | quiet_step (fail))
      refine wpQuiet_nil ?_
      clear x0 x1 x2 x3
      apply cut_laterH
      · intro key
        refine all_two ?_ ?_
        · intro K hK
          refine loud_op rfl rfl ?_
          go_simp
          refine (isWell_any _ _ _ _ _ hw0 hw6 ⟨_, _, _, rfl⟩ ⟨_, _, _, rfl⟩).mono ?_
          rintro e wx ⟨rfl, hb⟩
          replace S := Lib.hid (S.out.call hb)
          replace HB := Lib.hid (bto HB.out hb)
          refine hK _ _ HB.out ?_
          clear hK K hb
          refine treeB_node ?_
          simp only [opsAt, List.filterMap_nil]
          refine wpQuiet_nil ?_
          refine all_two ?_ ?_
          · intro K hK
            refine loud_op rfl rfl ?_
            go_simp
            refine (open_no _ t _ _ ⟨_, _, rfl, HSN.out.below S.out.bel, HSP.out.below S.out.bel⟩ HO.out).mono ?_
            rintro e wy ⟨rfl, hb⟩
            skip
            replace S := Lib.hid (S.out.call hb)
            replace HB := Lib.hid (bto HB.out hb)
            refine hK _ _ HB.out ?_
            clear hK K hb
            refine treeB_node ?_
            simp only [opsAt, List.filterMap_cons, List.filterMap_nil, List.getElem?_toArray, List.getElem?_cons_succ, List.getElem?_cons_zero]
            repeat (first | go_big_quiet_step (fail) | quiet_step (fail))
            refine wpQuiet_nil ?_
            refine all_one ?_
            intro K hK
            refine loud_op rfl rfl ?_
            go_simp
            have hb := (Below.refl wy.heap.size wy).alloc (Nat.le_refl _) (.cells #[.pointer none] 81)
            replace S := Lib.hid (S.out.alloc [.pointer none] 81)
            replace HB := Lib.hid (bto HB.out hb)
            refine hK _ _ HB.out ?_
            clear hK K hb
            obtain ⟨wz, hwa⟩ : ∃ x, wy.alloc (.cells #[.pointer none] 81) = x := ⟨_, rfl⟩
            obtain ⟨p, hp⟩ : ∃ x, wy.heap.size = x := ⟨_, rfl⟩
            rw [hwa, hp] at S
            rw [hwa] at HB
            rw [hwa, hp]
            replace S := Lib.hid S.out.fix
            clear hwa hp
            refine treeB_last ?_
            simp only [opsAt, List.filterMap_cons, List.filterMap_nil, List.getElem?_toArray, List.getElem?_cons_succ, List.getElem?_cons_zero]
            refine wpQuiet_nil ?_
            clear HB
            revert S
            revert wz
            revert p
            exact key.out
          · intro K hK
            refine loud_op rfl rfl ?_
            go_simp
            have hb := (Below.refl wx.heap.size wx).alloc (Nat.le_refl _) (.cells #[.pointer none] 81)
            replace S := Lib.hid (S.out.alloc [.pointer none] 81)
            replace HB := Lib.hid (bto HB.out hb)
            refine hK _ _ HB.out ?_
            clear hK K hb
            obtain ⟨wa, hwa⟩ : ∃ x, wx.alloc (.cells #[.pointer none] 81) = x := ⟨_, rfl⟩
            obtain ⟨p, hp⟩ : ∃ x, wx.heap.size = x := ⟨_, rfl⟩
            rw [hwa, hp] at S
            rw [hwa] at HB
            rw [hwa, hp]
            replace S := Lib.hid S.out.fix
            clear hwa hp
            refine treeB_node ?_
            simp only [opsAt, List.filterMap_nil]
            refine wpQuiet_nil ?_
            refine all_one ?_
            intro K hK
            refine loud_op rfl rfl ?_
            go_simp
            refine (open_no _ t _ _ ⟨_, _, rfl, HSN.out.below S.out.bel, HSP.out.below S.out.bel⟩ HO.out).mono ?_
            rintro e wz ⟨rfl, hb⟩
            skip
            replace S := Lib.hid (S.out.call hb)
            replace HB := Lib.hid (bto HB.out hb)
            refine hK _ _ HB.out ?_
            clear hK K hb
            refine treeB_last ?_
            simp only [opsAt, List.filterMap_cons, List.filterMap_nil, List.getElem?_toArray, List.getElem?_cons_succ, List.getElem?_cons_zero]
            repeat (first | go_big_quiet_step (fail) | quiet_step (fail))
            refine wpQuiet_nil ?_
            clear HB
            revert S
            revert wz
            revert p
            exact key.out
        · intro K hK
          refine loud_op rfl rfl ?_
          go_simp
          have hb := (Below.refl wq.heap.size wq).alloc (Nat.le_refl _) (.cells #[.pointer none] 81)
          replace S := Lib.hid (S.out.alloc [.pointer none] 81)
          replace HB := Lib.hid (bto HB.out hb)
          refine hK _ _ HB.out ?_
          clear hK K hb
          obtain ⟨wa, hwa⟩ : ∃ x, wq.alloc (.cells #[.pointer none] 81) = x := ⟨_, rfl⟩
          obtain ⟨p, hp⟩ : ∃ x, wq.heap.size = x := ⟨_, rfl⟩
          rw [hwa, hp] at S
          rw [hwa] at HB
          rw [hwa, hp]
          replace S := Lib.hid S.out.fix
          clear hwa hp
          refine treeB_node ?_
          simp only [opsAt, List.filterMap_nil]
          refine wpQuiet_nil ?_
          refine all_one ?_
          intro K hK
          refine loud_op rfl rfl ?_
          go_simp
          refine (isWell_any _ _ _ _ _ hw0 hw6 ⟨_, _, _, rfl⟩ ⟨_, _, _, rfl⟩).mono ?_
          rintro e wb ⟨rfl, hb⟩
          replace S := Lib.hid (S.out.call hb)
          replace HB := Lib.hid (bto HB.out hb)
          refine hK _ _ HB.out ?_
          clear hK K hb
          refine treeB_node ?_
          simp only [opsAt, List.filterMap_nil]
          refine wpQuiet_nil ?_
          refine all_one ?_
          intro K hK
          refine loud_op rfl rfl ?_
          go_simp
          refine (open_no _ t _ _ ⟨_, _, rfl, HSN.out.below S.out.bel, HSP.out.below S.out.bel⟩ HO.out).mono ?_
          rintro e wz ⟨rfl, hb⟩
          skip
          replace S := Lib.hid (S.out.call hb)
          replace HB := Lib.hid (bto HB.out hb)
          refine hK _ _ HB.out ?_
          clear hK K hb
          refine treeB_last ?_
          simp only [opsAt, List.filterMap_cons, List.filterMap_nil, List.getElem?_toArray, List.getElem?_cons_succ, List.getElem?_cons_zero]
          repeat (first | go_big_quiet_step (fail) | quiet_step (fail))
          refine wpQuiet_nil ?_
          clear HB
          revert S
          revert wz
          revert p
          exact key.out
      · clear HB S
        intro p wz S
        have y0 := S.out.get 0 0 rfl rfl
        have z0 := S.out.free 0 0 rfl
        have S := Lib.hid (S.out.set 0 0 (.pointer none) rfl)
        have hne := bne_iff_ne.2 HO.out
        go_wp2_with fail
        go_ret2
        exact ⟨_, by rw [HE.out]; rfl, by rw [HE.out]; exact ints_nil _, S.out.bel⟩

end Go.Proofs.Ytplbaijdnpfdgaa
