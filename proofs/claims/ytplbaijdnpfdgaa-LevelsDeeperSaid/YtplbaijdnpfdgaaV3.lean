/- Walks of the reference: IsOne, ask, known, Level, Lowest, Highest, Over. -/
import Derived.Test.YtplbaijdnpfdgaaV2
namespace Go.Proofs.Ytplbaijdnpfdgaa
open Go.RowKit Go.Sort

set_option maxRecDepth 20000 in
set_option maxHeartbeats 2000000 in
theorem isOne_any (v : Value) (t : Twn) (w : World) (hv : TwnAt w v t) (hvl : Vl t) (hl1 : t.snd.length ≤ 1000) (hl2 : t.slp.length ≤ 1000) :
    Calls Try.prog 39 #[v] w fun e w' => e = .returned (.bool (diagOk (closeM (baseM t)))) ∧ Below w.heap.size w w' := by
  obtain ⟨sv, pv, rfl, hs, hp⟩ := hv
  have HSN := Lib.hid hs
  have HSP := Lib.hid hp
  obtain ⟨A1, c1, rfl, -, -, -⟩ := id hs.open_
  obtain ⟨A2, c2, rfl, -, -, -⟩ := id hp.open_
  clear hs hp
  have S := Lib.hid (show St w (w.alloc (.cells #[I t.wells, .slice A1 t.snd.length c1, .slice A2 t.slp.length c2] 25)) (w.heap.size + 1) [.box w.heap.size [I t.wells, .slice A1 t.snd.length c1, .slice A2 t.slp.length c2]] from (St.init w).alloc [I t.wells, .slice A1 t.snd.length c1, .slice A2 t.slp.length c2] 25)
  have q0 := S.out.get 0 0 rfl rfl
  have q1 := S.out.get 0 1 rfl rfl
  have q2 := S.out.get 0 2 rfl rfl
  have HE := Lib.hid (says_spans hvl (baseM_says hvl))
  go_enter Try.func39, Try.ntmps39
  go_wp2_with fail
  clear q0 q1 q2
  refine (spans_any _ t _ ⟨_, _, rfl, HSN.out.below S.out.bel, HSP.out.below S.out.bel⟩ hvl hl1 hl2).mono ?_
  rintro e w1 (⟨l, v, hs, rfl, ho, hb⟩ | ⟨hs, rfl, hb⟩)
  · rw [hs] at HE
    obtain ⟨A, c, rfl⟩ := own_shape ho
    have S := Lib.hid (S.out.call hb)
    clear hb ho hs
    go_wp2_with fail
    go_ret
    exact ⟨by rw [HE.out]; rfl, S.out.bel⟩
  · rw [hs] at HE
    have S := Lib.hid (S.out.call hb)
    clear hb hs
    go_wp2_with fail
    go_ret
    exact ⟨by rw [HE.out]; rfl, S.out.bel⟩

set_option maxRecDepth 20000 in
set_option maxHeartbeats 2000000 in
theorem ask_any' (v : Value) (t : Twn) (is : Bool) (w : World) (hv : TwnAt w v t) :
    Calls Try.prog 104 #[v, .bool is] w fun e w' => e = .returned (I (askE t is)) ∧ Below w.heap.size w w' := by
  obtain ⟨sv, pv, rfl, hs, hp⟩ := hv
  have HSN := Lib.hid hs
  have HSP := Lib.hid hp
  obtain ⟨A1, c1, rfl, -, -, -⟩ := id hs.open_
  obtain ⟨A2, c2, rfl, -, -, -⟩ := id hp.open_
  clear hs hp
  have S := Lib.hid (show St w (w.alloc (.cells #[I t.wells, .slice A1 t.snd.length c1, .slice A2 t.slp.length c2] 25)) (w.heap.size + 1) [.box w.heap.size [I t.wells, .slice A1 t.snd.length c1, .slice A2 t.slp.length c2]] from (St.init w).alloc [I t.wells, .slice A1 t.snd.length c1, .slice A2 t.slp.length c2] 25)
  have q0 := S.out.get 0 0 rfl rfl
  have q1 := S.out.get 0 1 rfl rfl
  have q2 := S.out.get 0 2 rfl rfl
  cases h : valid t
  · have HC := Lib.hid (show chk t = 10 by simp [chk, h])
    have HE := Lib.hid (show askE t is = 10 by simp [askE, h])
    clear h
    go_enter Try.func104, Try.ntmps104
    go_wp2_with fail
    clear q0 q1 q2
    refine (rCheck_any _ t _ ⟨_, _, rfl, HSN.out.below S.out.bel, HSP.out.below S.out.bel⟩).mono ?_
    rintro e w1 ⟨rfl, hb⟩
    rw [HC.out]
    have S := Lib.hid (S.out.call hb)
    clear hb
    go_wp2_with fail
    go_ret
    exact ⟨by rw [HE.out]; rfl, S.out.bel⟩
  · cases is
    · have HC := Lib.hid (show chk t = 0 by simp [chk, h])
      have HE := Lib.hid (show askE t false = 1 by simp [askE, h])
      clear h
      go_enter Try.func104, Try.ntmps104
      go_wp2_with fail
      clear q0 q1 q2
      refine (rCheck_any _ t _ ⟨_, _, rfl, HSN.out.below S.out.bel, HSP.out.below S.out.bel⟩).mono ?_
      rintro e w1 ⟨rfl, hb⟩
      rw [HC.out]
      have S := Lib.hid (S.out.call hb)
      clear hb
      go_wp2_with fail
      go_ret
      exact ⟨by rw [HE.out]; rfl, S.out.bel⟩
    · have HC := Lib.hid (show chk t = 0 by simp [chk, h])
      have HE := Lib.hid (show askE t true = 0 by simp [askE, h])
      clear h
      go_enter Try.func104, Try.ntmps104
      go_wp2_with fail
      clear q0 q1 q2
      refine (rCheck_any _ t _ ⟨_, _, rfl, HSN.out.below S.out.bel, HSP.out.below S.out.bel⟩).mono ?_
      rintro e w1 ⟨rfl, hb⟩
      rw [HC.out]
      have S := Lib.hid (S.out.call hb)
      clear hb
      go_wp2_with fail
      go_ret
      exact ⟨by rw [HE.out]; rfl, S.out.bel⟩

/-- The spans of a town that has a truth, in new memory. -/
def RetKnown (t : Twn) (w : World) (e : Ending) (w' : World) : Prop := ∃ l v, e = .returned (.tuple #[v, I 0]) ∧ (Exact t l ∧ ∀ w : Nat, (w : Int) < t.wells → lvl (closeM (baseM t)) w = spAt l w) ∧ w'.ownsRow w.heap.size 40 2 v l.length (spCells l) ∧ Below w.heap.size w w'
theorem openE_ask {t : Twn} {is : Bool} (h : openE t is = 0) : askE t is = 0 ∧ openE t true = 0 ∧ ∃ l, spansR t = some l := by
  obtain ⟨h1, h2, h3⟩ := openE_zero' h
  subst h2
  refine ⟨by simp [askE, h1], h, ?_⟩
  have := says_spans (valid_vl h1) (baseM_says (valid_vl h1))
  rw [h3] at this
  exact Option.isSome_iff_exists.1 this.symm
theorem openE_ask' {t : Twn} {is : Bool} (h : openE t is ≠ 0) : askE t is ≠ 0 ∧ askE t is = openE t is ∨ askE t is = 0 ∧ openE t is = 3 ∧ valid t = true ∧ spansR t = none := by
  unfold openE askE at *
  cases hv : valid t
  · simp
  · cases is
    · simp
    · have := says_spans (valid_vl hv) (baseM_says (valid_vl hv))
      simp only [hv, if_true] at h ⊢
      split at h
      · exact absurd rfl h
      · rename_i hd
        rw [Bool.not_eq_true] at hd
        rw [hd] at this
        refine .inr ⟨trivial, by rw [hd]; rfl, trivial, ?_⟩
        cases hs : spansR t
        · rfl
        · rw [hs] at this; cases this
theorem exact_lvl {t : Twn} (h : openE t true = 0) {l : List Sp} (hs : spansR t = some l) : Exact t l ∧ ∀ w : Nat, (w : Int) < t.wells → lvl (closeM (baseM t)) w = spAt l w := by
  obtain ⟨hv, ht, -⟩ := open_exact h
  have he := spansR_some hv hs
  exact ⟨he, fun w hw => lvl_exact hv ht he hw⟩

set_option maxRecDepth 20000 in
set_option maxHeartbeats 2000000 in
theorem known_yes (v : Value) (t : Twn) (is : Bool) (w : World) (hv : TwnAt w v t) (he : openE t is = 0) :
    Calls Try.prog 87 #[v, .bool is] w fun e w' => RetKnown t w e w' := by
  obtain ⟨sv, pv, rfl, hs, hp⟩ := hv
  have HSN := Lib.hid hs
  have HSP := Lib.hid hp
  obtain ⟨A1, c1, rfl, -, -, -⟩ := id hs.open_
  obtain ⟨A2, c2, rfl, -, -, -⟩ := id hp.open_
  clear hs hp
  have S := Lib.hid (show St w (w.alloc (.cells #[I t.wells, .slice A1 t.snd.length c1, .slice A2 t.slp.length c2] 25)) (w.heap.size + 1) [.box w.heap.size [I t.wells, .slice A1 t.snd.length c1, .slice A2 t.slp.length c2]] from (St.init w).alloc [I t.wells, .slice A1 t.snd.length c1, .slice A2 t.slp.length c2] 25)
  have q0 := S.out.get 0 0 rfl rfl
  have q1 := S.out.get 0 1 rfl rfl
  have q2 := S.out.get 0 2 rfl rfl
  obtain ⟨hA, hO, l, hs⟩ := openE_ask he
  obtain ⟨hvv, -, -⟩ := openE_zero' he
  obtain ⟨hvl, hl1, hl2⟩ := valid_iff'.1 hvv
  have HE := Lib.hid (exact_lvl hO hs)
  have HA := Lib.hid hA
  have HS := Lib.hid hs
  clear hvv hO hs hA he
  go_enter Try.func87, Try.ntmps87
  go_wp2_with fail
  clear q0 q1 q2
  refine (ask_any' _ t _ _ ⟨_, _, rfl, HSN.out.below S.out.bel, HSP.out.below S.out.bel⟩).mono ?_
  rintro e w1 ⟨rfl, hb⟩
  rw [HA.out]
  have S := Lib.hid (S.out.call hb)
  clear hb
  have q0 := S.out.get 0 0 rfl rfl
  have q1 := S.out.get 0 1 rfl rfl
  have q2 := S.out.get 0 2 rfl rfl
  go_wp2_with fail
  clear q0 q1 q2
  refine (spans_any _ t _ ⟨_, _, rfl, HSN.out.below S.out.bel, HSP.out.below S.out.bel⟩ hvl (by omega) (by omega)).mono ?_
  rintro e w2 (⟨l', v, hs, rfl, ho, hb⟩ | ⟨hs, rfl, hb⟩)
  · rw [HS.out] at hs
    injection hs with hs
    subst hs
    obtain ⟨A, c, rfl⟩ := own_shape ho
    have HB := Lib.hid (own_base' ho S.out.bel.size)
    have S := Lib.hid (S.out.call hb)
    clear hb ho
    go_wp2_with fail
    go_ret2
    exact ⟨l, _, rfl, HE.out, HB.out, S.out.bel⟩
  · rw [HS.out] at hs
    cases hs

set_option maxRecDepth 20000 in
set_option maxHeartbeats 2000000 in
theorem known_no (v : Value) (t : Twn) (is : Bool) (w : World) (hv : TwnAt w v t) (hne : openE t is ≠ 0) :
    Calls Try.prog 87 #[v, .bool is] w fun e w' => e = .returned (.tuple #[.slice none 0 0, I (openE t is)]) ∧ Below w.heap.size w w' := by
  obtain ⟨sv, pv, rfl, hs, hp⟩ := hv
  have HSN := Lib.hid hs
  have HSP := Lib.hid hp
  obtain ⟨A1, c1, rfl, -, -, -⟩ := id hs.open_
  obtain ⟨A2, c2, rfl, -, -, -⟩ := id hp.open_
  clear hs hp
  have S := Lib.hid (show St w (w.alloc (.cells #[I t.wells, .slice A1 t.snd.length c1, .slice A2 t.slp.length c2] 25)) (w.heap.size + 1) [.box w.heap.size [I t.wells, .slice A1 t.snd.length c1, .slice A2 t.slp.length c2]] from (St.init w).alloc [I t.wells, .slice A1 t.snd.length c1, .slice A2 t.slp.length c2] 25)
  have q0 := S.out.get 0 0 rfl rfl
  have q1 := S.out.get 0 1 rfl rfl
  have q2 := S.out.get 0 2 rfl rfl
  rcases openE_ask' hne with ⟨h1, h2⟩ | ⟨h1, h2, h3, h4⟩
  · have HE := Lib.hid h2
    have hnb := bne_iff_ne.2 h1
    clear hne h2
    obtain ⟨a, ha⟩ : ∃ a, askE t is = a := ⟨_, rfl⟩
    rw [ha] at hnb h1 HE
    have HA := Lib.hid ha
    clear ha h1
    go_enter Try.func87, Try.ntmps87
    go_wp2_with fail
    clear q0 q1 q2
    refine (ask_any' _ t _ _ ⟨_, _, rfl, HSN.out.below S.out.bel, HSP.out.below S.out.bel⟩).mono ?_
    rintro e w1 ⟨rfl, hb⟩
    rw [HA.out]
    have S := Lib.hid (S.out.call hb)
    clear hb
    have q0 := S.out.get 0 0 rfl rfl
    have q1 := S.out.get 0 1 rfl rfl
    have q2 := S.out.get 0 2 rfl rfl
    clear q0 q1 q2
    go_wp2_with fail
    go_ret2
    exact ⟨by rw [← HE.out]; rfl, S.out.bel⟩
  · obtain ⟨hvl, hl1, hl2⟩ := valid_iff'.1 h3
    have HA := Lib.hid h1
    have HE := Lib.hid h2
    have HS := Lib.hid h4
    clear hne h1 h2 h3 h4
    go_enter Try.func87, Try.ntmps87
    go_wp2_with fail
    clear q0 q1 q2
    refine (ask_any' _ t _ _ ⟨_, _, rfl, HSN.out.below S.out.bel, HSP.out.below S.out.bel⟩).mono ?_
    rintro e w1 ⟨rfl, hb⟩
    rw [HA.out]
    have S := Lib.hid (S.out.call hb)
    clear hb
    have q0 := S.out.get 0 0 rfl rfl
    have q1 := S.out.get 0 1 rfl rfl
    have q2 := S.out.get 0 2 rfl rfl
    go_wp2_with fail
    clear q0 q1 q2
    refine (spans_any _ t _ ⟨_, _, rfl, HSN.out.below S.out.bel, HSP.out.below S.out.bel⟩ hvl (by omega) (by omega)).mono ?_
    rintro e w2 (⟨l', v, hs, rfl, ho, hb⟩ | ⟨hs, rfl, hb⟩)
    · rw [HS.out] at hs
      cases hs
    · have S := Lib.hid (S.out.call hb)
      clear hb hs
      go_wp2_with fail
      go_ret2
      exact ⟨by rw [HE.out]; rfl, S.out.bel⟩

theorem openE_inv {t : Twn} (h : valid t = false) (is : Bool) : openE t is = 10 := by simp [openE, h]
set_option maxRecDepth 20000 in
set_option maxHeartbeats 4000000 in
theorem rLevel_any (v : Value) (t : Twn) (well : Int) (w : World) (hv : TwnAt w v t) :
    Calls Try.prog 49 #[v, I well] w fun e w' => e = .returned (.tuple #[(levelP t well).1.val, I (levelP t well).2]) ∧ Below w.heap.size w w' := by
  obtain ⟨sv, pv, rfl, hs, hp⟩ := hv
  have HSN := Lib.hid hs
  have HSP := Lib.hid hp
  obtain ⟨A1, c1, rfl, -, -, -⟩ := id hs.open_
  obtain ⟨A2, c2, rfl, -, -, -⟩ := id hp.open_
  clear hs hp
  have S := Lib.hid (show St w ((w.alloc (.cells #[I t.wells, .slice A1 t.snd.length c1, .slice A2 t.slp.length c2] 25)).alloc (.cells #[I 0, I 0] 40)) (w.heap.size + 1 + 1) [.box (w.heap.size + 1) [I 0, I 0], .box w.heap.size [I t.wells, .slice A1 t.snd.length c1, .slice A2 t.slp.length c2]] from ((St.init w).alloc [I t.wells, .slice A1 t.snd.length c1, .slice A2 t.slp.length c2] 25).alloc [I 0, I 0] 40)
  cases hv : valid t
  · have HV := Lib.hid hv
    have HE := Lib.hid (show levelP t well = (⟨0, 0⟩, 10) by unfold levelP; rw [openE_inv hv, if_neg (by decide)])
    clear hv
    go_enter Try.func49, Try.ntmps49
    go_wp2_with fail
    refine wp_region_treeB (.node [0, 1, 2] [3] (fun _ => .node [] [4] (fun _ => .last [5, 6, 7, 8, 9] []))) 10 (by kernel_rfl) (by kernel_rfl) ?_
    intro KQ hKQ w1 hb
    have S := Lib.hid (S.out.call hb)
    clear hb
    have k0 := cell_regrown (S.out.get 1 0 rfl rfl)
    have k1 := cell_regrown (S.out.get 1 1 rfl rfl)
    have k2 := cell_regrown (S.out.get 1 2 rfl rfl)
    have HB := Lib.hid (Below.refl w1.heap.size w1)
    refine treeB_node ?_
    simp only [opsAt, List.filterMap_cons, List.filterMap_nil, List.getElem?_toArray, List.getElem?_cons_succ, List.getElem?_cons_zero]
    repeat (first | go_big_quiet_step (fail) | quiet_step (fail))
    refine wpQuiet_nil ?_
    refine all_one ?_
    intro K hK
    refine loud_op rfl rfl ?_
    go_simp
    refine (rIsWellW_any _ _ _ _ _ ⟨_, _, _, rfl⟩ ⟨_, _, _, rfl⟩).mono ?_
    rintro e w2 ⟨rfl, hb⟩
    have S := Lib.hid (S.out.call hb)
    have HB := Lib.hid (bto HB.out hb)
    refine hK _ _ HB.out ?_
    clear hK K hb k0 k1 k2
    refine treeB_node ?_
    simp only [opsAt, List.filterMap_nil]
    refine wpQuiet_nil ?_
    refine all_one ?_
    intro K hK
    refine loud_op rfl rfl ?_
    go_simp
    refine (known_no _ t _ _ ⟨_, _, rfl, HSN.out.below S.out.bel, HSP.out.below S.out.bel⟩ (by rw [openE_inv HV.out]; decide)).mono ?_
    rintro e w3 ⟨rfl, hb⟩
    rw [openE_inv HV.out]
    have S := Lib.hid (S.out.call hb)
    have HB := Lib.hid (bto HB.out hb)
    refine hK _ _ HB.out ?_
    clear hK K hb HB
    refine treeB_last ?_
    simp only [opsAt, List.filterMap_cons, List.filterMap_nil, List.getElem?_toArray, List.getElem?_cons_succ, List.getElem?_cons_zero]
    repeat (first | go_big_quiet_step (fail) | quiet_step (fail))
    refine wpQuiet_nil ?_
    have z0 := S.out.get 0 0 rfl rfl
    have z1 := S.out.get 0 1 rfl rfl
    have z2 := S.out.free 0 0 rfl
    have z3 := S.out.free 0 1 rfl
    have S2 := Lib.hid ((S.out.set 0 0 (I 0) rfl).set 0 1 (I 0) rfl)
    have r0 := S2.out.get 0 0 rfl rfl
    have r1 := S2.out.get 0 1 rfl rfl
    go_wp2_with fail
    refine bodyPost_ret (v := .tuple #[.agg #[I 0, I 0], I 10]) (by simp [results, Try.results49, go_sem, r0, r1]) rfl ⟨by rw [HE.out], S2.out.bel⟩
  · have HVV := Lib.hid hv
    have hw0 := (valid_vl hv).w0
    have hw6 : t.wells ≤ 1000 := by have := (valid_vl hv).w6; omega
    clear hv
    by_cases ho : openE t (isWell t.wells well) = 0
    · have HO := Lib.hid ho
      obtain ⟨-, hwl, -⟩ := openE_zero ho
      have hwb := isWell_iff.1 hwl
      obtain ⟨m, rfl⟩ := Int.eq_ofNat_of_zero_le hwb.1
      have hmw : (m : Int) < t.wells := by omega
      have HE0 := Lib.hid (level_zero (openE_ask ho).2.1 hwl)
      clear ho hwl hwb
      go_enter Try.func49, Try.ntmps49
      go_wp2_with fail
      refine wp_region_treeB (.node [0, 1, 2] [3] (fun _ => .node [] [4] (fun _ => .last [5, 6, 7, 8, 9] []))) 10 (by kernel_rfl) (by kernel_rfl) ?_
      intro KQ hKQ w1 hb
      have S := Lib.hid (S.out.call hb)
      clear hb
      have k0 := cell_regrown (S.out.get 1 0 rfl rfl)
      have k1 := cell_regrown (S.out.get 1 1 rfl rfl)
      have k2 := cell_regrown (S.out.get 1 2 rfl rfl)
      have HB := Lib.hid (Below.refl w1.heap.size w1)
      refine treeB_node ?_
      simp only [opsAt, List.filterMap_cons, List.filterMap_nil, List.getElem?_toArray, List.getElem?_cons_succ, List.getElem?_cons_zero]
      repeat (first | go_big_quiet_step (fail) | quiet_step (fail))
      refine wpQuiet_nil ?_
      refine all_one ?_
      intro K hK
      refine loud_op rfl rfl ?_
      go_simp
      refine (rIsWell_any _ _ _ _ _ hw0 hw6 ⟨_, _, _, rfl⟩ ⟨_, _, _, rfl⟩).mono ?_
      rintro e w2 ⟨rfl, hb⟩
      have S := Lib.hid (S.out.call hb)
      have HB := Lib.hid (bto HB.out hb)
      refine hK _ _ HB.out ?_
      clear hK K hb k0 k1 k2
      refine treeB_node ?_
      simp only [opsAt, List.filterMap_nil]
      refine wpQuiet_nil ?_
      refine all_one ?_
      intro K hK
      refine loud_op rfl rfl ?_
      go_simp
      refine (known_yes _ t _ _ ⟨_, _, rfl, HSN.out.below S.out.bel, HSP.out.below S.out.bel⟩ HO.out).mono ?_
      rintro e w3 ⟨l, v3, rfl, hex, ho, hb⟩
      obtain ⟨A3, c3, rfl⟩ := own_shape ho
      have HEX := Lib.hid hex
      have S := Lib.hid (S.out.take hb ho)
      have HB := Lib.hid (bto HB.out hb)
      refine hK _ _ HB.out ?_
      clear hK K hb HB ho hex
      refine treeB_last ?_
      simp only [opsAt, List.filterMap_cons, List.filterMap_nil, List.getElem?_toArray, List.getElem?_cons_succ, List.getElem?_cons_zero]
      repeat (first | go_big_quiet_step (fail) | quiet_step (fail))
      refine wpQuiet_nil ?_
      obtain ⟨hex, hlv⟩ := HEX.out
      have hll := hex.len
      have hlm := hlv m hmw
      obtain ⟨g3, c3', hA3, -, -⟩ := own_shape_pos (S.out.own 0 rfl) (show 0 < l.length by omega)
      injection hA3 with hA3 _ hc3
      subst hA3
      have hcl := spCells_get (l := l) (m := m) (by omega)
      have y0 := own_at2 (S.out.own 0 rfl) hcl.1
      have y1 := own_at2 (S.out.own 0 rfl) hcl.2
      obtain ⟨⟨lo, hi⟩, hsp⟩ : ∃ s, spAt l m = s := ⟨_, rfl⟩
      rw [hsp] at y0 y1 hlm
      have HE := Lib.hid (show levelP t (m : Nat) = (⟨lo, hi⟩, 0) by rw [HE0.out, Int.toNat_natCast, hlm])
      have hml : (m : Int) < (l.length : Int) := by omega
      dsimp only at y0 y1
      clear hex hlv hll hlm hcl hsp hc3 hmw
      have z0 := S.out.get 1 0 rfl rfl
      have z1 := S.out.get 1 1 rfl rfl
      have z2 := S.out.free 1 0 rfl
      have z3 := S.out.free 1 1 rfl
      have S2 := Lib.hid ((S.out.set 1 0 (I lo) rfl).set 1 1 (I hi) rfl)
      have r0 := S2.out.get 1 0 rfl rfl
      have r1 := S2.out.get 1 1 rfl rfl
      go_wp2_with fail
      refine bodyPost_ret (v := .tuple #[.agg #[I lo, I hi], I 0]) (by simp [results, Try.results49, go_sem, r0, r1]) rfl ⟨by rw [HE.out], S2.out.bel⟩
    · have HO := Lib.hid ho
      have HE := Lib.hid (show levelP t well = (⟨0, 0⟩, openE t (isWell t.wells well)) by unfold levelP; rw [if_neg ho])
      have hnb := bne_iff_ne.2 ho
      clear ho
      go_enter Try.func49, Try.ntmps49
      go_wp2_with fail
      obtain ⟨er, her⟩ : ∃ x, openE t (isWell t.wells well) = x := ⟨_, rfl⟩
      rw [her] at HE hnb
      have HER := Lib.hid her
      clear her
      refine wp_region_treeB (.node [0, 1, 2] [3] (fun _ => .node [] [4] (fun _ => .last [5, 6, 7, 8, 9] []))) 10 (by kernel_rfl) (by kernel_rfl) ?_
      intro KQ hKQ w1 hb
      have S := Lib.hid (S.out.call hb)
      clear hb
      have k0 := cell_regrown (S.out.get 1 0 rfl rfl)
      have k1 := cell_regrown (S.out.get 1 1 rfl rfl)
      have k2 := cell_regrown (S.out.get 1 2 rfl rfl)
      have HB := Lib.hid (Below.refl w1.heap.size w1)
      refine treeB_node ?_
      simp only [opsAt, List.filterMap_cons, List.filterMap_nil, List.getElem?_toArray, List.getElem?_cons_succ, List.getElem?_cons_zero]
      repeat (first | go_big_quiet_step (fail) | quiet_step (fail))
      refine wpQuiet_nil ?_
      refine all_one ?_
      intro K hK
      refine loud_op rfl rfl ?_
      go_simp
      refine (rIsWell_any _ _ _ _ _ hw0 hw6 ⟨_, _, _, rfl⟩ ⟨_, _, _, rfl⟩).mono ?_
      rintro e w2 ⟨rfl, hb⟩
      have S := Lib.hid (S.out.call hb)
      have HB := Lib.hid (bto HB.out hb)
      refine hK _ _ HB.out ?_
      clear hK K hb k0 k1 k2
      refine treeB_node ?_
      simp only [opsAt, List.filterMap_nil]
      refine wpQuiet_nil ?_
      refine all_one ?_
      intro K hK
      refine loud_op rfl rfl ?_
      go_simp
      refine (known_no _ t _ _ ⟨_, _, rfl, HSN.out.below S.out.bel, HSP.out.below S.out.bel⟩ HO.out).mono ?_
      rintro e w3 ⟨rfl, hb⟩
      rw [HER.out]
      have S := Lib.hid (S.out.call hb)
      have HB := Lib.hid (bto HB.out hb)
      refine hK _ _ HB.out ?_
      clear hK K hb HB
      refine treeB_last ?_
      simp only [opsAt, List.filterMap_cons, List.filterMap_nil, List.getElem?_toArray, List.getElem?_cons_succ, List.getElem?_cons_zero]
      repeat (first | go_big_quiet_step (fail) | quiet_step (fail))
      refine wpQuiet_nil ?_
      have z0 := S.out.get 0 0 rfl rfl
      have z1 := S.out.get 0 1 rfl rfl
      have z2 := S.out.free 0 0 rfl
      have z3 := S.out.free 0 1 rfl
      have S2 := Lib.hid ((S.out.set 0 0 (I 0) rfl).set 0 1 (I 0) rfl)
      have r0 := S2.out.get 0 0 rfl rfl
      have r1 := S2.out.get 0 1 rfl rfl
      go_wp2_with fail
      refine bodyPost_ret (v := .tuple #[.agg #[I 0, I 0], I er]) (by simp [results, Try.results49, go_sem, r0, r1]) rfl ⟨by rw [HE.out], S2.out.bel⟩

end Go.Proofs.Ytplbaijdnpfdgaa
