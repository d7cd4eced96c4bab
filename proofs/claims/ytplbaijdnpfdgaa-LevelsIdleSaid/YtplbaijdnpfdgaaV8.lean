/- Walks of the reference: wide, Idle, Ask. -/
import Derived.Test.YtplbaijdnpfdgaaV7
namespace Go.Proofs.Ytplbaijdnpfdgaa
open Go.RowKit Go.Sort

theorem wid_take {l : List Sp} {k : Nat} (h : k < l.length) : wid (l.take (k + 1)) = wid (l.take k) + ((spAt l k).high - (spAt l k).low) := by
  unfold wid
  rw [List.take_succ_eq_append_getElem h, spAt_len _ _ h, List.map_append, List.sum_append]
  simp
theorem wid_range {l : List Sp} {ms : List Int} (h : ∀ w, w < l.length → lvl ms w = spAt l w) : wid l = widL ms (List.range l.length) := by
  unfold wid widL
  congr 1
  apply List.ext_getElem (by simp)
  intro i h1 h2
  have hi : i < l.length := by simpa using h1
  simp only [List.getElem_map, List.getElem_range]
  rw [h i hi, spAt_len _ _ hi]
theorem Exact.bd {t : Twn} {l : List Sp} (h : Exact t l) {w : Nat} (hw : w < l.length) : 0 ≤ (spAt l w).low ∧ (spAt l w).low ≤ 99 ∧ 0 ≤ (spAt l w).high ∧ (spAt l w).high ≤ 99 := by
  have hlen := h.len
  have a := h.low.own w (by omega)
  have b := h.high.own w (by omega)
  try dsimp only at a b
  omega
theorem wid_bds {t : Twn} {l : List Sp} (h : Exact t l) : ∀ k, k ≤ l.length → 0 ≤ wid (l.take k) ∧ wid (l.take k) ≤ 99 * k
  | 0, _ => by simp [wid]
  | k + 1, hk => by
    have ih := wid_bds h k (by omega)
    have b := h.bd (show k < l.length by omega)
    have c := (h.all _ h.low k (by omega)).2
    rw [wid_take (by omega)]
    try dsimp only at c
    omega
theorem wid_le_of {l m : List Sp} (hl : l.length = m.length) (h : ∀ w, w < l.length → (spAt l w).high - (spAt l w).low ≤ (spAt m w).high - (spAt m w).low) : ∀ k, k ≤ l.length → wid (l.take k) ≤ wid (m.take k)
  | 0, _ => by simp [wid]
  | k + 1, hk => by
    have ih := wid_le_of hl h k (by omega)
    have := h k (by omega)
    rw [wid_take (by omega), wid_take (by omega)]
    omega

set_option maxRecDepth 20000 in
set_option maxHeartbeats 4000000 in
theorem wide_any (v : Value) (t : Twn) (L : List Sp) (w : World) (hv : TwnAt w v t) (hvl : Vl t) (hl1 : t.snd.length ≤ 1000) (hl2 : t.slp.length ≤ 1000) (hs : spansR t = some L) (he : Exact t L) :
    Calls Try.prog 95 #[v] w fun e w' => e = .returned (I (wid L)) ∧ Below w.heap.size w w' := by
  obtain ⟨sv, pv, rfl, hs, hp⟩ := hv
  have HSN := Lib.hid hs
  have HSP := Lib.hid hp
  obtain ⟨A1, c1, rfl, -, -, -⟩ := id hs.open_
  obtain ⟨A2, c2, rfl, -, -, -⟩ := id hp.open_
  clear hs hp
  have S := Lib.hid (show St w (w.alloc (.cells #[I t.wells, .slice A1 t.snd.length c1, .slice A2 t.slp.length c2] 25)) (w.heap.size + 1) [.box w.heap.size [I t.wells, .slice A1 t.snd.length c1, .slice A2 t.slp.length c2]] from (St.init w).alloc [I t.wells, .slice A1 t.snd.length c1, .slice A2 t.slp.length c2] 25)
  have q0 := S.out.get 0 0 rfl rfl
  have q1 := S.out.get 0 1 rfl rfl
  have q2 := S.out.get 0 2 rfl rfl
  have hlen := he.len
  obtain ⟨N, hN⟩ : ∃ N, L.length = N := ⟨_, rfl⟩
  have hN6 : N ≤ 6 := by have := hvl.w6; omega
  have HLN := Lib.hid hN
  have HEX := Lib.hid he
  have HS := Lib.hid hs
  clear hlen he hs hN
  go_enter Try.func95, Try.ntmps95
  go_wp2_with fail
  clear q0 q1 q2
  refine (spans_any _ t _ ⟨_, _, rfl, HSN.out.below S.out.bel, HSP.out.below S.out.bel⟩ hvl hl1 hl2).mono ?_
  rintro e w1 (⟨l', v, hs, rfl, ho, hb⟩ | ⟨hs, rfl, hb⟩)
  · rw [HS.out] at hs
    injection hs with hs
    subst hs
    obtain ⟨A3, c3, rfl⟩ := own_shape ho
    have S := Lib.hid (S.out.take hb ho)
    clear hb ho
    rw [HLN.out] at S
    rw [HLN.out]
    go_wp2_with fail
    go_loopw [3, 6] (fun u i wr => ∃ k : Nat, k ≤ N ∧ u = I (wid (L.take k)) ∧ i = I k ∧ Hid (St w wr wr.heap.size [.own 40 2 (.slice A3 N c3) N (spCells L), .box w.heap.size [I t.wells, .slice A1 t.snd.length c1, .slice A2 t.slp.length c2]])) (fun _ i _ => N - (intOf i).toNat)
    case atStart => exact ⟨0, by omega, rfl, rfl, Lib.hid S.out.fix⟩
    case round =>
      clear S
      obtain ⟨k, hk, rfl, rfl, S⟩ := hrel
      by_cases hlt : k < N
      · obtain ⟨g3, c3', hA3, -, -⟩ := own_shape_pos (S.out.own 0 rfl) (show 0 < N by omega)
        injection hA3 with hA3 _ hc3
        subst hA3
        have hcl := spCells_get (l := L) (m := k) (by rw [HLN.out]; omega)
        have y0 := cell_regrown (own_at2 (S.out.own 0 rfl) hcl.1)
        have y1 := cell_regrown (own_at2 (S.out.own 0 rfl) hcl.2)
        have hki : (k : Int) < (N : Int) := by omega
        have hbd := HEX.out.bd (show k < L.length by rw [HLN.out]; omega)
        have hwb := wid_bds HEX.out k (by rw [HLN.out]; omega)
        have hst := wid_take (l := L) (k := k) (by rw [HLN.out]; omega)
        obtain ⟨x0, hx0⟩ : ∃ x, (spAt L k).low = x := ⟨_, rfl⟩
        obtain ⟨x1, hx1⟩ : ∃ x, (spAt L k).high = x := ⟨_, rfl⟩
        obtain ⟨W, hW⟩ : ∃ x, wid (L.take k) = x := ⟨_, rfl⟩
        rw [hx0] at y0 hbd hst
        rw [hx1] at y1 hbd hst
        rw [hW] at hwb hst ⊢
        have i1 : IntKind.i64.wrap (x1 - x0) = x1 - x0 := IntWalk.i64_in _ (by omega)
        have i2 : IntKind.i64.wrap (W + (x1 - x0)) = W + (x1 - x0) := IntWalk.i64_in _ (by omega)
        have HST := Lib.hid hst
        clear hcl hc3 hbd hwb hst hx0 hx1 hW
        go_wp2_with fail
        refine wp_region_ext (by kernel_rfl) (by kernel_rfl) ?_
        repeat (first | go_big_quiet_step (fail) | quiet_step (fail))
        refine wpQuiet_nil ?_
        clear y0 y1 i1 i2
        intro w2 hb2
        have S := Lib.hid (S.out.call hb2)
        go_wp2_with fail
        go_roundw
        case rel => exact ⟨k + 1, by omega, by rw [HST.out], by go_num, S⟩
        case measure => first | (simp [intOf]; done) | (simp [intOf]; omega)
      · have HE := Lib.hid (show L.take k = L from List.take_of_length_le (by rw [HLN.out]; omega))
        go_wp2_with fail
        go_ret
        exact ⟨by rw [HE.out]; rfl, S.out.bel⟩
  · rw [HS.out] at hs
    cases hs

set_option maxRecDepth 100000 in
set_option maxHeartbeats 8000000 in
theorem rIdle_any (v : Value) (t : Twn) (w : World) (hv : TwnAt w v t) :
    Calls Try.prog 58 #[v] w fun e w' => RetL w (idleP t).1 (idleP t).2 e w' := by
  obtain ⟨i0, hi, hz0, hz1, hz2⟩ := info_parts Try.info3
  obtain ⟨sv, pv, rfl, hs, hp⟩ := hv
  have HSN := Lib.hid hs
  have HSP := Lib.hid hp
  obtain ⟨A1, c1, rfl, -, -, -⟩ := id hs.open_
  obtain ⟨A2, c2, rfl, -, -, -⟩ := id hp.open_
  clear hs hp
  have S := Lib.hid (show St w (w.alloc (.cells #[I t.wells, .slice A1 t.snd.length c1, .slice A2 t.slp.length c2] 25)) (w.heap.size + 1) [.box w.heap.size [I t.wells, .slice A1 t.snd.length c1, .slice A2 t.slp.length c2]] from (St.init w).alloc [I t.wells, .slice A1 t.snd.length c1, .slice A2 t.slp.length c2] 25)
  have q0 := S.out.get 0 0 rfl rfl
  have q1 := S.out.get 0 1 rfl rfl
  have q2 := S.out.get 0 2 rfl rfl
  by_cases h : openE t true = 0
  · have HE := Lib.hid (show idleP t = (idleTo t (t.snd.length + t.slp.length), 0) by unfold idleP; rw [if_pos h])
    have HO := Lib.hid h
    obtain ⟨hvv, -, hdd⟩ := openE_zero' h
    have HV := Lib.hid hvv
    obtain ⟨hvl, hs8, hp8⟩ := valid_iff'.1 hvv
    have hW6 := hvl.w6
    have hw0 := hvl.w0
    clear h hvv hdd
    go_enter Try.func58, Try.ntmps58
    go_wp2_with fail
    clear q0 q1 q2
    refine (known_yes _ t _ _ ⟨_, _, rfl, HSN.out.below S.out.bel, HSP.out.below S.out.bel⟩ HO.out).mono ?_
    rintro e w1 ⟨L, v3, rfl, hex, ho, hb⟩
    obtain ⟨A3, c3, rfl⟩ := own_shape ho
    have S := Lib.hid (S.out.take hb ho)
    have hlen := hex.1.len
    obtain ⟨N, hN⟩ : ∃ N, L.length = N := ⟨_, rfl⟩
    have hN6 : N ≤ 6 := by omega
    have HN := Lib.hid (show N = t.wells.toNat by omega)
    rw [hN] at S
    rw [hN]
    have HLN := Lib.hid hN
    have HEX := Lib.hid hex.1
    have HLV := Lib.hid hex.2
    clear hb ho hex hlen hN
    have q0 := S.out.get 1 0 rfl rfl
    have q1 := S.out.get 1 1 rfl rfl
    have q2 := S.out.get 1 2 rfl rfl
    go_wp2_with fail
    clear q0 q1 q2
    refine (all_any _ t _ ⟨_, _, rfl, HSN.out.below S.out.bel, HSP.out.below S.out.bel⟩ (by omega) (by omega)).mono ?_
    rintro e w2 ⟨va, rfl, ho, hb⟩
    obtain ⟨M, hM⟩ : ∃ M, t.snd.length + t.slp.length = M := ⟨_, rfl⟩
    have HM := Lib.hid hM
    have hm16 : M ≤ 16 := by omega
    have HAL := Lib.hid (show (ofN (allN t)).length = M by simp [ofN, allN, hM])
    have HEL := Lib.hid (fun (k : Nat) => show ((allN t).eraseIdx k).length ≤ 1000 from Nat.le_trans (List.length_eraseIdx_le (allN t) k) (by simp [allN]; omega))
    rw [HAL.out] at ho
    obtain ⟨Aa, ca, rfl⟩ := own_shape ho
    have S := Lib.hid (S.out.take hb ho)
    clear hb ho hM
    go_wp2_with fail
    go_loopw [6, 8] (fun u i wr => ∃ (k : Nat) (v : Value), k ≤ M ∧ u = v ∧ i = I k ∧ Hid (St w wr wr.heap.size [.own 3 1 v (idleTo t k).length ((idleTo t k).map I), .own 3 1 (.slice Aa M ca) M ((ofN (allN t)).map I), .own 40 2 (.slice A3 N c3) N (spCells L), .box w.heap.size [I t.wells, .slice A1 t.snd.length c1, .slice A2 t.slp.length c2]])) (fun _ i _ => M - (intOf i).toNat)
    case atStart => exact ⟨0, _, by omega, rfl, rfl, Lib.hid (S.out.nil 3 1).fix⟩
    case round =>
      clear S
      obtain ⟨k, v, hk, rfl, rfl, S⟩ := hrel
      obtain ⟨wo, rfl⟩ : ∃ wo : World, wo = wr := ⟨_, rfl⟩
      obtain ⟨Av, cv, rfl⟩ := own_shape (S.out.own 0 rfl)
      by_cases hlt : k < M
      · have hki : (k : Int) < (M : Int) := by omega
        have HW := Lib.hid (words_but t k)
        have hoo := sub_one HO.out (butW k)
        obtain ⟨-, hO2, K, hks⟩ := openE_ask hoo
        obtain ⟨hke, hkl⟩ := exact_lvl hO2 hks
        have HKS := Lib.hid hks
        have HSV := Lib.hid (show Vl (sub t (butW k)) ∧ (sub t (butW k)).snd.length ≤ 1000 ∧ (sub t (butW k)).slp.length ≤ 1000 from ⟨hvl.sub _, by have := sub_len t (butW k); omega, by have := sub_len t (butW k); omega⟩)
        have HKN := Lib.hid (show K.length = N by rw [hke.len, HN.out]; rfl)
        have hsame : sameL (closeM (baseM t)) (closeM (baseM (sub t (butW k)))) (List.range t.wells.toNat) = ((List.range N).all fun x => spAt K x == spAt L x) := by
          unfold sameL
          rw [HN.out, Bool.eq_iff_iff, List.all_eq_true, List.all_eq_true]
          constructor
          · intro h x hx
            have hxw : (x : Int) < t.wells := by have := List.mem_range.1 hx; omega
            have := h x hx
            rw [HLV.out x hxw, hkl x hxw] at this
            rw [beq_iff_eq] at this ⊢
            exact this.symm
          · intro h x hx
            have hxw : (x : Int) < t.wells := by have := List.mem_range.1 hx; omega
            have := h x hx
            rw [HLV.out x hxw, hkl x hxw]
            rw [beq_iff_eq] at this ⊢
            exact this.symm
        have HSAME := Lib.hid (show idleTo t (k + 1) = if ((List.range N).all fun x => spAt K x == spAt L x) = true then idleTo t k ++ [(k : Int)] else idleTo t k by rw [idleTo_snoc, hsame])
        have hil := idleTo_len t k
        obtain ⟨qv, hqv⟩ : ∃ q, (idleTo t k).length = q := ⟨_, rfl⟩
        rw [hqv] at S hil
        rw [hqv]
        have HQV := Lib.hid hqv
        clear hoo hO2 hks hke hkl hsame hqv
        go_wp2_with fail
        refine wp_region_treeB (.node [0, 1, 2] [3] (fun _ => .node [] [4] (fun _ => .node [] [5] (fun _ => .last [6, 7, 8, 9, 10] [])))) 11 (by kernel_rfl) (by kernel_rfl) ?_
        intro KQ hKQ wq hb
        have S := Lib.hid (S.out.call hb)
        clear hb
        have k0 := cell_regrown (S.out.get 3 0 rfl rfl)
        have k1 := cell_regrown (S.out.get 3 1 rfl rfl)
        have k2 := cell_regrown (S.out.get 3 2 rfl rfl)
        have HB := Lib.hid (Below.refl wq.heap.size wq)
        refine treeB_node ?_
        simp only [opsAt, List.filterMap_cons, List.filterMap_nil, List.getElem?_toArray, List.getElem?_cons_succ, List.getElem?_cons_zero]
        repeat (first | go_big_quiet_step (fail) | quiet_step (fail))
        refine wpQuiet_nil ?_
        refine all_one ?_
        intro K' hK
        refine loud_op rfl rfl ?_
        go_simp
        refine (but_any _ (ofN (allN t)) k _ (by have h := S.out.row 1 rfl; rw [← HAL.out] at h ⊢; exact h) (by rw [HAL.out]; exact hlt) (by rw [HAL.out]; omega)).mono ?_
        rintro e wb ⟨vb, rfl, ho, hb⟩
        rw [butL_map] at ho
        have S := Lib.hid (S.out.take hb ho)
        have HB := Lib.hid (bto HB.out hb)
        refine hK _ _ HB.out ?_
        clear hK K' hb ho k0 k1 k2
        refine treeB_node ?_
        simp only [opsAt, List.filterMap_nil]
        refine wpQuiet_nil ?_
        refine all_one ?_
        intro K' hK
        refine loud_op rfl rfl ?_
        go_simp
        refine (words_any' _ _ t ((allN t).eraseIdx k) _ ⟨_, _, rfl, HSN.out.below S.out.bel, HSP.out.below S.out.bel⟩ (S.out.ints 0 rfl) (HEL.out k) (fun n hn => by have := List.mem_of_mem_eraseIdx hn; simpa [allN] using this) (by omega) (by omega)).mono ?_
        rintro e wc ⟨v', rfl, ⟨sv', pv', rfl, ho1, ho2⟩, hb⟩
        rw [HW.out] at ho1 ho2
        rw [wordsT_wells]
        have S := Lib.hid (S.out.take2 hb ho1 ho2 (by decide))
        have HB := Lib.hid (bto HB.out hb)
        refine hK _ _ HB.out ?_
        clear hK K' hb ho1 ho2
        refine treeB_node ?_
        simp only [opsAt, List.filterMap_nil]
        refine wpQuiet_nil ?_
        refine all_one ?_
        intro K' hK
        refine loud_op rfl rfl ?_
        go_simp
        refine (spans_any _ (sub t (butW k)) _ ⟨_, _, rfl, S.out.row 0 rfl, S.out.row 1 rfl⟩ HSV.out.1 HSV.out.2.1 HSV.out.2.2).mono ?_
        rintro e wd (⟨l', v, hs, rfl, ho, hb⟩ | ⟨hs, rfl, hb⟩)
        · rw [HKS.out] at hs
          injection hs with hs
          subst hs
          obtain ⟨A4, c4, rfl⟩ := own_shape ho
          have S := Lib.hid (((S.out.take hb ho).drop 1 |>.drop 1).drop 1)
          have HB := Lib.hid (bto HB.out hb)
          rw [HKN.out] at S
          rw [HKN.out]
          refine hK _ _ HB.out ?_
          clear hK K' hb ho
          refine treeB_last ?_
          simp only [opsAt, List.filterMap_cons, List.filterMap_nil, List.getElem?_toArray, List.getElem?_cons_succ, List.getElem?_cons_zero]
          repeat (first | go_big_quiet_step (fail) | quiet_step (fail))
          refine wpQuiet_nil ?_
          go_wp2_with fail
          go_loopw [11, 12] (fun u i wq => ∃ j : Nat, j ≤ N ∧ u = .bool ((List.range j).all fun x => spAt K x == spAt L x) ∧ i = I j ∧ Hid (St w wq wq.heap.size [.own 40 2 (.slice A4 N c4) N (spCells K), .own 3 1 (.slice Av qv cv) qv ((idleTo t k).map I), .own 3 1 (.slice Aa M ca) M ((ofN (allN t)).map I), .own 40 2 (.slice A3 N c3) N (spCells L), .box w.heap.size [I t.wells, .slice A1 t.snd.length c1, .slice A2 t.slp.length c2]])) (fun _ i _ => N - (intOf i).toNat)
          case atStart => exact ⟨0, by omega, rfl, rfl, Lib.hid S.out.fix⟩
          case round =>
            clear S
            obtain ⟨j, hj, rfl, rfl, S⟩ := hrel
            by_cases hjl : j < N
            · obtain ⟨g4, c4', hA4, -, -⟩ := own_shape_pos (S.out.own 0 rfl) (show 0 < N by omega)
              injection hA4 with hA4 _ hc4
              subst hA4
              obtain ⟨g3, c3', hA3, -, -⟩ := own_shape_pos (S.out.own 3 rfl) (show 0 < N by omega)
              injection hA3 with hA3 _ hc3
              subst hA3
              have hcl := spCells_get (l := L) (m := j) (by rw [HLN.out]; omega)
              have hck := spCells_get (l := K) (m := j) (by rw [HKN.out]; omega)
              have y0 := own_at2 (S.out.own 3 rfl) hcl.1
              have y1 := own_at2 (S.out.own 3 rfl) hcl.2
              have z0 := own_at2 (S.out.own 0 rfl) hck.1
              have z1 := own_at2 (S.out.own 0 rfl) hck.2
              have hji : (j : Int) < (N : Int) := by omega
              have hsn : ((List.range (j + 1)).all fun x => spAt K x == spAt L x) = (((List.range j).all fun x => spAt K x == spAt L x) && (spAt K j == spAt L j)) := by rw [List.range_succ, List.all_append]; simp
              have HSJ := Lib.hid hsn
              clear hcl hck hc3 hc4 hsn
              cases gb : ((List.range j).all fun x => spAt K x == spAt L x)
              · have HG := Lib.hid (show ((List.range (j + 1)).all fun x => spAt K x == spAt L x) = false by rw [HSJ.out, gb, Bool.false_and])
                clear gb y0 y1 z0 z1
                go_wp2_with fail
                refine wp_region_quiet_below (by kernel_rfl) (by kernel_rfl) ?_
                repeat (first | go_big_quiet_step (fail) | quiet_step (fail))
                refine wpQuiet_nil ?_
                rintro w5 ⟨p5, hp5⟩
                have S := Lib.hid (show St w w5 w5.heap.size _ from (by rw [hp5]; exact S.out.call (below_regrown _ _ _)))
                clear hp5
                go_wp2_with fail
                go_roundw
                case rel => exact ⟨j + 1, by omega, by rw [HG.out], by go_num, S⟩
                case measure => first | (simp [intOf]; done) | (simp [intOf]; omega)
              · obtain ⟨⟨k1, k2⟩, hK⟩ : ∃ s, spAt K j = s := ⟨_, rfl⟩
                obtain ⟨⟨l1, l2⟩, hL⟩ : ∃ s, spAt L j = s := ⟨_, rfl⟩
                rw [hK] at z0 z1
                rw [hL] at y0 y1
                dsimp only at z0 z1 y0 y1
                have HG := Lib.hid (HSJ.out.trans (by rw [gb, hK, hL, Bool.true_and]))
                have y0 := cell_regrown y0
                have y1 := cell_regrown y1
                have z0 := cell_regrown z0
                have z1 := cell_regrown z1
                clear gb hK hL
                have e1 : ∀ w, (binOp .eql 40 (Sp.val ⟨k1, k2⟩) (Sp.val ⟨l1, l2⟩)).run Try.prog w = .ok (.bool ((⟨k1, k2⟩ : Sp) == ⟨l1, l2⟩)) w := fun w => span_eql _ _ w
                obtain ⟨bb, hbb⟩ : ∃ x, ((⟨k1, k2⟩ : Sp) == ⟨l1, l2⟩) = x := ⟨_, rfl⟩
                rw [hbb] at HG e1
                clear hbb
                go_wp2_with fail
                refine wp_region_quiet_below (by kernel_rfl) (by kernel_rfl) ?_
                repeat (first | go_big_quiet_step (fail) | quiet_step (fail))
                refine wpQuiet_nil ?_
                rintro w5 ⟨p5, hp5⟩
                have S := Lib.hid (show St w w5 w5.heap.size _ from (by rw [hp5]; exact S.out.call (below_regrown _ _ _)))
                clear hp5 y0 y1 z0 z1 e1
                go_wp2_with fail
                go_roundw
                case rel => exact ⟨j + 1, by omega, by rw [HG.out], by go_num, S⟩
                case measure => first | (simp [intOf]; done) | (simp [intOf]; omega)
            · have hji : ¬ (j : Int) < (N : Int) := by omega
              have HJN := Lib.hid (show j = N by omega)
              cases gb : ((List.range j).all fun x => spAt K x == spAt L x)
              · have HX := Lib.hid (HSAME.out.trans (if_neg (by rw [← HJN.out, gb]; simp)))
                clear gb
                go_wp2_with fail
                go_roundw
                case rel => exact ⟨k + 1, _, by omega, rfl, by go_num, Lib.hid (by rw [HX.out, HQV.out]; exact S.out.tail.fix)⟩
                case measure => first | (simp [intOf]; done) | (simp [intOf]; omega)
              · have HX := Lib.hid (HSAME.out.trans (if_pos (by rw [← HJN.out]; exact gb)))
                clear gb
                have S := Lib.hid S.out.tail
                have h02 : 0 < 1 := by decide
                have h63 : qv + 1 ≤ maxLen := by simp only [maxLen]; omega
                have hby : (qv + 1) * 8 ≤ 140737488355328 := by omega
                have T := Lib.hid (S.out.alloc [I (k : Int)] 3)
                go_wp2_with (at_builtin; refine wpList_append_St T.out 1 rfl _ _ 29 rfl 3 i0 (.int .i64 0) 1 8 Try.underlying29 hi hz0 hz1 hz2 rfl h02 rfl rfl _ 1 [I (k : Int)] rfl (reads_box1 (T.out.get 0 0 rfl rfl)) (ints_one [(k : Int)]) h63 hby ?_; intro v5 w5 hS5; have S := Lib.hid hS5; clear hS5)
                have S := Lib.hid S.out.tail
                have S := Lib.hid (show St w _ _ [.own 3 1 v5 (idleTo t (k + 1)).length ((idleTo t (k + 1)).map I), .own 3 1 (.slice Aa M ca) M ((ofN (allN t)).map I), .own 40 2 (.slice A3 N c3) N (spCells L), .box w.heap.size [I t.wells, .slice A1 t.snd.length c1, .slice A2 t.slp.length c2]] from (by have h := S.out; rw [HX.out, List.length_append, HQV.out, List.map_append]; exact h))
                go_roundw
                case rel => exact ⟨k + 1, _, by omega, rfl, by go_num, Lib.hid S.out.fix⟩
                case measure => first | (simp [intOf]; done) | (simp [intOf]; omega)
        · rw [HKS.out] at hs
          cases hs
      · have hki : ¬ (k : Int) < (M : Int) := by omega
        have HKM := Lib.hid (show k = M by omega)
        go_wp2_with fail
        go_ret2
        exact ⟨_, by rw [HE.out]; rfl, (by rw [HE.out]; dsimp only; rw [show t.snd.length + t.slp.length = k by rw [HM.out, HKM.out]]; exact S.out.ints 0 rfl), S.out.bel⟩
  · obtain ⟨er, her⟩ : ∃ x, openE t true = x := ⟨_, rfl⟩
    have hne : er ≠ 0 := by rw [← her]; exact h
    have hnb := bne_iff_ne.2 hne
    have HO := Lib.hid h
    have HER := Lib.hid her
    have HE := Lib.hid (show idleP t = ([], er) by unfold idleP; rw [if_neg h, her])
    clear h her hne
    go_enter Try.func58, Try.ntmps58
    go_wp2_with fail
    clear q0 q1 q2
    refine (known_no _ t _ _ ⟨_, _, rfl, HSN.out.below S.out.bel, HSP.out.below S.out.bel⟩ HO.out).mono ?_
    rintro e w1 ⟨rfl, hb⟩
    rw [HER.out]
    have S := Lib.hid (S.out.call hb)
    clear hb
    go_wp2_with fail
    go_ret2
    exact ⟨_, by rw [HE.out]; rfl, by rw [HE.out]; exact ints_nil _, S.out.bel⟩

theorem put_wide {t : Twn} (h : openE t true = 0) {a : Nat} (ha : (a : Int) < t.wells) {n : Int} (h1 : (lvl (closeM (baseM t)) a).low ≤ n) (h2 : n ≤ (lvl (closeM (baseM t)) a).high) :
    ∃ K, Vl (addS t ⟨a, n, n⟩) ∧ spansR (addS t ⟨a, n, n⟩) = some K ∧ Exact (addS t ⟨a, n, n⟩) K ∧ wid K = widL (closeM (soundM (closeM (baseM t)) ⟨a, n, n⟩)) (List.range t.wells.toNat) := by
  obtain ⟨-, -, hs, hd, hv⟩ := sound_ok h ha h1 h2
  have ht := (says_ok hv hs).2 hd
  have hx : (spansR (addS t ⟨a, n, n⟩)).isSome = true := by rw [← says_spans hv hs]; exact hd
  obtain ⟨K, hK⟩ := Option.isSome_iff_exists.1 hx
  have he := spansR_some hv hK
  refine ⟨K, hv, hK, he, ?_⟩
  have hl : K.length = t.wells.toNat := he.len
  rw [← hl]
  refine wid_range fun w hw => lvl_exact hv ht he ?_
  show (w : Int) < t.wells
  omega
theorem put_le {t : Twn} {L K : List Sp} (hL : Exact t L) {s : Snd} (hK : Exact (addS t s) K) : wid K ≤ wid L := by
  have hl : K.length = L.length := hK.len.trans hL.len.symm
  have h := wid_le_of hl (fun w hw => by
    have a := hL.all _ (tr_addS.1 hK.low).1 w (by omega)
    have b := hL.all _ (tr_addS.1 hK.high).1 w (by omega)
    (try dsimp only at a b)
    omega) K.length (Nat.le_refl _)
  rw [List.take_length, hl, List.take_length] at h
  exact h
/-- The reference's choice, of the first k wells, from a number on. -/
def askF (ms : List Int) (N : Nat) (W : Int) : Nat → Int × Int
  | 0 => (0, W)
  | k + 1 => if worstP ms N k < (askF ms N W k).2 then ((k : Int), worstP ms N k) else askF ms N W k
theorem askF_eq {ms : List Int} {N : Nat} {W : Int} (h1 : worstP ms N 0 < W) (h2 : worstP ms N 0 < 1048576) : ∀ k, askF ms N W (k + 1) = askTo ms N (k + 1)
  | 0 => by
    rw [askF, askTo, askF, askTo]
    dsimp only
    rw [if_pos h1, if_pos h2]
  | k + 1 => by rw [askF, askTo, askF_eq h1 h2 k]
theorem worstN_bd {ms : List Int} {N w : Nat} {W : Int} (hW : 0 ≤ W) (h : ∀ k : Nat, (lvl ms w).low + k ≤ (lvl ms w).high → widL (closeM (soundM ms ⟨w, (lvl ms w).low + k, (lvl ms w).low + k⟩)) (List.range N) ≤ W) : ∀ k : Nat, (lvl ms w).low + k ≤ (lvl ms w).high + 1 → 0 ≤ worstN ms N w k ∧ worstN ms N w k ≤ W
  | 0, _ => ⟨Int.le_refl _, hW⟩
  | k + 1, hk => by
    have := worstN_bd hW h k (by omega)
    have := h k (by omega)
    rw [worstN]
    omega
theorem worst_le {t : Twn} (h : openE t true = 0) {L : List Sp} (hL : Exact t L) {w : Nat} (hw : (w : Int) < t.wells) : 0 ≤ worstP (closeM (baseM t)) t.wells.toNat w ∧ worstP (closeM (baseM t)) t.wells.toNat w ≤ wid L := by
  have hb := wid_bds hL L.length (Nat.le_refl _)
  rw [List.take_length] at hb
  have hx := each_level h (has_truth h).choose_spec hw
  refine worstN_bd hb.1 (fun k hk => ?_) _ (by omega)
  obtain ⟨K, -, -, h3, h4⟩ := put_wide h hw (n := (lvl (closeM (baseM t)) w).low + k) (by omega) hk
  rw [← h4]
  exact put_le hL h3

theorem exact_uniq {t : Twn} {L K : List Sp} (hL : Exact t L) (hK : Exact t K) : L = K := by
  refine list_ext_spAt (hL.len.trans hK.len.symm) fun w hw => ?_
  have hw' : w < L.length := by rw [hL.len, ← hK.len]; exact hw
  have a := hL.all _ hK.low w hw'
  have b := hL.all _ hK.high w hw'
  have c := hK.all _ hL.low w hw
  have d := hK.all _ hL.high w hw
  try dsimp only at a b c d
  exact Sp.ext' (by omega) (by omega)

set_option maxRecDepth 100000 in
set_option maxHeartbeats 8000000 in
theorem rAsk_any (v : Value) (t : Twn) (w : World) (hv : TwnAt w v t) :
    Calls Try.prog 60 #[v] w fun e w' => e = .returned (.tuple #[I (askP t).1, I (askP t).2]) ∧ Below w.heap.size w w' := by
  obtain ⟨i0, hi, hz0, hz1, hz2⟩ := info_parts Try.info3
  obtain ⟨sv, pv, rfl, hs, hp⟩ := hv
  have HSN := Lib.hid hs
  have HSP := Lib.hid hp
  obtain ⟨A1, c1, rfl, -, -, -⟩ := id hs.open_
  obtain ⟨A2, c2, rfl, -, -, -⟩ := id hp.open_
  clear hs hp
  have S := Lib.hid (show St w (w.alloc (.cells #[I t.wells, .slice A1 t.snd.length c1, .slice A2 t.slp.length c2] 25)) (w.heap.size + 1) [.box w.heap.size [I t.wells, .slice A1 t.snd.length c1, .slice A2 t.slp.length c2]] from (St.init w).alloc [I t.wells, .slice A1 t.snd.length c1, .slice A2 t.slp.length c2] 25)
  have q0 := S.out.get 0 0 rfl rfl
  have q1 := S.out.get 0 1 rfl rfl
  have q2 := S.out.get 0 2 rfl rfl
  by_cases h : openE t true = 0
  · have HE0 := Lib.hid (show askP t = if widL (closeM (baseM t)) (List.range t.wells.toNat) = 0 then (0, 3) else ((askTo (closeM (baseM t)) t.wells.toNat t.wells.toNat).1, 0) by unfold askP; rw [if_pos h])
    have HO := Lib.hid h
    obtain ⟨hvv, -, hdd⟩ := openE_zero' h
    obtain ⟨-, hO2, L0, hks0⟩ := openE_ask h
    have HL0 := Lib.hid (exact_lvl hO2 hks0)
    have HLS0 := Lib.hid hks0
    have HV := Lib.hid hvv
    obtain ⟨hvl, hs8, hp8⟩ := valid_iff'.1 hvv
    have hW6 := hvl.w6
    have hw0 := hvl.w0
    clear h hvv hdd hO2 hks0
    go_enter Try.func60, Try.ntmps60
    go_wp2_with fail
    clear q0 q1 q2
    refine (known_yes _ t _ _ ⟨_, _, rfl, HSN.out.below S.out.bel, HSP.out.below S.out.bel⟩ HO.out).mono ?_
    rintro e w1 ⟨L, v3, rfl, hex, ho, hb⟩
    have hLL : L = L0 := exact_uniq hex.1 HL0.out.1
    subst hLL
    have HLS := HLS0
    obtain ⟨A3, c3, rfl⟩ := own_shape ho
    have S := Lib.hid (S.out.take hb ho)
    have hlen := hex.1.len
    obtain ⟨N, hN⟩ : ∃ N, L.length = N := ⟨_, rfl⟩
    have hN6 : N ≤ 6 := by omega
    have HN := Lib.hid (show N = t.wells.toNat by omega)
    rw [hN] at S
    rw [hN]
    have HLN := Lib.hid hN
    have HEX := Lib.hid hex.1
    have HLV := Lib.hid hex.2
    clear hb ho hex hlen hN
    have q0 := S.out.get 1 0 rfl rfl
    have q1 := S.out.get 1 1 rfl rfl
    have q2 := S.out.get 1 2 rfl rfl
    obtain ⟨W, hW⟩ : ∃ W, wid L = W := ⟨_, rfl⟩
    have HWD := Lib.hid hW
    have hWb := wid_bds HEX.out L.length (Nat.le_refl _)
    rw [List.take_length, hW, HLN.out] at hWb
    have HWB := Lib.hid hWb
    have hWM : widL (closeM (baseM t)) (List.range t.wells.toNat) = W := by
      rw [← hW, wid_range (ms := closeM (baseM t)) (fun w hw => HLV.out w (by rw [HLN.out] at hw; have := HN.out; omega)), HLN.out, HN.out]
    have HWM := Lib.hid hWM
    clear hW hWM
    go_wp2_with fail
    by_cases hz : W = 0
    · have HE := Lib.hid (HE0.out.trans (if_pos (HWM.out.trans hz)))
      have HWD0 := HWD
      rw [hz] at HWD
      clear hz hWb
      clear q0 q1 q2
      refine (wide_any _ t L _ ⟨_, _, rfl, HSN.out.below S.out.bel, HSP.out.below S.out.bel⟩ hvl (by omega) (by omega) HLS.out HEX.out).mono ?_
      rintro e w2 ⟨rfl, hb⟩
      rw [HWD.out]
      have S := Lib.hid (S.out.call hb)
      clear hb
      have q0 := S.out.get 1 0 rfl rfl
      have q1 := S.out.get 1 1 rfl rfl
      have q2 := S.out.get 1 2 rfl rfl
      go_wp2_with fail
      go_ret2
      exact ⟨by rw [HE.out]; rfl, S.out.bel⟩
    · have HE := Lib.hid (HE0.out.trans (if_neg (fun e => hz (HWM.out.symm.trans e))))
      have hwz : (W == 0) = false := by simpa using hz
      have HNZ := Lib.hid hz
      have HWW := Lib.hid hWb
      have hWb1 := hWb.1
      have hWb2 := hWb.2
      clear hWb
      clear q0 q1 q2
      refine (wide_any _ t L _ ⟨_, _, rfl, HSN.out.below S.out.bel, HSP.out.below S.out.bel⟩ hvl (by omega) (by omega) HLS.out HEX.out).mono ?_
      rintro e w2 ⟨rfl, hb⟩
      rw [HWD.out]
      have S := Lib.hid (S.out.call hb)
      clear hb
      have q0 := S.out.get 1 0 rfl rfl
      have q1 := S.out.get 1 1 rfl rfl
      have q2 := S.out.get 1 2 rfl rfl
      go_wp2_with fail
      clear hwz hz
      clear q0 q1 q2
      refine (wide_any _ t L _ ⟨_, _, rfl, HSN.out.below S.out.bel, HSP.out.below S.out.bel⟩ hvl (by omega) (by omega) HLS.out HEX.out).mono ?_
      rintro e w3 ⟨rfl, hb⟩
      rw [HWD.out]
      have S := Lib.hid (S.out.call hb)
      clear hb
      have q0 := S.out.get 1 0 rfl rfl
      have q1 := S.out.get 1 1 rfl rfl
      have q2 := S.out.get 1 2 rfl rfl
      go_wp2_with fail
      clear q0 q1 q2
      go_loopw [6, 7, 8] (fun a b i wr => ∃ k : Nat, k ≤ N ∧ a = I (askF (closeM (baseM t)) N (W + 1) k).1 ∧ b = I (askF (closeM (baseM t)) N (W + 1) k).2 ∧ i = I k ∧ Hid (St w wr wr.heap.size [.own 40 2 (.slice A3 N c3) N (spCells L), .box w.heap.size [I t.wells, .slice A1 t.snd.length c1, .slice A2 t.slp.length c2]])) (fun _ _ i _ => N - (intOf i).toNat)
      case atStart => exact ⟨0, by omega, rfl, rfl, rfl, Lib.hid S.out.fix⟩
      case round =>
        clear S
        obtain ⟨k, hk, rfl, rfl, rfl, S⟩ := hrel
        obtain ⟨wo, rfl⟩ : ∃ wo : World, wo = wr := ⟨_, rfl⟩
        by_cases hlt : k < N
        · have hki : (k : Int) < (N : Int) := by omega
          have hkw : (k : Int) < t.wells := by have := HN.out; omega
          obtain ⟨g3, c3', hA3, -, -⟩ := own_shape_pos (S.out.own 0 rfl) (show 0 < N by omega)
          injection hA3 with hA3 _ hc3
          subst hA3
          have hcl := spCells_get (l := L) (m := k) (by rw [HLN.out]; omega)
          rw [← HLV.out k hkw] at hcl
          have HPW := Lib.hid (fun (n : Int) => put_wide HO.out (a := k) hkw (n := n))
          obtain ⟨⟨lo, hi'⟩, hlh⟩ : ∃ s, lvl (closeM (baseM t)) k = s := ⟨_, rfl⟩
          have hbd := (open_ok HO.out).2 k (by omega)
          rw [hlh] at hcl HPW hbd
          dsimp only at hcl HPW hbd
          have HCL := Lib.hid hcl
          have HLK := Lib.hid hlh
          have y0 := own_at2 (S.out.own 0 rfl) hcl.1
          have y1 := own_at2 (S.out.own 0 rfl) hcl.2
          clear hcl hlh hc3 hkw
          go_wp2_with fail
          go_loopw [9, 10] (fun u i wq => ∃ j : Nat, j ≤ (hi' + 1 - lo).toNat ∧ u = I (worstN (closeM (baseM t)) N k j) ∧ i = I (lo + j) ∧ Hid (St w wq wq.heap.size [.own 40 2 (.slice (some ⟨g3, 0, none⟩) N c3) N (spCells L), .box w.heap.size [I t.wells, .slice A1 t.snd.length c1, .slice A2 t.slp.length c2]])) (fun _ i _ => (hi' + 1 - intOf i).toNat)
          case atStart => exact ⟨0, by omega, rfl, by go_num, Lib.hid S.out.fix⟩
          case round =>
            clear S y0 y1
            obtain ⟨j, hj, rfl, rfl, S⟩ := hrel
            have y1 := own_at2 (S.out.own 0 rfl) HCL.out.2
            have q0 := S.out.get 1 0 rfl rfl
            have q1 := S.out.get 1 1 rfl rfl
            have q2 := S.out.get 1 2 rfl rfl
            by_cases hjl : lo + j ≤ hi'
            · obtain ⟨K, hv2, hs2, he2, hw2⟩ := HPW.out (lo + j) (by omega) hjl
              have hst : worstN (closeM (baseM t)) N k (j + 1) = max (worstN (closeM (baseM t)) N k j) (wid K) := by
                rw [worstN, HLK.out, hw2, ← HN.out]
              have hkw := put_le HEX.out he2
              have hwb := worstN_bd (ms := closeM (baseM t)) (N := N) (w := k) (W := W) HWB.out.1 (fun m hm => by rw [HLK.out] at hm ⊢; dsimp only at hm ⊢; obtain ⟨K', -, -, h3, h4⟩ := HPW.out (lo + m) (by omega) hm; rw [HN.out, ← h4]; have := put_le HEX.out h3; rw [HWD.out] at this; exact this) j (by rw [HLK.out]; dsimp only; omega)
              have hk0 := wid_bds he2 K.length (Nat.le_refl _)
              rw [List.take_length] at hk0
              rw [HWD.out] at hkw
              have HST := Lib.hid hst
              have HV2 := Lib.hid hv2
              have HS2 := Lib.hid hs2
              have HE2 := Lib.hid he2
              obtain ⟨n, hn⟩ : ∃ n, lo + (j : Int) = n := ⟨_, rfl⟩
              rw [hn] at HV2 HS2 HE2 hjl ⊢
              have HNX := Lib.hid hn
              have hnb : lo ≤ n := by omega
              obtain ⟨x1, hx1⟩ : ∃ x, worstN (closeM (baseM t)) N k j = x := ⟨_, rfl⟩
              obtain ⟨x2, hx2⟩ : ∃ x, wid K = x := ⟨_, rfl⟩
              rw [hx1, hx2] at HST
              rw [hx1] at hwb ⊢
              have HX2 := Lib.hid hx2
              clear hst hkw hk0 hv2 hs2 he2 hw2 hn hx1 hx2
              go_wp2_with fail
              clear q0 q1 q2 y1
              refine (sounded_any _ t ⟨(k : Nat), n, n⟩ _ ⟨_, _, rfl, HSN.out.below S.out.bel, HSP.out.below S.out.bel⟩ (by omega) (by omega)).mono ?_
              rintro e w5 ⟨v', rfl, ⟨sv', pv', rfl, ho1, ho2⟩, hb⟩
              have S := Lib.hid (S.out.take2 hb ho1 ho2 (by decide))
              clear hb ho1 ho2
              go_wp2_with fail
              refine (wide_any _ (addS t ⟨(k : Nat), n, n⟩) K _ ⟨_, _, rfl, S.out.row 0 rfl, S.out.row 1 rfl⟩ HV2.out (by simp [addS]; omega) (by show t.slp.length ≤ 1000; omega) HS2.out HE2.out).mono ?_
              rintro e w6 ⟨rfl, hb⟩
              rw [HX2.out]
              have S := Lib.hid (S.out.call hb).tail.tail
              clear hb
              by_cases hmx : x1 < x2
              · have HST := Lib.hid (HST.out.trans (Int.max_eq_right (by omega)))
                go_wp2_with fail
                all_goals
                  go_roundw
                  case rel => exact ⟨j + 1, by have := HNX.out; omega, by rw [HST.out], congrArg I (show n + 1 = lo + ((j + 1 : Nat) : Int) by have := HNX.out; omega), S⟩
                  case measure => first | (simp [intOf]; done) | (simp [intOf]; omega)
              · have HST := Lib.hid (HST.out.trans (Int.max_eq_left (by omega)))
                go_wp2_with fail
                all_goals
                  go_roundw
                  case rel => exact ⟨j + 1, by have := HNX.out; omega, by rw [HST.out], congrArg I (show n + 1 = lo + ((j + 1 : Nat) : Int) by have := HNX.out; omega), S⟩
                  case measure => first | (simp [intOf]; done) | (simp [intOf]; omega)
            · have hjE : worstN (closeM (baseM t)) N k j = worstP (closeM (baseM t)) N k := by
                unfold worstP
                rw [HLK.out]
                dsimp only
                rw [show j = (hi' + 1 - lo).toNat by omega]
              have hsk : askF (closeM (baseM t)) N (W + 1) (k + 1) = if worstP (closeM (baseM t)) N k < (askF (closeM (baseM t)) N (W + 1) k).2 then ((k : Int), worstP (closeM (baseM t)) N k) else askF (closeM (baseM t)) N (W + 1) k := rfl
              obtain ⟨⟨z1, z2⟩, hz⟩ : ∃ x, askF (closeM (baseM t)) N (W + 1) k = x := ⟨_, rfl⟩
              obtain ⟨wp, hwp⟩ : ∃ x, worstP (closeM (baseM t)) N k = x := ⟨_, rfl⟩
              rw [hz, hwp] at hsk
              rw [hz, hjE, hwp]
              dsimp only at hsk ⊢
              by_cases hlt2 : wp < z2
              · have HZ := Lib.hid (hsk.trans (if_pos hlt2))
                clear hjE hsk hz hwp
                go_wp2_with fail
                go_roundw
                case rel => exact ⟨k + 1, by omega, by rw [HZ.out], by rw [HZ.out], by go_num, S⟩
                case measure => first | (simp [intOf]; done) | (simp [intOf]; omega)
              · have HZ := Lib.hid (hsk.trans (if_neg hlt2))
                clear hjE hsk hz hwp
                go_wp2_with fail
                go_roundw
                case rel => exact ⟨k + 1, by omega, by rw [HZ.out], by rw [HZ.out], by go_num, S⟩
                case measure => first | (simp [intOf]; done) | (simp [intOf]; omega)
        · have hki : ¬ (k : Int) < (N : Int) := by omega
          have hkN : k = t.wells.toNat := by have := HN.out; omega
          have hN0 : 0 < N := by
            apply Classical.byContradiction
            intro hn
            have h0 : N = 0 := by omega
            have := HWB.out.2
            rw [h0] at this
            have h2 := HWB.out.1
            exact HNZ.out (by omega)
          have hfin : (askTo (closeM (baseM t)) t.wells.toNat t.wells.toNat).1 = (askF (closeM (baseM t)) N (W + 1) k).1 := by
            have w0 := worst_le HO.out HEX.out (w := 0) (by have := HN.out; omega)
            rw [HWD.out, ← HN.out] at w0
            have := HWB.out.2
            have he := askF_eq (ms := closeM (baseM t)) (N := N) (W := W + 1) (by omega) (by omega) (N - 1)
            rw [show N - 1 + 1 = N by omega] at he
            rw [← HN.out, show k = N by omega, he]
          have HF := Lib.hid hfin
          clear hfin hkN
          go_wp2_with fail
          go_ret2
          exact ⟨by rw [HE.out]; dsimp only; rw [HF.out]; rfl, S.out.bel⟩
  · obtain ⟨er, her⟩ : ∃ x, openE t true = x := ⟨_, rfl⟩
    have hne : er ≠ 0 := by rw [← her]; exact h
    have hnb := bne_iff_ne.2 hne
    have HO := Lib.hid h
    have HER := Lib.hid her
    have HE := Lib.hid (show askP t = (0, er) by unfold askP; rw [if_neg h, her])
    clear h her hne
    go_enter Try.func60, Try.ntmps60
    go_wp2_with fail
    clear q0 q1 q2
    refine (known_no _ t _ _ ⟨_, _, rfl, HSN.out.below S.out.bel, HSP.out.below S.out.bel⟩ HO.out).mono ?_
    rintro e w1 ⟨rfl, hb⟩
    rw [HER.out]
    have S := Lib.hid (S.out.call hb)
    clear hb
    go_wp2_with fail
    go_ret2
    exact ⟨by rw [HE.out]; rfl, S.out.bel⟩

end Go.Proofs.Ytplbaijdnpfdgaa
