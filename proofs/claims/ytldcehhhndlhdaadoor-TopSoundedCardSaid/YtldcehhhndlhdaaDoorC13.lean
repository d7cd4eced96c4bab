/- Walks: Left and Out of quarrels. -/
import Derived.Test.YtldcehhhndlhdaaDoorC10
import Derived.Test.YtldcehhhndlhdaaDoorC12
namespace Go.Proofs.YtldcehhhndlhdaaDoor
open Go.RowKit Go.Sort Go.Shelf

/-- The worlds that are left; the facts with which a world does not agree. -/
def leftL (t : QTown) : List Int := listN (maskQ t t.wds.length)
def outTo (t : QTown) (n k : Nat) : List Int := ((List.range k).filter fun i => !agrQ (t.wds.getD n []) (t.fcs.getD i default)).map fun i : Nat => (i : Int)
def outR (t : QTown) (n : Nat) : List Int × Int := if outTo t n t.fcs.length = [] then ([], 3) else (outTo t n t.fcs.length, 0)
theorem outTo_len (t : QTown) (n k : Nat) : (outTo t n k).length ≤ k := by
  unfold outTo
  rw [List.length_map]
  exact Nat.le_trans (List.length_filter_le _ _) (by simp)
theorem LW.some_ {w : World} {v : Value} {ws : List (List (List Int))} (h : LW w v ws) {n : Nat} {ls : List (List Int)} (hl : ws[n]? = some ls) : ∃ b o c Au cu, v = .slice (some ⟨b, o, none⟩) ws.length c ∧ w.cell? ⟨b, o + n, none⟩ = some (.slice Au ls.length cu) ∧ LL w (.slice Au ls.length cu) ls := by
  obtain ⟨A, c, rfl, -, -, hc⟩ := h.open_
  obtain ⟨hn, e⟩ := List.getElem?_eq_some_iff.1 hl
  obtain ⟨b, o, rfl, -, hcl⟩ := hc (by omega)
  obtain ⟨u, hu, hll⟩ := hcl n hn
  rw [e] at hll
  obtain ⟨Au, cu, rfl, -, -, -⟩ := id hll.open_
  exact ⟨b, o, c, Au, cu, rfl, hu, hll⟩
theorem mask_small {t : QTown} (h : t.wds.length ≤ 6) : maskQ t t.wds.length < 64 :=
  Nat.lt_of_lt_of_le (maskQ_lt t _) (Nat.le_trans (Nat.pow_le_pow_right (by omega) h) (by decide))

set_option maxRecDepth 20000 in
set_option maxHeartbeats 2000000 in
theorem left_any (v : Value) (t : QTown) (w : World) (hv : QAt w v t) (hvd : qValid t = true) (hT : TzAt w) :
    Calls Tryd.prog 21 #[v] w fun e w' => RetL w (leftL t) 0 e w' := by
  obtain ⟨wv, fv, rfl, hw, hf⟩ := hv
  obtain ⟨A1, c1, rfl, -, -, -⟩ := id hw.open_
  obtain ⟨A2, c2, rfl, -, -, -⟩ := id hf.open_
  have HW := Lib.hid hw
  have HF := Lib.hid hf
  have HVD := Lib.hid hvd
  have HT := Lib.hid hT
  have S := Lib.hid (show St w (w.alloc (.cells #[I t.wells, .slice A1 t.wds.length c1, .slice A2 t.fcs.length c2] 29)) (w.heap.size + 1) [.box w.heap.size [I t.wells, .slice A1 t.wds.length c1, .slice A2 t.fcs.length c2]] from (St.init w).alloc [I t.wells, .slice A1 t.wds.length c1, .slice A2 t.fcs.length c2] 29)
  clear hw hf hvd hT
  have q0 := S.out.get 0 0 rfl rfl
  have q1 := S.out.get 0 1 rfl rfl
  have q2 := S.out.get 0 2 rfl rfl
  go_enter Tryd.func21, Tryd.ntmps21
  go_wp2_with fail
  clear q0 q1 q2
  refine (qask_any _ t _ ⟨_, _, rfl, HW.out.below S.out.bel, HF.out.below S.out.bel⟩ HVD.out).mono ?_
  rintro e w1 ⟨B, rfl, hB, hb⟩
  have S := Lib.hid (S.out.call hb)
  clear hb
  go_wp2_with fail
  refine (qlist_any _ _ (mask_small (qValid_spec HVD.out).2.2.1) (HT.out.below S.out.bel)).mono ?_
  rintro e w2 ⟨v, rfl, hown, hb⟩
  obtain ⟨A3, c3, rfl⟩ := own_shape hown
  have S := Lib.hid (S.out.take hb hown)
  clear hb hown hB
  go_wp2_with fail
  go_ret2
  exact ⟨_, rfl, S.out.ints 0 rfl, S.out.bel⟩

set_option maxRecDepth 20000 in
set_option maxHeartbeats 2000000 in
theorem out_any (v : Value) (t : QTown) (n : Nat) (w : World) (hv : QAt w v t) (hvd : qValid t = true) (hT : TzAt w) (hn : n < t.wds.length) :
    Calls Tryd.prog 17 #[v, I (n : Nat)] w fun e w' => RetL w (outR t n).1 (outR t n).2 e w' := by
  obtain ⟨wv, fv, rfl, hw, hf⟩ := hv
  obtain ⟨A1, c1, rfl, -, -, -⟩ := id hw.open_
  obtain ⟨A2, c2, rfl, -, -, -⟩ := id hf.open_
  have HW := Lib.hid hw
  have HF := Lib.hid hf
  have HVD := Lib.hid hvd
  have HT := Lib.hid hT
  have S := Lib.hid (show St w (w.alloc (.cells #[I t.wells, .slice A1 t.wds.length c1, .slice A2 t.fcs.length c2] 29)) (w.heap.size + 1) [.box w.heap.size [I t.wells, .slice A1 t.wds.length c1, .slice A2 t.fcs.length c2]] from (St.init w).alloc [I t.wells, .slice A1 t.wds.length c1, .slice A2 t.fcs.length c2] 29)
  clear hw hf hvd hT
  have q0 := S.out.get 0 0 rfl rfl
  have q1 := S.out.get 0 1 rfl rfl
  have q2 := S.out.get 0 2 rfl rfl
  go_enter Tryd.func17, Tryd.ntmps17
  go_wp2_with fail
  clear q0 q1 q2
  have h6 := (qValid_spec HVD.out).2.2.1
  have hf6 := (qValid_spec HVD.out).2.2.2.1
  have HN := Lib.hid hn
  refine wp_region_seg [([0, 1, 2, 3, 4, 5], 6), ([], 7)] [8, 9, 10, 11, 12] [] 13 (by kernel_rfl) (by kernel_rfl) ?_
  intro KQ hKQ wa hb
  have S := Lib.hid (S.out.call hb)
  clear hb
  have q0 := cell_regrown (S.out.get 0 0 rfl rfl)
  have q1 := cell_regrown (S.out.get 0 1 rfl rfl)
  have q2 := cell_regrown (S.out.get 0 2 rfl rfl)
  refine seg_next ?_
  simp only [opsAt, List.filterMap_cons, List.filterMap_nil, List.getElem?_toArray, List.getElem?_cons_succ, List.getElem?_cons_zero]
  repeat (first | go_big_quiet_step (fail) | quiet_step (fail))
  refine wpQuiet_nil ?_
  intro K hK
  refine loud_op rfl rfl ?_
  go_simp
  refine (qWithin_any _ _ _ _).mono ?_
  rintro e wb ⟨rfl, rfl⟩
  rw [show inR (n : Int) 0 (IntKind.i64.wrap ((t.wds.length : Int) - 1)) = true by rw [IntWalk.i64_in _ (by omega)]; unfold inR; simp; omega]
  refine hK _ _ (Below.refl _ _) ?_
  clear hK K
  refine seg_next ?_
  simp only [opsAt, List.filterMap_nil]
  refine wpQuiet_nil ?_
  intro K hK
  refine loud_op rfl rfl ?_
  go_simp
  refine (qask_any _ t _ ⟨_, _, rfl, HW.out.below S.out.bel, HF.out.below S.out.bel⟩ HVD.out).mono ?_
  rintro e w1 ⟨B, rfl, hB, hb⟩
  have S := Lib.hid (S.out.call hb)
  refine hK _ _ hb ?_
  clear hK K hb q0 q1 q2 hB
  refine seg_last ?_
  simp only [opsAt, List.filterMap_cons, List.filterMap_nil, List.getElem?_toArray, List.getElem?_cons_succ, List.getElem?_cons_zero]
  repeat (first | go_big_quiet_step (fail) | quiet_step (fail))
  refine wpQuiet_nil ?_
  rw [show IntKind.i64.wrap ((t.wds.length : Int) - 1) = (t.wds.length : Int) - 1 from IntWalk.i64_in _ (by omega)]
  have q0 := S.out.get 0 0 rfl rfl
  have q1 := S.out.get 0 1 rfl rfl
  have q2 := S.out.get 0 2 rfl rfl
  go_wp2_with fail
  clear q0 q1 q2
  have S := Lib.hid (S.out.nil 3 1)
  obtain ⟨i0, hi, hz0, hz1, hz2⟩ := info_parts Tryd.info3
  have h02 : 0 < 1 := by decide
  obtain ⟨ls, hls, hm⟩ : ∃ ls, t.wds[n]? = some ls ∧ ls ∈ t.wds := ⟨_, List.getElem?_eq_getElem hn, List.getElem_mem hn⟩
  obtain ⟨b1, o1, cw, Au, cu, e, hu, hl⟩ := HW.out.some_ hls
  obtain ⟨rfl, -, rfl⟩ := qslice_inj e
  have HL := Lib.hid hl
  have HM := Lib.hid hm
  have HU := Lib.hid hu
  have HLS := Lib.hid (show t.wds.getD n [] = ls by simp [hls])
  have hni : (n : Int) < (t.wds.length : Int) := by omega
  clear e hu hl hm hls
  go_loopw [8, 28] (fun x i wr => ∃ (k : Nat) (A : Option Addr) (c : Nat), k ≤ t.fcs.length ∧ x = .slice A (outTo t n k).length c ∧ i = I k ∧ Hid (St w wr wr.heap.size [.own 3 1 (.slice A (outTo t n k).length c) (outTo t n k).length ((outTo t n k).map I), .box w.heap.size [I t.wells, .slice (some ⟨b1, o1, none⟩) t.wds.length c1, .slice A2 t.fcs.length c2]])) (fun _ i _ => t.fcs.length - (intOf i).toNat)
  case atStart => exact ⟨0, none, 0, by omega, rfl, rfl, Lib.hid S.out.fix⟩
  case round =>
    clear S
    obtain ⟨k, A, c, hk, rfl, rfl, S⟩ := hrel
    by_cases hlt : k < t.fcs.length
    · have hki : (k : Int) < (t.fcs.length : Int) := by omega
      obtain ⟨A', c', e, -, -, hfc⟩ := HF.out.open_
      obtain ⟨rfl, -, rfl⟩ := qslice_inj e
      obtain ⟨b2, o2, hA2, -, hc2⟩ := hfc (by omega)
      subst hA2
      obtain ⟨f0, f1, f2, f3, f4⟩ := hc2 k hlt
      have hgf := good_of HVD.out HM.out (List.getElem_mem hlt)
      obtain ⟨f, hfe⟩ : ∃ f, t.fcs[k] = f := ⟨_, rfl⟩
      rw [hfe] at f0 f1 f2 f3 f4 hgf
      have HGF := Lib.hid hgf
      have HSUC := Lib.hid (show outTo t n (k + 1) = outTo t n k ++ (if agrQ ls f then [] else [(k : Int)]) by
        unfold outTo
        rw [List.range_succ, List.filter_append, List.map_append]
        congr 1
        have e1 : t.fcs.getD k default = f := by rw [← hfe]; simp [List.getElem?_eq_getElem hlt]
        simp only [List.filter_cons, List.filter_nil, HLS.out, e1]
        cases agrQ ls f <;> rfl)
      have hol := outTo_len t n k
      have y0 := keep_cell S.out.bel f0
      have y1 := keep_cell S.out.bel f1
      have y2 := keep_cell S.out.bel f2
      have y3 := keep_cell S.out.bel f3
      have y4 := keep_cell S.out.bel f4
      have q2 := S.out.get 1 2 rfl rfl
      have T := Lib.hid (S.out.alloc [I f.fr, I f.many, I f.to, I f.low, I f.high] 49)
      clear e hfc hc2 f0 f1 f2 f3 f4 hgf hfe
      go_wp2_with fail
      clear y0 y1 y2 y3 y4 q2 S
      refine wp_region_seg [([0, 1, 2, 3, 4, 5], 6)] [7] [] 8 (by kernel_rfl) (by kernel_rfl) ?_
      intro KQ hKQ w3 hb
      have S := Lib.hid (T.out.call hb)
      clear hb T
      have q1 := cell_regrown (S.out.get 2 1 rfl rfl)
      have p0 := cell_regrown (S.out.get 0 0 rfl rfl)
      have p1 := cell_regrown (S.out.get 0 1 rfl rfl)
      have p2 := cell_regrown (S.out.get 0 2 rfl rfl)
      have p3 := cell_regrown (S.out.get 0 3 rfl rfl)
      have p4 := cell_regrown (S.out.get 0 4 rfl rfl)
      have yu := cell_regrown (keep_cell S.out.bel HU.out)
      refine seg_next ?_
      simp only [opsAt, List.filterMap_cons, List.filterMap_nil, List.getElem?_toArray, List.getElem?_cons_succ, List.getElem?_cons_zero]
      repeat (first | go_big_quiet_step (fail) | quiet_step (fail))
      refine wpQuiet_nil ?_
      intro K hK
      refine loud_op rfl rfl ?_
      go_simp
      refine (agreesF_any _ ls f _ ⟨_, rfl, HL.out.below S.out.bel⟩ HGF.out).mono ?_
      rintro e w4 ⟨rfl, hb⟩
      have S := Lib.hid ((S.out.call hb).tail)
      refine hK _ _ hb ?_
      clear hK K hb q1 p0 p1 p2 p3 p4 yu
      refine seg_last ?_
      simp only [opsAt, List.filterMap_cons, List.filterMap_nil, List.getElem?_toArray, List.getElem?_cons_succ, List.getElem?_cons_zero]
      repeat (first | go_big_quiet_step (fail) | quiet_step (fail))
      refine wpQuiet_nil ?_
      cases hag : agrQ ls f
      · have HS := Lib.hid (show outTo t n (k + 1) = outTo t n k ++ [(k : Int)] by rw [HSUC.out, hag]; rfl)
        clear hag
        obtain ⟨L, hL⟩ : ∃ L, outTo t n k = L := ⟨_, rfl⟩
        rw [hL] at HS hol S ⊢
        have h63 : L.length + 1 ≤ maxLen := by simp only [maxLen]; omega
        have hby : (L.length + 1) * 8 ≤ 140737488355328 := by omega
        clear hL
        have T := Lib.hid (S.out.alloc [I (k : Nat)] 3)
        go_wp2_with (at_builtin; refine wpList_append_St T.out 1 rfl _ _ 53 rfl 3 i0 (.int .i64 0) 1 8 Tryd.underlying53 hi hz0 hz1 hz2 rfl h02 rfl rfl _ 1 [I (k : Nat)] rfl (reads_box1 (T.out.get 0 0 rfl rfl)) (ints_one [(k : Int)]) h63 hby ?_; intro v5 w5 hS5; have S := Lib.hid hS5; clear hS5)
        obtain ⟨A'', c'', rfl⟩ := own_shape (S.out.own 1 rfl)
        go_roundw
        case rel => exact ⟨k + 1, A'', c'', by omega, by rw [HS.out]; simp, by go_num, Lib.hid (by rw [HS.out]; have h := S.out.fix.tail; simpa using h)⟩
        case measure => first | (simp [intOf]; done) | (simp [intOf]; omega)
      · have HS := Lib.hid (show outTo t n (k + 1) = outTo t n k by rw [HSUC.out, hag]; simp)
        clear hag
        go_wp2_with fail
        go_roundw
        case rel => exact ⟨k + 1, A, c, by omega, by rw [HS.out], by go_num, Lib.hid (by rw [HS.out]; exact S.out.fix)⟩
        case measure => first | (simp [intOf]; done) | (simp [intOf]; omega)
    · obtain rfl : k = t.fcs.length := by omega
      by_cases h0 : outTo t n t.fcs.length = []
      · have HE := Lib.hid (show outR t n = ([], 3) by unfold outR; rw [if_pos h0])
        have hz : ((outTo t n t.fcs.length).length : Int) == 0 := by rw [h0]; rfl
        clear h0
        go_wp2_with fail
        go_ret2
        exact ⟨_, by rw [HE.out]; rfl, by rw [HE.out]; exact ints_nil _, S.out.bel⟩
      · have HE := Lib.hid (show outR t n = (outTo t n t.fcs.length, 0) by unfold outR; rw [if_neg h0])
        have hz : (((outTo t n t.fcs.length).length : Int) == 0) = false := by
          have : (outTo t n t.fcs.length).length ≠ 0 := fun e => h0 (List.length_eq_zero_iff.1 e)
          simp; exact h0
        clear h0
        go_wp2_with fail
        go_ret2
        exact ⟨_, by rw [HE.out]; rfl, by rw [HE.out]; exact S.out.ints 0 rfl, S.out.bel⟩

end Go.Proofs.YtldcehhhndlhdaaDoor
/- Walks: the reference's Check of a town of quarrels; Huge. -/
namespace Go.Proofs.YtldcehhhndlhdaaDoor
open Go.RowKit Go.Sort Go.Shelf

theorem LL.some_ {w : World} {v : Value} {ws : List (List Int)} (h : LL w v ws) {n : Nat} {ls : List Int} (hl : ws[n]? = some ls) : ∃ b o c Au cu, v = .slice (some ⟨b, o, none⟩) ws.length c ∧ w.cell? ⟨b, o + n, none⟩ = some (.slice Au ls.length cu) ∧ Ints w (.slice Au ls.length cu) ls := by
  obtain ⟨A, c, rfl, -, -, hc⟩ := h.open_
  obtain ⟨hn, e⟩ := List.getElem?_eq_some_iff.1 hl
  obtain ⟨b, o, rfl, -, hcl⟩ := hc (by omega)
  obtain ⟨u, hu, hll⟩ := hcl n hn
  rw [e] at hll
  obtain ⟨Au, cu, rfl, -, -, -⟩ := id hll.open_
  exact ⟨b, o, c, Au, cu, rfl, hu, hll⟩
theorem qInts_some_ {w : World} {v : Value} {xs : List Int} (h : Ints w v xs) {n : Nat} {x : Int} (hl : xs[n]? = some x) : ∃ b o c, v = .slice (some ⟨b, o, none⟩) xs.length c ∧ w.cell? ⟨b, o + n, none⟩ = some (I x) := by
  obtain ⟨A, c, rfl, -, -, hc⟩ := h.open_
  obtain ⟨hn, e⟩ := List.getElem?_eq_some_iff.1 hl
  obtain ⟨b, o, rfl, -, hcl⟩ := hc (by omega)
  exact ⟨b, o, c, rfl, by rw [hcl n hn, e]⟩
theorem badWd_row {W : Int} {ls : List (List Int)} {l : List Int} (hl : l ∈ ls) (h : badRow W l = true) : badWd W ls = true := by
  unfold badWd
  rw [List.any_eq_true.2 ⟨l, hl, h⟩]
  simp
theorem badRow_el {W : Int} {l : List Int} {x : Int} (hx : x ∈ l) (h : inR x 0 9 = false) : badRow W l = true := by
  unfold badRow
  rw [List.any_eq_true.2 ⟨x, hx, by simp [h]⟩]
  simp
theorem badRow_ok {W : Int} {l : List Int} (h1 : (l.length : Int) = W) (h2 : ∀ (i : Nat) (x : Int), l[i]? = some x → inR x 0 9 = true) : badRow W l = false := by
  unfold badRow
  rw [decide_eq_false (by simpa using h1), Bool.false_or, List.any_eq_false]
  intro x hx
  obtain ⟨i, hi⟩ := List.getElem?_of_mem hx
  simp [h2 i x hi]
theorem badWd_ok {W : Int} {ls : List (List Int)} (h1 : (ls.length : Int) = W) (h2 : ∀ (i : Nat) (l : List Int), ls[i]? = some l → badRow W l = false) : badWd W ls = false := by
  unfold badWd
  rw [decide_eq_false (by simpa using h1), Bool.false_or, List.any_eq_false]
  intro x hx
  obtain ⟨i, hi⟩ := List.getElem?_of_mem hx
  simp [h2 i x hi]
/-- So far no row, and no number, is wrong. -/
def okTo (W : Int) (ls : List (List Int)) (k : Nat) : Prop := ∀ (i : Nat) (l : List Int), i < k → ls[i]? = some l → badRow W l = false
def okEl (l : List Int) (k : Nat) : Prop := ∀ (i : Nat) (x : Int), i < k → l[i]? = some x → inR x 0 9 = true

set_option maxRecDepth 20000 in
set_option maxHeartbeats 4000000 in
theorem isWorld5_any (v : Value) (ls : List (List Int)) (W : Int) (Aw Af : Option Addr) (mw cw mf cf : Nat) (w : World) (hl : LL w v ls) :
    Calls Tryd.prog 35 #[.agg #[I W, .slice Aw mw cw, .slice Af mf cf], .agg #[v]] w fun e w' => e = .returned (.bool (!badWd W ls)) ∧ Below w.heap.size w w' := by
  obtain ⟨A, c, rfl, hlc, hcm, -⟩ := id hl.open_
  have HL := Lib.hid hl
  have S := Lib.hid (show St w ((w.alloc (.cells #[I W, .slice Aw mw cw, .slice Af mf cf] 29)).alloc (.cells #[.slice A ls.length c] 80)) (w.heap.size + 1 + 1) [.box (w.heap.size + 1) [.slice A ls.length c], .box w.heap.size [I W, .slice Aw mw cw, .slice Af mf cf]] from ((St.init w).alloc [I W, .slice Aw mw cw, .slice Af mf cf] 29).alloc [.slice A ls.length c] 80)
  clear hl
  by_cases h : (ls.length : Int) = W
  · have hq : ((ls.length : Int) != W) = false := by simp [h]
    have HW := Lib.hid h
    clear h
    go_enter Tryd.func35, Tryd.ntmps35
    go_wp2_with fail
    go_loopw [5] (fun i wr => ∃ k : Nat, k ≤ ls.length ∧ i = I k ∧ Hid (okTo W ls k) ∧ Hid (St w wr wr.heap.size [.box (w.heap.size + 1) [.slice A ls.length c], .box w.heap.size [I W, .slice Aw mw cw, .slice Af mf cf]])) (fun i _ => ls.length - (intOf i).toNat)
    case atStart => exact ⟨0, by omega, rfl, Lib.hid (fun i l h => absurd h (by omega)), Lib.hid S.out.fix⟩
    case round =>
      clear S
      obtain ⟨k, hk, rfl, HO, S⟩ := hrel
      have q0 := S.out.get 0 0 rfl rfl
      have p0 := S.out.get 1 0 rfl rfl
      by_cases hlt : k < ls.length
      · have hki : (k : Int) < (ls.length : Int) := by omega
        obtain ⟨l, hl, hlm⟩ : ∃ l, ls[k]? = some l ∧ l ∈ ls := ⟨_, List.getElem?_eq_getElem hlt, List.getElem_mem hlt⟩
        obtain ⟨b1, o1, c1, Au, cu, e, hu, hil⟩ := HL.out.some_ hl
        obtain ⟨hA1, -, hc1⟩ := qslice_inj e
        subst hA1
        obtain ⟨_, _, e2, h7, h8, -⟩ := hil.open_
        have hl63 : l.length ≤ 9223372036854775807 := by omega
        have HI := Lib.hid hil
        have HU := Lib.hid hu
        have HLM := Lib.hid (And.intro hl hlm)
        have yu := keep_cell S.out.bel hu
        clear e e2 hu hil hl hlm hc1 h7 h8
        by_cases hr : (l.length : Int) = W
        · have hrq : ((l.length : Int) != W) = false := by simp [hr]
          have HRW := Lib.hid hr
          go_wp2_with fail
          have q0 := cell_regrown q0
          have p0 := cell_regrown p0
          have yu := cell_regrown yu
          refine wp_region_ext (by kernel_rfl) (by kernel_rfl) ?_
          repeat (first | go_big_quiet_step (fail) | quiet_step (fail))
          refine wpQuiet_nil ?_
          intro wq hbq
          have S := Lib.hid (S.out.call hbq)
          clear hbq q0 p0 yu
          have q0 := S.out.get 0 0 rfl rfl
          have yu := keep_cell S.out.bel HU.out
          go_wp2_with fail
          clear q0 yu hr hrq
          go_loopw [6] (fun i wq => ∃ m : Nat, m ≤ l.length ∧ i = I m ∧ Hid (okEl l m) ∧ Hid (St w wq wq.heap.size [.box (w.heap.size + 1) [.slice (some ⟨b1, o1, none⟩) ls.length c], .box w.heap.size [I W, .slice Aw mw cw, .slice Af mf cf]])) (fun i _ => l.length - (intOf i).toNat)
          case atStart => exact ⟨0, by omega, rfl, Lib.hid (fun i l h => absurd h (by omega)), Lib.hid S.out.fix⟩
          case round =>
            clear S
            rename_i wr' _ _ _
            obtain ⟨m, hm, rfl, HEL, S⟩ := hrel
            have q0 := S.out.get 0 0 rfl rfl
            have yu := keep_cell S.out.bel HU.out
            by_cases hlm : m < l.length
            · have hmi : (m : Int) < (l.length : Int) := by omega
              obtain ⟨x, hx, hxm⟩ : ∃ x, l[m]? = some x ∧ x ∈ l := ⟨_, List.getElem?_eq_getElem hlm, List.getElem_mem hlm⟩
              obtain ⟨b2, o2, c2, e3, hx2⟩ := qInts_some_ HI.out hx
              obtain ⟨hA2, -, -⟩ := qslice_inj e3
              subst hA2
              have yx := keep_cell S.out.bel hx2
              have HX := Lib.hid (And.intro hx hxm)
              clear e3 hx2 hx hxm
              go_wp2_with fail
              refine (rWithin5_any _ _ _ _).mono ?_
              rintro e w5 ⟨rfl, hb⟩
              subst hb
              cases hin : inR x 0 9
              · have HE := Lib.hid (show badWd W ls = true from badWd_row HLM.out.2 (badRow_el HX.out.2 hin))
                clear hin
                go_wp2_with fail
                go_ret
                exact ⟨by rw [HE.out]; rfl, S.out.bel⟩
              · have HN := Lib.hid (show okEl l (m + 1) from fun i y hi hy => by
                  by_cases e : i = m
                  · subst e
                    rw [HX.out.1] at hy
                    injection hy with hy
                    rw [← hy]
                    exact hin
                  · exact HEL.out i y (by omega) hy)
                clear hin
                go_wp2_with fail
                go_roundw
                case rel => exact ⟨m + 1, by omega, by go_num, HN, Lib.hid S.out.fix⟩
                case measure => first | (simp [intOf]; done) | (simp [intOf]; omega)
            · have hmi : ¬ (m : Int) < (l.length : Int) := by omega
              have HN := Lib.hid (show okTo W ls (k + 1) from fun i y hi hy => by
                by_cases e : i = k
                · subst e
                  rw [HLM.out.1] at hy
                  injection hy with hy
                  rw [← hy]
                  exact badRow_ok HRW.out fun i x hx => HEL.out i x (by have := (List.getElem?_eq_some_iff.1 hx).1; omega) hx
                · exact HO.out i y (by omega) hy)
              go_wp2_with fail
              go_roundw
              case rel => exact ⟨k + 1, by omega, by go_num, HN, Lib.hid S.out.fix⟩
              case measure => first | (simp [intOf]; done) | (simp [intOf]; omega)
        · have hrq : ((l.length : Int) != W) = true := by simp [hr]
          have HE := Lib.hid (show badWd W ls = true from badWd_row HLM.out.2 (by unfold badRow; rw [decide_eq_true (by simpa using hr)]; rfl))
          go_wp2_with fail
          have q0 := cell_regrown q0
          have p0 := cell_regrown p0
          have yu := cell_regrown yu
          refine wp_region_ext (by kernel_rfl) (by kernel_rfl) ?_
          repeat (first | go_big_quiet_step (fail) | quiet_step (fail))
          refine wpQuiet_nil ?_
          intro wq hbq
          have S := Lib.hid (S.out.call hbq)
          clear hbq q0 p0 yu
          go_wp2_with fail
          go_ret
          exact ⟨by rw [HE.out]; rfl, S.out.bel⟩
      · have hki : ¬ (k : Int) < (ls.length : Int) := by omega
        have HE := Lib.hid (show badWd W ls = false from badWd_ok HW.out fun i l hl => HO.out i l (by have := (List.getElem?_eq_some_iff.1 hl).1; omega) hl)
        go_wp2_with fail
        go_ret
        exact ⟨by rw [HE.out]; rfl, S.out.bel⟩
  · have HE := Lib.hid (show badWd W ls = true by unfold badWd; rw [decide_eq_true (by simpa using h)]; rfl)
    have hq : ((ls.length : Int) != W) = true := by simp [h]
    clear h
    go_enter Tryd.func35, Tryd.ntmps35
    go_wp2_with fail
    go_ret
    exact ⟨by rw [HE.out]; rfl, S.out.bel⟩

def okWds (t : QTown) (k : Nat) : Prop := ∀ (i : Nat) (l : List (List Int)), i < k → t.wds[i]? = some l → badWd t.wells l = false
def okFcs (t : QTown) (k : Nat) : Prop := ∀ (i : Nat) (f : QFact), i < k → t.fcs[i]? = some f → badFct t.wells f = false
theorem qChk_wd {t : QTown} {l : List (List Int)} (hl : l ∈ t.wds) (h : badWd t.wells l = true) : qChk t = 50 := by
  unfold qChk qValid
  rw [List.any_eq_true.2 ⟨l, hl, h⟩]
  simp
theorem qChk_fct {t : QTown} {f : QFact} (hf : f ∈ t.fcs) (h : badFct t.wells f = true) : qChk t = 50 := by
  unfold qChk qValid
  rw [List.any_eq_true.2 ⟨f, hf, h⟩]
  simp
theorem qChk_ok {t : QTown} (h1 : inR t.wells 0 4 = true) (h2 : t.wds.length ≤ 6) (h3 : t.fcs.length ≤ 6) (h4 : ∀ (i : Nat) (l : List (List Int)), t.wds[i]? = some l → badWd t.wells l = false) (h5 : ∀ (i : Nat) (f : QFact), t.fcs[i]? = some f → badFct t.wells f = false) : qChk t = 0 := by
  unfold qChk qValid
  rw [h1, decide_eq_true h2, decide_eq_true h3]
  have e1 : t.wds.any (fun l => badWd t.wells l) = false := by
    rw [List.any_eq_false]
    intro x hx
    obtain ⟨i, hi⟩ := List.getElem?_of_mem hx
    simp [h4 i x hi]
  have e2 : t.fcs.any (fun f => badFct t.wells f) = false := by
    rw [List.any_eq_false]
    intro x hx
    obtain ⟨i, hi⟩ := List.getElem?_of_mem hx
    simp [h5 i x hi]
  rw [e1, e2]
  rfl
theorem badFct_not {W : Int} {f : QFact} (h : ¬ (inR f.fr 0 (W - 1) = true ∧ inR f.to 0 (W - 1) = true ∧ inR f.many 1 9 = true ∧ inR f.high 0 99 = true ∧ inR f.low 0 f.high = true)) : badFct W f = true := by
  unfold badFct
  cases h1 : inR f.fr 0 (W - 1)
  · rfl
  cases h2 : inR f.to 0 (W - 1)
  · rfl
  cases h3 : inR f.many 1 9
  · rfl
  cases h4 : inR f.low 0 f.high
  · rfl
  have h5 : inR f.high 0 99 ≠ true := fun e => h ⟨h1, h2, h3, e, h4⟩
  unfold inR at h4 h5
  simp at h4 h5
  simp
  omega
theorem badFct_ok {W : Int} {f : QFact} (h1 : inR f.fr 0 (W - 1) = true) (h2 : inR f.to 0 (W - 1) = true) (h3 : inR f.many 1 9 = true) (h5 : inR f.high 0 99 = true) (h4 : inR f.low 0 f.high = true) : badFct W f = false := by
  unfold badFct
  rw [h1, h2, h3, h4]
  unfold inR at h5
  simp at h5
  simp
  omega
set_option maxRecDepth 20000 in
set_option maxHeartbeats 4000000 in
theorem rCheck5_any (v : Value) (t : QTown) (w : World) (hv : QAt w v t) :
    Calls Tryd.prog 8 #[v] w fun e w' => e = .returned (I (qChk t)) ∧ Below w.heap.size w w' := by
  obtain ⟨wv, fv, rfl, hw, hf⟩ := hv
  obtain ⟨A1, c1, rfl, -, -, -⟩ := id hw.open_
  obtain ⟨A2, c2, rfl, -, -, -⟩ := id hf.open_
  have HW := Lib.hid hw
  have HF := Lib.hid hf
  have S := Lib.hid (show St w (w.alloc (.cells #[I t.wells, .slice A1 t.wds.length c1, .slice A2 t.fcs.length c2] 29)) (w.heap.size + 1) [.box w.heap.size [I t.wells, .slice A1 t.wds.length c1, .slice A2 t.fcs.length c2]] from (St.init w).alloc [I t.wells, .slice A1 t.wds.length c1, .slice A2 t.fcs.length c2] 29)
  clear hw hf
  have q0 := S.out.get 0 0 rfl rfl
  have q1 := S.out.get 0 1 rfl rfl
  have q2 := S.out.get 0 2 rfl rfl
  go_enter Tryd.func8, Tryd.ntmps8
  go_wp2_with fail
  refine (rWithin5_any _ _ _ _).mono ?_
  rintro e w1 ⟨rfl, hb⟩
  subst hb
  cases h : inR t.wells 0 4
  · have HE := Lib.hid (show qChk t = 50 by unfold qChk qValid; rw [h]; rfl)
    clear h
    go_wp2_with fail
    go_ret
    exact ⟨by rw [HE.out]; rfl, S.out.bel⟩
  · have H1 := Lib.hid h
    have hW0 : 0 ≤ t.wells := by unfold inR at h; simp at h; omega
    have hW6 : t.wells ≤ 1000 := by unfold inR at h; simp at h; omega
    clear h
    by_cases h6 : (6 : Int) < (t.wds.length : Int)
    · have HE := Lib.hid (show qChk t = 50 by unfold qChk qValid; rw [H1.out, decide_eq_false (show ¬ t.wds.length ≤ 6 by omega)]; simp)
      go_wp2_with fail
      go_ret
      exact ⟨by rw [HE.out]; rfl, S.out.bel⟩
    · have H2 := Lib.hid (show t.wds.length ≤ 6 by omega)
      by_cases h8 : (6 : Int) < (t.fcs.length : Int)
      · have HE := Lib.hid (show qChk t = 50 by unfold qChk qValid; rw [decide_eq_false (show ¬ t.fcs.length ≤ 6 by omega)]; simp)
        go_wp2_with fail
        go_ret
        exact ⟨by rw [HE.out]; rfl, S.out.bel⟩
      · have H3 := Lib.hid (show t.fcs.length ≤ 6 by omega)
        go_wp2_with fail
        clear q0 q1 q2
        go_loopw [3] (fun i wr => ∃ k : Nat, k ≤ t.wds.length ∧ i = I k ∧ Hid (okWds t k) ∧ Hid (St w wr wr.heap.size [.box w.heap.size [I t.wells, .slice A1 t.wds.length c1, .slice A2 t.fcs.length c2]])) (fun i _ => t.wds.length - (intOf i).toNat)
        case atStart => exact ⟨0, by omega, rfl, Lib.hid (fun i l h => absurd h (by omega)), Lib.hid S.out.fix⟩
        case round =>
          clear S
          obtain ⟨k, hk, rfl, HOW, S⟩ := hrel
          have q0 := S.out.get 0 0 rfl rfl
          have q1 := S.out.get 0 1 rfl rfl
          have q2 := S.out.get 0 2 rfl rfl
          by_cases hlt : k < t.wds.length
          · have hki : (k : Int) < (t.wds.length : Int) := by omega
            obtain ⟨l, hl, hlm⟩ : ∃ l, t.wds[k]? = some l ∧ l ∈ t.wds := ⟨_, List.getElem?_eq_getElem hlt, List.getElem_mem hlt⟩
            obtain ⟨b1, o1, cw, Au, cu, e, hu, hil⟩ := HW.out.some_ hl
            obtain ⟨hA1, -, -⟩ := qslice_inj e
            subst hA1
            have HIL := Lib.hid hil
            have HU := Lib.hid hu
            have HLM := Lib.hid (And.intro hl hlm)
            clear e hu hil hl hlm
            go_wp2_with fail
            clear q0 q1 q2
            refine wp_region_seg [([0, 1, 2, 3, 4, 5], 6)] [7] [] 8 (by kernel_rfl) (by kernel_rfl) ?_
            intro KQ hKQ w3 hb
            have S := Lib.hid (S.out.call hb)
            clear hb
            have q0 := cell_regrown (S.out.get 0 0 rfl rfl)
            have q1 := cell_regrown (S.out.get 0 1 rfl rfl)
            have q2 := cell_regrown (S.out.get 0 2 rfl rfl)
            have yu := cell_regrown (keep_cell S.out.bel HU.out)
            refine seg_next ?_
            simp only [opsAt, List.filterMap_cons, List.filterMap_nil, List.getElem?_toArray, List.getElem?_cons_succ, List.getElem?_cons_zero]
            repeat (first | go_big_quiet_step (fail) | quiet_step (fail))
            refine wpQuiet_nil ?_
            intro K hK
            refine loud_op rfl rfl ?_
            go_simp
            refine (isWorld5_any _ l t.wells _ _ _ _ _ _ _ (HIL.out.below S.out.bel)).mono ?_
            rintro e w4 ⟨rfl, hb⟩
            have S := Lib.hid (S.out.call hb)
            refine hK _ _ hb ?_
            clear hK K hb q0 q1 q2 yu
            refine seg_last ?_
            simp only [opsAt, List.filterMap_cons, List.filterMap_nil, List.getElem?_toArray, List.getElem?_cons_succ, List.getElem?_cons_zero]
            repeat (first | go_big_quiet_step (fail) | quiet_step (fail))
            refine wpQuiet_nil ?_
            cases hbw : badWd t.wells l
            · have HN := Lib.hid (show okWds t (k + 1) from fun i y hi hy => by
                by_cases e : i = k
                · subst e
                  rw [HLM.out.1] at hy
                  injection hy with hy
                  rw [← hy]
                  exact hbw
                · exact HOW.out i y (by omega) hy)
              clear hbw
              go_wp2_with fail
              go_roundw
              case rel => exact ⟨k + 1, by omega, by go_num, HN, Lib.hid S.out.fix⟩
              case measure => first | (simp [intOf]; done) | (simp [intOf]; omega)
            · have HE := Lib.hid (show qChk t = 50 from qChk_wd HLM.out.2 hbw)
              clear hbw
              go_wp2_with fail
              go_ret
              exact ⟨by rw [HE.out]; rfl, S.out.bel⟩
          · have hki : ¬ (k : Int) < (t.wds.length : Int) := by omega
            go_wp2_with fail
            clear q0 q1 q2
            go_loopw [4] (fun i wr => ∃ m : Nat, m ≤ t.fcs.length ∧ i = I m ∧ Hid (okFcs t m) ∧ Hid (St w wr wr.heap.size [.box w.heap.size [I t.wells, .slice A1 t.wds.length c1, .slice A2 t.fcs.length c2]])) (fun i _ => t.fcs.length - (intOf i).toNat)
            case atStart => exact ⟨0, by omega, rfl, Lib.hid (fun i l h => absurd h (by omega)), Lib.hid S.out.fix⟩
            case round =>
              clear S
              obtain ⟨m, hm, rfl, HFO, S⟩ := hrel
              have q0 := S.out.get 0 0 rfl rfl
              have q1 := S.out.get 0 1 rfl rfl
              have q2 := S.out.get 0 2 rfl rfl
              by_cases hlm : m < t.fcs.length
              · have hmi : (m : Int) < (t.fcs.length : Int) := by omega
                obtain ⟨A', c', e, -, -, hfc⟩ := HF.out.open_
                obtain ⟨rfl, -, rfl⟩ := qslice_inj e
                obtain ⟨b2, o2, hA2, -, hc2⟩ := hfc (by omega)
                subst hA2
                obtain ⟨f0, f1, f2, f3, f4⟩ := hc2 m hlm
                have hfm := List.getElem_mem hlm
                have hfm2 := List.getElem?_eq_getElem hlm
                obtain ⟨f, hfe⟩ : ∃ f, t.fcs[m] = f := ⟨_, rfl⟩
                rw [hfe] at f0 f1 f2 f3 f4 hfm hfm2
                have HFM := Lib.hid (And.intro hfm2 hfm)
                have y0 := keep_cell S.out.bel f0
                have y1 := keep_cell S.out.bel f1
                have y2 := keep_cell S.out.bel f2
                have y3 := keep_cell S.out.bel f3
                have y4 := keep_cell S.out.bel f4
                have hl0 := S.out.lt 0 rfl
                have T := Lib.hid (S.out.alloc [I f.fr, I f.many, I f.to, I f.low, I f.high] 49)
                have p0 := T.out.get 0 0 rfl rfl
                clear e hfc hc2 f0 f1 f2 f3 f4 hfe hfm hfm2
                go_wp2_with fail
                clear y0 y1 y2 y3 y4 hl0 S
                have S := T
                clear T
                have p1 := S.out.get 0 1 rfl rfl
                have p2 := S.out.get 0 2 rfl rfl
                have p3 := S.out.get 0 3 rfl rfl
                have p4 := S.out.get 0 4 rfl rfl
                refine (rIsWell5_any t.wells _ _ _ _ ⟨_, _, _, rfl⟩ ⟨_, _, _, rfl⟩ hW0 hW6).mono ?_
                rintro e w6 ⟨rfl, hb⟩
                have S := Lib.hid (S.out.call hb)
                clear hb
                clear q0 q1 q2 p0 p1 p2 p3 p4
                have q0 := S.out.get 1 0 rfl rfl
                have q1 := S.out.get 1 1 rfl rfl
                have q2 := S.out.get 1 2 rfl rfl
                have p0 := S.out.get 0 0 rfl rfl
                have p1 := S.out.get 0 1 rfl rfl
                have p2 := S.out.get 0 2 rfl rfl
                have p3 := S.out.get 0 3 rfl rfl
                have p4 := S.out.get 0 4 rfl rfl
                cases h : inR f.fr 0 (t.wells - 1)
                · have HE := Lib.hid (show qChk t = 50 from qChk_fct HFM.out.2 (badFct_not (fun hh => by rw [h] at hh; simp at hh)))
                  clear h
                  go_wp2_with fail
                  go_ret
                  exact ⟨by rw [HE.out]; rfl, S.out.bel⟩
                · have H1 := Lib.hid h
                  clear h
                  go_wp2_with fail
                  refine (rIsWell5_any t.wells _ _ _ _ ⟨_, _, _, rfl⟩ ⟨_, _, _, rfl⟩ hW0 hW6).mono ?_
                  rintro e w6 ⟨rfl, hb⟩
                  have S := Lib.hid (S.out.call hb)
                  clear hb
                  clear q0 q1 q2 p0 p1 p2 p3 p4
                  have q0 := S.out.get 1 0 rfl rfl
                  have q1 := S.out.get 1 1 rfl rfl
                  have q2 := S.out.get 1 2 rfl rfl
                  have p0 := S.out.get 0 0 rfl rfl
                  have p1 := S.out.get 0 1 rfl rfl
                  have p2 := S.out.get 0 2 rfl rfl
                  have p3 := S.out.get 0 3 rfl rfl
                  have p4 := S.out.get 0 4 rfl rfl
                  cases h : inR f.to 0 (t.wells - 1)
                  · have HE := Lib.hid (show qChk t = 50 from qChk_fct HFM.out.2 (badFct_not (fun hh => by rw [h] at hh; simp at hh)))
                    clear h
                    go_wp2_with fail
                    go_ret
                    exact ⟨by rw [HE.out]; rfl, S.out.bel⟩
                  · have H2 := Lib.hid h
                    clear h
                    go_wp2_with fail
                    refine (rWithin5_any _ _ _ _).mono ?_
                    rintro e w6 ⟨rfl, hb⟩
                    subst hb
                    clear q0 q1 q2 p0 p1 p2 p3 p4
                    have q0 := S.out.get 1 0 rfl rfl
                    have q1 := S.out.get 1 1 rfl rfl
                    have q2 := S.out.get 1 2 rfl rfl
                    have p0 := S.out.get 0 0 rfl rfl
                    have p1 := S.out.get 0 1 rfl rfl
                    have p2 := S.out.get 0 2 rfl rfl
                    have p3 := S.out.get 0 3 rfl rfl
                    have p4 := S.out.get 0 4 rfl rfl
                    cases h : inR f.many 1 9
                    · have HE := Lib.hid (show qChk t = 50 from qChk_fct HFM.out.2 (badFct_not (fun hh => by rw [h] at hh; simp at hh)))
                      clear h
                      go_wp2_with fail
                      go_ret
                      exact ⟨by rw [HE.out]; rfl, S.out.bel⟩
                    · have H3 := Lib.hid h
                      clear h
                      go_wp2_with fail
                      refine (rWithin5_any _ _ _ _).mono ?_
                      rintro e w6 ⟨rfl, hb⟩
                      subst hb
                      clear q0 q1 q2 p0 p1 p2 p3 p4
                      have q0 := S.out.get 1 0 rfl rfl
                      have q1 := S.out.get 1 1 rfl rfl
                      have q2 := S.out.get 1 2 rfl rfl
                      have p0 := S.out.get 0 0 rfl rfl
                      have p1 := S.out.get 0 1 rfl rfl
                      have p2 := S.out.get 0 2 rfl rfl
                      have p3 := S.out.get 0 3 rfl rfl
                      have p4 := S.out.get 0 4 rfl rfl
                      cases h : inR f.high 0 99
                      · have HE := Lib.hid (show qChk t = 50 from qChk_fct HFM.out.2 (badFct_not (fun hh => by rw [h] at hh; simp at hh)))
                        clear h
                        go_wp2_with fail
                        go_ret
                        exact ⟨by rw [HE.out]; rfl, S.out.bel⟩
                      · have H4 := Lib.hid h
                        clear h
                        go_wp2_with fail
                        refine (rWithin5_any _ _ _ _).mono ?_
                        rintro e w6 ⟨rfl, hb⟩
                        subst hb
                        clear q0 q1 q2 p0 p1 p2 p3 p4
                        have q0 := S.out.get 1 0 rfl rfl
                        have q1 := S.out.get 1 1 rfl rfl
                        have q2 := S.out.get 1 2 rfl rfl
                        have p0 := S.out.get 0 0 rfl rfl
                        have p1 := S.out.get 0 1 rfl rfl
                        have p2 := S.out.get 0 2 rfl rfl
                        have p3 := S.out.get 0 3 rfl rfl
                        have p4 := S.out.get 0 4 rfl rfl
                        cases h : inR f.low 0 f.high
                        · have HE := Lib.hid (show qChk t = 50 from qChk_fct HFM.out.2 (badFct_not (fun hh => by rw [h] at hh; simp at hh)))
                          clear h
                          go_wp2_with fail
                          go_ret
                          exact ⟨by rw [HE.out]; rfl, S.out.bel⟩
                        · have H5 := Lib.hid h
                          clear h
  
                          have HN := Lib.hid (show okFcs t (m + 1) from fun i y hi hy => by
                            by_cases e : i = m
                            · subst e
                              rw [HFM.out.1] at hy
                              injection hy with hy
                              rw [← hy]
                              exact badFct_ok H1.out H2.out H3.out H4.out H5.out
                            · exact HFO.out i y (by omega) hy)
                          go_wp2_with fail
                          go_roundw
                          case rel => exact ⟨m + 1, by omega, by go_num, HN, Lib.hid S.out.tail.fix⟩
                          case measure => first | (simp [intOf]; done) | (simp [intOf]; omega)
              · have hmi : ¬ (m : Int) < (t.fcs.length : Int) := by omega
                have HE := Lib.hid (show qChk t = 0 from qChk_ok H1.out H2.out H3.out (fun i l hl => HOW.out i l (by have := (List.getElem?_eq_some_iff.1 hl).1; omega) hl) (fun i f hf => HFO.out i f (by have := (List.getElem?_eq_some_iff.1 hf).1; omega) hf))
                go_wp2_with fail
                go_ret
                exact ⟨by rw [HE.out]; rfl, S.out.bel⟩

end Go.Proofs.YtldcehhhndlhdaaDoor
