/- Walks: slices.Clone, good, cost, given, Good, Cost. -/
import Derived.Test.YtokendenofbnhaaW3
import Derived.Test.YtokendenofbnhaaSt2
import Derived.Test.YtokendenofbnhaaPlain3
namespace Go.Proofs.Ytokendenofbnhaa
open Go.RowKit Go.Sort

theorem Try.info33 : (Try.prog.info? 33).map (fun i => (i.zero, i.size, i.bytes)) = some (some (.agg #[.int .i64 0, .int .i64 0, .int .i64 0, .int .i64 0]), 4, 32) := by kernel_rfl
theorem strs_one (ss : List Str) : ∀ u ∈ strCells ss, u.oneCell' = true := fun u hu => by
  obtain ⟨p, _, hu⟩ := List.mem_flatMap.1 hu
  simp [Str.cells] at hu
  rcases hu with rfl | rfl | rfl | rfl <;> rfl

set_option maxRecDepth 20000 in
set_option maxHeartbeats 1000000 in
theorem cloneI_any (v : Value) (ps : List Int) (w : World) (hv : Ints w v ps) (hlen : ps.length ≤ 1000) :
    Calls Try.prog 67 #[v] w fun e w' => ∃ v', e = .returned v' ∧ w'.ownsRow w.heap.size 3 1 v' ps.length (ps.map I) ∧ Below w.heap.size w w' := by
  obtain ⟨i0, hi, hz0, hz1, hz2⟩ := info_parts Try.info3
  have h02 : 0 < 1 := by omega
  have h63 : 0 + ps.length ≤ maxLen := by simp only [maxLen]; omega
  have hby : (0 + ps.length) * 8 ≤ 140737488355328 := by omega
  have HV := Lib.hid (show Reads w 1 v ps.length (ps.map I) from hv)
  have hm0 : (0 : Nat) ≤ maxLen := by omega
  have hown := World.ownsRow_made (e := 3) (size := 1) w #[] 0 (Nat.le_refl w.heap.size) hm0 rfl
  have hb0 : Below w.heap.size w (w.alloc (.cells #[] 3)) := (Below.refl _ _).alloc (Nat.le_refl _) _
  have hs0 := hb0.size
  obtain ⟨_, A, c, rfl, hmc, hc, hcell⟩ := hv
  rcases A with _ | ad
  · have hp : ps = [] := by
      rcases Nat.eq_zero_or_pos ps.length with h0 | h0
      · exact List.eq_nil_of_length_eq_zero h0
      · obtain ⟨b, o, h, _⟩ := hcell h0
        cases h
    subst hp
    clear hcell
    have hq := fun w => run_eql_slice_nil (P := Try.prog) w 22 3 none 0 c Try.underlying22
    go_enter Try.func67, Try.ntmps67
    go_wp2_with fail
    go_ret
    exact ⟨_, rfl, World.ownsRow_nil _ _ _ _, Below.refl _ _⟩
  · clear hcell
    have hq := fun w => run_eql_slice_nil (P := Try.prog) w 22 3 (some ad) ps.length c Try.underlying22
    go_enter Try.func67, Try.ntmps67
    go_wp2_with (at_builtin; refine wpList_append_src _ rfl _ _ 22 rfl w.heap.size 3 i0 (.int .i64 0) 1 8 Try.underlying22 hi hz0 hz1 hz2 rfl h02 _ _ _ rfl hown _ _ _ rfl (Reads.below HV.out hb0) (ints_one _) h63 hby hs0 ?_; intro v' w4 hown' hgrow _)
    go_ret
    rw [Nat.zero_add, List.nil_append] at hown'
    exact ⟨_, rfl, hown', hb0.grown hgrow hs0 (fun q hq => (hown.lt q hq).1)⟩

set_option maxRecDepth 20000 in
set_option maxHeartbeats 1000000 in
theorem cloneS_any (v : Value) (ps : List Str) (w : World) (hv : Strs w v ps) (hlen : ps.length ≤ 1000) :
    Calls Try.prog 75 #[v] w fun e w' => ∃ v', e = .returned v' ∧ w'.ownsRow w.heap.size 33 4 v' ps.length (strCells ps) ∧ Below w.heap.size w w' := by
  obtain ⟨i0, hi, hz0, hz1, hz2⟩ := info_parts Try.info33
  have h02 : 0 < 4 := by omega
  have h63 : 0 + ps.length ≤ maxLen := by simp only [maxLen]; omega
  have hby : (0 + ps.length) * 32 ≤ 140737488355328 := by omega
  have HV := Lib.hid (show Reads w 4 v ps.length (strCells ps) from hv)
  have hm0 : (0 : Nat) ≤ maxLen := by omega
  have hown := World.ownsRow_made (e := 33) (size := 4) w #[] 0 (Nat.le_refl w.heap.size) hm0 rfl
  have hb0 : Below w.heap.size w (w.alloc (.cells #[] 33)) := (Below.refl _ _).alloc (Nat.le_refl _) _
  have hs0 := hb0.size
  obtain ⟨_, A, c, rfl, hmc, hc, hcell⟩ := hv
  rcases A with _ | ad
  · have hp : ps = [] := by
      rcases Nat.eq_zero_or_pos ps.length with h0 | h0
      · exact List.eq_nil_of_length_eq_zero h0
      · obtain ⟨b, o, h, _⟩ := hcell h0
        cases h
    subst hp
    clear hcell
    have hq := fun w => run_eql_slice_nil (P := Try.prog) w 23 33 none 0 c Try.underlying23
    go_enter Try.func75, Try.ntmps75
    go_wp2_with fail
    go_ret
    exact ⟨_, rfl, World.ownsRow_nil _ _ _ _, Below.refl _ _⟩
  · clear hcell
    have hq := fun w => run_eql_slice_nil (P := Try.prog) w 23 33 (some ad) ps.length c Try.underlying23
    go_enter Try.func75, Try.ntmps75
    go_wp2_with (at_builtin; refine wpList_append_src _ rfl _ _ 23 rfl w.heap.size 33 i0 (.agg #[.int .i64 0, .int .i64 0, .int .i64 0, .int .i64 0]) 4 32 Try.underlying23 hi hz0 hz1 hz2 rfl h02 _ _ _ rfl hown _ _ _ rfl (Reads.below HV.out hb0) (strs_one _) h63 hby hs0 ?_; intro v' w4 hown' hgrow _)
    go_ret
    rw [Nat.zero_add, List.nil_append] at hown'
    exact ⟨_, rfl, hown', hb0.grown hgrow hs0 (fun q hq => (hown.lt q hq).1)⟩

/-- How much of the room is left behind the first k streets. -/
def leftTo (left : List Int) (l : List Int) : Nat → List Int
  | 0 => left
  | k + 1 => dec (leftTo left l k) (l.getD k 0)
theorem leftTo_len (left l : List Int) : ∀ k, (leftTo left l k).length = left.length
  | 0 => rfl
  | k + 1 => by rw [leftTo, dec_length, leftTo_len left l k]
theorem leftTo_succ (left : List Int) (h : Int) (l : List Int) : ∀ k, leftTo left (h :: l) (k + 1) = leftTo (dec left h) l k
  | 0 => rfl
  | k + 1 => by rw [leftTo, leftTo_succ left h l k]; rfl
/-- 'good' goes on: the first k streets have their hours. -/
theorem goodL_drop : ∀ (ss : List Str) (left l : List Int) (k : Nat), k < l.length → k < ss.length → goodL (ss.drop k) (leftTo left l k) (l.drop k) =
    (inR (l.getD k 0) (ss.getD k default).frm (ss.getD k default).to && at_ (leftTo left l k) (l.getD k 0) != 0 && goodL (ss.drop (k + 1)) (leftTo left l (k + 1)) (l.drop (k + 1))) := by
  intro ss left l k h1 h2
  rw [List.drop_eq_getElem_cons h1, List.drop_eq_getElem_cons h2]
  simp [goodL, leftTo, List.getD_eq_getElem?_getD, List.getElem?_eq_getElem h1, List.getElem?_eq_getElem h2]
theorem at_nat (l : List Int) (h : Nat) : at_ l (h : Int) = l.getD h 0 := rfl

set_option maxRecDepth 20000 in
set_option maxHeartbeats 8000000 in
theorem good_any (v v2 : Value) (r : Ros) (l : List Int) (w : World) (hv : RosAt w v r) (hvd : ROk r) (hl : Ints w v2 l) (hlen : l.length ≤ 1000) :
    Calls Try.prog 68 #[v, v2] w fun e w' => e = .returned (.bool (newB r l)) ∧ Below w.heap.size w w' := by
  obtain ⟨rv, sv, rfl, hr, hs⟩ := hv
  obtain ⟨A1, c1, rfl, hr1, hr2, -⟩ := hr.open_
  obtain ⟨A2, c2, rfl, hs1, hs2, -⟩ := hs.open_
  have HR := Lib.hid hr
  have HS := Lib.hid hs
  clear hr hs
  have S := Lib.hid (show St w (w.alloc (.cells #[.slice A1 r.room.length c1, .slice A2 r.strs.length c2] 25)) (w.heap.size + 1) [.box w.heap.size [.slice A1 r.room.length c1, .slice A2 r.strs.length c2]] from (St.init w).alloc [.slice A1 r.room.length c1, .slice A2 r.strs.length c2] 25)
  obtain ⟨Al, cl, rfl, hl1, hl2, hlc⟩ := hl.open_
  have HLC := Lib.hid hlc
  obtain ⟨_, _, e, _, _, hsc⟩ := HS.out.open_
  injection e with e1 e2 e3
  subst e1
  have HSC := Lib.hid hsc
  clear e2 e3 hlc hl hsc
  by_cases hn : l.length = r.strs.length
  · have hne : ((l.length : Int) != (r.strs.length : Int)) = false := by simp; omega
    have HN := Lib.hid hn
    have HG := Lib.hid (show newB r l = goodL (r.strs.drop 0) (leftTo r.room l 0) (l.drop 0) from rfl)
    have hrl := hvd.rl
    have HVD := Lib.hid hvd
    clear hn hvd
    have q0 := S.out.get 0 0 rfl rfl
    have q1 := S.out.get 0 1 rfl rfl
    go_enter Try.func68, Try.ntmps68
    go_wp2_with fail
    clear q0 q1
    refine (cloneI_any _ r.room _ (HR.out.below S.out.bel) (by omega)).mono ?_
    rintro e w1 ⟨v', rfl, hown, hb⟩
    have S := Lib.hid (S.out.take hb hown)
    clear hb hown
    go_wp2_with fail
    go_loopw [19] (fun i wr => ∃ k : Nat, k ≤ l.length ∧ i = I k ∧ Hid (newB r l = goodL (r.strs.drop k) (leftTo r.room l k) (l.drop k)) ∧ Hid (∀ x ∈ leftTo r.room l k, 0 ≤ x ∧ x ≤ 6) ∧ Hid (St w wr wr.heap.size [.own 3 1 v' r.room.length ((leftTo r.room l k).map I), .box w.heap.size [.slice A1 r.room.length c1, .slice A2 r.strs.length c2]])) (fun i _ => l.length - (intOf i).toNat)
    case atStart => exact ⟨0, by omega, rfl, HG, Lib.hid HVD.out.rm, S⟩
    case round =>
      clear S HG
      obtain ⟨k, hk, rfl, HG, HM, S⟩ := hrel
      by_cases hlt : k < l.length
      · have hlt2 : k < r.strs.length := by have := HN.out; omega
        have hki : (k : Int) < (l.length : Int) := by omega
        have hki2 : (k : Int) < (r.strs.length : Int) := by omega
        obtain ⟨b1, o1, rfl, hb1, hcell1⟩ := HLC.out (by omega)
        obtain ⟨b2, o2, rfl, hb2, hcell2⟩ := HSC.out (by omega)
        obtain ⟨-, z1, z2, -⟩ := hcell2 k hlt2
        have x0 := keep_cell S.out.bel (hcell1 k hlt)
        clear hcell1 hcell2
        obtain ⟨s, hs⟩ : ∃ s, r.strs[k] = s := ⟨_, rfl⟩
        obtain ⟨hh, hhe⟩ : ∃ x, l[k] = x := ⟨_, rfl⟩
        rw [hs] at z1 z2
        rw [hhe] at x0
        have hso := HVD.out.so s (by rw [← hs]; exact List.getElem_mem hlt2)
        have hstep := goodL_drop r.strs r.room l k hlt hlt2
        rw [show l.getD k 0 = hh by rw [← hhe]; simp [List.getD_eq_getElem?_getD, List.getElem?_eq_getElem hlt], show r.strs.getD k default = s by rw [← hs]; simp [List.getD_eq_getElem?_getD, List.getElem?_eq_getElem hlt2]] at hstep
        have hnext : leftTo r.room l (k + 1) = dec (leftTo r.room l k) hh := by rw [leftTo, show l.getD k 0 = hh by rw [← hhe]; simp [List.getD_eq_getElem?_getD, List.getElem?_eq_getElem hlt]]
        have HY := Lib.hid (And.intro z1 z2)
        have HST := Lib.hid hstep
        have HNX := Lib.hid hnext
        have HSO := Lib.hid hso
        clear z1 z2 hs hhe hstep hnext hso
        cases hin : inR hh s.frm s.to
        · have HI := Lib.hid hin
          have HF := Lib.hid (show newB r l = false by rw [HG.out, HST.out, hin]; rfl)
          clear hin
          go_wp2_with fail
          clear x0
          refine wp_region_seg [([0, 1, 2, 3, 4, 5, 6, 7, 8, 9, 10, 11, 12], 13)] [14, 15, 16, 17, 18, 19, 20, 21] [] 22 (by kernel_rfl) (by kernel_rfl) ?_
          intro KQ hKQ w2 hb
          have S := Lib.hid (S.out.call hb)
          clear hb
          have q1_1 := cell_regrown (S.out.get 1 1 rfl rfl)
          have y1 := cell_regrown (keep_cell S.out.bel HY.out.1)
          have y2 := cell_regrown (keep_cell S.out.bel HY.out.2)
          refine seg_next ?_
          simp only [opsAt, List.filterMap_cons, List.filterMap_nil, List.getElem?_toArray, List.getElem?_cons_succ, List.getElem?_cons_zero]
          repeat (first | go_big_quiet_step (fail) | quiet_step (fail))
          refine wpQuiet_nil ?_
          intro K hK
          refine loud_op rfl rfl ?_
          go_simp
          refine (within_any hh s.frm s.to _).mono ?_
          rintro e w3 ⟨rfl, rfl⟩
          rw [HI.out]
          refine hK _ _ (Below.refl _ _) ?_
          clear hK K
          refine seg_last ?_
          simp only [opsAt, List.filterMap_cons, List.filterMap_nil, List.getElem?_toArray, List.getElem?_cons_succ, List.getElem?_cons_zero]
          repeat (first | go_big_quiet_step (fail) | quiet_step (fail))
          refine wpQuiet_nil ?_
          clear q1_1 y1 y2
          go_wp2_with fail
          go_ret
          exact ⟨by rw [HF.out]; rfl, S.out.bel⟩
        · obtain ⟨hi1, hi2⟩ := inR_iff.1 hin
          have HI := Lib.hid hin
          clear hin
          have hf0 := HSO.out.1.frm0
          have ht0 := HSO.out.2.1
          obtain ⟨hh, rfl⟩ := Int.eq_ofNat_of_zero_le (show 0 ≤ hh by omega)
          have hhl : hh < r.room.length := by omega
          obtain ⟨g, cap, rfl, hg1, hg2⟩ := own_shape_pos (S.out.own 0 rfl) (show 0 < r.room.length by omega)
          have hll : (leftTo r.room l k).length = r.room.length := leftTo_len _ _ _
          obtain ⟨lv, hlv⟩ : ∃ x, at_ (leftTo r.room l k) (hh : Int) = x := ⟨_, rfl⟩
          have hat : (leftTo r.room l k)[hh]? = some lv := by rw [← hlv, at_nat, List.getD_eq_getElem?_getD, List.getElem?_eq_getElem (by omega)]; rfl
          have hlb := HM.out lv (List.mem_of_getElem? hat)
          have HAT := Lib.hid hat
          have HLL := Lib.hid hll
          have hhi : (hh : Int) < (r.room.length : Int) := by omega
          by_cases h0 : lv = 0
          · have HF := Lib.hid (show newB r l = false by rw [HG.out, HST.out, HI.out, hlv, h0]; rfl)
            have hlq : (lv == 0) = true := by simp [h0]
            clear h0 hlv hat hll hi1 hi2 hf0 ht0
            go_wp2_with fail
            clear x0
            refine wp_region_seg [([0, 1, 2, 3, 4, 5, 6, 7, 8, 9, 10, 11, 12], 13)] [14, 15, 16, 17, 18, 19, 20, 21] [] 22 (by kernel_rfl) (by kernel_rfl) ?_
            intro KQ hKQ w2 hb
            have S := Lib.hid (S.out.call hb)
            clear hb
            have q1_1 := cell_regrown (S.out.get 1 1 rfl rfl)
            have y1 := cell_regrown (keep_cell S.out.bel HY.out.1)
            have y2 := cell_regrown (keep_cell S.out.bel HY.out.2)
            have y3 := cell_regrown (own_cell (S.out.own 0 rfl) hh lv HAT.out)
            refine seg_next ?_
            simp only [opsAt, List.filterMap_cons, List.filterMap_nil, List.getElem?_toArray, List.getElem?_cons_succ, List.getElem?_cons_zero]
            repeat (first | go_big_quiet_step (fail) | quiet_step (fail))
            refine wpQuiet_nil ?_
            intro K hK
            refine loud_op rfl rfl ?_
            go_simp
            refine (within_any (hh : Int) s.frm s.to _).mono ?_
            rintro e w3 ⟨rfl, rfl⟩
            rw [HI.out]
            refine hK _ _ (Below.refl _ _) ?_
            clear hK K
            refine seg_last ?_
            simp only [opsAt, List.filterMap_cons, List.filterMap_nil, List.getElem?_toArray, List.getElem?_cons_succ, List.getElem?_cons_zero]
            repeat (first | go_big_quiet_step (fail) | quiet_step (fail))
            refine wpQuiet_nil ?_
            clear q1_1 y1 y2 y3
            go_wp2_with fail
            go_ret
            exact ⟨by rw [HF.out]; rfl, S.out.bel⟩
          · have HG2 := Lib.hid (show newB r l = goodL (r.strs.drop (k + 1)) (leftTo r.room l (k + 1)) (l.drop (k + 1)) by rw [HG.out, HST.out, HI.out, hlv]; simp [h0])
            have hlq : (lv == 0) = false := by simp [h0]
            have h0' : 1 ≤ lv := by omega
            have HLV := Lib.hid hlv
            clear h0 hlv hat hll hi1 hi2 hf0 ht0
            go_wp2_with fail
            clear x0
            refine wp_region_seg [([0, 1, 2, 3, 4, 5, 6, 7, 8, 9, 10, 11, 12], 13)] [14, 15, 16, 17, 18, 19, 20, 21] [] 22 (by kernel_rfl) (by kernel_rfl) ?_
            intro KQ hKQ w2 hb
            have S := Lib.hid (S.out.call hb)
            clear hb
            have q1_1 := cell_regrown (S.out.get 1 1 rfl rfl)
            have y1 := cell_regrown (keep_cell S.out.bel HY.out.1)
            have y2 := cell_regrown (keep_cell S.out.bel HY.out.2)
            have y3 := cell_regrown (own_cell (S.out.own 0 rfl) hh lv HAT.out)
            refine seg_next ?_
            simp only [opsAt, List.filterMap_cons, List.filterMap_nil, List.getElem?_toArray, List.getElem?_cons_succ, List.getElem?_cons_zero]
            repeat (first | go_big_quiet_step (fail) | quiet_step (fail))
            refine wpQuiet_nil ?_
            intro K hK
            refine loud_op rfl rfl ?_
            go_simp
            refine (within_any (hh : Int) s.frm s.to _).mono ?_
            rintro e w3 ⟨rfl, rfl⟩
            rw [HI.out]
            refine hK _ _ (Below.refl _ _) ?_
            clear hK K
            refine seg_last ?_
            simp only [opsAt, List.filterMap_cons, List.filterMap_nil, List.getElem?_toArray, List.getElem?_cons_succ, List.getElem?_cons_zero]
            repeat (first | go_big_quiet_step (fail) | quiet_step (fail))
            refine wpQuiet_nil ?_
            clear q1_1 y1 y2 y3
            have y4 := own_cell (S.out.own 0 rfl) hh lv HAT.out
            have y5 := (S.out.own 0 rfl).frozenAt hh
            go_wp2_with fail
            clear y4 y5
            go_roundw
            case rel => exact ⟨k + 1, by omega, by go_num, HG2, Lib.hid (by
                rw [HNX.out]
                intro x hx
                rcases List.mem_or_eq_of_mem_set hx with hx | rfl
                · exact HM.out x hx
                · rw [HLV.out]; omega), Lib.hid (by
                have q := (S.out.put 0 hh (I (lv - 1)) rfl).fix
                have e : (leftTo r.room l (k + 1)).map I = ((leftTo r.room l k).map I).set hh (I (lv - 1)) := by
                  rw [HNX.out, dec, HLV.out, Int.toNat_natCast, List.map_set]
                rw [e]
                exact q)⟩
            case measure => first | (simp [intOf]; done) | (simp [intOf]; omega)
      · have HF := Lib.hid (show newB r l = true by rw [HG.out, List.drop_eq_nil_of_le (by have := HN.out; omega), List.drop_eq_nil_of_le (by omega)]; rfl)
        go_wp2_with fail
        go_ret
        exact ⟨by rw [HF.out]; rfl, S.out.bel⟩
  · have hne : ((l.length : Int) != (r.strs.length : Int)) = true := by simp; omega
    have HF := Lib.hid (show newB r l = false by
      cases h : newB r l
      · rfl
      · exact absurd (goodL_length _ _ _ h) hn)
    clear hn
    go_enter Try.func68, Try.ntmps68
    go_wp2_with fail
    go_ret
    exact ⟨by rw [HF.out]; rfl, S.out.bel⟩

end Go.Proofs.Ytokendenofbnhaa
